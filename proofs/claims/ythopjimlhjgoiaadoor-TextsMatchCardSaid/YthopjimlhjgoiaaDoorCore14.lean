/-
  Boxes that hold rows of one's own; closures that write.
-/
import Derived.Test.YthopjimlhjgoiaaDoorCore13
set_option linter.unusedSimpArgs false
set_option linter.unusedVariables false
namespace Go.DB
open Go Go.RowKit

/-- Memory of which something is not told. -/
def CPred.ex {ι : Type} (C : ι → CPred) : CPred where
  p := fun M D v w => ∃ i, (C i).p M D v w
  inM := fun M D v w ⟨i, h⟩ => (C i).inM M D v w h
  law := fun M M' D v w w' hk hm hD ⟨i, h⟩ => ⟨i, (C i).law M M' D v w w' hk hm hD h⟩

/-- Memory, and other memory behind the value s. -/
def CPred.star (C : CPred) (s : Value) (C' : CPred) : CPred where
  p := fun M D v w => ∃ D1 D2, C.p M D1 v w ∧ C'.p M D2 s w ∧ (∀ k, D k ↔ D1 k ∨ D2 k) ∧ ∀ k, D1 k → ¬ D2 k
  inM := fun M D v w ⟨D1, D2, h1, h2, h3, _⟩ k hk => ((h3 k).1 hk).elim (C.inM M D1 v w h1 k) (C'.inM M D2 s w h2 k)
  law := fun M M' D v w w' hk hm hD ⟨D1, D2, h1, h2, h3, h4⟩ => ⟨D1, D2, C.law M M' D1 v w w' hk hm (fun k h => hD k ((h3 k).2 (.inl h))) h1, C'.law M M' D2 s w w' hk hm (fun k h => hD k ((h3 k).2 (.inr h))) h2, h3, h4⟩

/-- Memory under C s, and a row of its own behind s. -/
abbrev deep (C : Value → CPred) (R : CPred) : CPred := CPred.ex fun s => CPred.star (C s) s R

section
variable {n : Nat} {F : Fr} {L : Slots} {B : Owns}

/-- A key's memory is told otherwise. -/
theorem Sat1.retell {M : MSet} {D : Nat → MSet} {a : Act} {w : World} {k : Nat} {C C' : CPred} (h : Sat1 n F L B M D a w) (hl : lookB B k = some C) (hC : C'.p M (D k) (Act.val a k) w) : Sat1 n F L ((k, some C') :: B) M D a w := by
  have cs : ∀ t c, lookB ((k, some C') :: B) t = some c → (t = k ∧ c = C') ∨ (t ≠ k ∧ lookB B t = some c) := by
    intro t c hc
    simp only [lookB] at hc
    by_cases h1 : k = t
    · subst h1; simp at hc; exact .inl ⟨rfl, hc.symm⟩
    · rw [beq_ne h1, cond_false] at hc; exact .inr ⟨Ne.symm h1, hc⟩
  refine ⟨h.size, h.defers, h.keeps, h.mf0, h.mlow, h.mhigh, h.msub, h.has, fun t c hc => ?_, fun t c hc => ?_, fun t1 t2 c1 c2 h1 h2 hne => ?_⟩
  · rcases cs t c hc with ⟨rfl, rfl⟩ | ⟨_, h2⟩
    · exact hC
    · exact h.hasB t c h2
  · rcases cs t c hc with ⟨rfl, rfl⟩ | ⟨_, h2⟩
    · exact h.own t _ hl
    · exact h.own t c h2
  · rcases cs t1 c1 h1 with ⟨rfl, rfl⟩ | ⟨_, a2⟩ <;> rcases cs t2 c2 h2 with ⟨rfl, rfl⟩ | ⟨_, b2⟩
    · exact absurd rfl hne
    · exact h.apart _ _ _ _ hl b2 hne
    · exact h.apart _ _ _ _ a2 hl hne
    · exact h.apart _ _ _ _ a2 b2 hne

theorem Sat.open {k g : Nat} {v : Value} {C : Value → CPred} {R : CPred} (hl : lookB B k = some (CPred.at v (deep C R))) (hg : lookB B g = none) {a : Act} {w : World} (h : Sat n F L B a w) :
    ∃ s, Sat n F L ((g, some (CPred.at s R)) :: (k, some (CPred.at v (C s))) :: B) a w := by
  obtain ⟨M, D, h⟩ := h
  have hC : (deep C R).p M (D k) v w := h.hasB k _ hl
  obtain ⟨s, D1, D2, h1, h2, h3, h4⟩ := hC
  have hgk : g ≠ k := fun e => by subst e; rw [hg] at hl; cases hl
  refine ⟨s, M, fun t => if t = g then D2 else if t = k then D1 else D t, ?_⟩
  have cs : ∀ t c, lookB ((g, some (CPred.at s R)) :: (k, some (CPred.at v (C s))) :: B) t = some c → (t = g ∧ c = CPred.at s R) ∨ (t = k ∧ c = CPred.at v (C s)) ∨ (t ≠ g ∧ t ≠ k ∧ lookB B t = some c) := by
    intro t c hc
    simp only [lookB] at hc
    by_cases e1 : g = t
    · subst e1; simp at hc; exact .inl ⟨rfl, hc.symm⟩
    · rw [beq_ne e1, cond_false] at hc
      by_cases e2 : k = t
      · subst e2; simp at hc; exact .inr (.inl ⟨rfl, hc.symm⟩)
      · rw [beq_ne e2, cond_false] at hc; exact .inr (.inr ⟨Ne.symm e1, Ne.symm e2, hc⟩)
  have sub : ∀ t, t ≠ g → ∀ j, (if t = g then D2 else if t = k then D1 else D t) j → D t j := by
    intro t ht j hj
    rw [if_neg ht] at hj
    by_cases e : t = k
    · subst e; rw [if_pos rfl] at hj; exact (h3 j).2 (.inl hj)
    · rw [if_neg e] at hj; exact hj
  refine ⟨h.size, h.defers, h.keeps, h.mf0, h.mlow, h.mhigh, h.msub, h.has, fun t c hc => ?_, fun t c hc j hj => ?_, fun t1 t2 c1 c2 q1 q2 hne j j1 j2 => ?_⟩
  · rcases cs t c hc with ⟨rfl, rfl⟩ | ⟨rfl, rfl⟩ | ⟨e1, e2, h5⟩
    · rw [if_pos rfl]; exact h2
    · rw [if_neg (Ne.symm hgk), if_pos rfl]; exact h1
    · rw [if_neg e1, if_neg e2]; exact h.hasB t c h5
  · rcases cs t c hc with ⟨rfl, rfl⟩ | ⟨rfl, rfl⟩ | ⟨e1, e2, h5⟩
    · rw [if_pos rfl] at hj; exact h.own k _ hl j ((h3 j).2 (.inr hj))
    · exact h.own _ _ hl j (sub _ (Ne.symm hgk) j hj)
    · exact h.own t c h5 j (sub _ e1 j hj)
  · rcases cs t1 c1 q1 with ⟨rfl, rfl⟩ | ⟨rfl, rfl⟩ | ⟨e1, e2, h5⟩ <;> rcases cs t2 c2 q2 with ⟨rfl, rfl⟩ | ⟨rfl, rfl⟩ | ⟨f1, f2, h6⟩
    · exact hne rfl
    · rw [if_pos rfl] at j1; rw [if_neg (Ne.symm hgk), if_pos rfl] at j2; exact h4 j j2 j1
    · rw [if_pos rfl] at j1; exact h.apart k t2 _ _ hl h6 (Ne.symm f2) j ((h3 j).2 (.inr j1)) (sub _ f1 j j2)
    · rw [if_pos rfl] at j2; rw [if_neg (Ne.symm hgk), if_pos rfl] at j1; exact h4 j j1 j2
    · exact hne rfl
    · exact h.apart _ t2 _ _ hl h6 hne j (sub _ (Ne.symm hgk) j j1) (sub _ f1 j j2)
    · rw [if_pos rfl] at j2; exact h.apart t1 k _ _ h5 hl e2 j (sub _ e1 j j1) ((h3 j).2 (.inr j2))
    · exact h.apart t1 _ _ _ h5 hl hne j (sub _ e1 j j1) (sub _ (Ne.symm hgk) j j2)
    · exact h.apart t1 t2 _ _ h5 h6 hne j (sub _ e1 j j1) (sub _ f1 j j2)

theorem Sat.close {k g : Nat} {v s : Value} (C : Value → CPred) {R : CPred} (hl : lookB B k = some (CPred.at v (C s))) (hg : lookB B g = some (CPred.at s R)) (hgk : (g == k) = false) {a : Act} {w : World} (h : Sat n F L B a w) :
    Sat n F L ((g, none) :: (k, some (CPred.at v (deep C R))) :: B) a w := by
  obtain ⟨M, D, h⟩ := h
  have hgk : g ≠ k := by simpa using hgk
  have h1 : (C s).p M (D k) v w := h.hasB k _ hl
  have h2 : R.p M (D g) s w := h.hasB g _ hg
  have h4 := h.apart k g _ _ hl hg (Ne.symm hgk)
  refine ⟨M, fun t => if t = k then fun j => D k j ∨ D g j else D t, ?_⟩
  have cs : ∀ t c, lookB ((g, none) :: (k, some (CPred.at v (deep C R))) :: B) t = some c → (t = k ∧ c = CPred.at v (deep C R)) ∨ (t ≠ g ∧ t ≠ k ∧ lookB B t = some c) := by
    intro t c hc
    simp only [lookB] at hc
    by_cases e1 : g = t
    · subst e1; simp at hc
    · rw [beq_ne e1, cond_false] at hc
      by_cases e2 : k = t
      · subst e2; simp at hc; exact .inl ⟨rfl, hc.symm⟩
      · rw [beq_ne e2, cond_false] at hc; exact .inr ⟨Ne.symm e1, Ne.symm e2, hc⟩
  refine ⟨h.size, h.defers, h.keeps, h.mf0, h.mlow, h.mhigh, h.msub, h.has, fun t c hc => ?_, fun t c hc j hj => ?_, fun t1 t2 c1 c2 q1 q2 hne j j1 j2 => ?_⟩
  · rcases cs t c hc with ⟨rfl, rfl⟩ | ⟨e1, e2, h5⟩
    · rw [if_pos rfl]; exact ⟨s, D t, D g, h1, h2, fun _ => Iff.rfl, h4⟩
    · rw [if_neg e2]; exact h.hasB t c h5
  · rcases cs t c hc with ⟨rfl, rfl⟩ | ⟨e1, e2, h5⟩
    · rw [if_pos rfl] at hj; exact hj.elim (h.own t _ hl j) (h.own g _ hg j)
    · rw [if_neg e2] at hj; exact h.own t c h5 j hj
  · rcases cs t1 c1 q1 with ⟨rfl, rfl⟩ | ⟨e1, e2, h5⟩ <;> rcases cs t2 c2 q2 with ⟨rfl, rfl⟩ | ⟨f1, f2, h6⟩
    · exact hne rfl
    · rw [if_pos rfl] at j1; rw [if_neg f2] at j2
      exact j1.elim (fun x => h.apart _ t2 _ _ hl h6 hne j x j2) (fun x => h.apart g t2 _ _ hg h6 (Ne.symm f1) j x j2)
    · rw [if_pos rfl] at j2; rw [if_neg e2] at j1
      exact j2.elim (fun x => h.apart t1 _ _ _ h5 hl hne j j1 x) (fun x => h.apart t1 g _ _ h5 hg e1 j j1 x)
    · rw [if_neg e2] at j1; rw [if_neg f2] at j2; exact h.apart t1 t2 _ _ h5 h6 hne j j1 j2

variable {P : Program} {Q : Exit → Act → World → Prop}

theorem Cod.open {c : Code} {k g : Nat} {v : Value} {C : Value → CPred} {R : CPred} (hl : lookB B k = some (CPred.at v (deep C R))) (hg : lookB B g = none) (h : ∀ s, Cod P c Q n F L ((g, some (CPred.at s R)) :: (k, some (CPred.at v (C s))) :: B)) : Cod P c Q n F L B :=
  fun a w hs => let ⟨s, h1⟩ := hs.open hl hg; h s a w h1
theorem Cod.close {c : Code} {k g : Nat} {v s : Value} (C : Value → CPred) {R : CPred} (hl : lookB B k = some (CPred.at v (C s))) (hg : lookB B g = some (CPred.at s R)) (hgk : (g == k) = false) (h : Cod P c Q n F L ((g, none) :: (k, some (CPred.at v (deep C R))) :: B)) : Cod P c Q n F L B :=
  fun a w hs => h a w (hs.close C hl hg hgk)
theorem Ends.open {e : Exit} {k g : Nat} {v : Value} {C : Value → CPred} {R : CPred} (hl : lookB B k = some (CPred.at v (deep C R))) (hg : lookB B g = none) (h : ∀ s, Ends Q e n F L ((g, some (CPred.at s R)) :: (k, some (CPred.at v (C s))) :: B)) : Ends Q e n F L B :=
  fun a w hs => let ⟨s, h1⟩ := hs.open hl hg; h s a w h1
theorem Ends.close {e : Exit} {k g : Nat} {v s : Value} (C : Value → CPred) {R : CPred} (hl : lookB B k = some (CPred.at v (C s))) (hg : lookB B g = some (CPred.at s R)) (hgk : (g == k) = false) (h : Ends Q e n F L ((g, none) :: (k, some (CPred.at v (deep C R))) :: B)) : Ends Q e n F L B :=
  fun a w hs => h a w (hs.close C hl hg hgk)

/-- A row that is nil may stand behind any box. -/
theorem Sat.nilKey {g T : Nat} {α : Type} [Rep α] (hg : lookB B g = none) {a : Act} {w : World} (h : Sat n F L B a w) : Sat n F L ((g, some (CPred.at (.slice none 0 0) (rowV T ([] : List α)))) :: B) a w := by
  obtain ⟨M, D, h⟩ := h
  have cs : ∀ t c, lookB ((g, some (CPred.at (.slice none 0 0) (rowV T ([] : List α)))) :: B) t = some c → (t = g ∧ c = CPred.at (.slice none 0 0) (rowV T ([] : List α))) ∨ (t ≠ g ∧ lookB B t = some c) := by
    intro t c hc
    simp only [lookB] at hc
    by_cases h1 : g = t
    · subst h1; simp at hc; exact .inl ⟨rfl, hc.symm⟩
    · rw [beq_ne h1, cond_false] at hc; exact .inr ⟨Ne.symm h1, hc⟩
  refine ⟨M, fun t => if t = g then NoM else D t, h.size, h.defers, h.keeps, h.mf0, h.mlow, h.mhigh, h.msub, h.has, fun t c hc => ?_, fun t c hc j hj => ?_, fun t1 t2 c1 c2 h1 h2 hne j j1 j2 => ?_⟩
  · rcases cs t c hc with ⟨rfl, rfl⟩ | ⟨e, h2⟩
    · rw [if_pos rfl]; exact ⟨none, 0, rfl, Nat.le_refl _, by omega, rfl, rfl, fun k h => h⟩
    · rw [if_neg e]; exact h.hasB t c h2
  · rcases cs t c hc with ⟨rfl, rfl⟩ | ⟨e, h2⟩
    · rw [if_pos rfl] at hj; exact hj.elim
    · rw [if_neg e] at hj; exact h.own t c h2 j hj
  · rcases cs t1 c1 h1 with ⟨rfl, rfl⟩ | ⟨e1, a2⟩
    · rw [if_pos rfl] at j1; exact j1
    · rcases cs t2 c2 h2 with ⟨rfl, rfl⟩ | ⟨e2, b2⟩
      · rw [if_pos rfl] at j2; exact j2
      · rw [if_neg e1] at j1; rw [if_neg e2] at j2; exact h.apart t1 t2 _ _ a2 b2 hne j j1 j2
theorem Cod.nilKey {c : Code} {g T : Nat} {α : Type} [Rep α] (hg : lookB B g = none) (h : Cod P c Q n F L ((g, some (CPred.at (.slice none 0 0) (rowV T ([] : List α)))) :: B)) : Cod P c Q n F L B := fun a w hs => h a w (hs.nilKey hg)
theorem Ends.nilKey {e : Exit} {g T : Nat} {α : Type} [Rep α] (hg : lookB B g = none) (h : Ends Q e n F L ((g, some (CPred.at (.slice none 0 0) (rowV T ([] : List α)))) :: B)) : Ends Q e n F L B := fun a w hs => h a w (hs.nilKey hg)
end

/-- What comes behind is the end. -/
theorem Cod.tailJ {P : Program} {Q : Exit → Act → World → Prop} {n : Nat} {F : Fr} {L : Slots} {B : Owns} {x : Code} {ι : Type} (Ls : ι → Slots) (Bs : ι → Owns) (prop : ι → Prop) {keep : Slots} {keepB : Owns} (hk : Sub L keep) (hkB : SubB B keepB)
    (h : Cod P x (Exit.then (fun a w => ∃ j, prop j ∧ Sat n F (Ls j ++ keep) (Bs j ++ keepB) a w) Q) n F L B)
    (k : ∀ i, prop i → Ends Q .normal n F (Ls i ++ keep) (Bs i ++ keepB)) : Cod P x Q n F L B := fun a w hs => wp_mono (h a w hs) (fun e a w hq => by
  cases e with
  | normal => obtain ⟨j, h1, h2⟩ := hq; exact k j h1 a w h2
  | _ => exact hq)

/-- A box in which a value of a kind stands. -/
def contS (T : TypeId) (S : SPred) : CPred where
  p := fun M D v w => ∃ m u, v = .pointer (some ⟨m, 0, none⟩) ∧ (∀ k, D k ↔ k = m) ∧ M m ∧ w.heap[m]? = some (.cells #[u] T (0, 0)) ∧ S.p M u w
  inM := fun M D v w ⟨m, u, hv, hD, hM, _⟩ k hk => (hD k).1 hk ▸ hM
  law := fun M M' D v w w' hk hm hown ⟨m, u, hv, hD, hM, hh, hS⟩ => by
    obtain ⟨h1, h2⟩ := hown m ((hD m).2 rfl)
    exact ⟨m, u, hv, hD, h1, by rw [h2]; exact hh, S.law M M' u w w' hk hm hS⟩

/-- A closure of f: what it has captured stands for the Cs. -/
def cloV (f : Nat) (Cs : List SPred) : SPred where
  p := fun M v w => ∃ caps : List Value, v = .func (.func f) #[] caps.toArray ∧ All2 M w Cs caps
  law := fun M M' v w w' hk hm ⟨caps, h, ha⟩ => ⟨caps, h, All2.law hk hm Cs caps ha⟩

/-- A function whose result nobody else writes. -/
theorem FSpecO.frz {P : Program} {f T : Nat} {Ss : List SPred} {α : Type} [Rep α] {l : List α} (h : FSpecO P f Ss [] anyV [some (rowV T l)]) : FSpec P f Ss (rep l) :=
  ⟨h.ok, fun M w vs hM ha => Calls.mono (h.calls M (fun _ => NoM) w vs hM ha ⟨fun i s c h => by simp at h, fun i j x y h => by simp at h⟩) fun e w' ⟨v, M', D', he, hk, hml, hmh, hms, hS, hO, _⟩ => by
    have no : ∀ k, ¬ DU (fun _ => NoM) ([] : Given).length k := fun k ⟨i, hi, _⟩ => by simp at hi
    obtain ⟨h1, h2⟩ := hO 0 _ rfl
    have h3 := rowV_rep M' (D' 0) w' _ h1 hms
    refine ⟨⟨hk.os, hk.tape, hk.output, hk.size, fun k hlt _ => hk.block k hlt (no k)⟩, v, he, (rep l).law _ M v w' w' (Keeps.refl _ _) (fun k hk2 => .inl ⟨(hml k hk2).resolve_right (no k), fun hd => ?_⟩) h3⟩
    rcases h2 k hd with h4 | h4
    · exact no k h4
    · have := hM k hk2; simp only at h4; omega⟩

end Go.DB
