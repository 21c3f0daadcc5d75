/-
  Maps in plain Lean: maps that are told by a set of keys, and loops over maps.
-/
import Derived.Test.YtakkmmhjohadaaaTdmPuRef
set_option linter.unusedSimpArgs false
set_option linter.unusedVariables false
namespace Go.DB
open Go Go.RowKit

section
open Classical
/-- f at the keys of X. -/
noncomputable def gm {V : Type} (X : Int → Prop) (f : Int → V) : GMap Int V := ⟨fun v => if X v then some (f v) else none⟩
theorem gm_f {V : Type} {X : Int → Prop} {f : Int → V} {v : Int} {y : V} : (gm X f).f v = some y ↔ X v ∧ y = f v := by
  unfold gm
  by_cases h : X v
  · simp [h, eq_comm]
  · simp [h]
theorem gm_getD {V : Type} {X : Int → Prop} {f : Int → V} {v : Int} {z : V} (h : X v) : (gm X f).getD v z = f v := by
  simp [gm, GMap.getD, h]
theorem gm_lists {V : Type} {X : Int → Prop} {f : Int → V} {n : Nat} (hX : ∀ v, X v → 0 ≤ v ∧ v < n) : ∃ l, Lists (gm X f) l := by
  refine ⟨(((List.range n).map (fun j : Nat => (j : Int))).filter (fun v => decide (X v))).map (fun v => (v, f v)), ?_, fun k v => ?_⟩
  · rw [List.map_map]
    have e : ((fun x : Int × V => x.1) ∘ fun v => (v, f v)) = id := rfl
    rw [e, List.map_id]
    refine List.Nodup.sublist List.filter_sublist ?_
    rw [List.nodup_iff_pairwise_ne, List.pairwise_map]
    exact List.nodup_range.imp (fun h e => h (by omega))
  · rw [gm_f]
    simp only [List.mem_map, List.mem_filter, List.mem_range, decide_eq_true_eq, Prod.mk.injEq]
    constructor
    · rintro ⟨a, ⟨_, h2⟩, rfl, rfl⟩; exact ⟨h2, rfl⟩
    · rintro ⟨h1, rfl⟩
      have := hX k h1
      exact ⟨k, ⟨⟨k.toNat, by omega, by omega⟩, h1⟩, rfl, rfl⟩
theorem gm_mem {V : Type} {X : Int → Prop} {f : Int → V} {l : List (Int × V)} (h : Lists (gm X f) l) {x : Int × V} : x ∈ l ↔ X x.1 ∧ x.2 = f x.1 := (h.mem x.1 x.2).trans gm_f
theorem gm_congr {V : Type} {X Y : Int → Prop} {f g : Int → V} (h : ∀ v, X v ↔ Y v) (hf : ∀ v, X v → f v = g v) : gm X f = gm Y g := by
  unfold gm
  congr 1
  funext v
  by_cases hx : X v
  · rw [if_pos hx, if_pos ((h v).1 hx), hf v hx]
  · rw [if_neg hx, if_neg (fun hy => hx ((h v).2 hy))]
theorem gm_set {V : Type} {X : Int → Prop} {f : Int → V} {k : Int} {y : V} : (gm X f).set k y = gm (fun v => X v ∨ v = k) (fun v => if v = k then y else f v) := by
  unfold gm GMap.set
  congr 1
  funext v
  by_cases hk : v = k
  · simp [hk]
  · simp [hk]
theorem gm_nil {V : Type} {f : Int → V} : (GMap.nil : GMap Int V) = gm (fun _ => False) f := by
  unfold gm GMap.nil; simp
end

theorem mfold_inv {K V σ : Type} {step : K → V → σ → Option σ} {s0 : σ} (I : List (K × V) → σ → Prop) (h0 : I [] s0) : ∀ (l : List (K × V)), (∀ p x s, x ∈ l → I p s → ∃ s', step x.1 x.2 s = some s' ∧ I (p ++ [x]) s') → ∃ s, mfold step l s0 = some s ∧ I l s := by
  have key : ∀ (r p : List (K × V)) (s : σ), I p s → (∀ p x s, x ∈ r → I p s → ∃ s', step x.1 x.2 s = some s' ∧ I (p ++ [x]) s') → ∃ s', mfold step r s = some s' ∧ I (p ++ r) s' := by
    intro r
    induction r with
    | nil => intro p s hI _; exact ⟨s, rfl, by simpa using hI⟩
    | cons x r ih =>
      intro p s hI hs
      obtain ⟨s1, h1, h2⟩ := hs p x s (by simp) hI
      obtain ⟨s2, h3, h4⟩ := ih (p ++ [x]) s1 h2 (fun p y s hy => hs p y s (by simp [hy]))
      refine ⟨s2, ?_, by simpa using h4⟩
      simp only [mfold, h1, Option.bind_some, h3]
  intro l hs
  simpa using key l [] s0 h0 hs
theorem mrange_uni {K V σ : Type} {m : GMap K V} {step : K → V → σ → Option σ} {s0 : σ} (hl : ∃ l, Lists m l) (Q : σ → Prop) (h : ∀ l, Lists m l → ∃ s, mfold step l s0 = some s ∧ Q s) (hu : ∀ s s', Q s → Q s' → s = s') :
    ∃ s, mrange m step s0 = some s ∧ Q s := by
  obtain ⟨l0, hl0⟩ := hl
  obtain ⟨s, h1, h2⟩ := h l0 hl0
  refine ⟨s, mrange_of hl0 fun l hl => ?_, h2⟩
  obtain ⟨s', h3, h4⟩ := h l hl
  rw [h3, hu s' s h4 h2]

/-- The greatest of a set of numbers, if there are some. -/
def Mx (S : Int → Prop) (s : Int × Bool) : Prop := (s = (0, false) ∧ ∀ x, ¬ S x) ∨ (s.2 = true ∧ S s.1 ∧ ∀ x, S x → x ≤ s.1)
theorem Mx.uni {S : Int → Prop} {s s' : Int × Bool} (h : Mx S s) (h' : Mx S s') : s = s' := by
  rcases h with ⟨rfl, h⟩ | ⟨h1, h2, h3⟩ <;> rcases h' with ⟨rfl, h'⟩ | ⟨g1, g2, g3⟩
  · rfl
  · exact absurd g2 (h _)
  · exact absurd h2 (h' _)
  · have := h3 _ g2
    have := g3 _ h2
    exact Prod.ext (by omega) (by rw [h1, g1])
theorem Mx.congr {S S' : Int → Prop} {s : Int × Bool} (h : Mx S s) (he : ∀ x, S x ↔ S' x) : Mx S' s := by
  have : S = S' := by funext x; exact propext (he x)
  subst this; exact h
theorem Mx.add {S : Int → Prop} {s : Int × Bool} (h : Mx S s) (y : Int) : Mx (fun x => S x ∨ x = y) (bif (!s.2 || decide (s.1 < y)) then (y, true) else s) := by
  rcases h with ⟨rfl, h⟩ | ⟨h1, h2, h3⟩
  · simp only [Bool.not_false, Bool.true_or, cond_true]
    exact .inr ⟨rfl, .inr rfl, fun x hx => by
      rcases hx with hx | hx
      · exact absurd hx (h x)
      · omega⟩
  · rw [h1]
    by_cases hy : s.1 < y
    · simp only [Bool.not_true, Bool.false_or, decide_eq_true hy, cond_true]
      exact .inr ⟨rfl, .inr rfl, fun x hx => by
        rcases hx with hx | hx
        · have := h3 x hx; omega
        · omega⟩
    · simp only [Bool.not_true, Bool.false_or, decide_eq_false hy, cond_false]
      exact .inr ⟨h1, .inl h2, fun x hx => by
        rcases hx with hx | hx
        · exact h3 x hx
        · omega⟩
end Go.DB
