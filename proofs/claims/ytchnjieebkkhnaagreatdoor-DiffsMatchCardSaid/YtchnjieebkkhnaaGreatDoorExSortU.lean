/-
  What the library's sorting comes to, where an element holds a row that nobody writes, and no two keys are alike.
-/
import Derived.Test.YtchnjieebkkhnaaGreatDoorExSortFunc
import Derived.Test.YtchnjieebkkhnaaGreatDoorExCmp
set_option linter.unusedSimpArgs false
set_option linter.unusedVariables false
namespace Go.DB
open Go Go.RowKit

/-- A slice's value. -/
structure SlV where
  a : Option Addr
  n : Nat
  c : Nat
instance : Inhabited SlV := ⟨⟨none, 0, 0⟩⟩
instance : Rep SlV where
  sz := 1
  agg := false
  cells := fun _ x cs _ => cs = [.slice x.a x.n x.c]
  len := fun h => by rw [h]; rfl
  pos := by decide
  flat := fun h => by rw [h]; rfl
  plain := fun h c hc => by rw [h] at hc; simp at hc; rw [hc]; rfl
  law := fun _ _ h => h
instance : Enc SlV := ⟨fun x => [.slice x.a x.n x.c], fun _ => True, fun {M x cs w} => ⟨fun h => ⟨h, trivial⟩, fun h => h.1⟩, fun _ => rfl, fun x v h => by obtain rfl := List.mem_singleton.1 h; rfl⟩

theorem map_perm {A B : Type} (f : A → B) {l m : List B} (h : l.Perm m) : ∀ z : List A, z.map f = m → ∃ z' : List A, z'.Perm z ∧ z'.map f = l := by
  induction h with
  | nil => intro z hz; exact ⟨z, .refl _, hz⟩
  | @cons x l m _ ih =>
    intro z hz
    cases z with
    | nil => cases hz
    | cons y z =>
      simp only [List.map_cons, List.cons.injEq] at hz
      obtain ⟨z', h1, h2⟩ := ih z hz.2
      exact ⟨y :: z', h1.cons y, by rw [List.map_cons, h2, hz.1]⟩
  | swap x y l =>
    intro z hz
    match z, hz with
    | a :: b :: z, hz =>
      simp only [List.map_cons, List.cons.injEq] at hz
      exact ⟨b :: a :: z, .swap a b z, by simp [hz.1, hz.2.1, hz.2.2]⟩
  | trans _ _ ih1 ih2 =>
    intro z hz
    obtain ⟨z1, h1, h2⟩ := ih2 z hz
    obtain ⟨z2, h3, h4⟩ := ih1 z1 h2
    exact ⟨z2, h3.trans h1, h4⟩
theorem strict_one {A : Type} (R : A → A → Prop) (hR : ∀ x y, R x y → ¬ R y x) : ∀ {M N : List A}, M.Perm N → M.Pairwise R → N.Pairwise R → M = N
  | [], N, hp, _, _ => List.Perm.nil_eq hp
  | x :: M, N, hp, h1, h2 => by
    cases N with
    | nil => exact absurd hp.length_eq (by simp)
    | cons y N =>
      have hxy : x = y := by
        have hx : x ∈ y :: N := hp.mem_iff.1 (by simp)
        have hy : y ∈ x :: M := hp.mem_iff.2 (by simp)
        rcases List.mem_cons.1 hx with e | hx
        · exact e
        · rcases List.mem_cons.1 hy with e | hy
          · exact e.symm
          · exact absurd ((List.pairwise_cons.1 h2).1 x hx) (hR _ _ ((List.pairwise_cons.1 h1).1 y hy))
      subst hxy
      rw [strict_one R hR (List.Perm.cons_inv hp) (List.pairwise_cons.1 h1).2 (List.pairwise_cons.1 h2).2]

section
variable {α : Type}
/-- The elements by their keys. -/
def keyLt (key : α → Str) (a b : α) : Prop := cmpB (key a).b (key b).b < 0
theorem keyLt_asym (key : α → Str) (x y : α) (h : keyLt key x y) : ¬ keyLt key y x := by
  unfold keyLt at *
  have := cmpB_swap (key x).b (key y).b
  omega
noncomputable def usort (key : α → Str) (l : List α) : List α := by
  classical
  exact if h : ∃ m : List α, m.Perm l ∧ m.Pairwise (keyLt key) then h.choose else l
theorem usort_eq {key : α → Str} {l m : List α} (h1 : m.Perm l) (h2 : m.Pairwise (keyLt key)) : usort key l = m := by
  have h : ∃ m : List α, m.Perm l ∧ m.Pairwise (keyLt key) := ⟨m, h1, h2⟩
  unfold usort
  rw [dif_pos h]
  exact strict_one _ (keyLt_asym key) (h.choose_spec.1.trans h1.symm) h.choose_spec.2 h2
end

section
variable {α β : Type} [Rep β] (fx : α → Str × List β)
/-- A plain element and its raw one. -/
def rawR (M : MSet) (w : World) (p : (Str × SlV) × α) : Prop := p.1.1 = (fx p.2).1 ∧ p.1.2.n = (fx p.2).2.length ∧ (fx p.2).2.length ≤ p.1.2.c ∧ p.1.2.c ≤ 9223372036854775807 ∧ Lies M (fx p.2).2 p.1.2.a w ∧ p.1.1.b.length ≤ 9223372036854775807
theorem raw_split {M : MSet} {w : World} : ∀ (l : List α) (cs : List Value), @Elems α (Rep.via fx) M w l cs → ∃ z : List ((Str × SlV) × α), z.map (·.2) = l ∧ Elems M w (z.map (·.1)) cs ∧ ∀ p ∈ z, rawR fx M w p
  | [], cs, h => ⟨[], rfl, h, fun p hp => by simp at hp⟩
  | x :: l, cs, ⟨c, r, h, h1, h2⟩ => by
    obtain ⟨z, z1, z2, z3⟩ := raw_split l r h2
    obtain ⟨c1, c2, e, g1, a, cap, e2, g2, g3, g4⟩ := (show Rep.cells M (fx x) c w from h1)
    refine ⟨(((fx x).1, ⟨a, (fx x).2.length, cap⟩), x) :: z, by rw [List.map_cons, z1], ⟨c, r, h, ⟨c1, c2, e, g1, e2⟩, z2⟩, fun p hp => ?_⟩
    rcases List.mem_cons.1 hp with rfl | hp
    · exact ⟨rfl, rfl, g2, g3, g4, g1.2⟩
    · exact z3 p hp
theorem raw_join {M : MSet} {w : World} : ∀ (z : List ((Str × SlV) × α)) (cs : List Value), (∀ p ∈ z, rawR fx M w p) → Elems M w (z.map (·.1)) cs → @Elems α (Rep.via fx) M w (z.map (·.2)) cs
  | [], cs, _, h => h
  | p :: z, cs, hz, ⟨c, r, h, ⟨c1, c2, e, g1, e2⟩, h2⟩ => by
    obtain ⟨q1, q2, q3, q4, q5, q6⟩ := hz p (by simp)
    refine ⟨c, r, h, ?_, raw_join z r (fun y hy => hz y (by simp [hy])) h2⟩
    refine (show Rep.cells M (fx p.2) c w from ⟨c1, c2, e, ?_, p.1.2.a, p.1.2.c, ?_, q3, q4, q5⟩)
    · rw [← q1]; exact g1
    · rw [← q2]; exact e2
theorem rawR.law {M M' : MSet} {w w' : World} {p : (Str × SlV) × α} (hk : Keeps M w w') (hm : ∀ k, M' k → M k ∨ w.heap.size ≤ k) (h : rawR fx M w p) : rawR fx M' w' p :=
  ⟨h.1, h.2.1, h.2.2.1, h.2.2.2.1, h.2.2.2.2.1.law hk hm, h.2.2.2.2.2⟩
end

/-- slices.SortFunc of structs that begin with their key and hold a row. -/
theorem sortU_spec {P : Program} {ρ : Shelf.Ren} (Ly : Proofs.SlLaysF0.n6 P ρ) {f g E : Nat} {α β : Type} [Rep β] (fx : α → Str × List β) (hf : ρ.f 6 = f) (hE : ρ.t 24 = E) (ok : FnOK P f) (okg : FnOK P g)
    {fds : Array Field} (hagg : P.underlying E = some (.struct fds)) (hT : Ty P E (Str × SlV))
    (hc : ∀ (x y : Str × SlV) (W : World), Calls P g #[.agg (Enc.enc x).toArray, .agg (Enc.enc y).toArray] W fun e w' => e = .returned (.int .i64 (cmpB x.1.b y.1.b)) ∧ ∃ q os', w' = Go.Sort.grow (W.drewN q) os')
    {s : Value} {l : List α} (hl : (l.length : Int) < 4611686018427387904) (hn : (l.map fun x => (fx x).1).Nodup) :
    FSpecO P f [isV s, cloV g []] [(s, @rowV E α (Rep.via fx) l)] anyV [some (@rowV E α (Rep.via fx) (usort (fun x => (fx x).1) l))] := by
  letI : Rep α := Rep.via fx
  haveI : Inhabited { x : Str × SlV // (fun _ => True) x } := ⟨⟨default, trivial⟩⟩
  refine ⟨ok, fun M D w vs hM ha hOw => ?_⟩
  obtain ⟨a, cap, hv, h1, h2, h3⟩ := hOw.has 0 s (rowV E l) rfl
  have hO : Sort.SWO (Proofs.ltOf (fun x y : { x : Str × SlV // (fun _ => True) x } => cmpB x.1.1.b y.1.1.b)) := by
    have h : ∀ x y : { x : Str × SlV // (fun _ => True) x }, Proofs.ltOf (fun x y : { x : Str × SlV // (fun _ => True) x } => cmpB x.1.1.b y.1.1.b) x y = decide (cmpB x.1.1.b y.1.1.b < 0) := fun x y => rfl
    constructor
    · intro x; rw [h, cmpB_self]; rfl
    · intro x y z h1 h2
      rw [h] at *
      simp only [decide_eq_true_eq] at *
      exact (cmpB_trans (by omega) (by omega)).2 (.inl h1)
    · intro x y z h1 h2
      rw [h] at *
      simp only [decide_eq_false_iff_not, Int.not_lt] at *
      have e1 := cmpB_swap x.1.1.b y.1.1.b
      have e2 := cmpB_swap y.1.1.b z.1.1.b
      have e3 := cmpB_swap x.1.1.b z.1.1.b
      have := (cmpB_trans (a := z.1.1.b) (b := y.1.1.b) (c := x.1.1.b) (by omega) (by omega)).1
      omega
  -- the raw row
  obtain ⟨z, z1, z2, z3⟩ : ∃ z : List ((Str × SlV) × α), z.map (·.2) = l ∧ (rowV E (z.map (·.1))).p M (D 0) s w ∧ ∀ p ∈ z, rawR fx M w p := by
    cases a with
    | none =>
      obtain ⟨h4, h5, h6⟩ := h3
      subst h4
      exact ⟨[], rfl, ⟨none, cap, hv, h1, h2, rfl, h5, h6⟩, fun p hp => by simp at hp⟩
    | some ad =>
      obtain ⟨hs, hD, hMb, pre, cs, rest, hh, hp, he, hr⟩ := h3
      obtain ⟨z, z1, z2, z3⟩ := raw_split fx l cs he
      have hlen : (z.map (·.1)).length = l.length := by rw [← z1]; simp
      exact ⟨z, z1, ⟨some ad, cap, by rw [hlen]; exact hv, by rw [hlen]; exact h1, h2, hs, hD, hMb, pre, cs, rest, hh, hp, z2, by rw [hlen]; exact hr⟩, z3⟩
  have hspec := sortF_spec (s := s) (l := z.map (·.1)) (α := Str × SlV) (Q := fun _ => True) (cf := fun x y => cmpB x.1.1.b y.1.1.b) Ly hf hE ok okg hagg hT hO (fun x y W => hc x.1 y.1 W) (by rw [List.length_map]; rw [← z1, List.length_map] at hl; exact hl) (fun _ _ => trivial)
  obtain ⟨p1, p2⟩ := sortF_holds (l := z.map (·.1)) (Q := fun _ => True) (cf := fun x y : { x : Str × SlV // (fun _ => True) x } => cmpB x.1.1.b y.1.1.b) hO (fun _ _ => trivial)
  obtain ⟨lv, hlv0⟩ : ∃ lv, lv = sortF (Q := fun _ => True) (fun x y : { x : Str × SlV // (fun _ => True) x } => cmpB x.1.1.b y.1.1.b) (z.map (·.1)) := ⟨_, rfl⟩
  have p3 : ∀ (i j : Nat) (hi : i < j) (hj : j < lv.length), ¬ cmpB (lv[j]).1.b (lv[i]).1.b < 0 := by
    subst hlv0
    exact fun i j hi hj => p2 i j hi hj trivial trivial
  clear p2
  rw [← hlv0] at hspec p1
  obtain ⟨z', q1, q2⟩ := map_perm (·.1) p1 z rfl
  have hz' : ∀ p ∈ z', rawR fx M w p := fun p hp => z3 p (q1.mem_iff.1 hp)
  have hperm : (z'.map (·.2)).Perm l := by rw [← z1]; exact q1.map _
  have hsorted : (z'.map (·.2)).Pairwise (keyLt fun x => (fx x).1) := by
    rw [List.pairwise_iff_getElem]
    intro i j hi hj hij
    have hi' : i < z'.length := by simpa using hi
    have hj' : j < z'.length := by simpa using hj
    have hlv : lv.length = z'.length := by rw [← q2, List.length_map]
    have := p3 i j hij (by omega)
    have ei : lv[i]'(by omega) = z'[i].1 := by simp [← q2]
    have ej : lv[j]'(by omega) = z'[j].1 := by simp [← q2]
    rw [ei, ej] at this
    have ri := (hz' _ (List.getElem_mem hi')).1
    have rj := (hz' _ (List.getElem_mem hj')).1
    rw [ri, rj] at this
    unfold keyLt
    rw [List.getElem_map, List.getElem_map]
    have hne : (fx z'[i].2).1 ≠ (fx z'[j].2).1 := fun e => by
      have hnd : ((z'.map (·.2)).map fun x => (fx x).1).Nodup := (hperm.map _).nodup_iff.2 hn
      rw [List.nodup_iff_pairwise_ne, List.pairwise_iff_getElem] at hnd
      have := hnd i j (by simpa using hi') (by simpa using hj') hij
      simp only [List.getElem_map] at this
      exact this e
    have hsw := cmpB_swap (fx z'[i].2).1.b (fx z'[j].2).1.b
    have h0 : cmpB (fx z'[i].2).1.b (fx z'[j].2).1.b ≠ 0 := fun e => hne (by
      have := cmpB_zero e
      cases hx : (fx z'[i].2).1; cases hy : (fx z'[j].2).1
      rw [hx, hy] at this
      simp only at this
      rw [this])
    show cmpB (fx z'[i].2).1.b (fx z'[j].2).1.b < 0
    omega
  rw [usort_eq hperm hsorted]
  have hDM : ∀ k, DU D 1 k → M k := fun k ⟨i, hi, hk⟩ => by
    obtain rfl : i = 0 := by omega
    exact CPred.inM _ M (D 0) s w z2 k hk
  refine (hspec.calls M D w vs hM ha ⟨fun i s' c hi => ?_, fun i j x y hi hj hne => ?_⟩).mono fun e w' ⟨v, M', D', r1, r2, r3, r4, r5, r6, r7, r8⟩ => ⟨v, M', D', r1, r2, r3, r4, r5, r6, fun i c hi => ?_, fun i j c c' hi hj hne => ?_⟩
  · match i, hi with
    | 0, hi =>
      simp only [List.getElem?_cons_zero, Option.some.injEq, Prod.mk.injEq] at hi
      obtain ⟨rfl, rfl⟩ := hi
      exact z2
  · match i, j, hi, hj with
    | 0, 0, _, _ => omega
  · match i, hi with
    | 0, hi =>
      simp only [List.getElem?_cons_zero, Option.some.injEq] at hi
      subst hi
      obtain ⟨⟨a', cap', g1, g2, g3, g4⟩, g5⟩ := r7 0 _ rfl
      refine ⟨?_, g5⟩
      have hlen : (z'.map (·.2)).length = lv.length := by rw [← q2]; simp
      have hkM : Keeps M w w' := r2.mono (fun k _ h => hDM k h)
      have hr : ∀ p ∈ z', rawR fx M' w' p := fun p hp => (hz' p hp).law fx hkM r4
      cases a' with
      | none =>
        obtain ⟨u1, u2, u3⟩ := g4
        have : z'.map (·.2) = [] := List.eq_nil_of_length_eq_zero (by rw [hlen, u1]; rfl)
        rw [this]
        rw [u1] at g1 g2
        exact ⟨none, cap', g1, g2, g3, rfl, u2, u3⟩
      | some ad =>
        obtain ⟨hs, hD, hMb, pre, cs, rest, hh, hp, he, hrr⟩ := g4
        rw [← q2] at he
        exact ⟨some ad, cap', by rw [hlen]; exact g1, by rw [hlen]; exact g2, g3, hs, hD, hMb, pre, cs, rest, hh, hp, raw_join fx z' cs hr he, by rw [hlen]; exact hrr⟩
  · match i, j, hi, hj with
    | 0, 0, _, _ => omega
end Go.DB
