/-
  Least costs by a queue, first in, first out: in plain words.
-/
set_option linter.unusedSimpArgs false
set_option linter.unusedVariables false
namespace Go.DB.Fifo

/-- A net: what lies to a side and what it costs, its parity, all places; what is attained. -/
structure G (S : Type) where
  nx : S → Int → Option (S × Int)
  par : S → Bool
  all : List S
  M : Int
  att : S → Int → Prop

variable {S : Type} [DecidableEq S]

def put (f : S → Option Int) (k : S) (v : Int) : S → Option Int := fun x => if x = k then some v else f x
def val (f : S → Option Int) (s : S) : Int := (f s).getD 0
/-- A look to a side. -/
def look (N : G S) (s : S) (k : Int) (st : List S × (S → Option Int)) : List S × (S → Option Int) :=
  match N.nx s k with
  | none => st
  | some (n, d) => if st.2 n = none ∨ val st.2 s + d < val st.2 n then (st.1 ++ [n], put st.2 n (val st.2 s + d)) else st

structure Ok (N : G S) : Prop where
  m0 : 0 ≤ N.M
  nx : ∀ s k n d, s ∈ N.all → N.nx s k = some (n, d) → n ∈ N.all ∧ N.par n = !N.par s ∧ 0 ≤ d ∧ d ≤ N.M ∧ ∀ c, N.att s c → N.att n (c + d)

omit [DecidableEq S] in
theorem countP_mono {p q : S → Bool} : ∀ {l : List S}, (∀ x ∈ l, p x = true → q x = true) → l.countP p ≤ l.countP q
  | [], _ => by simp
  | a :: l, h => by
    have ih := countP_mono (p := p) (q := q) (l := l) (fun x hx => h x (List.mem_cons_of_mem _ hx))
    have ha := h a (List.mem_cons_self ..)
    rw [List.countP_cons, List.countP_cons]
    cases e : p a with
    | false => simp; omega
    | true => rw [ha e]; simp; omega
omit [DecidableEq S] in
theorem countP_more {p q : S → Bool} {s : S} : ∀ {l : List S}, (∀ x ∈ l, p x = true → q x = true) → s ∈ l → p s = false → q s = true → l.countP p + 1 ≤ l.countP q
  | [], _, h, _, _ => by cases h
  | a :: l, h, hs, h1, h2 => by
    have ha := h a (List.mem_cons_self ..)
    have hl : ∀ x ∈ l, p x = true → q x = true := fun x hx => h x (List.mem_cons_of_mem _ hx)
    rw [List.countP_cons, List.countP_cons]
    by_cases e : s ∈ l
    · have ih := countP_more hl e h1 h2
      cases e : p a with
      | false => simp; omega
      | true => rw [ha e]; simp; omega
    · have : s = a := by
        rcases List.mem_cons.1 hs with h | h
        · exact h
        · exact absurd h e
      subst this
      have := countP_mono hl
      rw [h1, h2]; simp; omega
omit [DecidableEq S] in
theorem sum_mono {g g' : S → Nat} : ∀ {l : List S}, (∀ x ∈ l, g' x ≤ g x) → (l.map g').sum ≤ (l.map g).sum
  | [], _ => by simp
  | a :: l, h => by
    have ih := sum_mono (g := g) (g' := g') (l := l) (fun x hx => h x (List.mem_cons_of_mem _ hx))
    have := h a (List.mem_cons_self ..)
    simp only [List.map_cons, List.sum_cons]; omega
omit [DecidableEq S] in
theorem sum_less {g g' : S → Nat} {s : S} : ∀ {l : List S}, (∀ x ∈ l, g' x ≤ g x) → s ∈ l → g' s < g s → (l.map g').sum + 1 ≤ (l.map g).sum
  | [], _, h, _ => by cases h
  | a :: l, h, hs, h1 => by
    have hl : ∀ x ∈ l, g' x ≤ g x := fun x hx => h x (List.mem_cons_of_mem _ hx)
    have ha := h a (List.mem_cons_self ..)
    simp only [List.map_cons, List.sum_cons]
    by_cases e : s ∈ l
    · have ih := sum_less hl e h1
      omega
    · have : s = a := by
        rcases List.mem_cons.1 hs with h | h
        · exact h
        · exact absurd h e
      subst this
      have := sum_mono hl
      omega

def seen (N : G S) (f : S → Option Int) : Nat := N.all.countP fun s => (f s).isSome
structure Good (N : G S) (f : S → Option Int) : Prop where
  at_ : ∀ s c, f s = some c → s ∈ N.all ∧ 0 ≤ c ∧ c ≤ ((seen N f : Int) - 1) * N.M ∧ N.att s c
def Le (f' f : S → Option Int) : Prop := ∀ s c, f s = some c → ∃ c', f' s = some c' ∧ c' ≤ c
def Rlx (N : G S) (f : S → Option Int) (s : S) (k : Int) : Prop := ∀ n d, N.nx s k = some (n, d) → ∃ c, f n = some c ∧ c ≤ val f s + d
/-- What is left to do, at most. -/
def phi (N : G S) (f : S → Option Int) : Nat := (N.all.map fun s => match f s with
  | none => (N.all.length * N.M).toNat + 1
  | some c => c.toNat).sum

omit [DecidableEq S] in
theorem Le.refl (f : S → Option Int) : Le f f := fun s c h => ⟨c, h, Int.le_refl _⟩
omit [DecidableEq S] in
theorem Le.trans {f g h : S → Option Int} (a : Le f g) (b : Le g h) : Le f h := fun s c e => by
  obtain ⟨c1, e1, h1⟩ := b s c e
  obtain ⟨c2, e2, h2⟩ := a s c1 e1
  exact ⟨c2, e2, by omega⟩
omit [DecidableEq S] in
theorem Le.some {f' f : S → Option Int} (a : Le f' f) {s : S} (h : f s ≠ none) : f' s ≠ none := by
  cases e : f s with
  | none => exact absurd e h
  | some c =>
    obtain ⟨c', h', _⟩ := a s c e
    rw [h']; simp
omit [DecidableEq S] in
theorem Rlx.mono {N : G S} {f' f : S → Option Int} (a : Le f' f) {s : S} {k : Int} (hs : f' s = f s) (h : Rlx N f s k) : Rlx N f' s k := fun n d hn => by
  obtain ⟨c, e, h1⟩ := h n d hn
  obtain ⟨c', e', h2⟩ := a n c e
  exact ⟨c', e', by unfold val at *; rw [hs]; omega⟩

/-- What looks to sides have done. -/
structure Stp (N : G S) (s : S) (ks : List Int) (q : List S) (f : S → Option Int) (P : List S) (f' : S → Option Int) : Prop where
  len : P.length ≤ ks.length
  good : Good N f'
  le : Le f' f
  par : ∀ x, N.par x = N.par s → f' x = f x
  ch : ∀ x, f' x ≠ f x → x ∈ P
  new : ∀ x ∈ P, N.par x = !N.par s ∧ f' x ≠ none
  phi : phi N f' + P.length ≤ phi N f
  rlx : ∀ k ∈ ks, Rlx N f' s k
  same : (∀ k ∈ ks, Rlx N f s k) → P = [] ∧ f' = f

theorem look_ok {N : G S} (hN : Ok N) {s : S} {k : Int} {q : List S} {f : S → Option Int} (hg : Good N f) (hs : f s ≠ none) : ∃ P f', look N s k (q, f) = (q ++ P, f') ∧ Stp N s [k] q f P f' := by
  have hm := hN.m0
  cases hc : f s with
  | none => exact absurd hc hs
  | some cs =>
  obtain ⟨g1, g2, g3, g4⟩ := hg.at_ s cs hc
  have hv : val f s = cs := by unfold val; rw [hc]; rfl
  unfold look
  cases hn : N.nx s k with
  | none => exact ⟨[], f, by simp, ⟨by simp, hg, Le.refl _, fun _ _ => rfl, fun x h => absurd rfl h, by simp, by simp, (fun k' hk n d h => by
      simp at hk; subst hk; rw [hn] at h; cases h), fun _ => ⟨rfl, rfl⟩⟩⟩
  | some nd =>
    obtain ⟨n, d⟩ := nd
    obtain ⟨n1, n2, n3, n4, n5⟩ := hN.nx s k n d g1 hn
    have hns : n ≠ s := fun e => by rw [e] at n2; cases h : N.par s <;> rw [h] at n2 <;> cases n2
    simp only
    by_cases c : f n = none ∨ val f s + d < val f n
    · rw [if_pos c]
      have hle : Le (put f n (val f s + d)) f := fun x cx hx => by
        unfold put
        by_cases e : x = n
        · rw [if_pos e]
          refine ⟨_, rfl, ?_⟩
          rcases c with c | c
          · rw [← e, hx] at c; cases c
          · have : val f n = cx := by unfold val; rw [← e, hx]; rfl
            omega
        · rw [if_neg e]; exact ⟨cx, hx, Int.le_refl _⟩
      have hat : put f n (val f s + d) n = some (val f s + d) := by unfold put; rw [if_pos rfl]
      have hother : ∀ x, x ≠ n → put f n (val f s + d) x = f x := fun x hx => by unfold put; rw [if_neg hx]
      have hmono : ∀ x ∈ N.all, (f x).isSome = true → (put f n (val f s + d) x).isSome = true := fun x _ hx => by
        by_cases e : x = n
        · rw [e, hat]; rfl
        · rw [hother x e]; exact hx
      have hs1 : seen N f ≤ seen N (put f n (val f s + d)) := countP_mono hmono
      have hmul : ∀ a b : Nat, a ≤ b → ((a : Int) - 1) * N.M ≤ ((b : Int) - 1) * N.M := fun a b h => Int.mul_le_mul_of_nonneg_right (by omega) hm
      have hnew : val f s + d ≤ ((seen N (put f n (val f s + d)) : Int) - 1) * N.M := by
        by_cases e : f n = none
        · have h2 : seen N f + 1 ≤ seen N (put f n (val f s + d)) := countP_more hmono n1 (by rw [e]; rfl) (by rw [hat]; rfl)
          have h3 := hmul _ _ h2
          have h4 : (((seen N f + 1 : Nat) : Int) - 1) * N.M = ((seen N f : Int) - 1) * N.M + N.M := by
            rw [show ((seen N f + 1 : Nat) : Int) - 1 = ((seen N f : Int) - 1) + 1 by omega, Int.add_mul, Int.one_mul]
          omega
        · have c := c.resolve_left e
          cases e2 : f n with
          | none => exact absurd e2 e
          | some cn =>
            have := (hg.at_ n cn e2).2.2.1
            have hvn : val f n = cn := by unfold val; rw [e2]; rfl
            have := hmul _ _ hs1
            omega
      refine ⟨[n], _, rfl, ⟨by simp, ⟨fun x cx hx => ?_⟩, hle, fun x hx => ?_, fun x hx => ?_, fun x hx => ?_, ?_, fun k' hk n' d' h => ?_, fun h => ?_⟩⟩
      · by_cases e : x = n
        · rw [e, hat] at hx
          simp at hx; subst hx; subst e
          refine ⟨n1, by omega, hnew, ?_⟩
          rw [hv]; exact n5 _ g4
        · rw [hother x e] at hx
          obtain ⟨h1, h2, h3, h4⟩ := hg.at_ x cx hx
          have := hmul _ _ hs1
          exact ⟨h1, h2, by omega, h4⟩
      · refine hother x fun e => ?_
        rw [e, n2] at hx
        cases h : N.par s <;> rw [h] at hx <;> cases hx
      · rw [List.mem_singleton]
        exact Classical.byContradiction fun e => hx (hother x e)
      · rw [List.mem_singleton] at hx
        subst hx
        exact ⟨n2, by rw [hat]; simp⟩
      · unfold phi
        rw [List.length_singleton]
        refine sum_less (s := n) (fun x hx => ?_) n1 ?_
        · by_cases e : x = n
          · subst e
            rw [hat]
            simp only
            cases e2 : f x with
            | none =>
              simp only
              have hsl : seen N (put f x (val f s + d)) ≤ N.all.length := List.countP_le_length
              have hx2 := hmul _ _ hsl
              have : ((N.all.length : Int) - 1) * N.M = (N.all.length : Int) * N.M - N.M := by rw [Int.sub_mul, Int.one_mul]
              omega
            | some cn =>
              have hvn : val f x = cn := by unfold val; rw [e2]; rfl
              simp only
              rcases c with c | c
              · rw [e2] at c; cases c
              · omega
          · rw [hother x e]
            exact Nat.le_refl _
        · rw [hat]
          simp only
          cases e2 : f n with
          | none =>
            simp only
            have hsl : seen N (put f n (val f s + d)) ≤ N.all.length := List.countP_le_length
            have hx2 := hmul _ _ hsl
            have : ((N.all.length : Int) - 1) * N.M = (N.all.length : Int) * N.M - N.M := by rw [Int.sub_mul, Int.one_mul]
            omega
          | some cn =>
            have hvn : val f n = cn := by unfold val; rw [e2]; rfl
            have := (hg.at_ n cn e2).2.1
            simp only
            rcases c with c | c
            · rw [e2] at c; cases c
            · omega
      · simp at hk; subst hk
        rw [hn] at h
        simp only [Option.some.injEq, Prod.mk.injEq] at h
        obtain ⟨rfl, rfl⟩ := h
        refine ⟨_, hat, ?_⟩
        have : val (put f n (val f s + d)) s = val f s := by
          have := hother s (fun e => hns e.symm)
          rw [val, this]; rfl
        omega
      · obtain ⟨cn, h1, h2⟩ := h k (List.mem_singleton.2 rfl) n d hn
        rcases c with c | c
        · rw [h1] at c; cases c
        · have hvn : val f n = cn := by unfold val; rw [h1]; rfl
          omega
    · rw [if_neg c]
      refine ⟨[], f, by simp, ⟨by simp, hg, Le.refl _, fun _ _ => rfl, fun x h => absurd rfl h, by simp, by simp, fun k' hk n' d' h => ?_, fun _ => ⟨rfl, rfl⟩⟩⟩
      simp at hk; subst hk
      rw [hn] at h
      simp only [Option.some.injEq, Prod.mk.injEq] at h
      obtain ⟨rfl, rfl⟩ := h
      cases e : f n with
      | none => exact absurd (.inl e) c
      | some cn =>
        have hvn : val f n = cn := by unfold val; rw [e]; rfl
        refine ⟨cn, rfl, ?_⟩
        have : ¬ val f s + d < val f n := fun h => c (.inr h)
        omega

omit [DecidableEq S] in
theorem Stp.nil {N : G S} {s : S} {q : List S} {f : S → Option Int} (hg : Good N f) : Stp N s [] q f [] f :=
  ⟨by simp, hg, Le.refl _, fun _ _ => rfl, fun x h => absurd rfl h, by simp, by simp, by simp, fun _ => ⟨rfl, rfl⟩⟩
omit [DecidableEq S] in
theorem Stp.snoc {N : G S} {s : S} {k : Int} {ks : List Int} {q P P' : List S} {f f' f'' : S → Option Int} (a : Stp N s ks q f P f') (b : Stp N s [k] (q ++ P) f' P' f'') : Stp N s (ks ++ [k]) q f (P ++ P') f'' := by
  refine ⟨?_, b.good, b.le.trans a.le, fun x hx => (b.par x hx).trans (a.par x hx), fun x hx => ?_, fun x hx => ?_, ?_, fun k' hk => ?_, fun h => ?_⟩
  · have := a.len; have := b.len; simp at *; omega
  · rw [List.mem_append]
    by_cases e : f'' x = f' x
    · exact .inl (a.ch x fun e2 => hx (e.trans e2))
    · exact .inr (b.ch x e)
  · rcases List.mem_append.1 hx with h | h
    · exact ⟨(a.new x h).1, b.le.some (a.new x h).2⟩
    · exact b.new x h
  · have := a.phi; have := b.phi; rw [List.length_append]; omega
  · rcases List.mem_append.1 hk with h | h
    · exact (a.rlx k' h).mono b.le (b.par s rfl)
    · exact b.rlx k' h
  · obtain ⟨h1, h2⟩ := a.same fun k' hk => h k' (List.mem_append_left _ hk)
    obtain ⟨h3, h4⟩ := b.same fun k' hk => by rw [h2]; exact h k' (List.mem_append_right _ hk)
    exact ⟨by rw [h1, h3]; rfl, h4.trans h2⟩

def AllR (N : G S) (f : S → Option Int) (s : S) : Prop := ∀ k ∈ [(1 : Int), 2, 3, 4], Rlx N f s k
open Classical in
noncomputable def done (N : G S) (i : Bool) (f : S → Option Int) : Nat := N.all.countP fun s => decide (N.par s = i ∧ f s ≠ none ∧ AllR N f s)

structure Inv (N : G S) (i : Bool) (A B : List S) (f : S → Option Int) : Prop where
  good : Good N f
  a : ∀ x ∈ A, N.par x = i ∧ f x ≠ none
  b : ∀ x ∈ B, N.par x = !i ∧ f x ≠ none
  rq : ∀ x, f x ≠ none → AllR N f x ∨ x ∈ A ∨ x ∈ B
  bl : B.length ≤ 4 * done N i f
  al : A.length ≤ 4 * N.all.length
/-- What holds of the queue and the costs. -/
def J (N : G S) (st : List S × (S → Option Int)) : Prop := ∃ i A B, st.1 = A ++ B ∧ Inv N i A B st.2

omit [DecidableEq S] in
theorem Inv.swap {N : G S} {i : Bool} {B : List S} {f : S → Option Int} (h : Inv N i [] B f) : Inv N (!i) B [] f := by
  refine ⟨h.good, h.b, by simp, fun x hx => ?_, by simp, ?_⟩
  · rcases h.rq x hx with h | h | h
    · exact .inl h
    · cases h
    · exact .inr (.inl h)
  · have := h.bl
    have h2 : done N i f ≤ N.all.length := List.countP_le_length
    omega
omit [DecidableEq S] in
theorem Inv.len {N : G S} {i : Bool} {A B : List S} {f : S → Option Int} (h : Inv N i A B f) : (A ++ B).length ≤ 8 * N.all.length := by
  have := h.bl; have := h.al
  have h2 : done N i f ≤ N.all.length := List.countP_le_length
  rw [List.length_append]; omega
omit [DecidableEq S] in
theorem J.len {N : G S} {st : List S × (S → Option Int)} (h : J N st) : st.1.length ≤ 8 * N.all.length := by
  obtain ⟨i, A, B, e, h⟩ := h
  rw [e]; exact h.len
omit [DecidableEq S] in
theorem J.head {N : G S} {s : S} {q : List S} {f : S → Option Int} (h : J N (s :: q, f)) : ∃ i A B, q = A ++ B ∧ Inv N i (s :: A) B f := by
  obtain ⟨i, A, B, e, h⟩ := h
  cases A with
  | nil =>
    simp at e
    have := h.swap
    rw [← e] at this
    exact ⟨!i, q, [], by simp, this⟩
  | cons a A =>
    simp at e
    obtain ⟨rfl, rfl⟩ := e
    exact ⟨i, A, B, rfl, h⟩
omit [DecidableEq S] in
theorem J.step {N : G S} {s : S} {q P : List S} {f f' : S → Option Int} (h : J N (s :: q, f)) (hs : Stp N s [1, 2, 3, 4] q f P f') : J N (q ++ P, f') ∧ 2 * phi N f' + (q ++ P).length < 2 * phi N f + (s :: q).length := by
  obtain ⟨i, A, B, rfl, hI⟩ := h.head
  obtain ⟨si, sn⟩ := hI.a s (List.mem_cons_self ..)
  constructor
  · refine ⟨i, A, B ++ P, by simp, ⟨hs.good, fun x hx => ?_, fun x hx => ?_, fun x hx => ?_, ?_, ?_⟩⟩
    · obtain ⟨h1, h2⟩ := hI.a x (List.mem_cons_of_mem _ hx)
      exact ⟨h1, hs.le.some h2⟩
    · rcases List.mem_append.1 hx with h | h
      · exact ⟨(hI.b x h).1, hs.le.some (hI.b x h).2⟩
      · have := hs.new x h
        rw [si] at this; exact this
    · by_cases e : f' x = f x
      · have hr := hI.rq x (by rw [← e]; exact hx)
        rcases hr with h | h | h
        · exact .inl fun k hk => (h k hk).mono hs.le e
        · rcases List.mem_cons.1 h with h | h
          · subst h; exact .inl hs.rlx
          · exact .inr (.inl h)
        · exact .inr (.inr (List.mem_append_left _ h))
      · exact .inr (.inr (List.mem_append_right _ (hs.ch x e)))
    · have hmono : ∀ x ∈ N.all, N.par x = i ∧ f x ≠ none ∧ AllR N f x → N.par x = i ∧ f' x ≠ none ∧ AllR N f' x := fun x _ ⟨h1, h2, h3⟩ => by
        have e := hs.par x (by rw [h1, si])
        exact ⟨h1, by rw [e]; exact h2, fun k hk => (h3 k hk).mono hs.le e⟩
      by_cases hr : AllR N f s
      · obtain ⟨h1, h2⟩ := hs.same hr
        rw [h1, h2, List.append_nil]; exact hI.bl
      · have hin : s ∈ N.all := by
          cases hc : f s with
          | none => exact absurd hc sn
          | some c => exact (hI.good.at_ s c hc).1
        have h1 : done N i f + 1 ≤ done N i f' := by
          unfold done
          refine countP_more (fun x hx h => ?_) hin ?_ ?_
          · simp only [decide_eq_true_eq] at h ⊢; exact hmono x hx h
          · simp only [decide_eq_false_iff_not]; exact fun h => hr h.2.2
          · simp only [decide_eq_true_eq]; exact ⟨si, hs.le.some sn, hs.rlx⟩
        have := hI.bl
        have := hs.len
        rw [List.length_append]; simp at *; omega
    · have := hI.al; simp at this; omega
  · have := hs.phi
    simp only [List.length_append, List.length_cons]; omega
end Go.DB.Fifo
