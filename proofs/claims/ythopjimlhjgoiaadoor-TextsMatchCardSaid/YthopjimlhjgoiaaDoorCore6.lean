/-
  Results; structs and slices that are made at once; comparison of structs.
-/
import Derived.Test.YthopjimlhjgoiaaDoorCore5
set_option linter.unusedSimpArgs false
set_option linter.unusedVariables false
namespace Go.DB
open Go Go.RowKit

/-! Results. -/

def resVal (tmps : Array Value) : ResultVar → Sem Value
  | .tmp t => pure (tmps.getD t undef)
  | .cell a t => do loadVar t (← asAddr (tmps.getD a undef))

theorem results_one {P : Program} {fn : Func} {r : ResultVar} {tmps : Array Value} {w : World} {v : Value} (h : fn.results = #[r]) (h1 : (resVal tmps r).run P w = .ok v w) :
    (results fn tmps).run P w = .ok v w := by
  have : results fn tmps = (do let vs ← (#[r] : Array ResultVar).mapM (resVal tmps); pure (if h : vs.size = 1 then vs[0] else .tuple vs)) := by
    unfold results; rw [h]; rfl
  rw [this]
  simp [go_sem, h1]
theorem results_two {P : Program} {fn : Func} {r1 r2 : ResultVar} {tmps : Array Value} {w : World} {v1 v2 : Value} (h : fn.results = #[r1, r2]) (h1 : (resVal tmps r1).run P w = .ok v1 w)
    (h2 : (resVal tmps r2).run P w = .ok v2 w) : (results fn tmps).run P w = .ok (.tuple #[v1, v2]) w := by
  have : results fn tmps = (do let vs ← (#[r1, r2] : Array ResultVar).mapM (resVal tmps); pure (if h : vs.size = 1 then vs[0] else .tuple vs)) := by
    unfold results; rw [h]; rfl
  rw [this]
  simp [go_sem, h1, h2]
theorem results_three {P : Program} {fn : Func} {r1 r2 r3 : ResultVar} {tmps : Array Value} {w : World} {v1 v2 v3 : Value} (h : fn.results = #[r1, r2, r3]) (h1 : (resVal tmps r1).run P w = .ok v1 w)
    (h2 : (resVal tmps r2).run P w = .ok v2 w) (h3 : (resVal tmps r3).run P w = .ok v3 w) : (results fn tmps).run P w = .ok (.tuple #[v1, v2, v3]) w := by
  have : results fn tmps = (do let vs ← (#[r1, r2, r3] : Array ResultVar).mapM (resVal tmps); pure (if h : vs.size = 1 then vs[0] else .tuple vs)) := by
    unfold results; rw [h]; rfl
  rw [this]
  simp [go_sem, h1, h2, h3]

def Imp (S S' : SPred) : Prop := ∀ M v w, S.p M v w → S'.p M v w
theorem Imp.refl {S : SPred} : Imp S S := fun _ _ _ h => h
theorem Imp.eq {α : Type} [Rep α] {x y : α} (h : x = y) : Imp (rep x) (rep y) := by subst h; exact Imp.refl

/-- What a result stands for. -/
def ResOK (P : Program) (L : Slots) (B : Owns) (r : ResultVar) (S : SPred) : Prop :=
  match r with
  | .tmp t => ∃ c S', look L t = some ⟨c, S'⟩ ∧ c ∧ Imp S' S
  | .cell t T => ∃ (α : Type) (_ : Rep α) (y : α), Ty P T α ∧ Imp (rep y) S ∧ ((∃ c, look L t = some ⟨c, ref y⟩ ∧ c) ∨ ∃ c m g T', look L t = some ⟨c, isV (ptr m 0)⟩ ∧ c ∧ lookB B g = some (boxAt m T' y))

theorem ResOK.tmp {P : Program} {L : Slots} {B : Owns} {t : Nat} {S S' : SPred} {c : Prop} (h : look L t = some ⟨c, S'⟩) (hc : c) (hi : Imp S' S) : ResOK P L B (.tmp t) S := ⟨c, S', h, hc, hi⟩
theorem ResOK.cellN {P : Program} {L : Slots} {B : Owns} {t T T' m g : Nat} {S : SPred} {c : Prop} {α : Type} [Rep α] {y : α} (hT : Ty P T α) (h : look L t = some ⟨c, isV (ptr m 0)⟩) (hc : c)
    (hB : lookB B g = some (boxAt m T' y)) (hi : Imp (rep y) S) : ResOK P L B (.cell t T) S :=
  ⟨α, _, y, hT, hi, .inr ⟨c, m, g, T', h, hc, hB⟩⟩
theorem ResOK.cellR {P : Program} {L : Slots} {B : Owns} {t T : Nat} {S : SPred} {c : Prop} {α : Type} [Rep α] {y : α} (hT : Ty P T α) (h : look L t = some ⟨c, ref y⟩) (hc : c) (hi : Imp (rep y) S) : ResOK P L B (.cell t T) S :=
  ⟨α, _, y, hT, hi, .inl ⟨c, h, hc⟩⟩

/-- What is handed back: the keys. The last may be the result's own slot. -/
inductive OutL (B : Owns) (rs : Array ResultVar) : List Value → List Nat → List (Option CPred) → Prop
  | nil {an} : OutL B rs an [] []
  | skip {s an k ks outs} : OutL B rs an ks outs → OutL B rs (s :: an) (k :: ks) (none :: outs)
  | held {s an k ks outs c} : lookB B k = some (CPred.at s c) → OutL B rs an ks outs → OutL B rs (s :: an) (k :: ks) (some c :: outs)
  | res {k c} : rs = #[.tmp k] → lookB B k = some c → OutL B rs [] [k] [some c]

section
variable {P : Program} {fn : Func} {n : Nat} {F : Fr} {L : Slots} {B : Owns}

theorem ResOK.get {r : ResultVar} {S : SPred} (h : ResOK P L B r S) {M : MSet} {D : Nat → MSet} {a : Act} {w : World} (hs : Sat1 n F L B M D a w) :
    ∃ v, (resVal a.tmps r).run P w = .ok v w ∧ S.p M v w ∧ ∀ t, r = .tmp t → v = Act.val a t := by
  cases r with
  | tmp t =>
    obtain ⟨c, S', hl, hc, hi⟩ := h
    obtain ⟨v, hv, he⟩ := hs.has t _ hl
    exact ⟨v, by simp [resVal, hv, go_sem], hi _ _ _ (he.1 hc), fun t' ht => by cases ht; unfold Act.val; rw [hv]; rfl⟩
  | cell t T =>
    obtain ⟨α, _, y, hT, hi, hwhere⟩ := h
    have key : ∀ b off cs, a.tmps[t]? = some (.pointer (some ⟨b, off, none⟩)) → Rep.cells M y cs w → (∀ j, j < Rep.sz α → w.cell? ⟨b, off + j, none⟩ = cs[j]?) →
        ∃ v, (resVal a.tmps (.cell t T)).run P w = .ok v w ∧ S.p M v w ∧ ∀ t', (ResultVar.cell t T) = .tmp t' → v = Act.val a t' := by
      intro b off cs hv hc hr
      refine ⟨mkv (Rep.agg α) cs, ?_, hi _ _ _ ⟨cs, hc, rfl⟩, fun t' ht => by cases ht⟩
      have h1 := run_loadAt (P := P) hT hc hr
      simp only [Instr.loadAt, Instr.sureAddr] at h1
      rw [Sem.run_bind] at h1
      simp only [Sem.run_pure, Result.andThen] at h1
      simp only [resVal, Array.getD_eq_getD_getElem?, hv, Option.getD_some, asAddr]
      rw [Sem.run_bind]
      simp only [Sem.run_pure, Result.andThen]
      exact h1
    rcases hwhere with ⟨c, hl, hc⟩ | ⟨c, m, g, T', hl, hc, hB⟩
    · obtain ⟨v, hv, he⟩ := hs.has t _ hl
      obtain ⟨b, off, cs, hvp, _, _, hcs, hr⟩ := he.1 hc
      exact key b off cs (by rw [hv, hvp]) hcs hr
    · obtain ⟨v, hv, he⟩ := hs.has t _ hl
      obtain ⟨rfl, _⟩ := rep_raw.1 (he.1 hc)
      obtain ⟨m', cs, hvm, hD, hM, hh, hcs⟩ := hs.hasB g _ hB
      obtain rfl : m = m' := by simp [ptr] at hvm; exact hvm
      exact key m 0 cs hv hcs (fun j _ => by rw [cell_of_heap hh]; simp)

theorem OutL.at : ∀ {an : List Value} {ks : List Nat} {outs : List (Option CPred)} {rs : Array ResultVar}, OutL B rs an ks outs → ∀ (i : Nat) (c : CPred), outs[i]? = some (some c) →
    ∃ k, ks[i]? = some k ∧ ((∃ s, an[i]? = some s ∧ lookB B k = some (CPred.at s c)) ∨ (i = an.length ∧ rs = #[.tmp k] ∧ lookB B k = some c))
  | _, _, _, _, .nil, i, c, h => by simp at h
  | _, _, _, _, .skip (s := s) (an := an) (k := k) h0, 0, c, h => by simp at h
  | _, _, _, _, .skip (s := s) (an := an) (k := k) h0, i + 1, c, h => by
    obtain ⟨k', h1, h2⟩ := OutL.at h0 i c (by simpa using h)
    refine ⟨k', by simpa using h1, ?_⟩
    rcases h2 with ⟨s', h3, h4⟩ | ⟨h3, h4, h5⟩
    · exact .inl ⟨s', by simpa using h3, h4⟩
    · exact .inr ⟨by simp [h3], h4, h5⟩
  | _, _, _, _, .held (s := s) (an := an) (k := k) h1 h0, 0, c, h => by
    simp at h; subst h
    exact ⟨k, rfl, .inl ⟨s, rfl, h1⟩⟩
  | _, _, _, _, .held (s := s) (an := an) (k := k) hk h0, i + 1, c, h => by
    obtain ⟨k', h1, h2⟩ := OutL.at h0 i c (by simpa using h)
    refine ⟨k', by simpa using h1, ?_⟩
    rcases h2 with ⟨s', h3, h4⟩ | ⟨h3, h4, h5⟩
    · exact .inl ⟨s', by simpa using h3, h4⟩
    · exact .inr ⟨by simp [h3], h4, h5⟩
  | _, _, _, _, .res (k := k) h1 h2, 0, c, h => by
    simp at h; subst h
    exact ⟨k, rfl, .inr ⟨rfl, h1, h2⟩⟩
  | _, _, _, _, .res h1 h2, i + 1, c, h => by simp at h

theorem nodup_inj {α : Type} {l : List α} {i j : Nat} {x : α} (h : l.Nodup) (hi : l[i]? = some x) (hj : l[j]? = some x) : i = j := by
  obtain ⟨a1, a2⟩ := List.getElem?_eq_some_iff.1 hi
  obtain ⟨b1, b2⟩ := List.getElem?_eq_some_iff.1 hj
  have hp := List.pairwise_iff_getElem.1 h
  rcases Nat.lt_trichotomy i j with h1 | h1 | h1
  · exact absurd (a2.trans b2.symm) (hp i j a1 b1 h1)
  · exact h1
  · exact absurd (b2.trans a2.symm) (hp j i b1 a1 h1)

theorem Post.mk {a : Act} {w : World} {M : MSet} {D : Nat → MSet} {S : SPred} {v : Value} {an : List Value} {ks : List Nat} {outs : List (Option CPred)} {rs : Array ResultVar}
    (hs : Sat1 n F L B M D a w) (hv : S.p M v w) (ho : OutL B rs an ks outs) (hnd : ks.Nodup) (hr : ∀ k, rs = #[.tmp k] → v = Act.val a k) : PostO F S an outs (.returned v) w := by
  refine ⟨v, M, fun i => D ((ks[i]?).getD 0), rfl, hs.keeps, hs.mlow, hs.mhigh, hs.msub, hv, fun i c hc => ?_, fun i j c c' hi hj hne k hk1 hk2 => ?_⟩
  · obtain ⟨k, hk, h⟩ := ho.at i c hc
    simp only [hk, Option.getD_some]
    rcases h with ⟨s, hs1, hl⟩ | ⟨rfl, hrs, hl⟩
    · have hlt : i < an.length := (List.getElem?_eq_some_iff.1 hs1).1
      rw [List.getElem?_append_left hlt, hs1, Option.getD_some]
      exact ⟨hs.hasB k _ hl, hs.own k _ hl⟩
    · simp only [List.getElem?_concat_length, Option.getD_some]
      rw [hr k hrs]
      exact ⟨hs.hasB k _ hl, hs.own k _ hl⟩
  · obtain ⟨k1, hk1', h1⟩ := ho.at i c hi
    obtain ⟨k2, hk2', h2⟩ := ho.at j c' hj
    simp only [hk1', hk2', Option.getD_some] at hk1 hk2
    have hne' : k1 ≠ k2 := by
      intro e
      subst e
      obtain ⟨a1, a2⟩ := List.getElem?_eq_some_iff.1 hk1'
      obtain ⟨b1, b2⟩ := List.getElem?_eq_some_iff.1 hk2'
      exact hne (nodup_inj hnd hk1' hk2')
    have l1 : ∃ c1, lookB B k1 = some c1 := by rcases h1 with ⟨s, _, h⟩ | ⟨_, _, h⟩ <;> exact ⟨_, h⟩
    have l2 : ∃ c1, lookB B k2 = some c1 := by rcases h2 with ⟨s, _, h⟩ | ⟨_, _, h⟩ <;> exact ⟨_, h⟩
    obtain ⟨c1, l1⟩ := l1
    obtain ⟨c2, l2⟩ := l2
    exact hs.apart k1 k2 c1 c2 l1 l2 hne' k hk1 hk2

theorem Ends.ret1O {e : Exit} (he : e = .ret ∨ e = .normal) {r : ResultVar} {S : SPred} {an : List Value} {outs : List (Option CPred)} (ks : List Nat) (hr : fn.results = #[r]) (hnd : ks.Nodup) (ho : OutL B #[r] an ks outs) (h : ResOK P L B r S) :
    Ends (bodyPost P fn (PostO F S an outs)) e n F L B := by
  rintro a w ⟨M, D, hs⟩
  obtain ⟨v, h1, h2, h3⟩ := h.get hs
  have : a.defers = [] ∧ ∃ v, (results fn a.tmps).run P w = .ok v w ∧ PostO F S an outs (.returned v) w := ⟨hs.defers, v, results_one hr h1, Post.mk hs h2 ho hnd (fun k hk => h3 k (by simpa using hk))⟩
  rcases he with rfl | rfl <;> exact this
theorem Ends.ret0O {e : Exit} (he : e = .ret ∨ e = .normal) {an : List Value} {outs : List (Option CPred)} (ks : List Nat) (hr : fn.results = #[]) (hnd : ks.Nodup) (ho : OutL B #[] an ks outs) :
    Ends (bodyPost P fn (PostO F anyV an outs)) e n F L B := by
  rintro a w ⟨M, D, hs⟩
  have h1 : (results fn a.tmps).run P w = .ok (.tuple #[]) w := by
    have : results fn a.tmps = (do let vs ← (#[] : Array ResultVar).mapM (resVal a.tmps); pure (if h : vs.size = 1 then vs[0] else .tuple vs)) := by
      unfold results; rw [hr]; rfl
    rw [this]
    simp [go_sem]
  have : a.defers = [] ∧ ∃ v, (results fn a.tmps).run P w = .ok v w ∧ PostO F anyV an outs (.returned v) w := ⟨hs.defers, _, h1, Post.mk hs trivial ho hnd (fun k hk => by simp at hk)⟩
  rcases he with rfl | rfl <;> exact this
theorem Ends.ret2O {e : Exit} (he : e = .ret ∨ e = .normal) {r1 r2 : ResultVar} {S1 S2 : SPred} {an : List Value} {outs : List (Option CPred)} (ks : List Nat) (hr : fn.results = #[r1, r2]) (hnd : ks.Nodup) (ho : OutL B #[r1, r2] an ks outs) (h1 : ResOK P L B r1 S1) (h2 : ResOK P L B r2 S2) :
    Ends (bodyPost P fn (PostO F (tup [S1, S2]) an outs)) e n F L B := by
  rintro a w ⟨M, D, hs⟩
  obtain ⟨v1, h1, h1', _⟩ := h1.get hs
  obtain ⟨v2, h2, h2', _⟩ := h2.get hs
  have : a.defers = [] ∧ ∃ v, (results fn a.tmps).run P w = .ok v w ∧ PostO F (tup [S1, S2]) an outs (.returned v) w := ⟨hs.defers, _, results_two hr h1 h2, Post.mk hs ⟨[v1, v2], rfl, rfl, fun i S u hi hu => by
    match i with
    | 0 => simp at hi hu; subst hi hu; exact h1'
    | 1 => simp at hi hu; subst hi hu; exact h2'
    | i + 2 => simp at hi⟩ ho hnd (fun k hk => by simp at hk)⟩
  rcases he with rfl | rfl <;> exact this
theorem Ends.ret3O {e : Exit} (he : e = .ret ∨ e = .normal) {r1 r2 r3 : ResultVar} {S1 S2 S3 : SPred} {an : List Value} {outs : List (Option CPred)} (ks : List Nat) (hr : fn.results = #[r1, r2, r3]) (hnd : ks.Nodup) (ho : OutL B #[r1, r2, r3] an ks outs)
    (h1 : ResOK P L B r1 S1) (h2 : ResOK P L B r2 S2) (h3 : ResOK P L B r3 S3) :
    Ends (bodyPost P fn (PostO F (tup [S1, S2, S3]) an outs)) e n F L B := by
  rintro a w ⟨M, D, hs⟩
  obtain ⟨v1, h1, h1', _⟩ := h1.get hs
  obtain ⟨v2, h2, h2', _⟩ := h2.get hs
  obtain ⟨v3, h3, h3', _⟩ := h3.get hs
  have : a.defers = [] ∧ ∃ v, (results fn a.tmps).run P w = .ok v w ∧ PostO F (tup [S1, S2, S3]) an outs (.returned v) w := ⟨hs.defers, _, results_three hr h1 h2 h3, Post.mk hs ⟨[v1, v2, v3], rfl, rfl, fun i S u hi hu => by
    match i with
    | 0 => simp at hi hu; subst hi hu; exact h1'
    | 1 => simp at hi hu; subst hi hu; exact h2'
    | 2 => simp at hi hu; subst hi hu; exact h3'
    | i + 3 => simp at hi⟩ ho hnd (fun k hk => by simp at hk)⟩
  rcases he with rfl | rfl <;> exact this

theorem Ends.ret1 {e : Exit} (he : e = .ret ∨ e = .normal) {r : ResultVar} {S : SPred} (hr : fn.results = #[r]) (h : ResOK P L B r S) : Ends (bodyPost P fn (Post F S)) e n F L B := Ends.ret1O he [] hr .nil .nil h
theorem Ends.ret2 {e : Exit} (he : e = .ret ∨ e = .normal) {r1 r2 : ResultVar} {S1 S2 : SPred} (hr : fn.results = #[r1, r2]) (h1 : ResOK P L B r1 S1) (h2 : ResOK P L B r2 S2) :
    Ends (bodyPost P fn (Post F (tup [S1, S2]))) e n F L B := Ends.ret2O he [] hr .nil .nil h1 h2
theorem Ends.ret3 {e : Exit} (he : e = .ret ∨ e = .normal) {r1 r2 r3 : ResultVar} {S1 S2 S3 : SPred} (hr : fn.results = #[r1, r2, r3]) (h1 : ResOK P L B r1 S1) (h2 : ResOK P L B r2 S2) (h3 : ResOK P L B r3 S3) :
    Ends (bodyPost P fn (Post F (tup [S1, S2, S3]))) e n F L B := Ends.ret3O he [] hr .nil .nil h1 h2 h3

end

/-! Structs and slices made at once. -/

theorem fold_cells (off : Nat) : ∀ (vs z p q : List Value) (k : Nat), z.length = vs.length → p.length = off + k →
    ((vs.zipIdx k).foldl (fun (cs : Array Value) (x : Value × Nat) => cs.setIfInBounds (off + x.2) x.1) (p ++ z ++ q).toArray) = (p ++ vs ++ q).toArray
  | [], z, p, q, k, hz, _ => by
    have : z = [] := List.length_eq_zero_iff.1 hz
    subst this; rfl
  | v :: vs, z, p, q, k, hz, hp => by
    match z, hz with
    | x :: z, hz =>
      have h1 : (p ++ x :: z ++ q).toArray.setIfInBounds (off + k) v = ((p ++ [v]) ++ z ++ q).toArray := by
        rw [List.setIfInBounds_toArray, ← hp]
        simp
      simp only [List.zipIdx_cons, List.foldl_cons]
      rw [h1, fold_cells off vs z (p ++ [v]) q (k + 1) (by simpa using hz) (by simp [hp]; omega)]
      simp

theorem fill_step {place : Nat → Option (Nat × Nat)} {i size : Nat} {v : Value} {cs z p q : List Value} {rest : List (Nat × Value)} (hpl : place i = some (p.length, size)) (hv : v.cells = cs.toArray)
    (hc : cs.length = size) (hz : z.length = size) : Instr.fill place (p ++ z ++ q).toArray ((i, v) :: rest) = Instr.fill place (p ++ cs ++ q).toArray rest := by
  rw [Instr.fill, hpl]
  simp only [hv]
  rw [if_neg (by simp [hc]; omega)]
  congr 1
  have := fold_cells p.length cs z p q 0 (by omega) (by simp)
  rw [← this, ← Array.foldl_toList, Array.toList_zipIdx]

/-- Elements one behind the other. -/
def Elems {α : Type} [Rep α] (M : MSet) (w : World) : List α → List Value → Prop
  | [], cs => cs = []
  | x :: xs, cs => ∃ c r, cs = c ++ r ∧ Rep.cells M x c w ∧ Elems M w xs r

theorem Elems.len {α : Type} [Rep α] {M : MSet} {w : World} : ∀ (xs : List α) (cs : List Value), Elems M w xs cs → cs.length = xs.length * Rep.sz α
  | [], _, h => by rw [h]; simp
  | x :: xs, _, ⟨c, r, h, h1, h2⟩ => by rw [h, List.length_append, Rep.len h1, Elems.len xs r h2, List.length_cons, Nat.add_mul, Nat.one_mul]; omega

theorem Elems.at {α : Type} [Rep α] {M : MSet} {w : World} : ∀ (xs : List α) (cs : List Value) (i : Nat) (h : i < xs.length), Elems M w xs cs →
    ∃ c, Rep.cells M xs[i] c w ∧ ∀ j, j < Rep.sz α → cs[i * Rep.sz α + j]? = c[j]?
  | _ :: xs, _, 0, h, ⟨c, r, hc, h1, h2⟩ => ⟨c, h1, fun j hj => by rw [hc, Nat.zero_mul, Nat.zero_add, List.getElem?_append_left (by rw [Rep.len h1]; exact hj)]⟩
  | _ :: xs, _, i + 1, h, ⟨c, r, hc, h1, h2⟩ => by
    obtain ⟨c', h3, h4⟩ := Elems.at xs r i (by simpa using h) h2
    refine ⟨c', h3, fun j hj => ?_⟩
    rw [← h4 j hj, hc, List.getElem?_append_right (by rw [Rep.len h1, Nat.add_mul]; omega), Rep.len h1]
    congr 1
    rw [Nat.add_mul]; omega

theorem Elems.law {α : Type} [Rep α] {M M' : MSet} {w w' : World} (hk : Keeps M w w') (hm : ∀ k, M' k → M k ∨ w.heap.size ≤ k) : ∀ (xs : List α) (cs : List Value), Elems M w xs cs → Elems M' w' xs cs
  | [], _, h => h
  | _ :: xs, _, ⟨c, r, h, h1, h2⟩ => ⟨c, r, h, Rep.law hk hm h1, Elems.law hk hm xs r h2⟩

theorem fill_slice {α : Type} [Rep α] {M : MSet} {w : World} : ∀ (xs : List α) (vs : List Value) (k : Nat) (p z : List Value), All2 M w (xs.map rep) vs → p.length = k * Rep.sz α → z.length = xs.length * Rep.sz α →
    ∃ cs, Instr.fill (fun i => some (i * Rep.sz α, Rep.sz α)) (p ++ z).toArray ((List.range' k xs.length).zip vs) = some (p ++ cs).toArray ∧ Elems M w xs cs
  | [], [], k, p, z, _, _, hz => by
    have : z = [] := List.length_eq_zero_iff.1 (by simpa using hz)
    subst this
    exact ⟨[], rfl, rfl⟩
  | [], _ :: _, _, _, _, h, _, _ => h.elim
  | _ :: _, [], _, _, _, h, _, _ => h.elim
  | x :: xs, v :: vs, k, p, z, h, hp, hz => by
    obtain ⟨⟨c, hc, hv⟩, hrest⟩ := h
    have hfl : v.cells = c.toArray := by rw [hv]; exact Rep.flat hc
    have hlen := Rep.len hc
    have hz' : z.length = Rep.sz α + xs.length * Rep.sz α := by rw [hz, List.length_cons, Nat.add_mul, Nat.one_mul]; omega
    obtain ⟨cs, h1, h2⟩ := fill_slice xs vs (k + 1) (p ++ c) (z.drop (Rep.sz α)) hrest (by rw [List.length_append, hp, hlen, Nat.add_mul, Nat.one_mul]) (by rw [List.length_drop, hz']; omega)
    refine ⟨c ++ cs, ?_, c, cs, rfl, hc, h2⟩
    rw [List.length_cons, List.range'_succ, List.zip_cons_cons]
    have hsplit : p ++ z = p ++ z.take (Rep.sz α) ++ z.drop (Rep.sz α) := by rw [List.append_assoc, List.take_append_drop]
    rw [hsplit, fill_step (size := Rep.sz α) (by rw [hp]) hfl hlen (by rw [List.length_take, hz']; omega), h1, List.append_assoc]

section
variable {P : Program} {ops : Array Oper} {fs : Nat} {L : Slots} {B : Owns} {G : Prop}
variable {d : Option Tmp} {ty : TypeId} {pos : String} {after : Array Edge} {g : Option (Nat × Bool)} {xr : List Nat}

/-- A type has a zero value. -/
def HasZero (P : Program) (E : Nat) : Prop := ((P.info? E).bind (·.zero)).isSome = true

theorem ex_buildSlice {ρ : Operand → Value} {T E n : Nat} {α : Type} [Rep α] {parts : Array (Nat × Operand)} {M : MSet} {xs : List α} {w : World} (hT : SliceOf P T E) (hE : Ty P E α) (hz : HasZero P E)
    (hn : xs.length = n) (hsmall : n * Rep.sz α ≤ 16777216) (hidx : parts.toList.map (·.1) = List.range' 0 n) (ha : All2 M w (xs.map rep) (parts.toList.map (fun p => ρ p.2))) :
    ∃ cs, (execOp ρ ⟨d, .buildSlice T n parts, ty, pos, after, g⟩).run P w = .ok (.value (.slice (some ⟨w.heap.size, 0, none⟩) n n)) (w.alloc (.cells cs.toArray E)) ∧ Elems M w xs cs := by
  obtain ⟨i, hi, hsize⟩ := Option.map_eq_some_iff.1 hE.size
  obtain ⟨z, hz⟩ := Option.isSome_iff_exists.1 hz
  obtain ⟨i', hi', hz⟩ := Option.bind_eq_some_iff.1 hz
  obtain rfl : i = i' := by rw [hi] at hi'; simpa using hi'
  have hs : (sizeOf E).run P w = .ok (Rep.sz α) w := by simp [sizeOf, typeInfo, hi, hsize, go_sem]
  have hzv : (zeroValue E).run P w = .ok z w := by simp [zeroValue, typeInfo, hi, hz, go_sem]
  have hun : (underlying T).run P w = .ok (.slice E) w := by simp [underlying, show P.underlying T = _ from hT, go_sem]
  have hparts : (parts.map fun (i, x) => (i, ρ x)).toList = (List.range' 0 xs.length).zip (parts.toList.map (fun p => ρ p.2)) := by
    rw [hn, ← hidx, Array.toList_map, List.zip_map']
  have tailRun : ∀ zs : Array Value, ∃ cs, Instr.fill (fun i => some (i * Rep.sz α, Rep.sz α)) ((Array.range (n * Rep.sz α)).map (fun k => zs[k % zs.size]!)) (parts.map fun (i, x) => (i, ρ x)).toList = some cs.toArray ∧ Elems M w xs cs := by
    intro zs
    obtain ⟨cs, h1, h2⟩ := fill_slice xs _ 0 [] ((List.range (n * Rep.sz α)).map (fun k => zs[k % zs.size]!)) ha (by simp) (by simp [hn])
    refine ⟨cs, ?_, h2⟩
    rw [hparts]
    rw [List.nil_append, List.nil_append] at h1
    rw [← h1, ← List.map_toArray, List.toArray_range]
  by_cases h0 : n * Rep.sz α = 0
  · obtain ⟨cs, h1, h2⟩ := tailRun #[]
    refine ⟨cs, ?_, h2⟩
    simp only [execOp, Instr.buildSlice]
    rw [Sem.run_bind, Sem.run_bind, hun]
    simp only [Result.andThen]
    rw [Sem.run_bind, hs]
    simp only [Result.andThen]
    rw [if_neg (by omega), if_pos h0, Sem.run_bind]
    simp only [Sem.run_pure, Result.andThen]
    rw [h1]
    rfl
  · obtain ⟨cs, h1, h2⟩ := tailRun z.cells
    refine ⟨cs, ?_, h2⟩
    simp only [execOp, Instr.buildSlice]
    rw [Sem.run_bind, Sem.run_bind, hun]
    simp only [Result.andThen]
    rw [Sem.run_bind, hs]
    simp only [Result.andThen]
    rw [if_neg (by omega), if_neg h0, Sem.run_bind, hzv]
    simp only [Result.andThen]
    rw [Sem.run_bind]
    simp only [Sem.run_pure, Result.andThen]
    rw [h1]
    rfl

theorem StepOK.buildSlice {T E n : Nat} {α : Type} [Rep α] {parts : Array (Nat × Operand)} {xs : List α} (hg : Guard ops g L G) (hT : SliceOf P T E) (hE : Ty P E α) (hz : HasZero P E)
    (hx : OpdL L G (parts.toList.map (·.2)) (xs.map rep)) (hidx : parts.toList.map (·.1) = List.range' 0 n) (hsmall : n * Rep.sz α ≤ 16777216) :
    StepOK P ops fs ⟨d, .buildSlice T n parts, ty, pos, after, g⟩ L B (xr, []) ⟨G, rep xs⟩ [] :=
  .of hg fun M D a w hm hs _ hG => by
    have ha := hx.get hs (fun x hxm t ht => looksAt_op (by
      subst ht
      obtain ⟨p, hp, he⟩ := List.mem_map.1 hxm
      simp only [Op.operands]
      rw [List.mem_toArray]
      exact List.mem_map.2 ⟨p, hp, he⟩)) hG
    rw [List.map_map] at ha
    have hn : xs.length = n := by
      have h1 := ha.length
      have h2 := congrArg List.length hidx
      simp only [List.length_map, List.length_range'] at h1 h2
      omega
    obtain ⟨cs, hrun, hel⟩ := ex_buildSlice (P := P) (d := d) (ty := ty) (pos := pos) (after := after) (g := g) hT hE hz hn hsmall hidx ha
    refine Does.value hrun ⟨Ext.alloc _ _, rep_list.2 ⟨_, n, by rw [hn], by omega, ?_, ?_⟩⟩
    · have : Rep.sz α ≠ 0 := Nat.ne_of_gt (Rep.pos (α := α))
      have : n * 1 ≤ n * Rep.sz α := Nat.mul_le_mul_left n (by omega)
      omega
    · intro i hi
      obtain ⟨c, hc, hj⟩ := hel.at xs cs i hi
      refine ⟨rfl, fun h => absurd (hm _ h) (by simp), by rw [size_new]; simp, c, Rep.law (Ext.alloc _ _).keeps (fun _ h => .inl h) hc, fun j hjl => ?_⟩
      rw [show (0 : Nat) + i * Rep.sz α + j = i * Rep.sz α + j by omega, cell_new, List.getElem?_toArray, hj j hjl]

/-- How a struct's value is made: its zero cells, the places of its fields. -/
def BuildAt (P : Program) (T : Nat) (zero : List Value) (places : List (Nat × Nat)) : Prop :=
  (P.info? T).bind (·.zero) = some (.agg zero.toArray) ∧ ∃ fields, P.underlying T = some (.struct fields) ∧
    fields.toList.map (fun f => (f.offset, (P.info? f.type).map (·.size))) = places.map (fun p => (p.1, some p.2))

theorem run_places {w : World} : ∀ (l : List Field) (places : List (Nat × Nat)), l.map (fun f => (f.offset, (P.info? f.type).map (·.size))) = places.map (fun p => (p.1, some p.2)) →
    (l.mapM (m := Sem) fun f => do Pure.pure (f.offset, ← sizeOf f.type)).run P w = .ok places w
  | [], [], _ => rfl
  | [], _ :: _, h => by cases h
  | _ :: _, [], h => by cases h
  | f :: l, p :: places, h => by
    simp only [List.map_cons, List.cons.injEq, Prod.mk.injEq] at h
    obtain ⟨⟨h1, h2⟩, h3⟩ := h
    obtain ⟨i, hi, hs⟩ := Option.map_eq_some_iff.1 h2
    have hsz : (sizeOf f.type).run P w = .ok p.2 w := by simp [sizeOf, typeInfo, hi, hs, go_sem]
    rw [List.mapM_cons, Sem.run_bind, Sem.run_bind, hsz]
    simp only [Result.andThen, Sem.run_pure]
    rw [Sem.run_bind, run_places l places h3]
    simp only [Result.andThen, Sem.run_pure, h1]

theorem ex_build {ρ : Operand → Value} {T : Nat} {parts : Array (Nat × Operand)} {zero cs : List Value} {places : List (Nat × Nat)} {w : World} (hb : BuildAt P T zero places)
    (hf : Instr.fill (places.toArray[·]?) zero.toArray (parts.toList.map (fun p => (p.1, ρ p.2))) = some cs.toArray) :
    (execOp ρ ⟨d, .build T parts, ty, pos, after, g⟩).run P w = .ok (.value (.agg cs.toArray)) w := by
  obtain ⟨hz0, fields, hu, hpl0⟩ := hb
  obtain ⟨i, hi, hzv⟩ := Option.bind_eq_some_iff.1 hz0
  have hz : (zeroValue T).run P w = .ok (.agg zero.toArray) w := by simp [zeroValue, typeInfo, hi, hzv, go_sem]
  have hpl : (fields.mapM (m := Sem) fun f => do Pure.pure (f.offset, ← sizeOf f.type)).run P w = .ok places.toArray w := by
    rw [Array.mapM_eq_mapM_toList, ← bind_pure_comp, Sem.run_bind, run_places _ _ hpl0]
    rfl
  have hun : (underlying T).run P w = .ok (.struct fields) w := by simp [underlying, hu, go_sem]
  have hparts : (parts.map fun (i, x) => (i, ρ x)).toList = parts.toList.map (fun p => (p.1, ρ p.2)) := by rw [Array.toList_map]
  simp only [execOp, Instr.build]
  rw [Sem.run_bind, Sem.run_bind, hz]
  simp only [Result.andThen]
  rw [Sem.run_bind, hun]
  simp only [Result.andThen]
  rw [Sem.run_bind, hpl]
  simp only [Result.andThen]
  rw [hparts, show (Value.agg zero.toArray).cells = zero.toArray from rfl, hf]
  rfl

theorem StepOK.build {T : Nat} {α : Type} [Rep α] {parts : Array (Nat × Operand)} {y : α} {zero : List Value} {places : List (Nat × Nat)} {Ss : List SPred} (hg : Guard ops g L G) (hb : BuildAt P T zero places)
    (hx : OpdL L G (parts.toList.map (·.2)) Ss) (hagg : Rep.agg α = true)
    (hf : ∀ M w vs, All2 M w Ss vs → ∃ cs, Instr.fill (places.toArray[·]?) zero.toArray ((parts.toList.map (·.1)).zip vs) = some cs.toArray ∧ Rep.cells M y cs w) :
    StepOK P ops fs ⟨d, .build T parts, ty, pos, after, g⟩ L B (xr, []) ⟨G, rep y⟩ [] :=
  .pure hg fun M a w _ hs hG => by
    have ha := hx.get hs (fun x hxm t ht => looksAt_op (by
      subst ht
      obtain ⟨p, hp, he⟩ := List.mem_map.1 hxm
      simp only [Op.operands]
      rw [List.mem_toArray]
      exact List.mem_map.2 ⟨p, hp, he⟩)) hG
    obtain ⟨cs, h1, h2⟩ := hf M w _ ha
    refine ⟨.agg cs.toArray, ex_build hb ?_, cs, h2, by rw [hagg]; rfl⟩
    rw [← h1, List.map_map, List.zip_map']
    rfl

end
end Go.DB
