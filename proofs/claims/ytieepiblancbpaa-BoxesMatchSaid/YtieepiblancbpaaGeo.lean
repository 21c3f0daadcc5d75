/-
  Points and boxes.
-/
import Derived.Test.YtieepiblancbpaaCore7
import Derived.Laws.StructEq
set_option linter.unusedSimpArgs false
set_option linter.unusedVariables false
namespace Go.DB
open Go Go.RowKit

structure Pt where
  x : Int
  y : Int
  deriving DecidableEq, Inhabited
structure Bx where
  x : Int
  y : Int
  w : Int
  h : Int
  deriving DecidableEq, Inhabited

instance : Rep Pt := Rep.via (fun p => (p.x, p.y))
instance : Rep Bx := Rep.via (fun b => (b.x, b.y, b.w, b.h))

theorem rep_pt {p : Pt} {M : MSet} {v : Value} {w : World} : (rep p).p M v w ↔ v = .agg #[.int .i64 p.x, .int .i64 p.y] ∧ InI p.x ∧ InI p.y := by
  constructor
  · rintro ⟨cs, ⟨c1, c2, rfl, ⟨rfl, h1⟩, ⟨rfl, h2⟩⟩, rfl⟩
    exact ⟨rfl, h1, h2⟩
  · rintro ⟨rfl, h1, h2⟩
    exact ⟨[.int .i64 p.x, .int .i64 p.y], ⟨[_], [_], rfl, ⟨rfl, h1⟩, ⟨rfl, h2⟩⟩, rfl⟩
theorem rep_bx {p : Bx} {M : MSet} {v : Value} {w : World} : (rep p).p M v w ↔ v = .agg #[.int .i64 p.x, .int .i64 p.y, .int .i64 p.w, .int .i64 p.h] ∧ InI p.x ∧ InI p.y ∧ InI p.w ∧ InI p.h := by
  constructor
  · rintro ⟨cs, ⟨c1, c2, rfl, ⟨rfl, h1⟩, c3, c4, rfl, ⟨rfl, h2⟩, c5, c6, rfl, ⟨rfl, h3⟩, ⟨rfl, h4⟩⟩, rfl⟩
    exact ⟨rfl, h1, h2, h3, h4⟩
  · rintro ⟨rfl, h1, h2, h3, h4⟩
    exact ⟨[.int .i64 p.x, .int .i64 p.y, .int .i64 p.w, .int .i64 p.h], ⟨[_], _, rfl, ⟨rfl, h1⟩, [_], _, rfl, ⟨rfl, h2⟩, [_], [_], rfl, ⟨rfl, h3⟩, ⟨rfl, h4⟩⟩, rfl⟩

theorem rep_pt_cells {p : Pt} {M : MSet} {w : World} (h1 : InI p.x) (h2 : InI p.y) : Rep.cells M p [.int .i64 p.x, .int .i64 p.y] w := ⟨[_], [_], rfl, ⟨rfl, h1⟩, ⟨rfl, h2⟩⟩
theorem rep_bx_cells {p : Bx} {M : MSet} {w : World} (h1 : InI p.x) (h2 : InI p.y) (h3 : InI p.w) (h4 : InI p.h) : Rep.cells M p [.int .i64 p.x, .int .i64 p.y, .int .i64 p.w, .int .i64 p.h] w :=
  ⟨[_], _, rfl, ⟨rfl, h1⟩, [_], _, rfl, ⟨rfl, h2⟩, [_], [_], rfl, ⟨rfl, h3⟩, ⟨rfl, h4⟩⟩

theorem All2.ints {M : MSet} {w : World} : ∀ (xs : List Int) (vs : List Value), All2 M w (xs.map rep) vs → vs = xs.map (.int .i64 ·) ∧ ∀ x ∈ xs, InI x
  | [], [], _ => ⟨rfl, by simp⟩
  | [], _ :: _, h => h.elim
  | _ :: _, [], h => h.elim
  | x :: xs, v :: vs, h => by
    obtain ⟨h1, h2⟩ := All2.ints xs vs h.2
    obtain ⟨h3, h4⟩ := rep_int.1 h.1
    exact ⟨by rw [h1, h3]; rfl, fun y hy => by
      rcases List.mem_cons.1 hy with rfl | hy
      · exact h4
      · exact h2 y hy⟩

/-- Two structs of integers are compared part by part. -/
def IntFields (P : Program) (T : Nat) (n : Nat) : Prop :=
  P.underlying T = some (.struct (P.fieldsOf T)) ∧ P.stoodInHeld T = false ∧ P.eqGuardType P.depth T = false ∧
    (P.fieldsOf T).toList.map (fun f => (f.name != "_", f.offset, P.underlying f.type)) = (List.range n).map (fun i => (true, i, some (.int .i64)))

theorem run_eqFields {P : Program} {w : World} (k : Nat) (xs ys : List Int) (hxy : xs.length = ys.length) : ∀ (fs : List Field) (i m : Nat), i + m = xs.length →
    fs.map (fun f => (f.name != "_", f.offset, P.underlying f.type)) = (List.range' i m).map (fun i => (true, i, some (.int .i64))) →
    (Op.eqFields (k + 1) (xs.map (Value.int .i64 ·)).toArray (ys.map (Value.int .i64 ·)).toArray fs).run P w = .ok (decide (xs.drop i = ys.drop i)) w
  | [], i, m, him, h => by
    have hm : m = 0 := by
      have := congrArg List.length h
      simp at this; omega
    subst hm
    rw [List.drop_of_length_le (by omega), List.drop_of_length_le (by omega)]
    simp [Op.eqFields, go_sem]
  | f :: fs, i, m, him, h => by
    obtain ⟨m, rfl⟩ : ∃ m', m = m' + 1 := ⟨m - 1, by have := congrArg List.length h; simp at this; omega⟩
    rw [List.range'_succ] at h
    simp only [List.map_cons, List.cons.injEq, Prod.mk.injEq] at h
    obtain ⟨⟨h1, h2, h3⟩, h4⟩ := h
    have hne : f.name ≠ "_" := by simpa using h1
    have hx : i < xs.length := by omega
    have hy : i < ys.length := by omega
    have hag : (isAgg f.type).run P w = .ok false w := by simp [isAgg, underlying, h3, go_sem]
    have pt : ∀ (zs : List Int) (hz : i < zs.length), (part f.type (zs.map (Value.int .i64 ·)).toArray f.offset).run P w = .ok (.int .i64 zs[i]) w := by
      intro zs hz
      unfold part
      rw [Sem.run_bind, hag]
      simp only [Result.andThen, h2]
      have : ((zs.map (Value.int .i64 ·)).toArray)[i]? = some (.int .i64 zs[i]) := by simp [hz]
      simp only [Bool.false_eq_true, if_false, this]
      rfl
    have ih := run_eqFields (P := P) (w := w) k xs ys hxy fs (i + 1) m (by omega) h4
    rw [Op.eqFields, if_pos hne, Sem.run_bind, pt xs hx]
    simp only [Result.andThen]
    rw [Sem.run_bind, pt ys hy]
    simp only [Result.andThen]
    rw [Sem.run_bind, run_equalIn_int k h3]
    simp only [Result.andThen]
    have key : decide (xs.drop i = ys.drop i) = (decide (xs[i] = ys[i]) && decide (xs.drop (i + 1) = ys.drop (i + 1))) := by
      rw [List.drop_eq_getElem_cons hx, List.drop_eq_getElem_cons hy, ← Bool.decide_and]
      exact decide_eq_decide.2 (by rw [List.cons.injEq])
    rw [key]
    by_cases he : xs[i] = ys[i]
    · have hb : (xs[i] == ys[i]) = true := by simp [he]
      rw [hb]
      simp only [Bool.not_true, Bool.false_eq_true, if_false]
      rw [ih, decide_eq_true he, Bool.true_and]
    · have hb : (xs[i] == ys[i]) = false := by simp [he]
      rw [hb, decide_eq_false he, Bool.false_and]
      simp [go_sem]

theorem eqAt_ints {P : Program} {T n : Nat} {α : Type} [Rep α] [DecidableEq α] (f : α → List Int) (hf : ∀ a b, f a = f b ↔ a = b) (hlen : ∀ a, (f a).length = n)
    (hrep : ∀ (M : MSet) (v : Value) (w : World) (a : α), (rep a).p M v w → v = .agg ((f a).map (Value.int .i64 ·)).toArray) (hT : IntFields P T n) : EqAt P T α := by
  obtain ⟨hu, hst, hgd, hfs⟩ := hT
  intro M w p q x y v u hv hu'
  obtain rfl := hrep _ _ _ _ hv
  obtain rfl := hrep _ _ _ _ hu'
  have h : (Op.equal T (.agg ((f x).map (Value.int .i64 ·)).toArray) (.agg ((f y).map (Value.int .i64 ·)).toArray)).run P w = .ok (decide (x = y)) w := by
    show (Op.equalIn (9998 + 1 + 1) T _ _).run P w = _
    rw [run_equalIn_struct w _ T _ _ hu hst, run_eqFields 9998 (f x) (f y) (by rw [hlen, hlen]) _ 0 n (by rw [hlen]; omega) (by rw [hfs, List.range_eq_range'])]
    simp [hf]
  have hg : ∀ op, (op = .eql ∨ op = .neq) → (eqGuard op T p q (.agg ((f x).map (Value.int .i64 ·)).toArray) (.agg ((f y).map (Value.int .i64 ·)).toArray)).run P w = .ok () w := by
    intro op hop
    rcases hop with rfl | rfl <;> simp [eqGuard, go_sem, hgd]
  constructor
  · rw [Sem.run_bind, hg _ (.inl rfl)]
    simp only [Result.andThen, binOp]
    rw [Sem.run_bind, h]; rfl
  · rw [Sem.run_bind, hg _ (.inr rfl)]
    simp only [Result.andThen, binOp]
    rw [Sem.run_bind, h]; rfl

theorem eqAt_pt {P : Program} {T : Nat} (hT : IntFields P T 2) : EqAt P T Pt :=
  eqAt_ints (fun p => [p.x, p.y]) (fun a b => by cases a; cases b; simp) (fun _ => rfl) (fun M v w a h => (rep_pt.1 h).1) hT
theorem eqAt_bx {P : Program} {T : Nat} (hT : IntFields P T 4) : EqAt P T Bx :=
  eqAt_ints (fun p => [p.x, p.y, p.w, p.h]) (fun a b => by cases a; cases b; simp) (fun _ => rfl) (fun M v w a h => (rep_bx.1 h).1) hT

end Go.DB
