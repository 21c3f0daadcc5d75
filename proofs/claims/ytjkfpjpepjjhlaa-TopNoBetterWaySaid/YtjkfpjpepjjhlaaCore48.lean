/-
  Interface values whose dynamic type is known; boxes that hold pointers to other boxes.
-/
import Derived.Test.YtjkfpjpepjjhlaaCore47
set_option linter.unusedVariables false
set_option linter.unusedSimpArgs false
namespace Go.DB
open Go Go.RowKit

/-- An interface value of dynamic type T. -/
def ifcS (T : TypeId) (S : SPred) : SPred where
  p := fun M v w => ∃ u, v = .iface T u ∧ S.p M u w
  law := fun M M' v w w' hk hm ⟨u, h, hs⟩ => ⟨u, h, S.law M M' u w w' hk hm hs⟩

theorem Opd.nilI {L : Slots} {G : Prop} : Opd L G (.const .nilIface) (isV .nilIface) := fun _ _ => rep_raw.2 ⟨rfl, rfl, rfl⟩

/-- The type is no interface. -/
def NotIfc (P : Program) (T : TypeId) : Prop := ((P.underlying T).map (fun | .interface _ => false | _ => true)) = some true

/-- The method of that name of type T is function f. -/
def MethAt (P : Program) (T : TypeId) (name : String) (f : Nat) (ptrRecv : Bool) : Prop :=
  ((P.info? T).bind (fun i => i.methods.find? (·.name == name))).map (fun m => (m.path.toList.isEmpty, m.func)) = some (true, some (f, ptrRecv))

theorem run_methodP {P : Program} {T E : TypeId} {name : String} {f : Nat} {w : World} {v : Value} (hm : MethAt P T name f true) (hT : P.underlying T = some (.pointer E)) :
    (method (P.types.size + Made.depth) T v name).run P w = .ok (f, v) w := by
  unfold MethAt at hm
  obtain ⟨m, hb, hm2⟩ := Option.map_eq_some_iff.1 hm
  obtain ⟨i, hi, hf⟩ := Option.bind_eq_some_iff.1 hb
  simp only [Prod.mk.injEq] at hm2
  obtain ⟨hp, hfn⟩ := hm2
  have hp0 : m.path.toList = [] := List.isEmpty_iff.1 hp
  have hd : P.types.size + Made.depth = (P.types.size + (Made.depth - 1)) + 1 := by
    have : Made.depth = 100 := rfl
    omega
  rw [hd]
  have hti : (typeInfo T).run P w = .ok i w := by simp [typeInfo, hi, go_sem]
  have hun : (underlying T).run P w = .ok (.pointer E) w := by simp [underlying, hT, go_sem]
  unfold method
  rw [Sem.run_bind, hti]
  simp only [Result.andThen, hf]
  rw [Sem.run_bind, hp0]
  simp only [follow, Sem.run_pure, Result.andThen, hfn]
  rw [Sem.run_bind]
  unfold receiverAt
  rw [Sem.run_bind, hun]
  simp [Result.andThen, Place.get, Sem.run_pure]

theorem run_wrap {P : Program} {T : TypeId} {a : Addr} {nm : String} {w : World} : (Builtin.ssaWrapNilChk_ #[T] T #[.pointer (some a), strVal "", strVal nm]).run P w = .ok (.pointer (some a)) w := rfl

theorem run_methodV {P : Program} {T E : TypeId} {name : String} {f : Nat} {w : World} {b off : Nat} {x : Value} (hm : MethAt P T name f false) (hT : P.underlying T = some (.pointer E))
    (hl : (Instr.loadAt E (.pointer (some ⟨b, off, none⟩))).run P w = .ok x w) :
    (method (P.types.size + Made.depth) T (.pointer (some ⟨b, off, none⟩)) name).run P w = .ok (f, x) w := by
  unfold MethAt at hm
  obtain ⟨m, hb, hm2⟩ := Option.map_eq_some_iff.1 hm
  obtain ⟨i, hi, hf⟩ := Option.bind_eq_some_iff.1 hb
  simp only [Prod.mk.injEq] at hm2
  obtain ⟨hp, hfn⟩ := hm2
  have hp0 : m.path.toList = [] := List.isEmpty_iff.1 hp
  have hpe : m.path.isEmpty = true := by
    cases hq : m.path with
    | mk l => rw [hq] at hp0; simp at hp0; simp [hp0]
  have hd : P.types.size + Made.depth = (P.types.size + (Made.depth - 1)) + 1 := by
    have : Made.depth = 100 := rfl
    omega
  rw [hd]
  have hti : (typeInfo T).run P w = .ok i w := by simp [typeInfo, hi, go_sem]
  have hun : (underlying T).run P w = .ok (.pointer E) w := by simp [underlying, hT, go_sem]
  have hl2 : (loadVar E ⟨b, off, none⟩).run P w = .ok x w := by
    simpa [Instr.loadAt, Instr.sureAddr, Sem.run_bind, Sem.run_pure, Result.andThen] using hl
  unfold method
  rw [Sem.run_bind, hti]
  simp only [Result.andThen, hf]
  rw [Sem.run_bind, hp0]
  simp only [follow, Sem.run_pure, Result.andThen, hfn]
  rw [Sem.run_bind]
  unfold receiverAt
  rw [Sem.run_bind, hun]
  simp only [Result.andThen, Place.get, Sem.run_bind, Sem.run_pure, hpe, if_true, run_wrap, asAddr, hl2]

/-! Structs of integers as keys of maps. -/

theorem run_checkInts {P : Program} {T n : Nat} {xs : List Int} {w : World} (e : Bool) (hT : IntFields P T n) (hl : xs.length = n) : (Instr.checkKey e 10000 T (.agg (xs.map (Value.int .i64 ·)).toArray)).run P w = .ok () w := by
  obtain ⟨hu, _, _, hfs⟩ := hT
  have hun : (underlying T).run P w = .ok (.struct (P.fieldsOf T)) w := run_und hu
  rw [show (10000 : Nat) = 9999 + 1 from rfl, Instr.checkKey]
  simp only [Sem.run_bind, hun, Result.andThen_ok]
  rw [← Array.forIn_toList]
  have deep : ∀ f ∈ (P.fieldsOf T).toList, f.name ≠ "_" ∧ f.offset < n ∧ P.underlying f.type = some (.int .i64) := fun f hf => by
    have hm := List.mem_map_of_mem (f := fun f : Field => (f.name != "_", f.offset, P.underlying f.type)) hf
    rw [hfs] at hm
    obtain ⟨i, hi, he⟩ := List.mem_map.1 hm
    simp only [Prod.mk.injEq] at he
    exact ⟨by simpa using he.1.symm, by rw [← he.2.1]; exact List.mem_range.1 hi, he.2.2.symm⟩
  generalize (P.fieldsOf T).toList = L at deep
  induction L with
  | nil => simp
  | cons f L ih =>
    obtain ⟨h1, h2, h3⟩ := deep f (by simp)
    have hag : (isAgg f.type).run P w = .ok false w := by simp [isAgg, underlying, h3, go_sem]
    have hp : (part f.type (xs.map (Value.int .i64 ·)).toArray f.offset).run P w = .ok (.int .i64 (xs[f.offset]'(by omega))) w := by
      unfold part
      rw [Sem.run_bind, hag]
      simp only [Result.andThen]
      have : ((xs.map (Value.int .i64 ·)).toArray)[f.offset]? = some (.int .i64 (xs[f.offset]'(by omega))) := by simp [hl, h2]
      simp only [Bool.false_eq_true, if_false, this]
      rfl
    have hc : ∀ z, (Instr.checkKey e 9999 f.type (.int .i64 z)).run P w = .ok () w := fun z => by
      rw [show (9999 : Nat) = 9998 + 1 from rfl, Instr.checkKey]
      simp [underlying, h3, go_sem]
    simp only [List.forIn_cons, Sem.run_bind, h1, ne_eq, not_false_eq_true, if_true, Result.andThen_ok, hp, hc, Sem.run_pure]
    exact ih (fun y hy => deep y (by simp [hy]))

theorem run_findInts {P : Program} {T n : Nat} {xs : List Int} {w0 : World} (hT : IntFields P T n) (hl : xs.length = n) : ∀ (es : List MapEntry) (ls : List (List Int)) (i : Nat), es.length = ls.length → (∀ ys ∈ ls, ys.length = n) →
    (∀ (j : Nat) (e : MapEntry) (ys : List Int), es[j]? = some e → ls[j]? = some ys → e.key = .agg (ys.map (Value.int .i64 ·)).toArray) →
    ∃ r, (Instr.findAsking T (.agg (xs.map (Value.int .i64 ·)).toArray) es i).run P w0 = .ok r w0 ∧ ((r = none ∧ ∀ y ∈ ls, y ≠ xs) ∨ ∃ j e y, r = some (i + j, e.val) ∧ es[j]? = some e ∧ ls[j]? = some y ∧ y = xs)
  | [], ls, i, h, _, _ => by
    have : ls = [] := List.length_eq_zero_iff.1 h.symm
    subst this
    exact ⟨none, by simp [Instr.findAsking, go_sem], .inl ⟨rfl, by simp⟩⟩
  | e :: es, [], i, h, _, _ => by simp at h
  | e :: es, y :: ls, i, h, hn, h' => by
    have h0 := h' 0 e y rfl rfl
    have hyl := hn y (by simp)
    obtain ⟨hu, hst, hgd, hfs⟩ := id hT
    have heq : (Op.equal T (.agg (xs.map (Value.int .i64 ·)).toArray) e.key).run P w0 = .ok (decide (xs = y)) w0 := by
      rw [h0]
      show (Op.equalIn (9998 + 1 + 1) T _ _).run P w0 = _
      rw [run_equalIn_struct w0 _ T _ _ hu hst, run_eqFields 9998 xs y (by omega) _ 0 n (by omega) (by rw [hfs, List.range_eq_range'])]
      simp
    unfold Instr.findAsking
    rw [Sem.run_bind, heq]
    simp only [Result.andThen]
    by_cases hk : xs = y
    · rw [decide_eq_true hk]
      exact ⟨_, rfl, .inr ⟨0, e, y, rfl, rfl, rfl, hk.symm⟩⟩
    · rw [decide_eq_false hk]
      obtain ⟨r, h1, h2⟩ := run_findInts (w0 := w0) hT hl es ls (i + 1) (by simpa using h) (fun z hz => hn z (by simp [hz])) (fun j e' x' h1 h2 => h' (j + 1) e' x' (by simpa using h1) (by simpa using h2))
      refine ⟨r, by simpa using h1, ?_⟩
      rcases h2 with ⟨h2, h3⟩ | ⟨j, e', x', h2, h3, h4, h5⟩
      · exact .inl ⟨h2, fun z hz => by
          rcases List.mem_cons.1 hz with rfl | hz
          · exact fun e => hk e.symm
          · exact h3 z hz⟩
      · exact .inr ⟨j + 1, e', x', by rw [h2]; congr 2; omega, by simpa using h3, by simpa using h4, h5⟩

theorem sameBits_ints (n : Nat) (xs : List Int) : Instr.sameBits (n + 1) (.agg (xs.map (Value.int .i64 ·)).toArray) (.agg (xs.map (Value.int .i64 ·)).toArray) = true := by
  unfold Instr.sameBits
  simp only [beq_self_eq_true, Bool.true_and]
  rw [List.all_eq_true]
  intro x hx
  obtain ⟨a, b⟩ := x
  have : a = b ∧ ∃ z, a = Value.int .i64 z := by
    clear n
    induction xs with
    | nil => simp at hx
    | cons y ys ih =>
      simp only [List.map_cons, List.zip_cons_cons, List.mem_cons, Prod.mk.injEq] at hx
      rcases hx with ⟨rfl, rfl⟩ | hx
      · exact ⟨rfl, y, rfl⟩
      · exact ih hx
  obtain ⟨rfl, z, rfl⟩ := this
  cases n <;> simp [Instr.sameBits]

/-- A struct of integers as a key. -/
abbrev MKey.ints {K : Type} [Rep K] [DecidableEq K] (n : Nat) (f : K → List Int) (hf : ∀ a b, f a = f b ↔ a = b) (hlen : ∀ a, (f a).length = n)
    (hrep : ∀ (M : MSet) (v : Value) (w : World) (a : K), (rep a).p M v w → v = .agg ((f a).map (Value.int .i64 ·)).toArray) : MKey K where
  desc := fun P T => IntFields P T n
  check := fun {P T M w0 k v} e w hT hv => by
    obtain rfl := hrep _ _ _ _ hv
    exact run_checkInts e hT (hlen k)
  find := fun {P T M M' w w' k v} w0 hT hv es l hl h => by
    obtain rfl := hrep _ _ _ _ hv
    have hun : (underlying T).run P w0 = .ok (.struct (P.fieldsOf T)) w0 := run_und hT.1
    have conv : ∀ r i, ((r = none ∧ ∀ y ∈ l.map f, y ≠ f k) ∨ ∃ j e y, r = some (i + j, MapEntry.val e) ∧ es[j]? = some e ∧ (l.map f)[j]? = some y ∧ y = f k) → i = 0 → Found k es l r := by
      rintro r i hr rfl
      rcases hr with ⟨h1, h2⟩ | ⟨j, e, y, h1, h2, h3, h4⟩
      · exact .inl ⟨h1, fun x hx he => h2 (f x) (List.mem_map.2 ⟨x, hx, rfl⟩) (by rw [he])⟩
      · rw [List.getElem?_map, Option.map_eq_some_iff] at h3
        obtain ⟨x, hx, rfl⟩ := h3
        exact .inr ⟨j, e, x, by rw [h1, Nat.zero_add], h2, hx, (hf x k).1 h4⟩
    obtain ⟨r, h1, h2⟩ := run_findInts (w0 := w0) hT (hlen k) es (l.map f) 0 (by rw [List.length_map]; exact hl) (fun ys hy => by obtain ⟨x, _, rfl⟩ := List.mem_map.1 hy; exact hlen x) (fun j e ys hj hy => by
      rw [List.getElem?_map, Option.map_eq_some_iff] at hy
      obtain ⟨x, hx, rfl⟩ := hy
      exact hrep _ _ _ _ (h j e x hj hx))
    cases es with
    | nil =>
      have : l = [] := List.length_eq_zero_iff.1 hl.symm
      subst this
      refine ⟨none, ?_, .inl ⟨rfl, by simp⟩⟩
      simp only [Instr.findKey, Sem.run_bind, hun, Result.andThen, Instr.findNow, Sem.run_pure]
    | cons e es =>
      refine ⟨r, ?_, conv r 0 h2 rfl⟩
      simp only [Instr.findKey, Sem.run_bind, hun, Result.andThen, Instr.findNow, Instr.sameNow]
      exact h1
  bits := fun {M M' w w' k v1 v2} h1 h2 => by
    obtain rfl := hrep _ _ _ _ h1
    obtain rfl := hrep _ _ _ _ h2
    exact sameBits_ints 9999 _

section
variable {P : Program} {ops : Array Oper} {fs : Nat} {L : Slots} {B : Owns} {G : Prop}
variable {d : Option Tmp} {ty : TypeId} {pos : String} {after : Array Edge} {g : Option (Nat × Bool)} {xr : List Nat}

theorem ex_invoke {ρ : Operand → Value} {x : Operand} {xs : Array Operand} {ts : Array TypeId} {name : String} {T : TypeId} {u rv : Value} {f : Nat} {w : World} (hf : FnOK P f) (hx : ρ x = .iface T u)
    (hm : (method (P.types.size + Made.depth) T u name).run P w = .ok (f, rv) w) :
    (execOp ρ ⟨d, .call { callee := .invoke x name, args := xs, argTypes := ts }, ty, pos, after, g⟩).run P w = .ok (.enter f (#[rv] ++ xs.map ρ)) w := by
  have h := run_callFunc hf (#[rv] ++ xs.map ρ) w
  simp only [execOp, resolve, hx]
  rw [Sem.run_bind]
  simp only [Sem.run_pure, Result.andThen, invoke]
  have e0 : (#[Value.iface T u] ++ xs.map ρ)[0]? = some (.iface T u) := by
    rw [Array.getElem?_append_left (by simp)]; rfl
  have e1 : (#[Value.iface T u] ++ xs.map ρ).extract 1 (#[Value.iface T u] ++ xs.map ρ).size = xs.map ρ := by
    apply Array.ext
    · simp
    · intro i h1 h2
      rw [Array.getElem_extract, Array.getElem_append_right (by simp)]
      simp
  rw [e0]
  simp only [e1, callMethod]
  rw [Sem.run_bind]
  have hp : (program).run P w = .ok P w := rfl
  rw [hp]
  simp only [Result.andThen]
  rw [Sem.run_bind, hm]
  simp only [Result.andThen]
  exact h

/-- A value becomes an interface value. -/
theorem StepOK.mkIface {T : TypeId} {x : Operand} {S : SPred} (hg : Guard ops g L G) (hT : NotIfc P T) (hx : Opd L G x S) :
    StepOK P ops fs ⟨d, .makeInterface T x, ty, pos, after, g⟩ L B (xr, []) ⟨G, ifcS T S⟩ [] :=
  .pure hg fun M a w _ hs hG => by
    have hS := hx.get hs (fun t ht => looksAt_op (by simp [Op.operands, ht])) hG
    refine ⟨.iface T (a.eval x), ?_, _, rfl, hS⟩
    unfold NotIfc at hT
    obtain ⟨u, hu, hn⟩ := Option.map_eq_some_iff.1 hT
    have hun : (underlying T).run P w = .ok u w := by simp [underlying, hu, go_sem]
    simp only [execOp, Instr.makeInterface]
    cases u <;> first | (simp at hn; done) | simp [Sem.run_bind, hun, Result.andThen, Sem.run_pure]

/-- An interface value gives back what it holds. -/
theorem StepOK.assertV {T X : TypeId} {x : Operand} {S : SPred} (hg : Guard ops g L G) (hT : NotIfc P T) (hx : Opd L G x (ifcS T S)) :
    StepOK P ops fs ⟨d, .typeAssert x X T false, ty, pos, after, g⟩ L B (xr, []) ⟨G, S⟩ [] :=
  .pure hg fun M a w _ hs hG => by
    obtain ⟨u, hv, hS⟩ := hx.get hs (fun t ht => looksAt_op (by simp [Op.operands, ht])) hG
    refine ⟨u, ?_, hS⟩
    unfold NotIfc at hT
    obtain ⟨t, hu, hn⟩ := Option.map_eq_some_iff.1 hT
    have hun : (underlying T).run P w = .ok t w := by simp [underlying, hu, go_sem]
    simp only [execOp, Instr.typeAssert, hv]
    cases t <;> first | (simp at hn; done) | simp [Sem.run_bind, hun, Result.andThen, Sem.run_pure]

/-- The row that lies in the box to which the interface value points. -/
theorem recv_val {T E m k q : Nat} {x : Operand} {s : Value} {name : String} {f : Nat} {α : Type} [Rep α] {l : List α} {T' : TypeId} {E' : TypeId} {ts kz : List Nat} {M : MSet} {D : Nat → MSet} {a : Act} {w : World}
    (hm : MethAt P T name f false) (hT : P.underlying T = some (.pointer E)) (hE : Ty P E Raw) (hx : Opd L G x (ifcS T (isV (ptr m 0)))) (hk : lookB B k = some (CPred.at (ptr m 0) (cont T' (⟨s⟩ : Raw))))
    (hs : SatOn ts M L a w) (hxt : ∀ t, x = .tmp t → t ∈ ts) (hB : SatB kz M D B a w) (hkz : k ∈ kz) (hG : G) :
    ∃ u, a.eval x = .iface T u ∧ (method (P.types.size + Made.depth) T u name).run P w = .ok (f, s) w := by
  obtain ⟨u, hv, hu⟩ := hx.get hs hxt hG
  obtain rfl := (rep_raw.1 hu).1
  refine ⟨_, hv, ?_⟩
  obtain ⟨m', cs, hvm, hD, hM, hh, hc⟩ := hB.has k hkz _ hk
  simp only [ptr, Value.pointer.injEq, Option.some.injEq, Addr.mk.injEq, and_true, true_and] at hvm
  subst hvm
  have hc' := hc
  obtain ⟨rfl, h1, h2⟩ := hc'
  refine run_methodV hm hT ?_
  have := run_loadAt (P := P) (w := w) hE hc (b := m) (off := 0) (fun j hj => by
    rw [cell_of_heap hh]
    simp)
  exact this

/-- A method that only reads the row behind an interface value. -/
theorem StepOK.invokeC {f T E m k q : Nat} {x : Operand} {xs : Array Operand} {ts : Array TypeId} {Ss : List SPred} {S : SPred} {s : Value} {name : String} {α : Type} [Rep α] {l : List α} {T' E' : TypeId}
    (hg : Guard ops g L G) (hm : MethAt P T name f false) (hT : P.underlying T = some (.pointer E)) (hE : Ty P E Raw) (hx : Opd L G x (ifcS T (isV (ptr m 0))))
    (hk : lookB B k = some (CPred.at (ptr m 0) (cont T' (⟨s⟩ : Raw)))) (hq : lookB B q = some (CPred.at s (rowV E' l)))
    (hf : FnOK P f) (hspec : G → FSpec P f (rep l :: Ss) S) (hS : FlatS S) (ha : OpdL L G xs.toList Ss) :
    StepOK P ops fs ⟨d, .call { callee := .invoke x name, args := xs, argTypes := ts }, ty, pos, after, g⟩ L B ([k, q], []) ⟨G, S⟩ [] :=
  .of hg fun M D a w hmm hs hsB hG => by
    let M' : MSet := fun j => M j ∧ ¬ D q j
    obtain ⟨u, hv, hrun⟩ := recv_val (q := q) (l := l) (E' := E') hm hT hE hx hk hs (fun t ht => looksAt_op (by simp [Op.operands, Call.operands, ht])) hsB (by simp) hG
    have hR := hsB.has q (by simp) _ hq
    have hrow : (rep l).p M' s w := rowV_rep M (D q) w s hR hmm
    have hargs := ha.get hs (fun y hym t ht => looksAt_op (by subst ht; simp [Op.operands, Call.operands]; exact .inr (by simpa using hym))) hG
    have hall : All2 M' w (rep l :: Ss) (s :: xs.toList.map a.eval) := ⟨hrow, All2.law (Keeps.refl _ _) (fun _ h => .inl h.1) _ _ hargs⟩
    have hgive := (hspec hG).calls M' w _ (hmm.less fun k h => h.1) hall
    have hgive' : Gives P f (s :: xs.toList.map a.eval) M w S := Calls.mono hgive fun e w' ⟨hx, v, he, hv⟩ => ⟨hx, v, he, hS _ _ _ _ hv⟩
    refine Does.enter (vs := s :: xs.toList.map a.eval) ?_ hgive'
    rw [show (s :: xs.toList.map a.eval).toArray = #[s] ++ xs.map a.eval by apply Array.ext'; simp]
    exact ex_invoke hf hv hrun

/-- A method with a pointer receiver. -/
theorem StepOK.invokeO {T E : TypeId} {x : Operand} {d : Option Nat} {f : Nat} {u : Value} {xs : Array Operand} {ts : Array TypeId} {Ss : List SPred} {Os : Given} {S : SPred} {outs : List (Option CPred)} {W : Nat × Option CPred} {Ws : Writes} {xk : List Nat} {name : String} (ks : List Nat)
    (hm : MethAt P T name f true) (hT : P.underlying T = some (.pointer E)) (hxr : Opd L True x (ifcS T (isV u))) (hspec : FSpecO P f (isV u :: Ss) Os S outs)
    (hx : OpdL L True xs.toList Ss) (hH : Holds B ks Os) (hW : outW (Os.map (·.1)) ks d outs = W :: Ws) (hnd : (ks ++ d.toList).Nodup) (hxk : ∀ k ∈ ks, k ∈ xk) (hd : ∀ d', d = some d' → d' < fs) :
    StepOK P ops fs ⟨d, .call { callee := .invoke x name, args := xs, argTypes := ts }, ty, pos, after, none⟩ L B (ks, xk) ⟨True, S⟩ (W :: Ws) :=
  .doing fun M D a w hsz hmm hs hsB => by
    have ha := hx.get hs (fun y hym t ht => looksAt_op (by subst ht; simp [Op.operands, Call.operands]; exact .inr (by simpa using hym))) trivial
    obtain ⟨u', hv, hu⟩ := hxr.get hs (fun t ht => looksAt_op (by simp [Op.operands, Call.operands, ht])) trivial
    obtain rfl := (rep_raw.1 hu).1
    have hr := ex_invoke (P := P) (d := d) (ty := ty) (pos := pos) (after := after) (g := none) (xs := xs) (ts := ts) (w := w) hspec.ok hv (run_methodP hm hT)
    rw [show (#[u'] ++ xs.map a.eval) = (u' :: xs.toList.map a.eval).toArray by apply Array.ext'; simp] at hr
    have hnd' : ks.Nodup := (List.nodup_append.1 hnd).1
    refine Does.enterO hr (hspec.calls M _ w _ hmm ⟨hu, ha⟩ (OwnL.of hH hnd' hsB (fun k hk => List.mem_append_left _ hk))) fun e w' he => ?_
    obtain ⟨v, M', D', rfl, rest⟩ := he
    exact ⟨v, rfl, .call hH hW hxk hnd (fun d' h => by rw [hsz]; exact hd d' h) ⟨v, M', D', rfl, rest⟩⟩

/-- A method with a value receiver that writes the row behind an interface value. -/
theorem StepOK.invokeOV {T E m k : Nat} {x : Operand} {d : Option Nat} {f : Nat} {s : Value} {T' : TypeId} {xs : Array Operand} {ts : Array TypeId} {Ss : List SPred} {Os : Given} {S : SPred} {outs : List (Option CPred)} {W : Nat × Option CPred} {Ws : Writes} {xk : List Nat} {name : String} (ks : List Nat)
    (hm : MethAt P T name f false) (hT : P.underlying T = some (.pointer E)) (hE : Ty P E Raw) (hxr : Opd L True x (ifcS T (isV (ptr m 0)))) (hk : lookB B k = some (CPred.at (ptr m 0) (cont T' (⟨s⟩ : Raw)))) (hspec : FSpecO P f (isV s :: Ss) Os S outs)
    (hx : OpdL L True xs.toList Ss) (hH : Holds B ks Os) (hW : outW (Os.map (·.1)) ks d outs = W :: Ws) (hnd : (ks ++ d.toList).Nodup) (hxk : ∀ k ∈ ks, k ∈ xk) (hd : ∀ d', d = some d' → d' < fs) :
    StepOK P ops fs ⟨d, .call { callee := .invoke x name, args := xs, argTypes := ts }, ty, pos, after, none⟩ L B (k :: ks, xk) ⟨True, S⟩ (W :: Ws) :=
  .doing fun M D a w hsz hmm hs hsB => by
    have ha := hx.get hs (fun y hym t ht => looksAt_op (by subst ht; simp [Op.operands, Call.operands]; exact .inr (by simpa using hym))) trivial
    obtain ⟨u', hv, hrun⟩ := recv_val (P := P) (q := 0) (α := Raw) (l := []) (E' := 0) hm hT hE hxr hk hs (fun t ht => looksAt_op (by simp [Op.operands, Call.operands, ht])) hsB (by simp) trivial
    have hr := ex_invoke (P := P) (d := d) (ty := ty) (pos := pos) (after := after) (g := none) (xs := xs) (ts := ts) (w := w) hspec.ok hv hrun
    rw [show (#[s] ++ xs.map a.eval) = (s :: xs.toList.map a.eval).toArray by apply Array.ext'; simp] at hr
    have hnd' : ks.Nodup := (List.nodup_append.1 hnd).1
    obtain ⟨m', cs, hvm, hD, hM, hh, hc⟩ := hsB.has k (by simp) _ hk
    have hsv : (isV s).p M s w := ⟨[s], by obtain ⟨e1, e2, e3⟩ := hc; subst e1; exact ⟨rfl, e2, e3⟩, rfl⟩
    have hsB' : SatB (ks ++ xk) M D B a w := ⟨fun t ht => hsB.has t (List.mem_cons_of_mem _ ht), fun t ht t' ht' => hsB.apart t (List.mem_cons_of_mem _ ht) t' (List.mem_cons_of_mem _ ht')⟩
    refine Does.enterO hr (hspec.calls M _ w _ hmm ⟨hsv, ha⟩ (OwnL.of hH hnd' hsB' (fun k hk => List.mem_append_left _ hk))) fun e w' he => ?_
    obtain ⟨v, M', D', rfl, rest⟩ := he
    exact ⟨v, rfl, .call hH hW hxk hnd (fun d' h => by rw [hsz]; exact hd d' h) ⟨v, M', D', rfl, rest⟩⟩

/-- A row goes into a new box. -/
theorem StepOK.boxRow {T d t E : Nat} {α : Type} [Rep α] {l : List α} (hd : Nat.blt d fs = true) (h1 : lookB B t = some (rowV E l)) :
    StepOK P ops fs ⟨some d, .box T (.tmp t), ty, pos, after, none⟩ L B ([t], [d, t]) ⟨True, anyV⟩ [(d, some (deep (fun s => cont T (⟨s⟩ : Raw)) (rowV E l))), (t, none)] := by
  refine .doing fun M D a w hsz hm hs hsB => ?_
  have hC := hsB.has t (by simp) _ h1
  have hx : a.eval (.tmp t) = Act.val a t := eval_val
  have hcs : (a.eval (.tmp t)).cells = #[Act.val a t] := by
    obtain ⟨ad, cap, hsl, _⟩ := id hC
    rw [hx, hsl]; rfl
  have hone : isOne (Act.val a t) = true ∧ (Act.val a t).cells = #[Act.val a t] := by
    obtain ⟨ad, cap, hsl, _⟩ := id hC
    rw [hsl]; exact ⟨rfl, rfl⟩
  have hin : ∀ j, D t j → M j := fun j hj => CPred.inM _ M (D t) _ w hC j hj
  have hext := Ext.alloc w (.cells #[Act.val a t] T)
  have hmm : ∀ k, (M k ∨ k = w.heap.size) → M k ∨ w.heap.size ≤ k := fun k h => h.imp id (by omega)
  have hblk : ∀ j, D t j → j < w.heap.size := fun j hj => hm j (hin j hj)
  refine Does.value (ex_box hcs) (.pass (fun k => M k ∨ k = w.heap.size) (fun j => D t j ∨ j = w.heap.size) h1 hext.keeps (fun k h => .inl h) hmm (fun k h => ?_) ⟨fun _ => trivial, fun hf => (hf trivial).elim⟩ ?_ (fun j h => h.imp id (by omega)))
  · rw [size_new]
    rcases h with h | h
    · have := hm k h; omega
    · omega
  · rw [val_self (by rw [hsz]; exact Nat.le_of_ble_eq_true hd)]
    have old : ∀ j, D t j → (M j ∨ j = w.heap.size) ∧ (w.alloc (.cells #[Act.val a t] T)).heap[j]? = w.heap[j]? := fun j hj => ⟨.inl (hin j hj), hext.block j (hblk j hj) (fun f => f)⟩
    refine ⟨Act.val a t, fun j => j = w.heap.size, D t, ⟨w.heap.size, [Act.val a t], rfl, fun _ => Iff.rfl, .inr rfl, ?_, rfl, hone.1, hone.2⟩, ?_, fun j => Or.comm, fun j h1 h2 => ?_⟩
    · show (w.heap.push _)[w.heap.size]? = _
      rw [Array.getElem?_push_size]
    · exact (rowV E l).law M _ (D t) _ w _ hext.keeps hmm (fun j hj => old j hj) hC
    · have := hblk j h2; omega

theorem oneBox {C : CPred} (h : IsBox C) : OneC C := fun M D v w hc => by
  obtain ⟨m, rfl⟩ := h M D v w hc
  exact ⟨rfl, rfl⟩

/-- A pointer to a box that is told goes into another one made in the same region. -/
theorem StepOK.storeRow0P {T T' t k : Nat} {y0 : Raw} {R : CPred} (hT : Ty P T Raw) (hl : lookB B k = some (cont T' y0)) (hkn : Nat.blt k fs = true) (ht : lookB B t = some R) (hR1 : OneC R) (hkt : (k == t) = false) :
    StepOK P ops fs ⟨none, .store T (.tmp k) (.tmp t), ty, pos, after, none⟩ L B ([k, t], [k, t]) ⟨True, anyV⟩ [(k, some (deep (fun s => cont T' (⟨s⟩ : Raw)) R)), (t, none)] := by
  have hkt : k ≠ t := by simpa using hkt
  refine .doing fun M D a w hsz hm hs hsB => ?_
  obtain ⟨m, old, hvm, hD, hM, hh, hold⟩ := hsB.has k (by simp) _ hl
  have hR := hsB.has t (by simp) _ ht
  have hap := hsB.apart k (by simp) t (by simp) _ _ hl ht hkt
  have hxv : a.eval (.tmp t) = Act.val a t := eval_val
  obtain ⟨ho1, ho2⟩ := hR1 _ _ _ _ hR
  have hz : Rep.cells M (⟨Act.val a t⟩ : Raw) [Act.val a t] w := ⟨rfl, ho1, ho2⟩
  have hat : a.eval (.tmp k) = .pointer (some ⟨m, 0, none⟩) := by
    have hlt : k < a.tmps.size := by rw [hsz]; exact Nat.le_of_ble_eq_true hkn
    rw [Act.eval_tmp (v := Act.val a k) (by unfold Act.val; simp [hlt]), hvm]
  obtain ⟨w', h1, h2, h3, h4, h5, h6, h7⟩ := run_storeAt (w := w) (m := m) (off := 0) (cs := [Act.val a t]) (pre := []) (mid := old) (rest := []) hT rfl (show old.length = 1 from Rep.len hold) rfl (Rep.plain hz) (show (Act.val a t).cells = #[Act.val a t] from ho2) (by simpa using hh)
  have hkeep : Keeps (D k) w w' := ⟨h3, h4, h5, by omega, fun j _ hn => h7 j (fun e => hn ((hD j).2 e))⟩
  have hkM : Keeps M w w' := ⟨h3, h4, h5, by omega, fun j _ hn => h7 j (fun e => hn (e ▸ hM))⟩
  refine Does.skip (w' := w') (ex_store (by rw [hat, hxv]; exact h1)) rfl (.merge hl ht hkeep (fun j h => by rw [h6]; exact hm j h) ⟨fun _ => trivial, fun hf => (hf trivial).elim⟩ ?_)
  rw [val_none]
  refine ⟨Act.val a t, D k, D t, ⟨m, _, hvm, hD, hM, by simpa using h2, rfl, ho1, ho2⟩, ?_, fun _ => Iff.rfl, fun j h1 h2 => hap j h1 h2⟩
  exact R.law M M (D t) _ w w' hkM (fun _ h => .inl h) (fun j hj => ⟨R.inM _ _ _ _ hR j hj, h7 j (fun e => hap j ((hD j).2 e) hj)⟩) hR

end

section
variable {P : Program} {Q : Exit → Act → World → Prop} {n : Nat} {F : Fr} {L : Slots} {B : Owns}
/-- What a told value points to. -/
theorem Cod.boxTold {c : Code} {g : Nat} {s : Value} {C : CPred} (hl : lookB B g = some (CPred.at s C)) (hC : IsBox C) (k : ∀ m, s = ptr m 0 → Cod P c Q n F L B) : Cod P c Q n F L B := fun a w hs => by
  obtain ⟨M, D, h⟩ := id hs
  have hp : C.p M (D g) s w := h.hasB g _ hl
  obtain ⟨m, hv⟩ := hC _ _ _ _ hp
  exact k m hv a w hs
theorem Ends.boxTold {e : Exit} {g : Nat} {s : Value} {C : CPred} (hl : lookB B g = some (CPred.at s C)) (hC : IsBox C) (k : ∀ m, s = ptr m 0 → Ends Q e n F L B) : Ends Q e n F L B := fun a w hs => by
  obtain ⟨M, D, h⟩ := id hs
  have hp : C.p M (D g) s w := h.hasB g _ hl
  obtain ⟨m, hv⟩ := hC _ _ _ _ hp
  exact k m hv a w hs
end
end Go.DB
