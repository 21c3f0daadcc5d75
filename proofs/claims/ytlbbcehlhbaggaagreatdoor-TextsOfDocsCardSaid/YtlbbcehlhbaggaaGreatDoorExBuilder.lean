/-
  Builders of strings: what they have been given is what they hold.
-/
import Derived.Test.YtlbbcehlhbaggaaGreatDoorCore49
import Derived.Shelf.Strings.BuilderF
set_option linter.unusedSimpArgs false
set_option linter.unusedVariables false
namespace Go.DB
open Go Go.RowKit

/-- A builder that holds the bytes of c, its memory one's own. -/
def bldC (T E : TypeId) (c : Str) : CPred where
  p := fun M D v w => ∃ (m : Nat) (p u : Value), v = ptr m 0 ∧ (p = .pointer none ∨ p = .pointer (some ⟨m, 0, none⟩)) ∧ w.heap[m]? = some (.cells #[p, u] T (0, 0)) ∧ w.ownsRow 0 E 1 u c.b.length (Go.Lib.byteCells c.b) ∧ u.ownBlock ≠ some m ∧
    (∀ k, D k ↔ (k = m ∨ u.ownBlock = some k)) ∧ ∀ k, D k → M k
  inM := fun M D v w ⟨_, _, _, _, _, _, _, _, _, h⟩ k hk => h k hk
  law := fun M M' D v w w' hk hm hD ⟨m, p, u, h1, h2, h3, h4, h5, h6, h7⟩ => by
    refine ⟨m, p, u, h1, h2, by rw [(hD m ((h6 m).2 (.inl rfl))).2]; exact h3, ⟨h4.1, ?_⟩, h5, h6, fun k hk => (hD k hk).1⟩
    rcases h4.2 with h | ⟨g, cap, cur, e1, e2, e3, e4⟩
    · exact .inl h
    · exact .inr ⟨g, cap, cur, e1, e2, by rw [(hD g ((h6 g).2 (.inr (by rw [e1]; rfl)))).2]; exact e3, e4⟩
theorem isBox_bld {T E : TypeId} {c : Str} : IsBox (bldC T E c) := fun M D v w ⟨m, _, _, hv, _⟩ => ⟨m, hv⟩
/-- A new builder. -/
theorem bld_new {T E : TypeId} (M D : MSet) (v : Value) (w : World) (h : (cont T ((⟨.pointer none⟩, ⟨.slice none 0 0⟩) : Raw × Raw)).p M D v w) : (bldC T E ⟨[]⟩).p M D v w := by
  obtain ⟨m, cs, h1, h2, h3, h4, h5⟩ := h
  have hcs : cs = [.pointer none, .slice none 0 0] := by
    obtain ⟨c1, c2, e, ⟨g1, _⟩, g2, _⟩ := h5
    rw [e, g1, g2]; rfl
  subst hcs
  exact ⟨m, _, _, h1, .inl rfl, h4, World.ownsRow_nil _ _ _ _, by simp [Value.ownBlock], fun k => by rw [h2]; simp [Value.ownBlock], fun k hk => by rw [(h2 k).1 hk]; exact h3⟩

theorem own_lt {T E : TypeId} {c : Str} {M D : MSet} {w : World} {m : Nat} {p u : Value} (h3 : w.heap[m]? = some (.cells #[p, u] T (0, 0))) (h4 : w.ownsRow 0 E 1 u c.b.length (Go.Lib.byteCells c.b)) (h6 : ∀ k, D k ↔ (k = m ∨ u.ownBlock = some k)) : ∀ k, D k → k < w.heap.size := fun k hk => by
  rcases (h6 k).1 hk with rfl | h
  · exact (Array.getElem?_eq_some_iff.1 h3).1
  · exact (h4.lt k h).2

/-- What a builder's function comes to, if it leaves all other memory as it was. -/
theorem bld_post {T E : TypeId} {M D0 : MSet} {D : Nat → MSet} {w w' : World} {m : Nat} {p u : Value} {c : Str} {S : SPred} {v : Value} (hD0 : ∀ k, DU D 1 k ↔ D0 k) (hM : ∀ k, M k → k < w.heap.size) (hDM : ∀ k, D0 k → M k)
    (hp : p = .pointer none ∨ p = .pointer (some ⟨m, 0, none⟩)) (h3 : w'.heap[m]? = some (.cells #[p, u] T (0, 0))) (h4 : w'.ownsRow 0 E 1 u c.b.length (Go.Lib.byteCells c.b)) (h5 : u.ownBlock ≠ some m) (hm : D0 m)
    (hk : Keeps D0 w w') (hu : ∀ k, u.ownBlock = some k → D0 k ∨ w.heap.size ≤ k) (hS : ∀ M', S.p M' v w') : PostO ⟨w, M, DU D 1⟩ S [ptr m 0] [some (bldC T E c)] (.returned v) w' := by
  have hlt := own_lt (T := T) (E := E) (c := c) (M := M) (D := fun k => k = m ∨ u.ownBlock = some k) h3 h4 (fun k => Iff.rfl)
  refine ⟨v, fun k => M k ∨ (k = m ∨ u.ownBlock = some k), fun _ k => k = m ∨ u.ownBlock = some k, rfl, ⟨hk.1, hk.2, hk.3, hk.4, fun k h1 h2 => hk.5 k h1 (fun h => h2 ((hD0 k).2 h))⟩, fun k h => .inl (.inl h), fun k h => ?_, fun k h => ?_, hS _, ?_, ?_⟩
  · rcases h with h | rfl | h
    · exact .inl h
    · exact .inl (hDM _ hm)
    · exact (hu k h).imp (fun h => hDM _ h) id
  · rcases h with h | h
    · exact Nat.lt_of_lt_of_le (hM k h) hk.size
    · exact hlt k h
  · intro i c' hc
    match i, hc with
    | 0, hc =>
      simp only [List.getElem?_cons_zero, Option.some.injEq] at hc
      subst hc
      refine ⟨⟨m, p, u, rfl, hp, h3, h4, h5, fun k => Iff.rfl, fun k hk => .inr hk⟩, fun k hk => ?_⟩
      rcases hk with rfl | h
      · exact .inl ((hD0 _).2 hm)
      · exact (hu k h).imp (fun h => (hD0 _).2 h) id
  · intro i j c c' hi hj hne
    match i, j, hi, hj with
    | 0, 0, _, _ => omega
/-- The row of a builder grows: where it lies then. -/
theorem run_append_str {P : Program} (w : World) (t u ty e : TypeId) (i : TypeInfo) (ht : P.underlying t = some (.slice e)) (hu : P.underlying u = some .string) (hi : P.info? e = some i) (hz : i.zero = some (.int .u8 0)) (hsize : i.size = 1) (hby : i.bytes = 1)
    (v : Value) (n : Nat) (xs : List Value) (hown : w.ownsRow 0 e 1 v n xs) (s : ByteArray) (hb : n + s.size ≤ 70368744177664) :
    ∃ v' w', (Builtin.append_ #[t, u] ty #[v, .string s]).run P w = .ok v' w' ∧ w'.ownsRow 0 e 1 v' (n + s.size) (xs ++ Go.Lib.strCells s) ∧ w.grownBy w' v.ownBlock ∧ ∀ k, v'.ownBlock = some k → v.ownBlock = some k ∨ w.heap.size ≤ k := by
  have h1 : n + s.size ≤ maxLen := by unfold maxLen; omega
  obtain ⟨v', w', g1, g2, g3, _⟩ := Go.Lib.run_append_own_string (P := P) w 0 t u ty e i ht hu hi hz hsize hby v n xs hown s h1 (by omega) (Nat.zero_le _)
  refine ⟨v', w', g1, g2, g3, fun k hk => ?_⟩
  rcases hown.2 with ⟨rfl, rfl⟩ | ⟨g, cap, cur, rfl, f1, f2, f3, f4, f5, f6⟩
  · obtain ⟨v2, w2, q1, q2, _, _⟩ := Go.Lib.run_append_own_string (P := P) w w.heap.size t u ty e i ht hu hi hz hsize hby _ 0 xs ⟨hown.1, .inl ⟨rfl, rfl⟩⟩ s h1 (by omega) (Nat.le_refl _)
    rw [g1] at q1
    obtain ⟨rfl, rfl⟩ := Result.ok.inj q1
    exact .inr (q2.lt k hk).1
  · have hxl : xs.length = n * 1 := hown.1
    by_cases hr : n + s.size ≤ cap
    · have := Go.Lib.run_append_room_string (P := P) w t u ty e i ht hu hi hsize g n cap cur f2 s hr (by omega)
      rw [g1] at this
      obtain ⟨rfl, _⟩ := Result.ok.inj this
      left
      rw [← hk]; rfl
    · have := Go.Lib.run_append_grow_string (P := P) w t u ty e i (.int .u8 0) ht hu hi hz ⟨g, 0, none⟩ n cap xs (by rw [hsize]; exact hxl) (hown.cells (g := g) rfl) s (by omega) (by omega) (by rw [hby]; exact growslice_fits (by omega) (by omega))
      rw [g1] at this
      obtain ⟨rfl, _⟩ := Result.ok.inj this
      right
      have : w.heap.size = k := by simpa [Value.ownBlock] using hk
      omega
theorem wp_append_str {P : Program} {w : World} {ops : Array Oper} {rest : List Oper} {o : Oper} {a : Act} {Q : Exit → Act → World → Prop} (hgd : o.guard = none) (sl x : Operand) (t u : TypeId) (ho : o.op = .call { callee := .builtin .append, args := #[sl, x], argTypes := #[t, u] })
    (e : TypeId) (i : TypeInfo) (ht : P.underlying t = some (.slice e)) (hu : P.underlying u = some .string) (hi : P.info? e = some i) (hz : i.zero = some (.int .u8 0)) (hsize : i.size = 1) (hby : i.bytes = 1)
    (v : Value) (n : Nat) (xs : List Value) (hs : a.eval sl = v) (hown : w.ownsRow 0 e 1 v n xs) (s : ByteArray) (hx : a.eval x = .string s) (hb : n + s.size ≤ 70368744177664)
    (h : ∀ v' w', w'.ownsRow 0 e 1 v' (n + s.size) (xs ++ Go.Lib.strCells s) → w.grownBy w' v.ownBlock → (∀ k, v'.ownBlock = some k → v.ownBlock = some k ∨ w.heap.size ≤ k) → wpList P ops Q rest (a.put o.dst v') w') : wpList P ops Q (o :: rest) a w := by
  refine wpList_plain hgd fun K hK => ?_
  obtain ⟨v', w', g1, g2, g3, g4⟩ := run_append_str (P := P) w t u o.type e i ht hu hi hz hsize hby v n xs hown s hb
  have hr : (execOp a.eval o).run P w = .ok (.value v') w' := by
    unfold execOp
    simp only [ho, resolve, invoke, builtin, Sem.run_bind, Sem.run_pure, Result.andThen_ok, List.map_toArray, List.map_cons, List.map_nil, hs, hx, g1]
  unfold Oper.wp
  rw [hr]
  exact hK _ _ (h v' w' g2 g3 g4)

/-- copyCheck: a builder is used for the first time, or again: its own address is written down. -/
def ChecksCopy (P : Program) (f T : Nat) : Prop := ∀ (m : Nat) (p u : Value) (w : World), (p = .pointer none ∨ p = .pointer (some ⟨m, 0, none⟩)) → w.heap[m]? = some (.cells #[p, u] T (0, 0)) →
  Calls P f #[.pointer (some ⟨m, 0, none⟩)] w fun e w' => e = .returned (.tuple #[]) ∧ w'.heap[m]? = some (.cells #[.pointer (some ⟨m, 0, none⟩), u] T (0, 0)) ∧ w'.os = w.os ∧ w'.tape = w.tape ∧ w'.output = w.output ∧ w'.heap.size = w.heap.size ∧ ∀ k, k ≠ m → w'.heap[k]? = w.heap[k]?
/-- What WriteString leaves: what is written goes behind what was there; all other memory stays. -/
def WSEnd (T E m : Nat) (u : Value) (c s : List UInt8) (w : World) (e : Ending) (w' : World) : Prop := e = .returned (.tuple #[.int .i64 s.length, .nilIface]) ∧ ∃ u', w'.heap[m]? = some (.cells #[.pointer (some ⟨m, 0, none⟩), u'] T (0, 0)) ∧
  w'.ownsRow 0 E 1 u' (c ++ s).length (Go.Lib.byteCells (c ++ s)) ∧ u'.ownBlock ≠ some m ∧ (∀ k, u'.ownBlock = some k → u.ownBlock = some k ∨ w.heap.size ≤ k) ∧
  w'.os = w.os ∧ w'.tape = w.tape ∧ w'.output = w.output ∧ w.heap.size ≤ w'.heap.size ∧ ∀ k, k < w.heap.size → k ≠ m → u.ownBlock ≠ some k → w'.heap[k]? = w.heap[k]?
def WritesStr (P : Program) (f T E : Nat) : Prop := ∀ (m : Nat) (p u : Value) (c s : List UInt8) (w : World), (p = .pointer none ∨ p = .pointer (some ⟨m, 0, none⟩)) → w.heap[m]? = some (.cells #[p, u] T (0, 0)) →
  w.ownsRow 0 E 1 u c.length (Go.Lib.byteCells c) → u.ownBlock ≠ some m → c.length + s.length ≤ 70368744177664 → Calls P f #[.pointer (some ⟨m, 0, none⟩), .string ⟨s.toArray⟩] w (WSEnd T E m u c s w)
theorem own_turn {T E m : Nat} {u : Value} {n : Nat} {xs : List Value} {w w1 : World} (h4 : w.ownsRow 0 E 1 u n xs) (h5 : u.ownBlock ≠ some m) (g6 : ∀ k, k ≠ m → w1.heap[k]? = w.heap[k]?) : w1.ownsRow 0 E 1 u n xs := by
  refine ⟨h4.1, ?_⟩
  rcases h4.2 with h | ⟨g, cap, cur, f1, f2, f3, f4⟩
  · exact .inl h
  · refine .inr ⟨g, cap, cur, f1, f2, ?_, f4⟩
    rw [g6 g (fun e => h5 (by rw [f1, e]; rfl))]; exact f3
theorem own_shape {E n : Nat} {v : Value} {xs : List Value} {w : World} (h : w.ownsRow 0 E 1 v n xs) : ∃ ao n' cap, v = .slice ao n' cap := by
  rcases h.2 with ⟨hv, _⟩ | ⟨g, cap, cur, hv, _⟩
  · exact ⟨_, _, _, hv⟩
  · exact ⟨_, _, _, hv⟩
theorem ws_end {T E m : Nat} {p u : Value} {c s : List UInt8} {w w1 w2 : World} {ao : Option Addr} {n' cap : Nat} (hne0 : T ≠ E) (h3 : w.heap[m]? = some (.cells #[p, u] T (0, 0))) (h5 : u.ownBlock ≠ some m) (g2 : w1.os = w.os) (g3 : w1.tape = w.tape) (g4 : w1.output = w.output) (g5 : w1.heap.size = w.heap.size) (g6 : ∀ k, k ≠ m → w1.heap[k]? = w.heap[k]?)
    (hm2 : w2.heap[m]? = some (.cells #[.pointer (some ⟨m, 0, none⟩), u] T (0, 0))) (hown2 : w2.ownsRow 0 E 1 (.slice ao n' cap) (c.length + (ByteArray.mk s.toArray).size) (Go.Lib.byteCells c ++ Go.Lib.strCells ⟨s.toArray⟩)) (hgrow : w1.grownBy w2 u.ownBlock)
    (hwhere : ∀ k, (Value.slice ao n' cap).ownBlock = some k → u.ownBlock = some k ∨ w.heap.size ≤ k) : WSEnd T E m u c s w (.returned (.tuple #[.int .i64 s.length, .nilIface])) (w2.setCell ⟨m, 1, none⟩ (.slice ao n' cap)) := by
  have hm := (Array.getElem?_eq_some_iff.1 h3).1
  have hne : (Value.slice ao n' cap).ownBlock ≠ some m := fun e => by
    rcases hown2.2 with ⟨hv, _⟩ | ⟨g, cap, cur, hv, _, hg, _⟩
    · rw [hv] at e; cases e
    · rw [hv] at e
      have : g = m := by simpa [Value.ownBlock] using e
      rw [this, hm2] at hg
      simp only [Option.some.injEq, Obj.cells.injEq] at hg
      exact hne0 hg.2.1
  refine ⟨rfl, .slice ao n' cap, ?_, ?_, hne, ?_, ?_⟩
  · simp [World.setCell, Array.getElem?_modify, hm2]
  · have hcl : (c ++ s).length = c.length + (ByteArray.mk s.toArray).size := by rw [List.length_append]; rfl
    have hbc : Go.Lib.byteCells (c ++ s) = Go.Lib.byteCells c ++ Go.Lib.strCells ⟨s.toArray⟩ := by rw [Go.Lib.byteCells_append]; rfl
    rw [hcl, hbc]
    refine ⟨hown2.1, ?_⟩
    rcases hown2.2 with h | ⟨g, cap', cur, q1, q2, q3, q4⟩
    · exact .inl h
    · refine .inr ⟨g, cap', cur, q1, q2, ?_, q4⟩
      simp only [World.setCell, Array.getElem?_modify]
      rw [if_neg (fun e => hne (by rw [q1, e]; rfl))]; exact q3
  · exact hwhere
  · refine ⟨?_, ?_, ?_, ?_, fun k hk hkm hku => ?_⟩
    · show w2.os = w.os; rw [hgrow.os, g2]
    · show w2.tape = w.tape; rw [hgrow.tape, g3]
    · show w2.output = w.output; rw [hgrow.output, g4]
    · have := hgrow.size; simp [World.setCell]; omega
    · simp only [World.setCell, Array.getElem?_modify]
      rw [if_neg (Ne.symm hkm), hgrow.block k (by omega) (fun e => hku e.symm), g6 k hkm]

section
open Go.Proofs Go.Shelf
variable {P : Program} {ρ : Ren}

set_option maxHeartbeats 1000000 in
set_option maxRecDepth 100000 in
/-- The string of what was written; all memory but the builder's stays. -/
theorem builder_string (L : Lays.n169 P ρ) (X : Builder.Extra P ρ) {m : Nat} {p u : Value} {c : List UInt8} {w : World} (h3 : w.heap[m]? = some (.cells #[p, u] (ρ.t 72) (0, 0))) (h4 : w.ownsRow 0 (ρ.t 5) 1 u c.length (Go.Lib.byteCells c)) :
    Calls P (ρ.f 169) #[.pointer (some ⟨m, 0, none⟩)] w fun e w' => e = .returned (.string ⟨c.toArray⟩) ∧ w'.os = w.os ∧ w'.tape = w.tape ∧ w'.output = w.output ∧ w.heap.size ≤ w'.heap.size ∧ ∀ k, k < w.heap.size → u.ownBlock ≠ some k → w'.heap[k]? = w.heap[k]? := by
  have below : ∀ {e : Ending} {w' : World}, e = .returned (.string ⟨#[]⟩) ∧ Below w.heap.size w w' → e = .returned (.string ⟨([] : List UInt8).toArray⟩) ∧ w'.os = w.os ∧ w'.tape = w.tape ∧ w'.output = w.output ∧ w.heap.size ≤ w'.heap.size ∧ ∀ k, k < w.heap.size → u.ownBlock ≠ some k → w'.heap[k]? = w.heap[k]? :=
    fun ⟨h1, hb⟩ => ⟨h1, hb.os, hb.tape, hb.output, hb.size, fun k hk _ => hb.block k hk⟩
  rcases h4.2 with ⟨rfl, hz⟩ | ⟨g, cap, cur, rfl, f1, f2, f3, f4, f5, f6⟩
  · obtain rfl : c = [] := List.eq_nil_of_length_eq_zero hz
    exact Calls.mono (Any.Builder_String_nil L X w.heap.size m p w h3) fun e w' h => below h
  by_cases hc0 : c = []
  · subst hc0
    by_cases hcap : cap = 0
    · subst hcap
      exact Calls.mono (Any.Builder_String_noroom L X w.heap.size m g p cur w (Nat.le_refl _) h3 f2) fun e w' h => below h
    · exact Calls.mono (Any.Builder_String_room L X w.heap.size m g cap p w hcap h3) fun e w' h => below h
  · have hl0 : c.length ≠ 0 := by simpa using hc0
    have c1 : w.drew.cell? ⟨m, 1, none⟩ = some (.slice (some ⟨g, 0, none⟩) c.length cap) := by
      have : w.drew.heap[m]? = some (.cells #[p, .slice (some ⟨g, 0, none⟩) c.length cap] (ρ.t 72) (0, 0)) := h3
      rw [Go.DB.cell_of_heap this]; rfl
    have hSD : (Builtin.unsafeSliceData_ #[(ρ.t 37)] (ρ.t 127) #[.slice (some ⟨g, 0, none⟩) c.length cap]).run P w.drew = .ok (.pointer (some ⟨g, 0, none⟩)) w.drew :=
      Go.Lib.run_unsafeSliceData_row _ _ _ _ _ _ (by omega)
    have hUS : (Builtin.unsafeString_ #[(ρ.t 127), (ρ.t 3)] (ρ.t 9) #[.pointer (some ⟨g, 0, none⟩), .int .i64 c.length]).run P w.drew = .ok (.string ⟨c.toArray⟩) (w.drew.freeze ⟨g, 0, none⟩ c.length) :=
      Go.Lib.run_unsafeString_row w.drew (ρ.t 127) (ρ.t 3) (ρ.t 9) (ρ.t 5) L.t127 X.cellsByte g cur.size (by have : w.drew.heap[g]? = some (.cells cur (ρ.t 5) (0, 0)) := f2; simp [World.shape?, this]) c hc0 (by omega) (by unfold maxLen at f4; omega)
        (fun j x hx => h4.cells (g := g) rfl j (.int .u8 x.toNat) (by simp [Go.Lib.byteCells, hx]))
    have hfr : ∀ k, (Value.slice (some ⟨g, 0, none⟩) c.length cap).ownBlock ≠ some k → (w.drew.freeze ⟨g, 0, none⟩ c.length).heap[k]? = w.heap[k]? := fun k hk => by
      unfold World.freeze
      rw [if_neg hl0]
      simp only [Array.getElem?_modify]
      rw [if_neg (fun e => hk (by rw [← e]; rfl))]
      rfl
    have hsz : (w.drew.freeze ⟨g, 0, none⟩ c.length).heap.size = w.heap.size := by
      unfold World.freeze
      rw [if_neg hl0]
      simp only [Array.size_modify]; rfl
    have hrest : (w.drew.freeze ⟨g, 0, none⟩ c.length).os = w.os ∧ (w.drew.freeze ⟨g, 0, none⟩ c.length).tape = w.tape ∧ (w.drew.freeze ⟨g, 0, none⟩ c.length).output = w.output := by
      unfold World.freeze
      rw [if_neg hl0]
      exact ⟨rfl, rfl, rfl⟩
    have mixed := L.mixed
    have t72 := L.t72; have a72 := L.a72; have z72 := L.z72; have v72 := L.v72; have u72 := run_underlying L.t72
    have t70 := L.t70; have a70 := L.a70; have z70 := L.z70; have v70 := L.v70; have u70 := run_underlying L.t70
    have t37 := L.t37; have a37 := L.a37; have z37 := L.z37; have v37 := L.v37; have u37 := run_underlying L.t37
    have t127 := L.t127; have a127 := L.a127; have z127 := L.z127; have v127 := L.v127; have u127 := run_underlying L.t127
    have t3 := L.t3; have a3 := L.a3; have z3 := L.z3; have v3 := L.v3; have u3 := run_underlying L.t3
    have t9 := L.t9; have a9 := L.a9; have z9 := L.z9; have v9 := L.v9; have u9 := run_underlying L.t9
    have t5 := X.t5; have a5 := X.a5; have z5 := X.z5; have v5 := X.v5; have u5 := run_underlying X.t5
    go_enter L.f169, Body.n169_ntmps ρ
    go_wp2
    go_region_o
    all_goals (go_wp2; go_ret; exact ⟨rfl, hrest.1, hrest.2.1, hrest.2.2, by rw [hsz]; exact Nat.le_refl _, fun k _ hk => hfr k hk⟩)

theorem du_one {D : Nat → MSet} (k : Nat) : DU D 1 k ↔ D 0 k := by
  constructor
  · rintro ⟨i, hi, h⟩
    obtain rfl : i = 0 := by omega
    exact h
  · exact fun h => ⟨0, by omega, h⟩
theorem ptr_inj {m m' : Nat} (h : ptr m 0 = ptr m' 0) : m = m' := by
  unfold ptr at h
  simpa using h
/-- WriteString. -/
theorem bldWrite_spec {f T E : Nat} (W : WritesStr P f T E) (ok : FnOK P f) {m : Nat} {c s : Str} (hl : c.b.length + s.b.length ≤ 70368744177664) :
    FSpecO P f [isV (ptr m 0), rep s] [(ptr m 0, bldC T E c)] anyV [some (bldC T E ⟨c.b ++ s.b⟩)] := by
  refine ⟨ok, fun M D w vs hM ha hO => ?_⟩
  match vs, ha with
  | [v, x], ⟨hv, hx, _⟩ =>
    obtain ⟨rfl, _⟩ := rep_raw.1 hv
    obtain ⟨rfl, _⟩ := rep_str.1 hx
    obtain ⟨m', p, u, e, hp, h3, h4, h5, h6, h7⟩ := hO.has 0 (ptr m 0) _ rfl
    obtain rfl := ptr_inj e
    refine Calls.mono (W m p u c.b s.b w hp h3 h4 h5 hl) ?_
    rintro e w' ⟨rfl, u', g1, g2, g3, g4, k1, k2, k3, k4, k5⟩
    exact bld_post (D0 := D 0) (c := ⟨c.b ++ s.b⟩) (fun k => du_one k) (fun k hk => hM.lt k hk) h7 (.inr rfl) g1 g2 g3 ((h6 m).2 (.inl rfl)) ⟨k1, k2, k3, k4, fun k hk hn => k5 k hk (fun e => hn ((h6 k).2 (.inl e))) (fun e => hn ((h6 k).2 (.inr e)))⟩
      (fun k hk => (g4 k hk).imp (fun h => (h6 k).2 (.inr h)) id) (fun _ => trivial)
/-- String: the builder is not used any more. -/
theorem bldString_spec (L : Lays.n169 P ρ) (X : Builder.Extra P ρ) {f T E : Nat} (hf : ρ.f 169 = f) (hT : ρ.t 72 = T) (hE : ρ.t 5 = E) (ok : FnOK P f) {m : Nat} {c : Str} (hl : c.b.length ≤ 70368744177664) :
    FSpecO P f [isV (ptr m 0)] [(ptr m 0, bldC T E c)] (rep c) [none] := by
  refine ⟨ok, fun M D w vs hM ha hO => ?_⟩
  match vs, ha with
  | [v], ⟨hv, _⟩ =>
    obtain ⟨rfl, _⟩ := rep_raw.1 hv
    obtain ⟨m', p, u, e, hp, h3, h4, h5, h6, h7⟩ := hO.has 0 (ptr m 0) _ rfl
    obtain rfl := ptr_inj e
    subst hf hT hE
    refine Calls.mono (builder_string L X h3 h4) ?_
    rintro e w' ⟨rfl, k1, k2, k3, k4, k5⟩
    refine ⟨_, M, fun _ _ => False, rfl, ⟨k1, k2, k3, k4, fun k hk hn => k5 k hk (fun e => hn ((du_one k).2 ((h6 k).2 (.inr e))))⟩, fun k h => .inl h, fun k h => .inl h, fun k h => Nat.lt_of_lt_of_le (hM.lt k h) k4, rep_str.2 ⟨rfl, by omega⟩, ?_, ?_⟩
    · intro i c' hc
      match i, hc with
      | 0, hc => cases hc
    · intro i j c c' hi hj hne
      match i, j, hi, hj with
      | 0, 0, _, _ => omega
/-- Len. -/
theorem bldLen_spec (L : Lays.n170 P ρ) {f T E : Nat} (hf : ρ.f 170 = f) (hT : ρ.t 72 = T) (hE : ρ.t 5 = E) (ok : FnOK P f) {m : Nat} {c : Str} (hl : c.b.length ≤ 70368744177664) :
    FSpecO P f [isV (ptr m 0)] [(ptr m 0, bldC T E c)] (rep (c.b.length : Int)) [some (bldC T E c)] := by
  refine ⟨ok, fun M D w vs hM ha hO => ?_⟩
  match vs, ha with
  | [v], ⟨hv, _⟩ =>
    obtain ⟨rfl, _⟩ := rep_raw.1 hv
    obtain ⟨m', p, u, e, hp, h3, h4, h5, h6, h7⟩ := hO.has 0 (ptr m 0) _ rfl
    obtain rfl := ptr_inj e
    subst hf hT hE
    have hB : Go.Lib.IsBuilder (ρ.t 72) (ρ.t 5) 0 m (Go.Lib.byteCells c.b) w := by
      have hAt : Go.Lib.BuilderAt (ρ.t 72) (ρ.t 5) 0 m p (Go.Lib.byteCells c.b) w := ⟨Nat.zero_le _, u, h3, by rw [Go.Lib.byteCells_length]; exact h4, h5⟩
      rcases hp with rfl | rfl
      · exact .inl hAt
      · exact .inr hAt
    refine Calls.mono (Any.Builder_Len L 0 m _ w hB) ?_
    rintro e w' ⟨rfl, rfl⟩
    rw [Go.Lib.byteCells_length]
    refine bld_post (D0 := D 0) (c := c) (fun k => du_one k) (fun k hk => hM.lt k hk) h7 hp h3 h4 h5 ((h6 m).2 (.inl rfl)) (Keeps.refl _ _) (fun k hk => .inl ((h6 k).2 (.inr hk))) (fun _ => rep_int.2 ⟨rfl, ?_⟩)
    unfold InI; omega
end
end Go.DB
