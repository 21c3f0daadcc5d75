/-
  Rows into which the elements of other rows are put: capacities, parts up to the capacity, copies into a row of one's own, zeros behind a row.
-/
import Derived.Test.YtlkebjlooppdlaaGreatDoorCoreG
import Derived.Lib.Overlaps
import Derived.Lib.AppendZerosOnto
set_option linter.unusedVariables false
set_option linter.unusedSimpArgs false
namespace Go.DB
open Go Go.RowKit

section
variable {P : Program} {Q : Exit → Act → World → Prop} {n : Nat} {F : Fr} {L : Slots} {B : Owns}

/-- Where a told row lies. -/
theorem Cod.tellSl {c : Code} {k E : Nat} {α : Type} [Rep α] {l : List α} {s : Value} (hl : lookB B k = some (CPred.at s (rowV E l)))
    (h : ∀ ad cap, s = .slice ad l.length cap → l.length ≤ cap → cap ≤ 9223372036854775807 → (∀ x, ad = some x → x.spot = none) → (ad = none → l = []) → Cod P c Q n F L B) : Cod P c Q n F L B := by
  intro a w hs
  obtain ⟨M, D, hs1⟩ := id hs
  obtain ⟨ad, cap, e, h1, h2, h3⟩ := hs1.hasB k _ hl
  refine h ad cap e h1 h2 (fun x hx => ?_) (fun hn => ?_) a w hs
  · subst hx; exact h3.1
  · subst hn; exact h3.1
/-- Two told rows lie apart. -/
theorem Cod.apartSl {c : Code} {k k2 E E2 : Nat} {α : Type} [Rep α] {l l2 : List α} {x y : Addr} {n1 c1 n2 c2 : Nat} (hl : lookB B k = some (CPred.at (.slice (some x) n1 c1) (rowV E l))) (hl2 : lookB B k2 = some (CPred.at (.slice (some y) n2 c2) (rowV E2 l2))) (hne : k ≠ k2)
    (h : x.block ≠ y.block → Cod P c Q n F L B) : Cod P c Q n F L B := by
  intro a w hs
  obtain ⟨M, D, hs1⟩ := id hs
  obtain ⟨ad, cap, e, _, _, h3⟩ := hs1.hasB k _ hl
  obtain ⟨ad2, cap2, e2, _, _, h32⟩ := hs1.hasB k2 _ hl2
  simp only [Value.slice.injEq] at e e2
  obtain ⟨rfl, -, -⟩ := e
  obtain ⟨rfl, -, -⟩ := e2
  exact h (fun he => hs1.apart k k2 _ _ hl hl2 hne x.block ((h3.2.1 _).2 rfl) ((h32.2.1 _).2 he)) a w hs
end

section
variable {P : Program} {ops : Array Oper} {fs : Nat} {L : Slots} {B : Owns} {ty : TypeId} {pos : String} {after : Array Edge} {d : Option Tmp} {xr : List Nat}

theorem ex_cap {ρ : Operand → Value} {x : Operand} {T E : Nat} {o : Option Addr} {n cap : Nat} {w : World} {g : Option (Nat × Bool)} (hT : SliceOf P T E) (hx : ρ x = .slice o n cap) :
    (execOp ρ ⟨d, .call { callee := .builtin .cap, args := #[x], argTypes := #[T] }, ty, pos, after, g⟩).run P w = .ok (.value (.int .i64 cap)) w := by
  have hun : (underlying T).run P w = .ok (.slice E) w := by simp [underlying, show P.underlying T = _ from hT, go_sem]
  simp only [execOp, resolve, invoke, builtin, Builtin.cap_, Array.map]
  simp [go_sem, hun, hx, goInt]
theorem StepOK.capV {x : Operand} {T E : Nat} {o : Option Addr} {n cap : Nat} (hT : SliceOf P T E) (hx : Opd L True x (isV (.slice o n cap))) (hc : cap ≤ 9223372036854775807) :
    StepOK P ops fs ⟨d, .call { callee := .builtin .cap, args := #[x], argTypes := #[T] }, ty, pos, after, none⟩ L B (xr, []) ⟨True, rep (cap : Int)⟩ [] :=
  .pure .none fun M a w _ hs hG => by
    have hv := (rep_raw.1 (hx.get hs (fun t ht => looksAt_op (call_ops (by simp [ht]))) trivial)).1
    exact ⟨_, ex_cap hT hv, rep_int.2 ⟨rfl, by unfold InI; omega⟩⟩
theorem StepOK.lenV {x : Operand} {T E : Nat} {o : Option Addr} {n cap : Nat} (hT : SliceOf P T E) (hx : Opd L True x (isV (.slice o n cap))) (hc : n ≤ 9223372036854775807) :
    StepOK P ops fs ⟨d, .call { callee := .builtin .len, args := #[x], argTypes := #[T] }, ty, pos, after, none⟩ L B (xr, []) ⟨True, rep (n : Int)⟩ [] :=
  .pure .none fun M a w _ hs hG => by
    have hv := (rep_raw.1 (hx.get hs (fun t ht => looksAt_op (call_ops (by simp [ht]))) trivial)).1
    exact ⟨_, ex_len hT hv, rep_int.2 ⟨rfl, by unfold InI; omega⟩⟩

theorem run_partC {T E : Nat} {α : Type} [Rep α] {o : Option Addr} {n cap : Nat} {lo hi : Option Value} {i j : Int} {w : World} (hT : SliceOf P T E) (hE : Ty P E α) (h0 : 0 ≤ i) (h1 : i ≤ j) (h2 : j ≤ cap) (hn : n ≤ cap)
    (hlov : (lo = none ∧ i = 0) ∨ lo = some (.int .i64 i)) (hhiv : (hi = none ∧ j = n) ∨ hi = some (.int .i64 j)) :
    (Instr.sliceAt T (.slice o n cap) lo hi none).run P w = .ok (sliced o i.toNat j.toNat cap (Rep.sz α)) w := by
  obtain ⟨ti, hti, hsize⟩ := Option.map_eq_some_iff.1 hE.size
  have hTe : P.underlying T = some (.slice (P.elem T)) ∧ P.elem T = E := by
    have : P.elem T = E := by unfold Program.elem; rw [show P.underlying T = _ from hT]
    exact ⟨by rw [this]; exact hT, this⟩
  have hsz : (sizeOf (P.elem T)).run P w = .ok (Rep.sz α) w := by rw [hTe.2]; simp [sizeOf, typeInfo, hti, hsize, go_sem]
  rw [run_sliceAt_slice (h := hTe.1)]
  rcases hlov with ⟨e1, rfl⟩ | e1 <;> rcases hhiv with ⟨e2, rfl⟩ | e2 <;> rw [e1, e2]
  · rw [run_slice_all w T o n cap hTe.1, hsz]; simp [Result.andThen]
  · rw [run_slice_h w T o n cap hTe.1 .i64 j (by omega) (by omega), hsz]; simp [Result.andThen]
  · rw [run_slice_l w T o n cap hTe.1 .i64 i (by omega) (by omega), hsz]; simp [Result.andThen]
  · rw [run_slice_lh w T o n cap hTe.1 .i64 .i64 i j (by omega) (by omega) (by omega), hsz]; simp [Result.andThen]
/-- A part of a known slice, up to its capacity. -/
theorem StepOK.sliceV {T E : Nat} {x : Operand} {lo hi : Option Operand} {α : Type} [Rep α] {o : Option Addr} {n cap : Nat} {i j : Int} (hT : SliceOf P T E) (hE : Ty P E α) (hx : Opd L True x (isV (.slice o n cap)))
    (hlo : match lo with | some o => Opd L True o (rep i) | none => i = 0) (hhi : match hi with | some o => Opd L True o (rep j) | none => j = n) (h0 : 0 ≤ i) (h1 : i ≤ j) (h2 : j ≤ cap) (hn : n ≤ cap) {v : Value} (hv : sliced o i.toNat j.toNat cap (Rep.sz α) = v) :
    StepOK P ops fs ⟨d, .slice T x lo hi none, ty, pos, after, none⟩ L B (xr, []) ⟨True, isV v⟩ [] :=
  .pure .none fun M a w _ hs hG => by
    subst hv
    have hv : a.eval x = .slice o n cap := (rep_raw.1 (hx.get hs (fun t ht => looksAt_op (by simp [Op.operands, ht])) trivial)).1
    have hlov := lo_at hlo hs (fun t ht => looksAt_op (by simp [Op.operands, ht])) trivial
    have hhiv := lo_at hhi hs (fun t ht => looksAt_op (by simp [Op.operands, ht])) trivial
    have hrun := run_partC (P := P) (w := w) (o := o) (n := n) (cap := cap) hT hE h0 h1 h2 hn hlov hhiv
    refine ⟨sliced o i.toNat j.toNat cap (Rep.sz α), ?_, rep_raw.2 ⟨rfl, rfl, rfl⟩⟩
    simp only [execOp, hv]
    rw [Sem.run_bind]
    simp only [Option.map] at hrun ⊢
    rw [hrun]; rfl
theorem sliced_at {b off i j cap sz : Nat} (h : i < cap) : sliced (some ⟨b, off, none⟩) i j cap sz = .slice (some ⟨b, off + i * sz, none⟩) (j - i) (cap - i) := by
  simp only [sliced]
  rw [if_neg (by omega), Option.map_some, add_none]
theorem sliced_head {b off j cap sz : Nat} : sliced (some ⟨b, off, none⟩) 0 j cap sz = .slice (some ⟨b, off, none⟩) j cap := part_head (n := 0)

theorem sliced_atI {b off i j cap sz : Nat} (h : i < cap) : sliced (some ⟨b, off, none⟩) (i : Int).toNat (j : Int).toNat cap sz = .slice (some ⟨b, off + i * sz, none⟩) (j - i) (cap - i) := sliced_at h
theorem sliced_headI {b off j cap sz : Nat} : sliced (some ⟨b, off, none⟩) (0 : Int).toNat (j : Int).toNat cap sz = .slice (some ⟨b, off, none⟩) j cap := sliced_head

theorem run_copy_in {T t t2 : Nat} {i : TypeInfo} {w : World} {m off dn dc n sn sc : Nat} {sa : Addr} {news pre mid rest : List Value} {E : TypeId} (ht : P.underlying t = some (.slice E)) (hi : P.info? E = some i) (hn : n = Nat.min sn dn)
    (hnews : (Builtin.firstCells i.size n (.slice (some sa) sn sc)).run P w = .ok news.toArray w) (h1 : ∀ c ∈ news, isOne c = true)
    (hpre : pre.length = off) (hmid : mid.length = news.length) (hh : w.heap[m]? = some (.cells (pre ++ mid ++ rest).toArray T (0, 0))) :
    ∃ w', (Builtin.copy_ #[t, t2] ty #[.slice (some ⟨m, off, none⟩) dn dc, .slice (some sa) sn sc]).run P w = .ok (goInt n) w' ∧ w'.heap[m]? = some (.cells (pre ++ news ++ rest).toArray T (0, 0)) ∧
      w'.os = w.os ∧ w'.tape = w.tape ∧ w'.output = w.output ∧ w'.heap.size = w.heap.size ∧ ∀ k, k ≠ m → w'.heap[k]? = w.heap[k]? := by
  obtain ⟨w', g1, g2⟩ := run_storeCells (P := P) (m := m) (off := off) (T := T) news pre mid rest w 0 hmid h1 (by omega) hh
  refine ⟨w', ?_, g2⟩
  subst hn
  simp only [Builtin.firstCells] at hnews
  simp [Builtin.copy_, run_underlying ht, sizeOf, typeInfo, hi, Builtin.lenOf, Builtin.firstCells, hnews, g1]
theorem ex_append2 {ρ : Operand → Value} {s x : Operand} {t t2 : Nat} {v : Value} {g : Option (Nat × Bool)} {w w' : World} (h : (Builtin.append_ #[t, t2] ty #[ρ s, ρ x]).run P w = .ok v w') :
    (execOp ρ ⟨d, .call { callee := .builtin .append, args := #[s, x], argTypes := #[t, t2] }, ty, pos, after, g⟩).run P w = .ok (.value v) w' := by
  unfold execOp
  simp only [resolve, invoke, builtin, Sem.run_bind, Sem.run_pure, Result.andThen_ok, List.map_toArray, List.map_cons, List.map_nil, h]
theorem ex_copy {ρ : Operand → Value} {s x : Operand} {t t2 : Nat} {v : Value} {g : Option (Nat × Bool)} {w w' : World} (h : (Builtin.copy_ #[t, t2] ty #[ρ s, ρ x]).run P w = .ok v w') :
    (execOp ρ ⟨d, .call { callee := .builtin .copy, args := #[s, x], argTypes := #[t, t2] }, ty, pos, after, g⟩).run P w = .ok (.value v) w' := by
  unfold execOp
  simp only [resolve, invoke, builtin, Sem.run_bind, Sem.run_pure, Result.andThen_ok, List.map_toArray, List.map_cons, List.map_nil, h]

/-- A row with a gap: the cells are there, and hold whatever. -/
def rowGap (T : TypeId) {α : Type} [Rep α] (A : List α) (m : Nat) (C : List α) : CPred where
  p := fun M D v w => ∃ (ad : Addr) (n cap : Nat), v = .slice (some ad) n cap ∧ A.length + m + C.length ≤ cap ∧ cap ≤ 9223372036854775807 ∧ ad.spot = none ∧ (∀ k, D k ↔ k = ad.block) ∧ M ad.block ∧
    ∃ pre ca mid cc rest : List Value, w.heap[ad.block]? = some (.cells (pre ++ ca ++ mid ++ cc ++ rest).toArray T (0, 0)) ∧ pre.length = ad.off ∧ Elems M w A ca ∧ mid.length = m * Rep.sz α ∧ Elems M w C cc ∧ (cap - (A.length + m + C.length)) * Rep.sz α ≤ rest.length
  inM := fun M D v w ⟨ad, n, cap, _, _, _, _, hD, hM, _⟩ k hk => (hD k).1 hk ▸ hM
  law := fun M M' D v w w' hk hm hown ⟨ad, n, cap, hv, h1, h2, hs, hD, hM, pre, ca, mid, cc, rest, hh, hp, ha, hl, hc, hr⟩ => by
    obtain ⟨g1, g2⟩ := hown ad.block ((hD _).2 rfl)
    exact ⟨ad, n, cap, hv, h1, h2, hs, hD, g1, pre, ca, mid, cc, rest, by rw [g2]; exact hh, hp, Elems.law hk hm A ca ha, hl, Elems.law hk hm C cc hc, hr⟩

theorem Elems.split {α : Type} [Rep α] {M : MSet} {w : World} : ∀ {A C : List α} {cs : List Value}, Elems M w (A ++ C) cs → ∃ ca cc, cs = ca ++ cc ∧ Elems M w A ca ∧ Elems M w C cc
  | [], _, cs, h => ⟨[], cs, rfl, rfl, h⟩
  | a :: A, C, _, ⟨c, r, rfl, hc, hr⟩ => by
    obtain ⟨ca, cc, rfl, h1, h2⟩ := Elems.split hr
    exact ⟨c ++ ca, cc, (List.append_assoc _ _ _).symm, ⟨c, ca, rfl, hc, h1⟩, h2⟩
/-- What lies between may be whatever. -/
theorem gap_of_row {T : TypeId} {α : Type} [Rep α] {A X C : List α} {b off n cap N : Nat} {M D : MSet} {w : World} (h : (rowV T (A ++ X ++ C)).p M D (.slice (some ⟨b, off, none⟩) N cap) w) :
    (rowGap T A X.length C).p M D (.slice (some ⟨b, off, none⟩) n cap) w := by
  obtain ⟨ad, cap', e, h1, h2, h3⟩ := h
  simp only [Value.slice.injEq] at e
  obtain ⟨rfl, hN, rfl⟩ := e
  obtain ⟨hs, hD, hM, pre, cs, rest, hh, hp, he, hr⟩ := h3
  obtain ⟨c1, cc, rfl, he1, hc⟩ := Elems.split he
  obtain ⟨ca, cx, rfl, ha, hx⟩ := Elems.split he1
  simp only [List.length_append] at h1 hr
  exact ⟨_, _, _, rfl, h1, h2, rfl, hD, hM, pre, ca, cx, cc, rest, by rw [hh]; simp, hp, ha, Elems.len _ _ hx, hc, hr⟩
theorem cells_there {w : World} {b off : Nat} {T : TypeId} {pre mid rest : List Value} (hh : w.heap[b]? = some (.cells (pre ++ mid ++ rest).toArray T (0, 0))) (hp : pre.length = off) : ∀ j u, mid[j]? = some u → w.cell? ((⟨b, off, none⟩ : Addr).add j) = some u := by
  intro j u hu
  rw [add_none, cell_of_heap hh, List.getElem?_toArray, List.append_assoc, List.getElem?_append_right (by omega), List.getElem?_append_left (by have := (List.getElem?_eq_some_iff.1 hu).1; omega), hp]
  rw [← hu]; congr 1; omega

/-- The end of a row is moved up, within the row. -/
theorem StepOK.copyUp {k : Nat} {x y : Operand} {t E : TypeId} {α : Type} [Rep α] [Flat α] {l : List α} {b off cap i m dn sn dc sc qx qy : Nat} (hT : RowOK P t E α)
    (hx : Opd L True x (isV (.slice (some ⟨b, qx, none⟩) dn dc))) (hy : Opd L True y (isV (.slice (some ⟨b, qy, none⟩) sn sc))) (hqx : qx = off + (i + m) * Rep.sz α) (hqy : qy = off + i * Rep.sz α) (hdn : dn = l.length - i) (hsn : sn = l.length + m - i)
    (hk : lookB B k = some (CPred.at (.slice (some ⟨b, off, none⟩) l.length cap) (rowV E l))) (hi : i ≤ l.length) (hm : l.length + m ≤ cap) :
    StepOK P ops fs ⟨d, .call { callee := .builtin .copy, args := #[x, y], argTypes := #[t, t] }, ty, pos, after, none⟩ L B ([k], [k]) ⟨True, anyV⟩
      [(k, some (CPred.at (.slice (some ⟨b, off, none⟩) l.length cap) (rowGap E (l.take i) m (l.drop i))))] := by
  subst hqx hqy hdn hsn
  refine .doing fun M D a w hsz hlow hs hsB => ?_
  obtain ⟨ti, z, ht, hti, hz, hsize, hzs, hby⟩ := hT.get
  have hvx := (rep_raw.1 (hx.get hs (fun t ht => looksAt_op (call_ops (by simp [ht]))) trivial)).1
  have hvy := (rep_raw.1 (hy.get hs (fun t ht => looksAt_op (call_ops (by simp [ht]))) trivial)).1
  obtain ⟨ad, cap', e, hlc, hcm, ho⟩ := hsB.has k (by simp) _ hk
  simp only [Value.slice.injEq] at e
  obtain ⟨rfl, -, rfl⟩ := e
  obtain ⟨-, hD, hM, pre, cs, rest, hh, hp, he, hr⟩ := ho
  simp only at hD hM hh hp
  obtain ⟨he1, he2⟩ := Elems.take l cs i hi he
  have hcl := he.len
  have hl1 := he1.len
  have hl2 := he2.len
  rw [List.length_take (l := l), Nat.min_eq_left hi] at hl1
  rw [List.length_drop (l := l)] at hl2
  have hspos : 0 < Rep.sz α := Rep.pos
  have hmr : m * Rep.sz α ≤ rest.length := Nat.le_trans (Nat.mul_le_mul_right _ (by omega)) hr
  -- the cells behind the beginning
  obtain ⟨tl, htl⟩ : ∃ tl, tl = cs.drop (i * Rep.sz α) ++ rest := ⟨_, rfl⟩
  have hcs : cs ++ rest = cs.take (i * Rep.sz α) ++ tl := by rw [htl, ← List.append_assoc, List.take_append_drop]
  have htll : tl.length = (l.length - i) * Rep.sz α + rest.length := by rw [htl, List.length_append, hl2]
  have hheap : w.heap[b]? = some (.cells ((pre ++ cs.take (i * Rep.sz α) ++ tl.take (m * Rep.sz α)) ++ ((tl.drop (m * Rep.sz α)).take ((l.length - i) * Rep.sz α)) ++ ((tl.drop (m * Rep.sz α)).drop ((l.length - i) * Rep.sz α))).toArray E (0, 0)) := by
    rw [hh]
    congr 3
    rw [List.append_assoc _ (List.take _ _) (List.drop _ _), List.take_append_drop, List.append_assoc _ (List.take _ _) (List.drop _ _), List.take_append_drop, List.append_assoc, List.append_assoc, hcs]
  have hnews : (Builtin.firstCells ti.size (l.length - i) (.slice (some ⟨b, off + i * Rep.sz α, none⟩) (l.length + m - i) sc)).run P w = .ok (cs.drop (i * Rep.sz α)).toArray w := by
    refine run_firstCells_some w ti.size (l.length - i) ⟨b, off + i * Rep.sz α, none⟩ _ _ _ (by rw [hl2, hsize]) ?_
    have hheap2 : w.heap[b]? = some (.cells ((pre ++ cs.take (i * Rep.sz α)) ++ cs.drop (i * Rep.sz α) ++ rest).toArray E (0, 0)) := by
      rw [hh]; congr 3
      rw [List.append_assoc pre (cs.take _), List.take_append_drop]
    exact cells_there hheap2 (by rw [List.length_append, hp, hl1])
  obtain ⟨w', g1, g2, g3, g4, g5, g6, g7⟩ := run_copy_in (P := P) (ty := ty) (t := t) (t2 := t) (dn := l.length - i) (dc := dc) (n := l.length - i) ht hti (by simp only [Nat.min_def]; split <;> omega) hnews (fun c hc => Elems.plain _ _ he2 c hc) (m := b) (off := off + (i + m) * Rep.sz α)
    (by rw [List.length_append, List.length_append, hp, hl1, List.length_take, htll, Nat.min_eq_left (by omega), Nat.add_mul]; omega) (by rw [List.length_take, List.length_drop, htll, hl2, Nat.min_eq_left (by omega)]) hheap
  have hkD : Keeps (D k) w w' := ⟨g3, g4, g5, by omega, fun q _ hn => g7 q (fun e => hn ((hD q).2 e))⟩
  have hkM : Keeps M w w' := ⟨g3, g4, g5, by omega, fun q _ hn => g7 q (fun e => hn (e ▸ hM))⟩
  have up : ∀ {xs : List α} {ds : List Value}, Elems M w xs ds → Elems M w' xs ds := fun h => Elems.law hkM (fun _ h => .inl h) _ _ h
  refine Does.value (ex_copy (by rw [hvx, hvy]; exact g1)) (.turn hk hkD (fun j h => by rw [g6]; exact hlow.lt j h) ⟨fun _ => trivial, fun hf => (hf trivial).elim⟩ ?_)
  refine ⟨⟨b, off, none⟩, _, _, rfl, ?_, hcm, rfl, hD, hM, pre, cs.take (i * Rep.sz α), tl.take (m * Rep.sz α), cs.drop (i * Rep.sz α), _, by rw [g2], hp, up he1, ?_, up he2, ?_⟩
  · rw [List.length_take, List.length_drop, Nat.min_eq_left hi]; omega
  · rw [List.length_take, htll, Nat.min_eq_left (by omega)]
  · rw [List.length_take, List.length_drop, Nat.min_eq_left hi, List.length_drop, List.length_drop, htll]
    have e1 : (cap - (i + m + (l.length - i))) * Rep.sz α = (cap - l.length) * Rep.sz α - m * Rep.sz α := by rw [← Nat.sub_mul]; congr 1; omega
    rw [e1]; omega

/-- A row's elements are put into another row. -/
theorem StepOK.copyIn {k k2 : Nat} {x y : Operand} {t E E2 : TypeId} {α : Type} [Rep α] [Flat α] {A C l2 : List α} {b off n cap m vb voff p cap2 n2 dn dc sc qx qy sn N : Nat} {R : List α} {C0 : CPred} (hT : RowOK P t E α)
    (hx : Opd L True x (isV (.slice (some ⟨b, qx, none⟩) dn dc))) (hy : Opd L True y (isV (.slice (some ⟨vb, qy, none⟩) sn sc))) (hqx : qx = off + A.length * Rep.sz α) (hqy : qy = voff + p * Rep.sz α) (hdn : m ≤ dn) (hsn : m = sn) (hm : p + m = l2.length)
    (hN : N = A.length + m + C.length) (hR : R = A ++ l2.drop p ++ C)
    (hk : lookB B k = some (CPred.at (.slice (some ⟨b, off, none⟩) n cap) C0)) (hC0 : ∀ M D w, C0.p M D (.slice (some ⟨b, off, none⟩) n cap) w → (rowGap E A m C).p M D (.slice (some ⟨b, off, none⟩) n cap) w)
    (hk2 : lookB B k2 = some (CPred.at (.slice (some ⟨vb, voff, none⟩) n2 cap2) (rowV E2 l2))) :
    StepOK P ops fs ⟨d, .call { callee := .builtin .copy, args := #[x, y], argTypes := #[t, t] }, ty, pos, after, none⟩ L B ([k, k2], [k]) ⟨True, anyV⟩
      [(k, some (CPred.at (.slice (some ⟨b, off, none⟩) N cap) (rowV E R)))] := by
  subst hqx hqy hsn hN hR
  refine .doing fun M D a w hsz hlow hs hsB => ?_
  obtain ⟨ti, z, ht, hti, hz, hsize, hzs, hby⟩ := hT.get
  have hvx := (rep_raw.1 (hx.get hs (fun t ht => looksAt_op (call_ops (by simp [ht]))) trivial)).1
  have hvy := (rep_raw.1 (hy.get hs (fun t ht => looksAt_op (call_ops (by simp [ht]))) trivial)).1
  obtain ⟨ad, n', cap', e, hlc, hcm, -, hD, hM, pre, ca, mid, cc, rest, hh, hp, ha, hml, hc, hr⟩ := hC0 _ _ _ (hsB.has k (by simp) _ hk)
  simp only [Value.slice.injEq, Option.some.injEq] at e
  obtain ⟨rfl, -, rfl⟩ := e
  obtain ⟨ad2, cap2', e2, hlc2, hcm2, ho2⟩ := hsB.has k2 (by simp) _ hk2
  simp only [Value.slice.injEq] at e2
  obtain ⟨rfl, hn2, rfl⟩ := e2
  obtain ⟨-, -, -, pre2, cs2, rest2, hh2, hp2, he2, -⟩ := ho2
  simp only at hD hM hh hp hh2 hp2
  obtain ⟨-, hv⟩ := Elems.take l2 cs2 p (by omega) he2
  have hvl := hv.len
  rw [List.length_drop (l := l2)] at hvl
  have hvm : l2.length - p = m := by omega
  have hcs2 := he2.len
  have hca := ha.len
  have hp2l : (cs2.take (p * Rep.sz α)).length = p * Rep.sz α := by
    rw [List.length_take, hcs2, Nat.min_eq_left (Nat.mul_le_mul_right _ (by omega))]
  have hnews : (Builtin.firstCells ti.size m (.slice (some ⟨vb, voff + p * Rep.sz α, none⟩) m sc)).run P w = .ok (cs2.drop (p * Rep.sz α)).toArray w := by
    refine run_firstCells_some w ti.size m ⟨vb, voff + p * Rep.sz α, none⟩ _ _ _ (by rw [hvl, hsize, hvm]) ?_
    have hheap2 : w.heap[vb]? = some (.cells ((pre2 ++ cs2.take (p * Rep.sz α)) ++ cs2.drop (p * Rep.sz α) ++ rest2).toArray E2 (0, 0)) := by
      rw [hh2]; congr 3
      rw [List.append_assoc pre2 (cs2.take _), List.take_append_drop]
    exact cells_there hheap2 (by rw [List.length_append, hp2, hp2l])
  obtain ⟨w', g1, g2, g3, g4, g5, g6, g7⟩ := run_copy_in (P := P) (ty := ty) (t := t) (t2 := t) (dn := dn) (dc := dc) (n := m) ht hti (by simp only [Nat.min_def]; split <;> omega) hnews (fun c hc => Elems.plain _ _ hv c hc) (m := b) (off := off + A.length * Rep.sz α)
    (pre := pre ++ ca) (mid := mid) (rest := cc ++ rest) (by rw [List.length_append, hp, hca]) (by rw [hml, hvl, hvm]) (by rw [hh, ← List.append_assoc])
  have hkD : Keeps (D k) w w' := ⟨g3, g4, g5, by omega, fun q _ hn => g7 q (fun e => hn ((hD q).2 e))⟩
  have hkM : Keeps M w w' := ⟨g3, g4, g5, by omega, fun q _ hn => g7 q (fun e => hn (e ▸ hM))⟩
  have up : ∀ {xs : List α} {ds : List Value}, Elems M w xs ds → Elems M w' xs ds := fun h => Elems.law hkM (fun _ h => .inl h) _ _ h
  refine Does.value (ex_copy (by rw [hvx, hvy]; exact g1)) (.turn hk hkD (fun j h => by rw [g6]; exact hlow.lt j h) ⟨fun _ => trivial, fun hf => (hf trivial).elim⟩ ?_)
  have hlen : (A ++ l2.drop p ++ C).length = A.length + m + C.length := by simp only [List.length_append, List.length_drop]; omega
  refine ⟨some ⟨b, off, none⟩, _, by rw [hlen], by rw [hlen]; exact hlc, hcm, rfl, hD, hM, pre, ca ++ cs2.drop (p * Rep.sz α) ++ cc, rest, by rw [g2]; simp only [List.append_assoc], hp, ?_, by rw [hlen]; exact hr⟩
  exact Elems.append _ _ _ _ (Elems.append _ _ _ _ (up ha) (up hv)) (up hc)
/-- Zeros behind the beginning of a row, where there is no room for them: a new row. -/
theorem StepOK.appendZ {d k : Nat} {x y : Operand} {t tn E : TypeId} {α : Type} [Rep α] [Flat α] {l : List α} {z : α} {b off n cap i q : Nat} (hT : RowOK P t E α) (hz : ZeroOf P E z) (htn : P.underlying tn = some (.int .i64)) (hd : Nat.blt d fs = true)
    (hx : Opd L True x (isV (.slice (some ⟨b, off, none⟩) i cap))) (hk : lookB B k = some (CPred.at (.slice (some ⟨b, off, none⟩) n cap) (rowV E l))) (hi : i ≤ l.length) (hy : Opd L True y (rep (q : Int))) (hq : 0 < q) (hg : cap < i + q) (hb : i + q ≤ 1073741824) :
    StepOK P ops fs ⟨some d, .call { callee := .builtin .append, args := #[x, y], argTypes := #[t, tn] }, ty, pos, after, none⟩ L B ([k], [d]) ⟨True, anyV⟩ [(d, some (rowV E (l.take i ++ List.replicate q z)))] := by
  refine .doing fun M D a w hsz hlow hs hsB => ?_
  obtain ⟨ti, zv, ht, hti, hzv, hsize, hzs, hby⟩ := hT.get
  obtain ⟨zs, hz1, hz2⟩ := hz
  obtain ⟨i', hi', hz1⟩ := Option.bind_eq_some_iff.1 hz1
  obtain rfl : ti = i' := by rw [hti] at hi'; simpa using hi'
  rw [hzv] at hz1
  obtain rfl : zv = mkv (Rep.agg α) zs := by simpa using hz1
  have hzc : (mkv (Rep.agg α) zs).cells = zs.toArray := Rep.flat (hz2 M w)
  have hvx := (rep_raw.1 (hx.get hs (fun t ht => looksAt_op (call_ops (by simp [ht]))) trivial)).1
  have hvy := (rep_int.1 (hy.get hs (fun t ht => looksAt_op (call_ops (by simp [ht]))) trivial)).1
  obtain ⟨ad, cap', e, hlc, hcm, ho⟩ := hsB.has k (by simp) _ hk
  simp only [Value.slice.injEq] at e
  obtain ⟨rfl, -, rfl⟩ := e
  obtain ⟨-, hD, hM, pre, cs, rest, hh, hp, he, hr⟩ := ho
  simp only at hD hM hh hp
  obtain ⟨he1, he2⟩ := Elems.take l cs i hi he
  have hl1 := he1.len
  rw [List.length_take (l := l), Nat.min_eq_left hi] at hl1
  have hspos : 0 < Rep.sz α := Rep.pos
  have holds : (Builtin.firstCells ti.size i (.slice (some ⟨b, off, none⟩) i cap)).run P w.drew = .ok (cs.take (i * Rep.sz α)).toArray w.drew := by
    refine run_firstCells_some w.drew ti.size i ⟨b, off, none⟩ _ _ _ (by rw [hl1, hsize]) ?_
    have hheap2 : w.drew.heap[b]? = some (.cells (pre ++ cs.take (i * Rep.sz α) ++ (cs.drop (i * Rep.sz α) ++ rest)).toArray E (0, 0)) := by
      show w.heap[b]? = _
      rw [hh]; congr 3
      rw [List.append_assoc pre (cs.take _), ← List.append_assoc (cs.take _), List.take_append_drop, List.append_assoc]
    exact cells_there hheap2 hp
  have hqb : q * ti.bytes ≤ 281474976710656 := Nat.le_trans (Nat.mul_le_mul (by omega : q ≤ 1073741824) hby) (by omega)
  have hbytes : (i + q) * ti.bytes ≤ 140737488355328 := Nat.le_trans (Nat.mul_le_mul hb hby) (by omega)
  have hrun := Lib.run_append_grow_zeros w t tn ty E ti _ .i64 .i64 ht htn hti hzv (some ⟨b, off, none⟩) i cap _ holds q hq (by omega) hg (by omega) hqb (growslice_fits hg hbytes)
  rw [hzc] at hrun
  have hge := grownCap_ge w (i + q) cap E
  have hle := grownCap_le_maxLen w (i + q) cap E (by simp only [maxLen]; omega)
  obtain ⟨w', hw'⟩ : ∃ w', w' = w.drew.alloc (.cells ((cs.take (i * Rep.sz α)).toArray ++ Builtin.zeroCells zs.toArray q ++ Builtin.zeroCells zs.toArray (grownCap w (i + q) cap E - (i + q))) E) := ⟨_, rfl⟩
  rw [← hw'] at hrun
  have hext : Ext w w' := by subst hw'; exact Keeps.trans (Ext.drew w) (Ext.alloc w.drew _)
  have hsz' : w'.heap.size = w.heap.size + 1 := by subst hw'; rw [size_new]; rfl
  have hkm : ∀ j, (M j ∨ j = w.heap.size) → M j ∨ w.heap.size ≤ j := fun j h => h.imp id (by omega)
  refine Does.value (ex_append2 (by rw [hvx, hvy]; exact hrun)) (.one (fun j => M j ∨ j = w.heap.size) (fun j => j = w.heap.size) hext (fun j h => .inl h) hkm (fun j h => ?_) ⟨fun _ => trivial, fun hf => (hf trivial).elim⟩ ?_ (fun j h => by omega))
  · rw [hsz']
    rcases h with h | h
    · have := hlow.lt j h; omega
    · omega
  · rw [val_self (by rw [hsz]; exact Nat.le_of_ble_eq_true hd)]
    have hlen : (l.take i ++ List.replicate q z).length = i + q := by simp only [List.length_append, List.length_take, List.length_replicate]; omega
    refine ⟨some ⟨w.heap.size, 0, none⟩, _, by rw [hlen], by rw [hlen]; exact hge, by simp only [maxLen] at hle; exact hle, rfl, fun j => Iff.rfl, .inr rfl, [], cs.take (i * Rep.sz α) ++ (Builtin.zeroCells zs.toArray q).toList, (Builtin.zeroCells zs.toArray (grownCap w (i + q) cap E - (i + q))).toList, ?_, rfl, ?_, ?_⟩
    · subst hw'
      show (w.drew.heap.push _)[w.heap.size]? = _
      rw [show w.heap.size = w.drew.heap.size from rfl, Array.getElem?_push_size]
      simp
    · refine Elems.append _ _ _ _ (Elems.law hext.keeps hkm _ _ he1) ?_
      have := zeros_elems (M := fun j => M j ∨ j = w.heap.size) (w := w') (hz2 _ _) q
      rw [show (Builtin.zeroCells zs.toArray q).toList = (List.range (q * Rep.sz α)).map fun j => zs.toArray[j % zs.length]! from ?_]
      · exact this
      · have hzl : zs.length = Rep.sz α := Rep.len (hz2 M w)
        simp only [Builtin.zeroCells, List.size_toArray, hzl, Array.toList_map, Array.toList_range]
    · refine Nat.le_of_eq (Eq.symm ?_); rw [Array.length_toList, size_zeroCells, hlen, List.size_toArray, Rep.len (hz2 M w)]

theorem ex_callX {ρ : Operand → Value} {x : Operand} {xs : Array Operand} {ts : Array TypeId} {f : Nat} {caps : Array Value} {w w' : World} {g : Option (Nat × Bool)} {v : Value} (hx : ρ x = .func (.func f) #[] caps) (h : (callFunc f (xs.map ρ ++ caps)).run P w = .ok (.value v) w') :
    (execOp ρ ⟨d, .call { callee := .value x, args := xs, argTypes := ts }, ty, pos, after, g⟩).run P w = .ok (.value v) w' := by
  simp only [execOp, resolve, hx, Deferred.ofValue]
  rw [Sem.run_bind]
  simp only [Sem.run_pure, Result.andThen, invoke, Array.empty_append]
  exact h
/-- Whether two rows lie over one another: those that lie apart do not. -/
theorem StepOK.overlapsV {f : Nat} {fn : Func} {k k2 E2 : Nat} {x y : Operand} {t E : TypeId} (tb : TypeId) {α : Type} [Rep α] {l l2 : List α} {b off p n cap vb voff n2 cap2 m c1 m2 c2 : Nat} (hT : RowOK P t E α) (hf : P.funcs[f]? = some fn) (hname : (fn.name == "runtime.NumGoroutine") = false)
    (hbody : fn.body.isNone = true) (hn : Extern.findNext fn = none) (he : Extern.find fn = some (Extern.SlicesOverlaps.overlaps #[t, t] #[tb]))
    (hx : Opd L True x (isV (.slice (some ⟨vb, voff, none⟩) m2 c2))) (hy : Opd L True y (isV (.slice (some ⟨b, p, none⟩) m c1))) (hk : lookB B k = some (CPred.at (.slice (some ⟨b, off, none⟩) n cap) (rowV E l)))
    (hk2 : lookB B k2 = some (CPred.at (.slice (some ⟨vb, voff, none⟩) n2 cap2) (rowV E2 l2))) (hne : vb ≠ b) (hpos : l ≠ []) :
    StepOK P ops fs ⟨d, .call { callee := .value (.func f), args := #[x, y], argTypes := #[t, t] }, ty, pos, after, none⟩ L B ([k, k2], []) ⟨True, rep false⟩ [] :=
  .of .none fun M D a w hm hs hsB hG => by
    obtain ⟨ti, zv, ht, hti, hzv, hsize, hzs, hby⟩ := hT.get
    have hvx := (rep_raw.1 (hx.get hs (fun t ht => looksAt_op (call_ops (by simp [ht]))) trivial)).1
    have hvy := (rep_raw.1 (hy.get hs (fun t ht => looksAt_op (call_ops (by simp [ht]))) trivial)).1
    obtain ⟨ad, cap', e, hlc, hcm, ho⟩ := hsB.has k (by simp) _ hk
    simp only [Value.slice.injEq] at e
    obtain ⟨rfl, -, rfl⟩ := e
    obtain ⟨-, -, -, pre, cs, rest, hh, hp, hel, hr⟩ := ho
    obtain ⟨ad2, cap2', e2, -, -, ho2⟩ := hsB.has k2 (by simp) _ hk2
    simp only [Value.slice.injEq] at e2
    obtain ⟨rfl, -, rfl⟩ := e2
    obtain ⟨-, -, -, pre2, cs2, rest2, hh2, hp2, hel2, hr2⟩ := ho2
    simp only at hh hp hh2 hp2
    have hov := Lib.run_overlaps_apart (P := P) w t tb E ht ti.size (fun w => by simp [sizeOf, typeInfo, hti, go_sem]) ⟨vb, voff, none⟩ ⟨b, p, none⟩ m2 c2 m c1 hne E2 E _ (pre ++ cs ++ rest).toArray.size (by simp [World.shape?, hh2]; rfl) (by simp [World.shape?, hh]) (by
      have h1 := hel.len
      have h2 : 0 < l.length := List.length_pos_iff.2 hpos
      have h3 : 0 < Rep.sz α := Rep.pos
      have h4 := Nat.mul_pos h2 h3
      rw [List.size_toArray, List.length_append, List.length_append]; omega) (by simp [World.frozen?, hh2]) (by simp [World.frozen?, hh2])
    refine Does.value (v := .bool false) (w' := w) ?_ ⟨Keeps.refl _ _, rep_bool.2 rfl⟩
    refine ex_callX (f := f) (caps := #[]) rfl ?_
    rw [run_callFunc_extern hf hname hbody hn he, show ((#[x, y] : Array Operand).map a.eval ++ #[] : Array Value) = #[a.eval x, a.eval y] by simp, hvx, hvy, hov]
    rfl
end
end Go.DB
