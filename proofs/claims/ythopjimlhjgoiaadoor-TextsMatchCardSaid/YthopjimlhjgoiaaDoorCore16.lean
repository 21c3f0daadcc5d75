/-
  Arrays as values.
-/
import Derived.Test.YthopjimlhjgoiaaDoorCore15
set_option linter.unusedSimpArgs false
set_option linter.unusedVariables false
namespace Go.DB
open Go Go.RowKit

/-- An array of n + 1 elements. -/
structure Arr (n : Nat) (α : Type) where
  l : List α
  deriving Inhabited, DecidableEq

theorem Elems.plainA {α : Type} [Rep α] {M : MSet} {w : World} : ∀ (xs : List α) (cs : List Value), Elems M w xs cs → ∀ c ∈ cs, isOne c = true
  | [], _, h, c, hc => by rw [h] at hc; cases hc
  | x :: xs, _, ⟨c1, r, h, h1, h2⟩, c, hc => by
    rw [h] at hc
    rcases List.mem_append.1 hc with hc | hc
    · exact Rep.plain h1 c hc
    · exact Elems.plainA xs r h2 c hc

instance {n : Nat} {α : Type} [Rep α] : Rep (Arr n α) where
  sz := (n + 1) * Rep.sz α
  agg := true
  cells := fun M x cs w => x.l.length = n + 1 ∧ Elems M w x.l cs
  len := fun h => by rw [Elems.len _ _ h.2, h.1]
  pos := Nat.mul_pos (Nat.succ_pos n) Rep.pos
  flat := fun _ => rfl
  plain := fun h => Elems.plainA _ _ h.2
  law := fun hk hm h => ⟨h.1, Elems.law hk hm _ _ h.2⟩

theorem Elems.flat {α : Type} [Rep α] [Flat α] {M M' : MSet} {w : World} : ∀ (xs : List α) (cs : List Value), Elems M w xs cs → Elems M' w xs cs
  | [], _, h => h
  | x :: xs, _, ⟨c1, r, h, h1, h2⟩ => ⟨c1, r, h, Flat.cells h1, Elems.flat xs r h2⟩
instance {n : Nat} {α : Type} [Rep α] [Flat α] : Flat (Arr n α) := ⟨fun h => ⟨h.1, Elems.flat _ _ h.2⟩⟩
instance {n : Nat} {α : Type} [Fits α] : Fits (Arr n α) := ⟨fun x => x.l.length = n + 1 ∧ ∀ y ∈ x.l, fits y⟩
theorem Elems.fit {α : Type} [Rep α] [Fits α] [FitsRep α] {M : MSet} {w : World} : ∀ (xs : List α) (cs : List Value), Elems M w xs cs → ∀ y ∈ xs, fits y
  | [], _, _, y, hy => by cases hy
  | x :: xs, _, ⟨c1, r, h, h1, h2⟩, y, hy => by
    rcases List.mem_cons.1 hy with rfl | hy
    · exact FitsRep.of h1
    · exact Elems.fit xs r h2 y hy
instance {n : Nat} {α : Type} [Rep α] [Fits α] [FitsRep α] : FitsRep (Arr n α) := ⟨fun h => ⟨h.1, Elems.fit _ _ h.2⟩⟩

/-- An array type of n + 1 elements of type E, whose zero value has so many cells. -/
def ArrOf (P : Program) (T n E : Nat) : Prop := P.underlying T = some (.array (n + 1) E)
def ArrZero (P : Program) (T k : Nat) : Prop := ((P.info? T).bind (·.zero)).map (fun z => z.cells.size) = some k

section
variable {P : Program} {ops : Array Oper} {fs : Nat} {L : Slots} {B : Owns} {G : Prop}
variable {d : Option Tmp} {ty : TypeId} {pos : String} {after : Array Edge} {g : Option (Nat × Bool)} {xr : List Nat}

theorem StepOK.buildArr {T n E : Nat} {α : Type} [Rep α] {parts : Array (Nat × Operand)} {xs : List α} (hg : Guard ops g L G) (hT : ArrOf P T n E) (hE : Ty P E α) (hz : ArrZero P T ((n + 1) * Rep.sz α))
    (hx : OpdL L G (parts.toList.map (·.2)) (xs.map rep)) (hidx : parts.toList.map (·.1) = List.range' 0 (n + 1)) :
    StepOK P ops fs ⟨d, .build T parts, ty, pos, after, g⟩ L B (xr, []) ⟨G, rep (⟨xs⟩ : Arr n α)⟩ [] :=
  .pure hg fun M a w hm hs hG => by
    have ha := hx.get hs (fun x hxm t ht => looksAt_op (by
      subst ht
      obtain ⟨p, hp, he⟩ := List.mem_map.1 hxm
      simp only [Op.operands]
      rw [List.mem_toArray]
      exact List.mem_map.2 ⟨p, hp, he⟩)) hG
    rw [List.map_map] at ha
    have hn : xs.length = n + 1 := by
      have h1 := ha.length
      have h2 := congrArg List.length hidx
      simp only [List.length_map, List.length_range'] at h1 h2
      omega
    obtain ⟨zz, hz1, hz2⟩ := Option.map_eq_some_iff.1 hz
    obtain ⟨i, hi, hzv⟩ := Option.bind_eq_some_iff.1 hz1
    obtain ⟨ti, hti, hsize⟩ := Option.map_eq_some_iff.1 hE.size
    have hz' : (zeroValue T).run P w = .ok zz w := by simp [zeroValue, typeInfo, hi, hzv, go_sem]
    have hun : (underlying T).run P w = .ok (.array (n + 1) E) w := by simp [underlying, show P.underlying T = _ from hT, go_sem]
    have hsz : (sizeOf E).run P w = .ok (Rep.sz α) w := by simp [sizeOf, typeInfo, hti, hsize, go_sem]
    obtain ⟨cs, h1, h2⟩ := fill_slice xs _ 0 [] zz.cells.toList ha (by simp) (by simp [hn, hz2])
    have hparts : (parts.map fun (i, x) => (i, a.eval x)).toList = (List.range' 0 xs.length).zip (parts.toList.map (fun p => a.eval p.2)) := by
      rw [hn, ← hidx, Array.toList_map, List.zip_map']
    refine ⟨.agg cs.toArray, ?_, cs, ⟨hn, h2⟩, rfl⟩
    simp only [execOp, Instr.build]
    rw [Sem.run_bind, Sem.run_bind, hz']
    simp only [Result.andThen]
    rw [Sem.run_bind, hun]
    simp only [Result.andThen]
    rw [Sem.run_bind, hsz]
    simp only [Result.andThen]
    rw [hparts]
    simp only [List.nil_append] at h1
    have h1' : Instr.fill (fun i => some (i * Rep.sz α, Rep.sz α)) zz.cells ((List.range' 0 xs.length).zip (parts.toList.map (fun p => a.eval p.2))) = some cs.toArray := by
      rw [← h1]; rfl
    rw [h1']
    rfl

theorem StepOK.indexArr {T n E : Nat} {x i : Operand} {α : Type} [Rep α] [Inhabited α] {y : Arr n α} {k : Int} (hg : Guard ops g L G) (hT : ArrOf P T n E) (hE : Ty P E α)
    (hx : Opd L G x (rep y)) (hi : Opd L G i (rep k)) (hb : G → 0 ≤ k ∧ k < (n + 1 : Nat)) :
    StepOK P ops fs ⟨d, .index T x i, ty, pos, after, g⟩ L B (xr, []) ⟨G, rep (gx y.l k)⟩ [] :=
  .pure hg fun M a w _ hs hG => by
    obtain ⟨cs, ⟨hln, hel⟩, hv⟩ := hx.get hs (fun t ht => looksAt_op (by simp [Op.operands, ht])) hG
    obtain ⟨hk, _⟩ := rep_int.1 (hi.get hs (fun t ht => looksAt_op (by simp [Op.operands, ht])) hG)
    obtain ⟨h0, h1⟩ := hb hG
    have hlt : k.toNat < y.l.length := by omega
    have hgx : gx y.l k = y.l[k.toNat] := by simp [gx, List.getElem?_eq_getElem hlt]
    rw [hgx]
    obtain ⟨c, hc, hj⟩ := Elems.at _ _ k.toNat hlt hel
    have hcl := Rep.len hc
    have hel2 := Elems.len _ _ hel
    have hmul : k.toNat * Rep.sz α + Rep.sz α ≤ y.l.length * Rep.sz α := by
      rw [← Nat.succ_mul]; exact Nat.mul_le_mul_right _ hlt
    have hun : (underlying T).run P w = .ok (.array (n + 1) E) w := by simp [underlying, show P.underlying T = _ from hT, go_sem]
    obtain ⟨ti, hti, hsize⟩ := Option.map_eq_some_iff.1 hE.size
    have hsz : (sizeOf E).run P w = .ok (Rep.sz α) w := by simp [sizeOf, typeInfo, hti, hsize, go_sem]
    obtain ⟨dd, hd1, hd2⟩ := hE.agg
    have hun2 : (underlying E).run P w = .ok dd w := by simp [underlying, hd1, go_sem]
    have hagg : (isAgg E).run P w = .ok (Rep.agg α) w := by
      unfold isAgg
      rw [Sem.run_bind, hun2]
      simp only [Result.andThen]
      rw [← hd2]
      cases dd <;> rfl
    have hv' : a.eval x = .agg cs.toArray := by rw [hv]; rfl
    have hsl : cs.toArray.extract (k.toNat * Rep.sz α) (k.toNat * Rep.sz α + Rep.sz α) = c.toArray := by
      apply Array.ext'
      rw [Array.toList_extract]
      apply List.ext_getElem?
      intro j
      rw [List.extract_eq_take_drop, List.getElem?_take]
      by_cases hjl : j < Rep.sz α
      · rw [if_pos (by omega), List.getElem?_drop, ← hj j hjl]
      · rw [if_neg (by omega), List.getElem?_eq_none (by simp; omega)]
    refine ⟨mkv (Rep.agg α) c, ?_, c, hc, rfl⟩
    simp only [execOp, hv', hk, Instr.index, asIntOf, Sem.run_bind, hun, Result.andThen, Sem.run_pure]
    rw [if_pos ⟨h0, h1⟩]
    simp only [Sem.run_bind, hsz, Result.andThen, part, hagg]
    cases hag : Rep.agg α with
    | true =>
      simp only [if_true, Sem.run_bind, hsz, Result.andThen, Sem.run_pure, mkv]
      rw [hsl]
    | false =>
      simp only [Bool.false_eq_true, if_false, mkv]
      have hp := Rep.pos (α := α)
      have := hj 0 hp
      have hfl := Rep.flat hc
      rw [hag] at hfl
      cases c with
      | nil => simp at hcl; omega
      | cons v c' =>
        have hone := Rep.plain hc v (by simp)
        have : cs.toArray[k.toNat * Rep.sz α]? = some v := by rw [List.getElem?_toArray]; simpa using this
        rw [this]
        rfl
end
end Go.DB
