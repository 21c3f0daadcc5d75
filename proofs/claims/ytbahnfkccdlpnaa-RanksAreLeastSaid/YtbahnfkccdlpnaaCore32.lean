/-
  A row of one's own of which parts are moved within it, and of which the beginning is handed back.
-/
import Derived.Test.YtbahnfkccdlpnaaCore31
set_option linter.unusedVariables false
set_option linter.unusedSimpArgs false
namespace Go.DB
open Go Go.RowKit

section
variable {P : Program} {ops : Array Oper} {fs : Nat} {L : Slots} {B : Owns} {G : Prop}
variable {ty : TypeId} {pos : String} {after : Array Edge} {g : Option (Nat × Bool)} {xr : List Nat} {d : Option Tmp}

theorem run_part3 {T E : Nat} {α : Type} [Rep α] {ad : Option Addr} {m cap : Nat} {i j k : Int} {w : World} (hT : SliceOf P T E) (hE : Ty P E α) (h0 : 0 ≤ i) (h1 : i ≤ j) (h2 : j ≤ k) (h3 : k ≤ cap) :
    (Instr.sliceAt T (.slice ad m cap) (some (.int .i64 i)) (some (.int .i64 j)) (some (.int .i64 k))).run P w = .ok (sliced ad i.toNat j.toNat k.toNat (Rep.sz α)) w := by
  obtain ⟨ti, hti, hsize⟩ := Option.map_eq_some_iff.1 hE.size
  have hTe : P.underlying T = some (.slice (P.elem T)) ∧ P.elem T = E := by
    have : P.elem T = E := by unfold Program.elem; rw [show P.underlying T = _ from hT]
    exact ⟨by rw [this]; exact hT, this⟩
  have hsz : (sizeOf (P.elem T)).run P w = .ok (Rep.sz α) w := by rw [hTe.2]; simp [sizeOf, typeInfo, hti, hsize, go_sem]
  rw [run_sliceAt_slice (h := hTe.1), run_slice_lhm w T ad m cap hTe.1 .i64 .i64 .i64 i j k h0 h1 h2 (by omega), hsz]
  simp [Result.andThen]

/-- A slice with three numbers, whose value nobody reads. -/
theorem StepOK.slice3 {T E k T' : Nat} {x lo hi mx : Operand} {s : Value} {α : Type} [Rep α] {l : List α} {i j m : Int} (hT : SliceOf P T E) (hE : Ty P E α) (hx : Opd L True x (isV s)) (hk : lookB B k = some (CPred.at s (rowV T' l)))
    (hlo : Opd L True lo (rep i)) (hhi : Opd L True hi (rep j)) (hmx : Opd L True mx (rep m)) (hb : 0 ≤ i ∧ i ≤ j ∧ j ≤ m ∧ m ≤ l.length) :
    StepOK P ops fs ⟨d, .slice T x (some lo) (some hi) (some mx), ty, pos, after, none⟩ L B ([k], []) ⟨True, anyV⟩ [] :=
  .of .none fun M D a w hm hs hsB hG => by
    have hv : a.eval x = s := (rep_raw.1 (hx.get hs (fun t ht => looksAt_op (by simp [Op.operands, ht])) trivial)).1
    obtain ⟨ad, cap, hsl, hlc, hcm, ho⟩ := hsB.has k (by simp) _ hk
    obtain ⟨h1, _⟩ := rep_int.1 (hlo.get hs (fun t ht => looksAt_op (by simp [Op.operands, ht])) trivial)
    obtain ⟨h2, _⟩ := rep_int.1 (hhi.get hs (fun t ht => looksAt_op (by simp [Op.operands, ht])) trivial)
    obtain ⟨h3, _⟩ := rep_int.1 (hmx.get hs (fun t ht => looksAt_op (by simp [Op.operands, ht])) trivial)
    obtain ⟨b0, b1, b2, b3⟩ := hb
    have hrun := run_part3 (P := P) (w := w) (ad := ad) (m := l.length) (cap := cap) hT hE b0 b1 b2 (by omega)
    refine Does.value (v := sliced ad i.toNat j.toNat m.toNat (Rep.sz α)) (w' := w) ?_ ⟨Keeps.refl _ _, trivial⟩
    subst hsl
    simp only [execOp, hv, h1, h2, h3, Option.map]
    rw [Sem.run_bind, hrun]; rfl

/-- How long a part is. -/
theorem StepOK.lenPart {x : Operand} {T E E' k : Nat} {s : Value} {α : Type} [Rep α] {l : List α} {i j : Int} (hT : SliceOf P T E) (hx : Opd L True x (isV (partV s i j (Rep.sz α)))) (hk : lookB B k = some (CPred.at s (rowV E' l))) (hb : segR l.length i j) :
    StepOK P ops fs ⟨d, .call { callee := .builtin .len, args := #[x], argTypes := #[T] }, ty, pos, after, none⟩ L B ([k], []) ⟨True, rep (j - i)⟩ [] :=
  .of .none fun M D a w hm hs hsB hG => by
    have hv := (rep_raw.1 (hx.get hs (fun t ht => looksAt_op (call_ops (by simp [ht]))) trivial)).1
    obtain ⟨ad, cap, hsl, hlc, hcm, ho⟩ := hsB.has k (by simp) _ hk
    obtain ⟨h0, h1, h2⟩ := hb
    subst hsl
    simp only [partV, sliced] at hv
    refine Does.value (ex_len hT hv) ⟨Keeps.refl _ _, rep_int.2 ⟨by congr 1; omega, by unfold InI; omega⟩⟩

theorem part_head {b off n cap m sz : Nat} : sliced (some ⟨b, off, none⟩) 0 m cap sz = .slice (some ⟨b, off, none⟩) m cap := by
  simp only [sliced]
  have : (if cap = 0 then (some ⟨b, off, none⟩ : Option Addr) else (some ⟨b, off, none⟩ : Option Addr).map (·.add (0 * sz))) = some ⟨b, off, none⟩ := by
    split
    · rfl
    · rw [Option.map_some, add_none]; simp
  rw [this]
  rfl
theorem part_head0 {m cap sz : Nat} : sliced none 0 m cap sz = .slice none m cap := by
  simp only [sliced]
  split <;> rfl

/-- A part behind a beginning, up to where the row was. -/
theorem StepOK.slicePart {T E k T' : Nat} {x lo hi : Operand} {s : Value} {α : Type} [Rep α] {l : List α} {m i j : Int} (hT : SliceOf P T E) (hE : Ty P E α) (hx : Opd L True x (isV (partV s 0 m (Rep.sz α)))) (hk : lookB B k = some (CPred.at s (rowV T' l)))
    (hlo : Opd L True lo (rep i)) (hhi : Opd L True hi (rep j)) (hm : segR l.length 0 m) (hb : segR l.length i j) :
    StepOK P ops fs ⟨d, .slice T x (some lo) (some hi) none, ty, pos, after, none⟩ L B ([k], []) ⟨True, isV (partV s i j (Rep.sz α))⟩ [] :=
  .of .none fun M D a w hm' hs hsB hG => by
    have hv : a.eval x = partV s 0 m (Rep.sz α) := (rep_raw.1 (hx.get hs (fun t ht => looksAt_op (by simp [Op.operands, ht])) trivial)).1
    obtain ⟨ad, cap, hsl, hlc, hcm, ho⟩ := hsB.has k (by simp) _ hk
    obtain ⟨h1, _⟩ := rep_int.1 (hlo.get hs (fun t ht => looksAt_op (by simp [Op.operands, ht])) trivial)
    obtain ⟨h2, _⟩ := rep_int.1 (hhi.get hs (fun t ht => looksAt_op (by simp [Op.operands, ht])) trivial)
    obtain ⟨c0, c1, c2⟩ := hm
    obtain ⟨b0, b1, b2⟩ := hb
    refine Does.value (v := partV s i j (Rep.sz α)) (w' := w) ?_ ⟨Keeps.refl _ _, rep_raw.2 ⟨rfl, partV_one hsl⟩⟩
    subst hsl
    have hh : partV (.slice ad l.length cap) 0 m (Rep.sz α) = .slice ad m.toNat cap := by
      cases ad with
      | none => exact part_head0
      | some ad =>
        obtain ⟨b, off, sp⟩ := ad
        obtain rfl : sp = none := ho.1
        exact part_head (n := l.length)
    rw [hh] at hv
    obtain ⟨ti, hti, hsize⟩ := Option.map_eq_some_iff.1 hE.size
    have hTe : P.underlying T = some (.slice (P.elem T)) ∧ P.elem T = E := by
      have : P.elem T = E := by unfold Program.elem; rw [show P.underlying T = _ from hT]
      exact ⟨by rw [this]; exact hT, this⟩
    have hsz : (sizeOf (P.elem T)).run P w = .ok (Rep.sz α) w := by rw [hTe.2]; simp [sizeOf, typeInfo, hti, hsize, go_sem]
    simp only [execOp, hv, h1, h2, Option.map]
    rw [Sem.run_bind, run_sliceAt_slice (h := hTe.1), run_slice_lh w T ad m.toNat cap hTe.1 .i64 .i64 i j (by omega) (by omega) (by omega), hsz]
    rfl

/-- The end of a row is moved ahead, within the row. -/
theorem StepOK.appendSelf {d k : Nat} {x y : Operand} {t E : TypeId} {α : Type} [Rep α] {l : List α} {s : Value} {i j : Int} (hT : RowOK P t E α) (hx : Opd L True x (isV (partV s 0 i (Rep.sz α)))) (hy : Opd L True y (isV (partV s j l.length (Rep.sz α))))
    (hk : lookB B k = some (CPred.at s (rowV E l))) (hi : segR l.length 0 i) (hj : segR l.length j l.length) (hij : i ≤ j) :
    StepOK P ops fs ⟨some d, .call { callee := .builtin .append, args := #[x, y], argTypes := #[t, t] }, ty, pos, after, none⟩ L B ([k], [k]) ⟨True, isV (partV s 0 (i + (l.length - j)) (Rep.sz α))⟩
      [(k, some (CPred.at s (rowV E (l.take i.toNat ++ l.drop j.toNat ++ l.drop (i + (l.length - j)).toNat))))] := by
  refine .doing fun M D a w hsz hm hs hsB => ?_
  obtain ⟨ti, z, ht, hti, hz, hsize, hzs, hby⟩ := hT.get
  have hvx := (rep_raw.1 (hx.get hs (fun t ht => looksAt_op (call_ops (by simp [ht]))) trivial)).1
  have hvy := (rep_raw.1 (hy.get hs (fun t ht => looksAt_op (call_ops (by simp [ht]))) trivial)).1
  obtain ⟨ad, cap, hsl, hlc, hcm, ho⟩ := hsB.has k (by simp) _ hk
  obtain ⟨a0, a1, a2⟩ := hi
  obtain ⟨c0, c1, _⟩ := hj
  have hspos : 0 < Rep.sz α := Rep.pos
  obtain ⟨i, rfl⟩ : ∃ n : Nat, i = n := ⟨i.toNat, by omega⟩
  obtain ⟨j, rfl⟩ : ∃ n : Nat, j = n := ⟨j.toNat, by omega⟩
  have hjl : j ≤ l.length := by omega
  have hil : i ≤ l.length := by omega
  have hij : i ≤ j := by omega
  have hm1 : ((i : Int) + (l.length - j)).toNat = i + (l.length - j) := by omega
  have hml : i + (l.length - j) ≤ l.length := by omega
  simp only [Int.toNat_natCast, hm1]
  have hnew : (l.take i ++ l.drop j ++ l.drop (i + (l.length - j))).length = l.length := by
    simp only [List.length_append, List.length_take, List.length_drop]; omega
  subst hsl
  by_cases he : j = l.length
  · -- nothing is moved
    subst he
    have hsame : l.take i ++ l.drop l.length ++ l.drop (i + (l.length - l.length)) = l := by simp
    rw [hsame]
    have hy0 : a.eval y = .slice (if cap = l.length then ad else ad.map (·.add (l.length * Rep.sz α))) 0 (cap - l.length) := by
      rw [hvy]; simp [partV, sliced]
    have hx0 : ∃ A c, partV (.slice ad l.length cap) 0 i (Rep.sz α) = .slice A i c ∧ i ≤ c := ⟨_, cap, rfl, by omega⟩
    obtain ⟨A, c, hA, hic⟩ := hx0
    have hv : partV (.slice ad l.length cap) 0 ((i : Int) + ((l.length : Int) - (l.length : Nat))) (Rep.sz α) = .slice A i c := by rw [← hA]; congr 1; omega
    rw [hv]
    refine Does.value (v := .slice A i c) (w' := w) (ex_append ?_) (.turn hk (Keeps.refl _ _) (fun j h => hm j h) ⟨fun _ => rep_raw.2 ⟨rfl, rfl, rfl⟩, fun hf => (hf trivial).elim⟩ ⟨ad, cap, rfl, hlc, hcm, ho⟩)
    rw [hvx, hy0, hA]
    exact run_append_none ht hti hic
  · have hlt : j < l.length := by omega
    cases ad with
    | none =>
      obtain ⟨e, _⟩ := ho
      subst e; simp at hlt
    | some ad =>
      obtain ⟨b, off, sp⟩ := ad
      obtain ⟨hsp, hD, hM, pre, cs, rest, hh, hp, hel, hr⟩ := ho
      simp only at hsp hD hM hh hp
      subst hsp
      have hcl : cs.length = l.length * Rep.sz α := hel.len
      have hcapj : ¬ cap = j := by omega
      have hx0 : a.eval x = .slice (some ⟨b, off, none⟩) i cap := by rw [hvx]; exact part_head (n := l.length)
      have hy0 : a.eval y = .slice (some ⟨b, off + j * Rep.sz α, none⟩) (l.length - j) (cap - j) := by
        rw [hvy]; simp only [partV, sliced, Int.toNat_natCast, if_neg hcapj, Option.map_some]; rw [add_none]
      obtain ⟨t1, t2⟩ := Elems.take l cs i hil hel
      obtain ⟨t3, t4⟩ := Elems.take l cs j hjl hel
      obtain ⟨t5, t6⟩ := Elems.take l cs (i + (l.length - j)) hml hel
      generalize hns : cs.drop (j * Rep.sz α) = ns at t4
      have hnl : ns.length = (l.length - j) * ti.size := by rw [← hns, List.length_drop, hcl, hsize, Nat.sub_mul]
      have mi : i * Rep.sz α ≤ l.length * Rep.sz α := Nat.mul_le_mul_right _ hil
      have mj : j * Rep.sz α ≤ l.length * Rep.sz α := Nat.mul_le_mul_right _ hjl
      have mm : (i + (l.length - j)) * Rep.sz α = i * Rep.sz α + (l.length - j) * Rep.sz α := Nat.add_mul _ _ _
      have mml : (i + (l.length - j)) * Rep.sz α ≤ l.length * Rep.sz α := Nat.mul_le_mul_right _ hml
      have hfc : (Builtin.firstCells ti.size (l.length - j) (.slice (some ⟨b, off + j * Rep.sz α, none⟩) (l.length - j) (cap - j))).run P w = .ok ns.toArray w := by
        refine run_firstCells_some w ti.size (l.length - j) _ (l.length - j) (cap - j) ns hnl fun q u hu => ?_
        have hq := (List.getElem?_eq_some_iff.1 hu).1
        rw [add_none, cell_of_heap hh, List.getElem?_toArray, List.append_assoc, List.getElem?_append_right (by omega), List.getElem?_append_left (by rw [hcl]; rw [hnl, hsize, Nat.sub_mul] at hq; omega), ← hu, ← hns, List.getElem?_drop]
        congr 1; omega
      obtain ⟨w', g1, g2, g3, g4, g5, g6, g7⟩ := run_append_in (P := P) (ty := ty) (T := E) (m := b) (off := off) (sLen := i) (sCap := cap) (n := l.length - j) (pre := pre ++ cs.take (i * Rep.sz α)) (mid := (cs.drop (i * Rep.sz α)).take ns.length) (rest := (cs.drop (i * Rep.sz α)).drop ns.length ++ rest) ht hti hfc hnl
        (Elems.plain _ ns t4) (by omega) (by rw [List.length_append, List.length_take, hp, hcl, hsize]; omega) (by rw [List.length_take, List.length_drop, hcl, hnl, hsize]; omega)
        (by
          rw [hh]; congr 3
          have : cs = cs.take (i * Rep.sz α) ++ ((cs.drop (i * Rep.sz α)).take ns.length ++ (cs.drop (i * Rep.sz α)).drop ns.length) := by rw [List.take_append_drop, List.take_append_drop]
          conv => lhs; rw [this]
          simp only [List.append_assoc])
      have hkeep : Keeps (D k) w w' := ⟨g3, g4, g5, by omega, fun j _ hn => g7 j (fun e => hn ((hD j).2 e))⟩
      have hkM : Keeps M w w' := ⟨g3, g4, g5, by omega, fun j _ hn => g7 j (fun e => hn (e ▸ hM))⟩
      have hval : partV (.slice (some ⟨b, off, none⟩) l.length cap) 0 ((i : Int) + ((l.length : Int) - (j : Nat))) (Rep.sz α) = .slice (some ⟨b, off, none⟩) (i + (l.length - j)) cap := by
        show sliced _ _ _ _ _ = _
        rw [hm1]
        exact part_head (n := l.length)
      rw [hval]
      refine Does.value (v := .slice (some ⟨b, off, none⟩) (i + (l.length - j)) cap) (w' := w') (ex_append (by rw [hx0, hy0]; exact g1)) (.turn hk hkeep (fun j h => by rw [g6]; exact hm j h) ⟨fun _ => rep_raw.2 ⟨rfl, rfl, rfl⟩, fun hf => (hf trivial).elim⟩
        ⟨some ⟨b, off, none⟩, cap, by rw [hnew], by rw [hnew]; exact hlc, hcm, rfl, hD, hM, pre, cs.take (i * Rep.sz α) ++ ns ++ cs.drop ((i + (l.length - j)) * Rep.sz α), rest, ?_, hp, ?_, by rw [hnew]; exact hr⟩)
      · rw [g2, List.drop_drop]
        congr 3
        have : i * Rep.sz α + ns.length = (i + (l.length - j)) * Rep.sz α := by rw [hnl, hsize, mm]
        rw [this]
        simp only [List.append_assoc]
      · exact Elems.law hkM (fun _ h => .inl h) _ _ (Elems.append _ _ _ _ (Elems.append _ _ _ _ t1 t4) t6)

/-- The end of a row is set to zero. -/
theorem StepOK.clearPart2 {T E k : Nat} {x : Operand} {s : Value} {α : Type} [Rep α] {l : List α} {i j : Int} {z : α} (hT : SliceOf P T E) (hz : ZeroOf P E z) (hx : Opd L True x (isV (partV s i j (Rep.sz α)))) (hk : lookB B k = some (CPred.at s (rowV E l)))
    (hb : segR l.length i j) (hj : j = (l.length : Int)) :
    StepOK P ops fs ⟨none, .call { callee := .builtin .clear, args := #[x], argTypes := #[T] }, ty, pos, after, none⟩ L B ([k], [k]) ⟨True, anyV⟩ [(k, some (CPred.at s (rowV E (l.take i.toNat ++ List.replicate (l.length - i.toNat) z))))] := by
  subst hj
  exact .clearPart hT hz hx hk hb

end

section
variable {Q : Exit → Act → World → Prop} {n : Nat} {F : Fr} {L : Slots} {B : Owns}

/-- The beginning of a row becomes a row of its own. -/
theorem Ends.head {e : Exit} {t k E : Nat} {s : Value} {α : Type} [Rep α] {l : List α} {m : Int} {cd : Prop} (hl : lookB B k = some (CPred.at s (rowV E l))) (ht : look L t = some ⟨cd, isV (partV s 0 m (Rep.sz α))⟩) (hc : cd) (hg : lookB B t = none) (hm : segR l.length 0 m)
    (c : Ends Q e n F L ((t, some (rowV E (l.take m.toNat))) :: (k, none) :: B)) : Ends Q e n F L B := by
  intro a w hs
  obtain ⟨M, D, h⟩ := id hs
  obtain ⟨ad, cap, hsl, hlc, hcm, ho⟩ : (rowV E l).p M (D k) s w := h.hasB k _ hl
  obtain ⟨v, hv, he⟩ := h.has t _ ht
  obtain ⟨rfl, _⟩ := rep_raw.1 (he.1 hc)
  refine c a w ⟨M, _, h.rekey hl hg ?_ h.has⟩
  have hav : Act.val a t = partV s 0 m (Rep.sz α) := by unfold Act.val; rw [hv]; rfl
  rw [hav]
  obtain ⟨m0, m1, m2⟩ := hm
  have hlen : (l.take m.toNat).length = m.toNat := by rw [List.length_take]; omega
  subst hsl
  cases ad with
  | none =>
    obtain ⟨e, e2, e3⟩ := ho
    subst e
    have : m.toNat = 0 := by simp at m2; omega
    refine ⟨none, cap, ?_, by simp, hcm, by simp, e2, e3⟩
    show sliced _ _ _ _ _ = _
    rw [hlen]; exact part_head0
  | some ad =>
    obtain ⟨b, off, sp⟩ := ad
    obtain ⟨hsp, hD, hM, pre, cs, rest, hh, hp, hel, hr⟩ := ho
    simp only at hsp hD hM hh hp
    subst hsp
    obtain ⟨t1, t2⟩ := Elems.take l cs m.toNat (by omega) hel
    refine ⟨some ⟨b, off, none⟩, cap, ?_, by rw [hlen]; omega, hcm, rfl, hD, hM, pre, cs.take (m.toNat * Rep.sz α), cs.drop (m.toNat * Rep.sz α) ++ rest, ?_, hp, t1, ?_⟩
    · show sliced _ _ _ _ _ = _
      rw [hlen]; exact part_head (n := l.length)
    · rw [hh]; congr 3
      conv => lhs; rw [← List.take_append_drop (m.toNat * Rep.sz α) cs]
      simp only [List.append_assoc]
    · have hcl := hel.len
      have e1 : (cap - m.toNat) * Rep.sz α = (cap - l.length) * Rep.sz α + (l.length - m.toNat) * Rep.sz α := by rw [← Nat.add_mul]; congr 1; omega
      have e2 : (l.length - m.toNat) * Rep.sz α = l.length * Rep.sz α - m.toNat * Rep.sz α := Nat.sub_mul _ _ _
      rw [hlen, List.length_append, List.length_drop, hcl, e1, e2]
      omega

end
end Go.DB
