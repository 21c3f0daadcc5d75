/-
  More rules for walks along lifted functions: joins, ranges, what is written no more at an end, parts that are lent.
-/
import Derived.Test.YthopjimlhjgoiaaCore11
import Derived.Laws.StructEq
set_option linter.unusedSimpArgs false
set_option linter.unusedVariables false
namespace Go.DB
open Go Go.RowKit

/-! Outcomes. -/

def resb {σ ρ : Type} (o : Res σ ρ) (k : σ → Option ρ) : Option ρ := match o with
  | .nx s => k s
  | .ab r => some r
def bindR {σ ρ : Type} (m : Option (Res σ ρ)) (k : σ → Option ρ) : Option ρ := m.bind (fun o => resb o k)
def resd {σ τ ρ : Type} (o : Res σ ρ) (k : σ → Option (Step τ ρ)) : Option (Step τ ρ) := match o with
  | .nx s => k s
  | .ab r => some (.done r)
def bindD {σ τ ρ : Type} (m : Option (Res σ ρ)) (k : σ → Option (Step τ ρ)) : Option (Step τ ρ) := m.bind (fun o => resd o k)
theorem bindR_some {σ ρ : Type} {m : Option (Res σ ρ)} {k : σ → Option ρ} {r : ρ} (h : bindR m k = some r) : ∃ o, m = some o ∧ resb o k = some r := bind_some h
theorem bindD_some {σ τ ρ : Type} {m : Option (Res σ ρ)} {k : σ → Option (Step τ ρ)} {r : Step τ ρ} (h : bindD m k = some r) : ∃ o, m = some o ∧ resd o k = some r := bind_some h
theorem resb_nx {σ ρ : Type} {o : Res σ ρ} {k : σ → Option ρ} {r : Option ρ} {s : σ} (h : resb o k = r) (ho : o = .nx s) : k s = r := by subst ho; exact h
theorem resb_ab {σ ρ : Type} {o : Res σ ρ} {k : σ → Option ρ} {r : Option ρ} {s : ρ} (h : resb o k = r) (ho : o = .ab s) : some s = r := by subst ho; exact h
theorem resd_nx {σ τ ρ : Type} {o : Res σ ρ} {k : σ → Option (Step τ ρ)} {r : Option (Step τ ρ)} {s : σ} (h : resd o k = r) (ho : o = .nx s) : k s = r := by subst ho; exact h
theorem resd_ab {σ τ ρ : Type} {o : Res σ ρ} {k : σ → Option (Step τ ρ)} {r : Option (Step τ ρ)} {s : ρ} (h : resd o k = r) (ho : o = .ab s) : some (.done s) = r := by subst ho; exact h

theorem rforE_loop {σ O : Type} {n : Int} {step : Int → σ → Option (Res σ O)} {fin : σ → O} {s0 : σ} :
    rforE n step fin s0 = loop (fun p : Int × σ => bif decide (p.1 < n) then bindD (step p.1 p.2) (fun s' => some (.again (W (p.1 + 1), s'))) else some (.done (fin p.2))) (0, s0) := by
  rfl

section
variable {P : Program} {Q : Exit → Act → World → Prop} {n : Nat} {F : Fr} {L : Slots} {B : Owns}

theorem Cod.rforL {c : Code} {σ : Type} {m : Int} {step : Int → σ → Option σ} {s0 e : σ} (he : rfor m step s0 = some e) (Ls : Int × σ → Slots) (Bs : Int × σ → Owns) {keep : Slots} {keepB : Owns}
    (h0 : Sub L (Ls (0, s0))) (hB0 : SubB B (Bs (0, s0))) (hk : Sub L keep) (hkB : SubB B keepB)
    (round : ∀ (p : Int × σ) (o : Step (Int × σ) σ), (bif decide (p.1 < m) then (step p.1 p.2).bind (fun s' => some (.again (W (p.1 + 1), s'))) else some (.done p.2)) = some o → (∀ e', o = .done e' → some e' = some e) →
      Cod P c (Exit.then (fun a w => ∃ s', o = .again s' ∧ Sat n F (Ls s' ++ keep) (Bs s' ++ keepB) a w) Q) n F (Ls p ++ keep) (Bs p ++ keepB)) : Cod P (.loop c) Q n F L B :=
  Cod.loopL he Ls Bs h0 hB0 hk hkB round
theorem Cod.rforEL {c : Code} {σ O : Type} {m : Int} {step : Int → σ → Option (Res σ O)} {fin : σ → O} {s0 : σ} {e : O} (he : rforE m step fin s0 = some e) (Ls : Int × σ → Slots) (Bs : Int × σ → Owns) {keep : Slots} {keepB : Owns}
    (h0 : Sub L (Ls (0, s0))) (hB0 : SubB B (Bs (0, s0))) (hk : Sub L keep) (hkB : SubB B keepB)
    (round : ∀ (p : Int × σ) (o : Step (Int × σ) O), (bif decide (p.1 < m) then bindD (step p.1 p.2) (fun s' => some (.again (W (p.1 + 1), s'))) else some (.done (fin p.2))) = some o → (∀ e', o = .done e' → some e' = some e) →
      Cod P c (Exit.then (fun a w => ∃ s', o = .again s' ∧ Sat n F (Ls s' ++ keep) (Bs s' ++ keepB) a w) Q) n F (Ls p ++ keep) (Bs p ++ keepB)) : Cod P (.loop c) Q n F L B :=
  Cod.loopL (rforE_loop.symm.trans he) Ls Bs h0 hB0 hk hkB round

/-- What comes behind is shown once, from what every road there tells. -/
theorem Cod.thenJ {x y : Code} {ι : Type} (Ls : ι → Slots) (Bs : ι → Owns) (prop : ι → Prop) {keep : Slots} {keepB : Owns} (hk : Sub L keep) (hkB : SubB B keepB)
    (h : Cod P x (Exit.then (fun a w => ∃ j, prop j ∧ Sat n F (Ls j ++ keep) (Bs j ++ keepB) a w) Q) n F L B)
    (k : ∀ i, prop i → Cod P y Q n F (Ls i ++ keep) (Bs i ++ keepB)) : Cod P x (Exit.then (y.wp P Q) Q) n F L B := fun a w hs => wp_mono (h a w hs) (fun e a w hq => by
  cases e with
  | normal => obtain ⟨j, h1, h2⟩ := hq; exact k j h1 a w h2
  | _ => exact hq)

/-! What is written no more, whatever follows. -/

theorem lookB_shadow {t : Nat} {C : Option CPred} {t' : Nat} : lookB ((t, C) :: B) t' = if t = t' then C else lookB B t' := by
  simp only [lookB]
  by_cases h : t = t'
  · subst h; simp
  · rw [beq_ne h, if_neg h]; rfl

theorem Cod.reB {c : Code} {t : Nat} {C C' : CPred} (hl : lookB B t = some C) (hC : C' = C) (k : Cod P c Q n F L ((t, some C') :: B)) : Cod P c Q n F L B := by
  refine Cod.weaken (fun _ _ h => h) (fun t' c' h => ?_) k
  rw [lookB_shadow] at h
  by_cases he : t = t'
  · subst he; rw [if_pos rfl] at h; rw [hl, ← hC]; exact h
  · rw [if_neg he] at h; exact h

variable {e : Exit}

theorem Ends.freezeKey {t : Nat} {C : CPred} {S : SPred} {B' : Owns} (hl : lookB B t = some C) (ht : Nat.blt t n = true) (hB : SubB B B') (hn : hasKey B' t = false)
    (hS : ∀ (M D : MSet) (w : World) (s : Value), C.p M D s w → (∀ k, M k → k < w.heap.size) → S.p (fun k => M k ∧ ¬ D k) s w) (k : Ends Q e n F ((t, ⟨True, S⟩) :: L) B') : Ends Q e n F L B := by
  intro a w hs
  obtain ⟨M, D, h⟩ := id hs
  have hC := h.hasB t _ hl
  refine k a w ⟨_, D, h.free hl hB hn fun t' e he => ?_⟩
  have hlow : ∀ k, (M k ∧ ¬ D t k) → M k ∨ w.heap.size ≤ k := fun k h => .inl h.1
  simp only [look] at he
  by_cases hne : t = t'
  · subst hne
    simp at he; subst he
    have hlt : t < a.tmps.size := by rw [h.size]; exact Nat.le_of_ble_eq_true ht
    exact ⟨Act.val a t, by unfold Act.val; simp [hlt], fun _ => hS M (D t) w _ hC h.msub, fun hf => (hf trivial).elim⟩
  · rw [beq_ne hne, cond_false] at he
    obtain ⟨v', h1, h2⟩ := h.has t' e he
    exact ⟨v', h1, Ent.holds_law (Keeps.refl M w) hlow h2⟩
theorem Ends.freezeRowA {t T : Nat} {α : Type} [Rep α] {l : List α} {B' : Owns} (hl : lookB B t = some (rowV T l)) (ht : Nat.blt t n = true) (hB : SubB B B') (hn : hasKey B' t = false)
    (k : Ends Q e n F ((t, ⟨True, rep l⟩) :: L) B') : Ends Q e n F L B := Ends.freezeKey hl ht hB hn (fun M D w s h hms => rowV_rep M D w s h hms) k
theorem Ends.freeze {t T : Nat} {α : Type} [Rep α] {y : α} {B' : Owns} (hl : lookB B t = some (cont T y)) (ht : Nat.blt t n = true) (hB : SubB B B') (hn : hasKey B' t = false)
    (k : Ends Q e n F ((t, ⟨True, ref y⟩) :: L) B') : Ends Q e n F L B := Ends.freezeKey hl ht hB hn (fun M D w s h hms => cont_ref h hms) k
theorem Ends.freezeAt {g : Nat} {s : Value} {C : CPred} {S : SPred} {ts : List Nat} {B' : Owns} (hl : lookB B g = some (CPred.at s C)) (hts : AllAre L s ts) (hB : SubB B B') (hn : hasKey B' g = false)
    (hS : ∀ (M D : MSet) (w : World), C.p M D s w → (∀ k, M k → k < w.heap.size) → S.p (fun k => M k ∧ ¬ D k) s w) (k : Ends Q e n F (fillS S ts L) B') : Ends Q e n F L B := by
  intro a w hs
  obtain ⟨M, D, h⟩ := id hs
  have hC : C.p M (D g) s w := h.hasB g _ hl
  refine k a w ⟨_, D, h.free hl hB hn fun t' e he => ?_⟩
  have hlow : ∀ k, (M k ∧ ¬ D g k) → M k ∨ w.heap.size ≤ k := fun k h => .inl h.1
  rcases look_fillS he with ⟨h1, rfl⟩ | h1
  · obtain ⟨c, hc, hl'⟩ := hts t' h1
    obtain ⟨v, hv, he'⟩ := h.has t' _ hl'
    obtain ⟨rfl, _⟩ := rep_raw.1 (he'.1 hc)
    exact ⟨v, hv, fun _ => hS M (D g) w hC h.msub, fun hf => (hf trivial).elim⟩
  · obtain ⟨v', h1, h2⟩ := h.has t' e h1
    exact ⟨v', h1, Ent.holds_law (Keeps.refl M w) hlow h2⟩
theorem Ends.freezeRow {g T : Nat} {s : Value} {α : Type} [Rep α] {l : List α} {ts : List Nat} {B' : Owns} (hl : lookB B g = some (CPred.at s (rowV T l))) (hts : AllAre L s ts) (hB : SubB B B') (hn : hasKey B' g = false)
    (k : Ends Q e n F (fillS (rep l) ts L) B') : Ends Q e n F L B := Ends.freezeAt hl hts hB hn (fun M D w h hms => rowV_rep M D w s h hms) k
theorem Ends.freezeBox {g T m : Nat} {α : Type} [Rep α] {y : α} {ts : List Nat} {B' : Owns} (hl : lookB B g = some (boxAt m T y)) (hts : AllAre L (ptr m 0) ts) (hB : SubB B B') (hn : hasKey B' g = false)
    (k : Ends Q e n F (fillS (ref y) ts L) B') : Ends Q e n F L B := Ends.freezeAt hl hts hB hn (fun M D w h hms => cont_ref h hms) k

end

/-! Parts of rows. -/

/-- The value of a part of a slice. -/
def partV (s : Value) (i j : Int) (sz : Nat) : Value := match s with
  | .slice ad _ cap => sliced ad i.toNat j.toNat cap sz
  | _ => s

section
variable {P : Program} {ops : Array Oper} {fs : Nat} {L : Slots} {B : Owns} {G : Prop}
variable {d : Option Tmp} {ty : TypeId} {pos : String} {after : Array Edge} {g : Option (Nat × Bool)} {xr : List Nat}

theorem run_part {T E : Nat} {α : Type} [Rep α] {ad : Option Addr} {m cap : Nat} {lo hi : Option Value} {i j : Int} {w : World} (hT : SliceOf P T E) (hE : Ty P E α) (hb : segR m i j) (hc : m ≤ cap)
    (hlov : (lo = none ∧ i = 0) ∨ lo = some (.int .i64 i)) (hhiv : (hi = none ∧ j = m) ∨ hi = some (.int .i64 j)) :
    (Instr.sliceAt T (.slice ad m cap) lo hi none).run P w = .ok (sliced ad i.toNat j.toNat cap (Rep.sz α)) w := by
  obtain ⟨h0, h1, h2⟩ := hb
  obtain ⟨ti, hti, hsize⟩ := Option.map_eq_some_iff.1 hE.size
  have hTe : P.underlying T = some (.slice (P.elem T)) ∧ P.elem T = E := by
    have : P.elem T = E := by unfold Program.elem; rw [show P.underlying T = _ from hT]
    exact ⟨by rw [this]; exact hT, this⟩
  have hsz : (sizeOf (P.elem T)).run P w = .ok (Rep.sz α) w := by rw [hTe.2]; simp [sizeOf, typeInfo, hti, hsize, go_sem]
  rw [run_sliceAt_slice (h := hTe.1)]
  rcases hlov with ⟨e1, rfl⟩ | e1 <;> rcases hhiv with ⟨e2, rfl⟩ | e2 <;> rw [e1, e2]
  · rw [run_slice_all w T ad m cap hTe.1, hsz]; simp [Result.andThen]
  · rw [run_slice_h w T ad m cap hTe.1 .i64 j (by omega) (by omega), hsz]; simp [Result.andThen]
  · rw [run_slice_l w T ad m cap hTe.1 .i64 i (by omega) (by omega), hsz]; simp [Result.andThen]
  · rw [run_slice_lh w T ad m cap hTe.1 .i64 .i64 i j (by omega) (by omega) (by omega), hsz]; simp [Result.andThen]

theorem rep_part {α : Type} [Rep α] {l : List α} {i j : Int} {M : MSet} {s : Value} {w : World} (h : (rep l).p M s w) (hb : segR l.length i j) : (rep (seg l i j)).p M (partV s i j (Rep.sz α)) w := by
  obtain ⟨ad, cap, rfl, hcap, hcm, hl⟩ := rep_list.1 h
  obtain ⟨h0, h1, h2⟩ := hb
  refine rep_list.2 ⟨if cap = i.toNat then ad else ad.map (·.add (i.toNat * Rep.sz α)), cap - i.toNat, ?_, ?_, by omega, ?_⟩
  · simp only [partV, sliced, seg, List.length_drop, List.length_take]
    congr 1; omega
  · simp only [seg, List.length_drop, List.length_take]; omega
  · unfold seg
    cases ad with
    | none =>
      have : l = [] := hl
      subst this
      split <;> simp [Lies]
    | some ad =>
      have key : ∀ ad' : Addr, (∀ q, q < ((l.take j.toNat).drop i.toNat).length → ad' = ⟨ad.block, ad.off + i.toNat * Rep.sz α, none⟩) → Lies M ((l.take j.toNat).drop i.toNat) (some ad') w := by
        intro ad' hq q hql
        obtain rfl := hq q hql
        have hql' : i.toNat + q < l.length := by simp only [List.length_drop, List.length_take] at hql; omega
        obtain ⟨g1, g2, g3, cs, g4, g5⟩ := hl (i.toNat + q) hql'
        refine ⟨rfl, g2, g3, cs, ?_, fun k hk => ?_⟩
        · simp only [List.getElem_drop, List.getElem_take]; exact g4
        · rw [← g5 k hk]
          have : ad.spot = none := g1
          simp only [Nat.add_mul]
          congr 2; omega
      have hspot : ∀ q, q < ((l.take j.toNat).drop i.toNat).length → ad.spot = none := fun q hq => (hl (i.toNat + q) (by simp only [List.length_drop, List.length_take] at hq; omega)).1
      split
      · rename_i he
        refine key ad fun q hq => ?_
        simp only [List.length_drop, List.length_take] at hq
        omega
      · refine key _ fun q hq => ?_
        have := hspot q hq
        obtain ⟨b, off, sp⟩ := ad
        simp only at this
        subst this
        exact add_none _ _ _

theorem isOne_slice {s : Value} {a : Option Addr} {m c : Nat} (h : s = .slice a m c) : isOne s = true ∧ s.cells = #[s] := by subst h; exact ⟨rfl, rfl⟩
theorem partV_one {s : Value} {a : Option Addr} {m c : Nat} {i j : Int} {sz : Nat} (h : s = .slice a m c) : isOne (partV s i j sz) = true ∧ (partV s i j sz).cells = #[partV s i j sz] := by
  subst h; exact ⟨rfl, rfl⟩

theorem lo_at {L : Slots} {G : Prop} {o : Option Operand} {i : Int} {z : Int} {ts : List Nat} {M : MSet} {a : Act} {w : World} (h : match o with | some o => Opd L G o (rep i) | none => i = z)
    (hs : SatOn ts M L a w) (hx : ∀ t, o = some (.tmp t) → t ∈ ts) (hG : G) : (o.map a.eval = none ∧ i = z) ∨ o.map a.eval = some (.int .i64 i) := by
  cases o with
  | none => exact .inl ⟨rfl, h⟩
  | some o => exact .inr (by rw [Option.map_some, (rep_int.1 (Opd.get h hs (fun t ht => hx t (by rw [ht])) hG)).1])

/-- A part of a named row, to be lent. -/
theorem StepOK.sliceLend {T E k T' : Nat} {x : Operand} {s : Value} {lo hi : Option Operand} {α : Type} [Rep α] {l : List α} {i j : Int} (hT : SliceOf P T E) (hE : Ty P E α) (hx : Opd L True x (isV s)) (hk : lookB B k = some (CPred.at s (rowV T' l)))
    (hlo : match lo with | some o => Opd L True o (rep i) | none => i = 0) (hhi : match hi with | some o => Opd L True o (rep j) | none => j = l.length) (hb : segR l.length i j) :
    StepOK P ops fs ⟨d, .slice T x lo hi none, ty, pos, after, none⟩ L B ([k], []) ⟨True, isV (partV s i j (Rep.sz α))⟩ [] :=
  .of .none fun M D a w hm hs hsB hG => by
    have hv : a.eval x = s := (rep_raw.1 (hx.get hs (fun t ht => looksAt_op (by simp [Op.operands, ht])) trivial)).1
    obtain ⟨ad, cap, hsl, hlc, hcm, ho⟩ := hsB.has k (by simp) _ hk
    have hlov := lo_at hlo hs (fun t ht => looksAt_op (by simp [Op.operands, ht])) trivial
    have hhiv := lo_at hhi hs (fun t ht => looksAt_op (by simp [Op.operands, ht])) trivial
    have hrun := run_part (P := P) (w := w) (ad := ad) (cap := cap) hT hE hb hlc hlov hhiv
    refine Does.value (v := partV s i j (Rep.sz α)) (w' := w) ?_ ⟨Keeps.refl _ _, rep_raw.2 ⟨rfl, partV_one hsl⟩⟩
    subst hsl
    simp only [execOp, hv]
    rw [Sem.run_bind]
    simp only [Option.map] at hrun ⊢
    rw [hrun]; rfl

/-- Operands, some of which are rows of one's own, or parts of them, that are lent. -/
inductive OpdB2 (L : Slots) (B : Owns) (G : Prop) : List Operand → List SPred → List Nat → Prop
  | nil : OpdB2 L B G [] [] []
  | cons {x S xs Ss ks} : Opd L G x S → OpdB2 L B G xs Ss ks → OpdB2 L B G (x :: xs) (S :: Ss) ks
  | lend {x xs Ss ks k T} {α : Type} [Rep α] {l : List α} : RowArg L B x k (rowV T l) → OpdB2 L B G xs Ss ks → OpdB2 L B G (x :: xs) (rep l :: Ss) (k :: ks)
  | lendP {x xs Ss ks k T s i j} {α : Type} [Rep α] {l : List α} : Opd L G x (isV (partV s i j (Rep.sz α))) → lookB B k = some (CPred.at s (rowV T l)) → segR l.length i j → OpdB2 L B G xs Ss ks → OpdB2 L B G (x :: xs) (rep (seg l i j) :: Ss) (k :: ks)

theorem OpdB2.get {xs : List Operand} {Ss : List SPred} {ks : List Nat} (h : OpdB2 L B G xs Ss ks) {ts kz : List Nat} {M : MSet} {D : Nat → MSet} {a : Act} {w : World}
    (hs : SatOn ts M L a w) (hx : ∀ x ∈ xs, ∀ t, x = .tmp t → t ∈ ts) (hB : SatB kz M D B a w) (hk : ∀ k ∈ ks, k ∈ kz) (hG : G) (hm : ∀ k, M k → k < w.heap.size)
    (M' : MSet) (hM : ∀ k, M' k → M k) (hD : ∀ k ∈ ks, ∀ j, D k j → ¬ M' j) : All2 M' w Ss (xs.map a.eval) := by
  induction h with
  | nil => trivial
  | cons h1 _ ih => exact ⟨rep_less (h1.get hs (hx _ List.mem_cons_self) hG) hM, ih (fun x hm => hx x (List.mem_cons_of_mem _ hm)) hk hD⟩
  | lend h1 _ ih =>
    refine ⟨?_, ih (fun x hm => hx x (List.mem_cons_of_mem _ hm)) (fun k h => hk k (List.mem_cons_of_mem _ h)) (fun k h => hD k (List.mem_cons_of_mem _ h))⟩
    obtain ⟨hC, _⟩ := h1.get hs (hx _ List.mem_cons_self) hB (hk _ List.mem_cons_self)
    exact rep_less (rowV_rep M (D _) w _ hC hm) (fun k h => ⟨hM k h, fun hd => hD _ List.mem_cons_self k hd h⟩)
  | lendP h1 h2 h3 _ ih =>
    refine ⟨?_, ih (fun x hm => hx x (List.mem_cons_of_mem _ hm)) (fun k h => hk k (List.mem_cons_of_mem _ h)) (fun k h => hD k (List.mem_cons_of_mem _ h))⟩
    have hv := (rep_raw.1 (h1.get hs (hx _ List.mem_cons_self) hG)).1
    have hC := hB.has _ (hk _ List.mem_cons_self) _ h2
    rw [hv]
    exact rep_part (rep_less (rowV_rep M (D _) w _ hC hm) (fun k h => ⟨hM k h, fun hd => hD _ List.mem_cons_self k hd h⟩)) h3

/-- A call to which rows are lent. -/
theorem StepOK.callC {f : Nat} {xs : Array Operand} {ts : Array TypeId} {Ss : List SPred} {S : SPred} {ks : List Nat} (hg : Guard ops g L G) (hf : FnOK P f) (hspec : G → FSpec P f Ss S) (hS : FlatS S) (hx : OpdB2 L B G xs.toList Ss ks) :
    StepOK P ops fs ⟨d, .call { callee := .value (.func f), args := xs, argTypes := ts }, ty, pos, after, g⟩ L B (ks, []) ⟨G, S⟩ [] :=
  .of hg fun M D a w hm hs hsB hG => by
    let M' : MSet := fun j => M j ∧ ∀ k ∈ ks, ¬ D k j
    have ha := hx.get hs (fun x hxm t ht => looksAt_op (call_ops (by subst ht; simpa using hxm))) hsB (fun k h => h) hG hm M' (fun k h => h.1) (fun k hk j hd h => h.2 k hk hd)
    have hgive := (hspec hG).calls M' w _ (fun k h => hm k h.1) ha
    have hgive' : Gives P f (xs.toList.map a.eval) M w S := Calls.mono hgive fun e w' ⟨hx, v, he, hv⟩ => ⟨hx, v, he, hS _ _ _ _ hv⟩
    refine Does.enter (vs := xs.toList.map a.eval) ?_ hgive'
    rw [show (xs.toList.map a.eval).toArray = xs.map a.eval ++ #[] by rw [Array.append_empty, ← List.map_toArray]]
    exact ex_callV hf rfl

/-- A named row that goes on as a part of itself. -/
theorem StepOK.sliceRow {T E k d : Nat} {x : Operand} {s : Value} {lo hi : Option Operand} {α : Type} [Rep α] {l : List α} {i j : Int} (hT : SliceOf P T E) (hE : Ty P E α) (hd : Nat.blt d fs = true) (hx : Opd L True x (isV s)) (hk : lookB B k = some (CPred.at s (rowV E l)))
    (hlo : match lo with | some o => Opd L True o (rep i) | none => i = 0) (hhi : match hi with | some o => Opd L True o (rep j) | none => j = l.length) (hb : segR l.length i j) :
    StepOK P ops fs ⟨some d, .slice T x lo hi none, ty, pos, after, none⟩ L B ([k], [d, k]) ⟨True, anyV⟩ [(d, some (rowV E (seg l i j))), (k, none)] := by
  refine .doing fun M D a w hsz hm hs hsB => ?_
  have hv : a.eval x = s := (rep_raw.1 (hx.get hs (fun t ht => looksAt_op (by simp [Op.operands, ht])) trivial)).1
  obtain ⟨ad, cap, hsl, hlc, hcm, ho⟩ := hsB.has k (by simp) _ hk
  have hlov := lo_at hlo hs (fun t ht => looksAt_op (by simp [Op.operands, ht])) trivial
  have hhiv := lo_at hhi hs (fun t ht => looksAt_op (by simp [Op.operands, ht])) trivial
  have hrun := run_part (P := P) (w := w) (ad := ad) (cap := cap) hT hE hb hlc hlov hhiv
  obtain ⟨h0, h1, h2⟩ := hb
  refine Does.value (v := sliced ad i.toNat j.toNat cap (Rep.sz α)) (w' := w) ?_ (.pass M (D k) hk (Keeps.refl _ _) (fun _ h => h) (fun _ h => .inl h) hm ⟨fun _ => trivial, fun hf => (hf trivial).elim⟩ ?_ (fun j h => .inl h))
  · subst hsl
    simp only [execOp, hv]
    rw [Sem.run_bind]
    simp only [Option.map] at hrun ⊢
    rw [hrun]; rfl
  · rw [val_self (by rw [hsz]; exact Nat.le_of_ble_eq_true hd)]
    have hlen : (seg l i j).length = j.toNat - i.toNat := by simp only [seg, List.length_drop, List.length_take]; omega
    refine ⟨if cap = i.toNat then ad else ad.map (·.add (i.toNat * Rep.sz α)), cap - i.toNat, ?_, by rw [hlen]; omega, by omega, ?_⟩
    · simp only [sliced]
      rw [hlen]
    · cases ad with
      | none =>
        obtain ⟨rfl, rfl, hD⟩ := ho
        have : seg ([] : List α) i j = [] := by simp [seg]
        rw [this]
        split <;> exact ⟨rfl, by simp, hD⟩
      | some ad =>
        obtain ⟨hsp, hD, hM, pre, cs, rest, hh, hp, he, hr⟩ := ho
        obtain ⟨b, off, sp⟩ := ad
        simp only at hsp hD hM hh hp
        subst hsp
        have hcl := he.len
        have hsp2 := Elems.take l cs j.toNat (by omega) he
        have hsp3 := Elems.take (l.take j.toNat) (cs.take (j.toNat * Rep.sz α)) i.toNat (by rw [List.length_take]; omega) hsp2.1
        have hmid : (seg l i j).length = j.toNat - i.toNat := hlen
        -- the cells ahead, the part's, those behind
        have hij : i.toNat * Rep.sz α ≤ j.toNat * Rep.sz α := Nat.mul_le_mul_right _ (by omega)
        have hjl : j.toNat * Rep.sz α ≤ cs.length := by rw [hcl]; exact Nat.mul_le_mul_right _ (by omega)
        have split3 : pre ++ cs ++ rest = (pre ++ cs.take (i.toNat * Rep.sz α)) ++ (cs.take (j.toNat * Rep.sz α)).drop (i.toNat * Rep.sz α) ++ (cs.drop (j.toNat * Rep.sz α) ++ rest) := by
          have e1 : cs = cs.take (j.toNat * Rep.sz α) ++ cs.drop (j.toNat * Rep.sz α) := (List.take_append_drop _ _).symm
          have e2 : cs.take (j.toNat * Rep.sz α) = cs.take (i.toNat * Rep.sz α) ++ (cs.take (j.toNat * Rep.sz α)).drop (i.toNat * Rep.sz α) := by
            conv => lhs; rw [← List.take_append_drop (i.toNat * Rep.sz α) (cs.take (j.toNat * Rep.sz α))]
            rw [List.take_take, Nat.min_eq_left hij]
          conv => lhs; rw [e1, e2]
          simp only [List.append_assoc]
        have hrest : (cap - i.toNat - (seg l i j).length) * Rep.sz α ≤ (cs.drop (j.toNat * Rep.sz α) ++ rest).length := by
          rw [List.length_append, List.length_drop, hcl, hmid, ← Nat.sub_mul]
          have e : (cap - i.toNat - (j.toNat - i.toNat)) * Rep.sz α = (l.length - j.toNat) * Rep.sz α + (cap - l.length) * Rep.sz α := by rw [← Nat.add_mul]; congr 1; omega
          omega
        have own : ∀ pre', pre' = pre ++ cs.take (i.toNat * Rep.sz α) → OwnLies M (D k) E (seg l i j) (some ⟨b, off + i.toNat * Rep.sz α, none⟩) (cap - i.toNat) w := by
          intro pre' hp'
          refine ⟨rfl, hD, hM, pre', _, _, by rw [hp', ← split3]; exact hh, ?_, hsp3.2, hrest⟩
          rw [hp', List.length_append, List.length_take, hp]
          have : i.toNat * Rep.sz α ≤ cs.length := by omega
          simp only at *; omega
        by_cases hc : cap = i.toNat
        · rw [if_pos hc]
          have hil : i.toNat = l.length := by omega
          have hemp : seg l i j = [] := by simp only [seg]; rw [List.drop_eq_nil_iff]; rw [List.length_take]; omega
          rw [hemp]
          refine ⟨rfl, hD, hM, pre, [], cs ++ rest, by rw [List.append_nil, ← List.append_assoc]; exact hh, hp, rfl, ?_⟩
          rw [hc]; simp
        · rw [if_neg hc, Option.map_some, add_none]
          exact own _ rfl

/-- A slice of elements that are told, of one's own. -/
theorem StepOK.buildSliceO {T E m d : Nat} {α : Type} [Rep α] {parts : Array (Nat × Operand)} {xs : List α} (hd : Nat.blt d fs = true) (hT : SliceOf P T E) (hE : Ty P E α) (hz : HasZero P E)
    (hx : OpdL L True (parts.toList.map (·.2)) (xs.map rep)) (hidx : parts.toList.map (·.1) = List.range' 0 m) (hsmall : m * Rep.sz α ≤ 16777216) :
    StepOK P ops fs ⟨some d, .buildSlice T m parts, ty, pos, after, none⟩ L B ([], [d]) ⟨True, anyV⟩ [(d, some (rowV E xs))] := by
  refine .doing fun M D a w hsz hm hs _ => ?_
  have ha := hx.get hs (fun x hxm t ht => looksAt_op (by
      subst ht
      obtain ⟨p, hp, he⟩ := List.mem_map.1 hxm
      simp only [Op.operands]
      rw [List.mem_toArray]
      exact List.mem_map.2 ⟨p, hp, he⟩)) trivial
  rw [List.map_map] at ha
  have hn : xs.length = m := by
    have h1 := ha.length
    have h2 := congrArg List.length hidx
    simp only [List.length_map, List.length_range'] at h1 h2
    omega
  obtain ⟨cs, hrun, hel⟩ := ex_buildSlice (P := P) (d := some d) (ty := ty) (pos := pos) (after := after) (g := none) hT hE hz hn hsmall hidx ha
  have hle : m ≤ 16777216 := by
    have : Rep.sz α ≠ 0 := Nat.ne_of_gt (Rep.pos (α := α))
    have : m * 1 ≤ m * Rep.sz α := Nat.mul_le_mul_left m (by omega)
    omega
  refine Does.value hrun (.one (fun k => M k ∨ k = w.heap.size) (fun k => k = w.heap.size) (Ext.alloc _ _) (fun k h => .inl h) (fun k h => h.imp id (by omega)) (fun k h => ?_) ⟨fun _ => trivial, fun hf => (hf trivial).elim⟩ ?_ (fun k h => by omega))
  · rw [size_new]
    rcases h with h | h
    · have := hm k h; omega
    · omega
  · rw [val_self (by rw [hsz]; exact Nat.le_of_ble_eq_true hd)]
    refine ⟨some ⟨w.heap.size, 0, none⟩, m, by rw [hn], by omega, by omega, rfl, fun k => Iff.rfl, .inr rfl, [], cs, [], ?_, rfl, ?_, ?_⟩
    · show (w.heap.push _)[w.heap.size]? = _
      rw [Array.getElem?_push_size]; simp
    · exact Elems.law (Ext.alloc w _).keeps (fun k h => h.imp id (by omega)) xs cs hel
    · rw [hn]; simp

theorem ex_nilCheck {ρ : Operand → Value} {x : Operand} {ad : Addr} {w : World} (h : ρ x = .pointer (some ad)) :
    (execOp ρ ⟨d, .nilCheck x, ty, pos, after, g⟩).run P w = .ok (.value (.pointer (some ad))) w := by
  simp only [execOp, h]; rfl
theorem StepOK.nilCheckR {x : Operand} {α : Type} [Rep α] {y : α} (hg : Guard ops g L G) (hx : Opd L G x (ref y)) : StepOK P ops fs ⟨d, .nilCheck x, ty, pos, after, g⟩ L B (xr, []) ⟨G, ref y⟩ [] :=
  .pure hg fun M a w _ hs hG => by
    have h := hx.get hs (fun t ht => looksAt_op (by simp [Op.operands, ht])) hG
    obtain ⟨b, o, cs, hv, h'⟩ := id h
    exact ⟨_, ex_nilCheck hv, hv ▸ h⟩
theorem StepOK.nilCheckP {x : Operand} {m o : Nat} (hg : Guard ops g L G) (hx : Opd L G x (isV (ptr m o))) : StepOK P ops fs ⟨d, .nilCheck x, ty, pos, after, g⟩ L B (xr, []) ⟨G, isV (ptr m o)⟩ [] :=
  .pure hg fun M a w _ hs hG => by
    have h := hx.get hs (fun t ht => looksAt_op (by simp [Op.operands, ht])) hG
    exact ⟨_, ex_nilCheck (rep_raw.1 h).1, isV_ptr⟩

end

/-! Comparison of structs of integers. -/

theorem All2.ints {M : MSet} {w : World} : ∀ (xs : List Int) (vs : List Value), All2 M w (xs.map rep) vs → vs = xs.map (.int .i64 ·) ∧ ∀ x ∈ xs, InI x
  | [], [], _ => ⟨rfl, by simp⟩
  | [], _ :: _, h => h.elim
  | _ :: _, [], h => h.elim
  | x :: xs, v :: vs, h => by
    obtain ⟨h1, h2⟩ := All2.ints xs vs h.2
    obtain ⟨h3, h4⟩ := rep_int.1 h.1
    exact ⟨by rw [h1, h3]; rfl, fun y hy => by
      rcases List.mem_cons.1 hy with rfl | hy
      · exact h4
      · exact h2 y hy⟩

/-- Two structs of integers are compared part by part. -/
def IntFields (P : Program) (T : Nat) (n : Nat) : Prop :=
  P.underlying T = some (.struct (P.fieldsOf T)) ∧ P.stoodInHeld T = false ∧ P.eqGuardType P.depth T = false ∧
    (P.fieldsOf T).toList.map (fun f => (f.name != "_", f.offset, P.underlying f.type)) = (List.range n).map (fun i => (true, i, some (.int .i64)))

theorem run_eqFields {P : Program} {w : World} (k : Nat) (xs ys : List Int) (hxy : xs.length = ys.length) : ∀ (fs : List Field) (i m : Nat), i + m = xs.length →
    fs.map (fun f => (f.name != "_", f.offset, P.underlying f.type)) = (List.range' i m).map (fun i => (true, i, some (.int .i64))) →
    (Op.eqFields (k + 1) (xs.map (Value.int .i64 ·)).toArray (ys.map (Value.int .i64 ·)).toArray fs).run P w = .ok (decide (xs.drop i = ys.drop i)) w
  | [], i, m, him, h => by
    have hm : m = 0 := by
      have := congrArg List.length h
      simp at this; omega
    subst hm
    rw [List.drop_of_length_le (by omega), List.drop_of_length_le (by omega)]
    simp [Op.eqFields, go_sem]
  | f :: fs, i, m, him, h => by
    obtain ⟨m, rfl⟩ : ∃ m', m = m' + 1 := ⟨m - 1, by have := congrArg List.length h; simp at this; omega⟩
    rw [List.range'_succ] at h
    simp only [List.map_cons, List.cons.injEq, Prod.mk.injEq] at h
    obtain ⟨⟨h1, h2, h3⟩, h4⟩ := h
    have hne : f.name ≠ "_" := by simpa using h1
    have hx : i < xs.length := by omega
    have hy : i < ys.length := by omega
    have hag : (isAgg f.type).run P w = .ok false w := by simp [isAgg, underlying, h3, go_sem]
    have pt : ∀ (zs : List Int) (hz : i < zs.length), (part f.type (zs.map (Value.int .i64 ·)).toArray f.offset).run P w = .ok (.int .i64 zs[i]) w := by
      intro zs hz
      unfold part
      rw [Sem.run_bind, hag]
      simp only [Result.andThen, h2]
      have : ((zs.map (Value.int .i64 ·)).toArray)[i]? = some (.int .i64 zs[i]) := by simp [hz]
      simp only [Bool.false_eq_true, if_false, this]
      rfl
    have ih := run_eqFields (P := P) (w := w) k xs ys hxy fs (i + 1) m (by omega) h4
    rw [Op.eqFields, if_pos hne, Sem.run_bind, pt xs hx]
    simp only [Result.andThen]
    rw [Sem.run_bind, pt ys hy]
    simp only [Result.andThen]
    rw [Sem.run_bind, run_equalIn_int k h3]
    simp only [Result.andThen]
    have key : decide (xs.drop i = ys.drop i) = (decide (xs[i] = ys[i]) && decide (xs.drop (i + 1) = ys.drop (i + 1))) := by
      rw [List.drop_eq_getElem_cons hx, List.drop_eq_getElem_cons hy, ← Bool.decide_and]
      exact decide_eq_decide.2 (by rw [List.cons.injEq])
    rw [key]
    by_cases he : xs[i] = ys[i]
    · have hb : (xs[i] == ys[i]) = true := by simp [he]
      rw [hb]
      simp only [Bool.not_true, Bool.false_eq_true, if_false]
      rw [ih, decide_eq_true he, Bool.true_and]
    · have hb : (xs[i] == ys[i]) = false := by simp [he]
      rw [hb, decide_eq_false he, Bool.false_and]
      simp [go_sem]

theorem eqAt_ints {P : Program} {T n : Nat} {α : Type} [Rep α] [DecidableEq α] (f : α → List Int) (hf : ∀ a b, f a = f b ↔ a = b) (hlen : ∀ a, (f a).length = n)
    (hrep : ∀ (M : MSet) (v : Value) (w : World) (a : α), (rep a).p M v w → v = .agg ((f a).map (Value.int .i64 ·)).toArray) (hT : IntFields P T n) : EqAt P T α := by
  obtain ⟨hu, hst, hgd, hfs⟩ := hT
  intro M w p q x y v u hv hu'
  obtain rfl := hrep _ _ _ _ hv
  obtain rfl := hrep _ _ _ _ hu'
  have h : (Op.equal T (.agg ((f x).map (Value.int .i64 ·)).toArray) (.agg ((f y).map (Value.int .i64 ·)).toArray)).run P w = .ok (decide (x = y)) w := by
    show (Op.equalIn (9998 + 1 + 1) T _ _).run P w = _
    rw [run_equalIn_struct w _ T _ _ hu hst, run_eqFields 9998 (f x) (f y) (by rw [hlen, hlen]) _ 0 n (by rw [hlen]; omega) (by rw [hfs, List.range_eq_range'])]
    simp [hf]
  have hg : ∀ op, (op = .eql ∨ op = .neq) → (eqGuard op T p q (.agg ((f x).map (Value.int .i64 ·)).toArray) (.agg ((f y).map (Value.int .i64 ·)).toArray)).run P w = .ok () w := by
    intro op hop
    rcases hop with rfl | rfl <;> simp [eqGuard, go_sem, hgd]
  constructor
  · rw [Sem.run_bind, hg _ (.inl rfl)]
    simp only [Result.andThen, binOp]
    rw [Sem.run_bind, h]; rfl
  · rw [Sem.run_bind, hg _ (.inr rfl)]
    simp only [Result.andThen, binOp]
    rw [Sem.run_bind, h]; rfl


/-! What fits: what a value's being represented tells. -/

class Fits (α : Type) where
  isFits : α → Prop
abbrev fits {α : Type} [Fits α] (x : α) : Prop := Fits.isFits x
instance : Fits Int := ⟨InI⟩
instance : Fits Bool := ⟨fun _ => True⟩
instance {α : Type} [Fits α] : Fits (List α) := ⟨fun l => l.length ≤ 9223372036854775807 ∧ ∀ x ∈ l, fits x⟩

class FitsRep (α : Type) [Rep α] [Fits α] : Prop where
  of : ∀ {M : MSet} {x : α} {cs : List Value} {w : World}, Rep.cells M x cs w → fits x
instance : FitsRep Int := ⟨fun h => h.2⟩
instance : FitsRep Bool := ⟨fun _ => trivial⟩
instance {α β : Type} [Fits α] [Fits β] : Fits (α × β) := ⟨fun x => fits x.1 ∧ fits x.2⟩
instance {α β : Type} [Rep α] [Rep β] [Fits α] [Fits β] [FitsRep α] [FitsRep β] : FitsRep (α × β) := ⟨fun ⟨_, _, _, h1, h2⟩ => ⟨FitsRep.of h1, FitsRep.of h2⟩⟩
instance {α : Type} [Rep α] [Fits α] [FitsRep α] : FitsRep (List α) := ⟨fun {M x cs w} ⟨a, cap, _, h1, h2, h3⟩ => ⟨by omega, fun y hy => by
  obtain ⟨i, hi, rfl⟩ := List.mem_iff_getElem.1 hy
  cases a with
  | none => have : x = [] := h3; subst this; simp at hi
  | some ad => obtain ⟨_, _, _, cs, hc, _⟩ := h3 i hi; exact FitsRep.of hc⟩⟩
theorem rep_fits {α : Type} [Rep α] [Fits α] [FitsRep α] {x : α} {M : MSet} {v : Value} {w : World} (h : (rep x).p M v w) : fits x := by
  obtain ⟨cs, hc, _⟩ := h; exact FitsRep.of hc

@[simp] theorem fits_int {n : Int} : fits n ↔ (-9223372036854775808 ≤ n ∧ n ≤ 9223372036854775807) := Iff.rfl
@[simp] theorem fits_bool {n : Bool} : fits n ↔ True := Iff.rfl
theorem fits_list {α : Type} [Fits α] {l : List α} : fits l ↔ (l.length ≤ 9223372036854775807 ∧ ∀ x ∈ l, fits x) := Iff.rfl

end Go.DB
