/-
  Boxes of function values that nobody writes any more; rows that go into boxes without a name; closures over memory of one's own that are lent.
-/
import Derived.Test.YthopjimlhjgoiaaDoorCore16
set_option linter.unusedSimpArgs false
set_option linter.unusedVariables false
namespace Go.DB
open Go Go.RowKit

theorem andT {a b : Bool} (h1 : a = true) (h2 : b = true) : (a && b) = true := by rw [h1, h2]; rfl
theorem notT {b : Bool} (h : b = false) : (!b) = true := by rw [h]; rfl

/-- A pointer to one cell that holds what S stands for, in a block that stays. -/
def refS (S : SPred) : SPred where
  p := fun M v w => ∃ b u, v = .pointer (some ⟨b, 0, none⟩) ∧ ¬ M b ∧ b < w.heap.size ∧ S.p M u w ∧ isOne u = true ∧ u.cells = #[u] ∧ w.cell? ⟨b, 0, none⟩ = some u
  law := fun _ _ _ w w' hk hm ⟨b, u, hv, hM, hb, hS, h1, h2, hc⟩ =>
    ⟨b, u, hv, fun h => (hm b h).elim hM (by omega), Nat.lt_of_lt_of_le hb hk.size, S.law _ _ _ _ _ hk hm hS, h1, h2, by rw [← hc]; exact World.cell?_of_block (w := w) (hk.block b hb hM)⟩

/-- Values of a kind are of one cell. -/
def OneS (S : SPred) : Prop := ∀ M v w, S.p M v w → isOne v = true ∧ v.cells = #[v]
theorem fnv_one {P : Program} {ι : Type} {pre : ι → Prop} {Ss : ι → List SPred} {S : ι → SPred} : OneS (fnv P pre Ss S) := fun M v w ⟨f, caps, h, _⟩ => by rw [h]; exact ⟨rfl, rfl⟩

theorem contS_ref {T : Nat} {S : SPred} (hS : OneS S) {M D : MSet} {v : Value} {w : World} (h : (contS T S).p M D v w) (hms : ∀ k, M k → k < w.heap.size) : (refS S).p (fun k => M k ∧ ¬ D k) v w := by
  obtain ⟨m, u, hv, hD, hM, hh, hSu⟩ := h
  obtain ⟨h1, h2⟩ := hS _ _ _ hSu
  exact ⟨m, u, hv, fun hf => hf.2 ((hD m).2 rfl), hms m hM, rep_less hSu (fun k h => h.1), h1, h2, by rw [cell_of_heap hh]; rfl⟩

section
variable {P : Program} {ops : Array Oper} {fs : Nat} {L : Slots} {B : Owns} {G : Prop}
variable {d : Option Tmp} {ty : TypeId} {pos : String} {after : Array Edge} {g : Option (Nat × Bool)} {xr : List Nat}

/-- A value of a kind goes into a box that was made in the same region. -/
theorem StepOK.storeS0 {T T' t : Nat} {x : Operand} {S : SPred} {y0 : Raw} (hT : Ty P T Raw) (hl : lookB B t = some (cont T' y0)) (ht : Nat.blt t fs = true) (hx : Opd L True x S) (hS : OneS S) :
    StepOK P ops fs ⟨none, .store T (.tmp t) x, ty, pos, after, none⟩ L B ([t], [t]) ⟨True, anyV⟩ [(t, some (contS T' S))] := by
  refine .doing fun M D a w hsz hm hs hsB => ?_
  obtain ⟨m, old, hvm, hD, hM, hh, hold⟩ := hsB.has t (by simp) _ hl
  have hSv := hx.get hs (fun t ht => looksAt_op (by simp [Op.operands, ht])) trivial
  obtain ⟨q1, q2⟩ := hS _ _ _ hSv
  have hz : Rep.cells M (⟨a.eval x⟩ : Raw) [a.eval x] w := ⟨rfl, q1, q2⟩
  have hat : a.eval (.tmp t) = .pointer (some ⟨m, 0, none⟩) := by
    have hlt : t < a.tmps.size := by rw [hsz]; exact Nat.le_of_ble_eq_true ht
    rw [Act.eval_tmp (v := Act.val a t) (by unfold Act.val; simp [hlt]), hvm]
  obtain ⟨w', h1, h2, h3, h4, h5, h6, h7⟩ := run_storeAt (w := w) (m := m) (off := 0) (cs := [a.eval x]) (pre := []) (mid := old) (rest := []) hT rfl (Rep.len hold) rfl (Rep.plain hz) (Rep.flat hz) (by simpa using hh)
  have hkeep : Keeps (D t) w w' := ⟨h3, h4, h5, by omega, fun k _ hn => h7 k (fun e => hn ((hD k).2 e))⟩
  have hkM : Keeps M w w' := ⟨h3, h4, h5, by omega, fun k _ hn => h7 k (fun e => hn (e ▸ hM))⟩
  refine Does.skip (w' := w') (ex_store (by rw [hat]; exact h1)) rfl (.turn hl hkeep (fun k h => by rw [h6]; exact hm k h) ⟨fun _ => trivial, fun hf => (hf trivial).elim⟩ ?_)
  rw [val_none]
  exact ⟨m, _, hvm, hD, hM, by simpa using h2, S.law M M _ w w' hkM (fun _ h => .inl h) hSv⟩

/-- A load out of a box of a function value that nobody writes. -/
theorem StepOK.loadF {T : Nat} {x : Operand} {S : SPred} (hg : Guard ops g L G) (hT : Ty P T Raw) (hx : Opd L G x (refS S)) :
    StepOK P ops fs ⟨d, .load T x, ty, pos, after, g⟩ L B (xr, []) ⟨G, S⟩ [] :=
  .pure hg fun M a w _ hs hG => by
    obtain ⟨b, u, hv, hM, hb, hSu, h1, h2, hc⟩ := hx.get hs (fun t ht => looksAt_op (by simp [Op.operands, ht])) hG
    have hz : Rep.cells M (⟨u⟩ : Raw) [u] w := ⟨rfl, h1, h2⟩
    refine ⟨u, ?_, hSu⟩
    have := run_loadAt (P := P) hT hz (b := b) (off := 0) (fun j hj => by
      have : j = 0 := by have : Rep.sz Raw = 1 := rfl; omega
      subst this; simpa using hc)
    simp only [execOp, hv, Sem.run_bind, this, Result.andThen, Sem.run_pure]; rfl

/-- A row goes into a box that was made in the same region. -/
theorem StepOK.storeRow0 {T T' t k E : Nat} {α : Type} [Rep α] {y0 : Raw} {l : List α} (hT : Ty P T (List α)) (hl : lookB B k = some (cont T' y0)) (hkn : Nat.blt k fs = true) (ht : lookB B t = some (rowV E l)) (hkt : (k == t) = false) :
    StepOK P ops fs ⟨none, .store T (.tmp k) (.tmp t), ty, pos, after, none⟩ L B ([k, t], [k, t]) ⟨True, anyV⟩ [(k, some (deep (fun s => cont T' (⟨s⟩ : Raw)) (rowV E l))), (t, none)] := by
  have hkt : k ≠ t := by simpa using hkt
  refine .doing fun M D a w hsz hm hs hsB => ?_
  obtain ⟨m, old, hvm, hD, hM, hh, hold⟩ := hsB.has k (by simp) _ hl
  have hR := hsB.has t (by simp) _ ht
  have hap := hsB.apart k (by simp) t (by simp) _ _ hl ht hkt
  have hxv : a.eval (.tmp t) = Act.val a t := eval_val
  obtain ⟨ad, cap, hsl, _⟩ := id hR
  have hz : Rep.cells M (⟨Act.val a t⟩ : Raw) [Act.val a t] w := ⟨rfl, by rw [hsl]; rfl, by rw [hsl]; rfl⟩
  have hat : a.eval (.tmp k) = .pointer (some ⟨m, 0, none⟩) := by
    have hlt : k < a.tmps.size := by rw [hsz]; exact Nat.le_of_ble_eq_true hkn
    rw [Act.eval_tmp (v := Act.val a k) (by unfold Act.val; simp [hlt]), hvm]
  obtain ⟨w', h1, h2, h3, h4, h5, h6, h7⟩ := run_storeAt (w := w) (m := m) (off := 0) (cs := [Act.val a t]) (pre := []) (mid := old) (rest := []) hT rfl (show old.length = 1 from Rep.len hold) rfl (Rep.plain hz) (show (Act.val a t).cells = #[Act.val a t] by rw [hsl]; rfl) (by simpa using hh)
  have hkeep : Keeps (D k) w w' := ⟨h3, h4, h5, by omega, fun j _ hn => h7 j (fun e => hn ((hD j).2 e))⟩
  have hkM : Keeps M w w' := ⟨h3, h4, h5, by omega, fun j _ hn => h7 j (fun e => hn (e ▸ hM))⟩
  refine Does.skip (w' := w') (ex_store (by rw [hat, hxv]; exact h1)) rfl (.merge hl ht hkeep (fun j h => by rw [h6]; exact hm j h) ⟨fun _ => trivial, fun hf => (hf trivial).elim⟩ ?_)
  rw [val_none]
  refine ⟨Act.val a t, D k, D t, ⟨m, _, hvm, hD, hM, by simpa using h2, rfl, by rw [hsl]; rfl, by rw [hsl]; rfl⟩, ?_, fun _ => Iff.rfl, fun j h1 h2 => hap j h1 h2⟩
  exact (rowV E l).law M M (D t) _ w w' hkM (fun _ h => .inl h) (fun j hj => ⟨(rowV E l).inM _ _ _ _ hR j hj, h7 j (fun e => hap j ((hD j).2 e) hj)⟩) hR

/-! What is lent. -/

/-- With the memory of the keys ks lent, x stands for S. -/
def LentTo (L : Slots) (B : Owns) (G : Prop) (x : Operand) (S : SPred) (ks : List Nat) : Prop :=
  ∀ {ts kz : List Nat} {M : MSet} {D : Nat → MSet} {a : Act} {w : World}, SatOn ts M L a w → (∀ t, x = .tmp t → t ∈ ts) → SatB kz M D B a w → (∀ k ∈ ks, k ∈ kz) → G → (∀ k, M k → k < w.heap.size) →
    ∀ (M' : MSet), (∀ k, M' k → M k) → (∀ k ∈ ks, ∀ j, D k j → ¬ M' j) → S.p M' (a.eval x) w

/-- What captured pointers stand for, if memory is lent. -/
inductive CapsTo (B : Owns) : List SPred → List SPred → List Nat → Prop
  | nil : CapsTo B [] [] []
  | same {C Cs Cs' ks} : CapsTo B Cs Cs' ks → CapsTo B (C :: Cs) (C :: Cs') ks
  | own {k m : Nat} {C : CPred} {S' : SPred} {Cs Cs' ks} : lookB B k = some (CPred.at (ptr m 0) C) → (∀ M D w, C.p M D (ptr m 0) w → (∀ k, M k → k < w.heap.size) → S'.p (fun k => M k ∧ ¬ D k) (ptr m 0) w) → CapsTo B Cs Cs' ks →
      CapsTo B (isV (ptr m 0) :: Cs) (S' :: Cs') (k :: ks)
  | deep1 {k q m T E : Nat} {s : Value} {α β γ : Type} [Rep α] [Rep β] [Rep γ] {l : List β} {x : α} {y : γ} {Cs Cs' ks} : lookB B k = some (boxAt m T x) → lookB B q = some (CPred.at s (rowV E l)) → Rep.sz γ = Rep.sz α →
      (∀ M cs w, Rep.cells M x cs w → (rep l).p M s w → Rep.cells M y cs w) → CapsTo B Cs Cs' ks → CapsTo B (isV (ptr m 0) :: Cs) (ref y :: Cs') (k :: q :: ks)
  | deep2 {k q1 q2 m T E1 E2 : Nat} {s1 s2 : Value} {α β1 β2 γ : Type} [Rep α] [Rep β1] [Rep β2] [Rep γ] {l1 : List β1} {l2 : List β2} {x : α} {y : γ} {Cs Cs' ks} : lookB B k = some (boxAt m T x) → lookB B q1 = some (CPred.at s1 (rowV E1 l1)) → lookB B q2 = some (CPred.at s2 (rowV E2 l2)) → Rep.sz γ = Rep.sz α →
      (∀ M cs w, Rep.cells M x cs w → (rep l1).p M s1 w → (rep l2).p M s2 w → Rep.cells M y cs w) → CapsTo B Cs Cs' ks → CapsTo B (isV (ptr m 0) :: Cs) (ref y :: Cs') (k :: q1 :: q2 :: ks)

theorem CapsTo.get {Cs Cs' : List SPred} {ks : List Nat} (h : CapsTo B Cs Cs' ks) {kz : List Nat} {M : MSet} {D : Nat → MSet} {a : Act} {w : World} (hB : SatB kz M D B a w) (hk : ∀ k ∈ ks, k ∈ kz) (hm : ∀ k, M k → k < w.heap.size)
    (M' : MSet) (hM : ∀ k, M' k → M k) (hD : ∀ k ∈ ks, ∀ j, D k j → ¬ M' j) : ∀ vs, All2 M w Cs vs → All2 M' w Cs' vs := by
  induction h with
  | nil => intro vs h; cases vs with
    | nil => trivial
    | cons _ _ => exact h.elim
  | same _ ih => intro vs h; cases vs with
    | nil => exact h.elim
    | cons v vs => exact ⟨rep_less h.1 hM, ih hk hD vs h.2⟩
  | own hl hS _ ih => intro vs h; cases vs with
    | nil => exact h.elim
    | cons v vs =>
      refine ⟨?_, ih (fun k h => hk k (List.mem_cons_of_mem _ h)) (fun k h => hD k (List.mem_cons_of_mem _ h)) vs h.2⟩
      have hC := hB.has _ (hk _ List.mem_cons_self) _ hl
      rw [(rep_raw.1 h.1).1]
      exact rep_less (hS M _ w hC hm) (fun k h => ⟨hM k h, fun hd => hD _ List.mem_cons_self k hd h⟩)
  | deep1 hl hq hsz hy _ ih => intro vs h; cases vs with
    | nil => exact h.elim
    | cons v vs =>
      refine ⟨?_, ih (fun k h => hk k (List.mem_cons_of_mem _ (List.mem_cons_of_mem _ h))) (fun k h => hD k (List.mem_cons_of_mem _ (List.mem_cons_of_mem _ h))) vs h.2⟩
      obtain ⟨m', cs, hv, hDk, hMk, hh, hc⟩ := hB.has _ (hk _ List.mem_cons_self) _ hl
      have hR := hB.has _ (hk _ (List.mem_cons_of_mem _ List.mem_cons_self)) _ hq
      rw [(rep_raw.1 h.1).1, hv]
      have hR' := rep_less (rowV_rep M _ w _ hR hm) (M' := M') (fun k h => ⟨hM k h, fun hd => hD _ (List.mem_cons_of_mem _ List.mem_cons_self) k hd h⟩)
      exact ⟨m', 0, cs, rfl, fun hk => hD _ List.mem_cons_self m' ((hDk m').2 rfl) hk, hm _ hMk, hy M' cs w (Rep.law (Keeps.refl M w) (fun k h => .inl (hM k h)) hc) hR', fun j _ => by rw [cell_of_heap hh]; simp⟩
  | deep2 hl hq1 hq2 hsz hy _ ih => intro vs h; cases vs with
    | nil => exact h.elim
    | cons v vs =>
      refine ⟨?_, ih (fun k h => hk k (List.mem_cons_of_mem _ (List.mem_cons_of_mem _ (List.mem_cons_of_mem _ h)))) (fun k h => hD k (List.mem_cons_of_mem _ (List.mem_cons_of_mem _ (List.mem_cons_of_mem _ h)))) vs h.2⟩
      obtain ⟨m', cs, hv, hDk, hMk, hh, hc⟩ := hB.has _ (hk _ List.mem_cons_self) _ hl
      have hR1 := hB.has _ (hk _ (List.mem_cons_of_mem _ List.mem_cons_self)) _ hq1
      have hR2 := hB.has _ (hk _ (List.mem_cons_of_mem _ (List.mem_cons_of_mem _ List.mem_cons_self))) _ hq2
      rw [(rep_raw.1 h.1).1, hv]
      have hR1' := rep_less (rowV_rep M _ w _ hR1 hm) (M' := M') (fun k h => ⟨hM k h, fun hd => hD _ (List.mem_cons_of_mem _ List.mem_cons_self) k hd h⟩)
      have hR2' := rep_less (rowV_rep M _ w _ hR2 hm) (M' := M') (fun k h => ⟨hM k h, fun hd => hD _ (List.mem_cons_of_mem _ (List.mem_cons_of_mem _ List.mem_cons_self)) k hd h⟩)
      exact ⟨m', 0, cs, rfl, fun hk => hD _ List.mem_cons_self m' ((hDk m').2 rfl) hk, hm _ hMk, hy M' cs w (Rep.law (Keeps.refl M w) (fun k h => .inl (hM k h)) hc) hR1' hR2', fun j _ => by rw [cell_of_heap hh]; simp⟩

/-- A box that is lent: what it stands for. -/
theorem lent_box {T m : Nat} {α : Type} [Rep α] {y : α} : ∀ M D w, (cont T y).p M D (ptr m 0) w → (∀ k, M k → k < w.heap.size) → (ref y).p (fun k => M k ∧ ¬ D k) (ptr m 0) w := fun M D w h hms => cont_ref h hms
/-- A box with one row: what it stands for. -/
theorem row_cells {β : Type} [Rep β] {l : List β} {s : Value} {M : MSet} {cs : List Value} {w : World} (h : Rep.cells M (⟨s⟩ : Raw) cs w) (hl : (rep l).p M s w) : Rep.cells M l cs w := by
  obtain ⟨rfl, _⟩ := h
  obtain ⟨cs, hc, hv⟩ := hl
  have h1 := Rep.len hc
  have : Rep.sz (List β) = 1 := rfl
  match cs, h1 with
  | [c], _ =>
    have : s = c := hv
    rw [this]; exact hc

/-- A closure over memory of one's own, as a function that may be called while the memory is lent. -/
theorem LentTo.clo {t f : Nat} {Cs Cs' : List SPred} {ks : List Nat} {ι : Type} {pre : ι → Prop} {Ss : ι → List SPred} {S : ι → SPred} (hx : Opd L G (.tmp t) (cloV f Cs)) (hf : FnOK P f) (hc : CapsTo B Cs Cs' ks)
    (hspec : ∀ i, pre i → FSpec P f (Ss i ++ Cs') (S i)) : LentTo L B G (.tmp t) (fnv P pre Ss S) ks := by
  intro ts kz M D a w hs hxt hB hk hG hm M' hM hD
  obtain ⟨caps, hv, ha⟩ := hx.get hs hxt hG
  have ha' := hc.get hB hk hm M' hM hD caps ha
  exact ⟨f, caps, hv, hf, fun i hi M2 w2 vs hk2 hm2 hsz hall => (hspec i hi).calls M2 w2 _ hsz (All2.append _ _ _ _ hall (All2.law hk2 hm2 _ _ ha'))⟩

/-- Operands, some of which are lent. -/
inductive OpdB4 (L : Slots) (B : Owns) (G : Prop) : List Operand → List SPred → List Nat → Prop
  | nil : OpdB4 L B G [] [] []
  | cons {x S xs Ss ks} : Opd L G x S → OpdB4 L B G xs Ss ks → OpdB4 L B G (x :: xs) (S :: Ss) ks
  | lend {x xs Ss ks k T} {α : Type} [Rep α] {l : List α} : RowArg L B x k (rowV T l) → OpdB4 L B G xs Ss ks → OpdB4 L B G (x :: xs) (rep l :: Ss) (k :: ks)
  | lendP {x xs Ss ks k T s i j} {α : Type} [Rep α] {l : List α} : Opd L G x (isV (partV s i j (Rep.sz α))) → lookB B k = some (CPred.at s (rowV T l)) → segR l.length i j → OpdB4 L B G xs Ss ks → OpdB4 L B G (x :: xs) (rep (seg l i j) :: Ss) (k :: ks)
  | gen {x S xs Ss ks' ks} : LentTo L B G x S ks' → OpdB4 L B G xs Ss ks → OpdB4 L B G (x :: xs) (S :: Ss) (ks' ++ ks)

theorem OpdB4.get {xs : List Operand} {Ss : List SPred} {ks : List Nat} (h : OpdB4 L B G xs Ss ks) {ts kz : List Nat} {M : MSet} {D : Nat → MSet} {a : Act} {w : World}
    (hs : SatOn ts M L a w) (hx : ∀ x ∈ xs, ∀ t, x = .tmp t → t ∈ ts) (hB : SatB kz M D B a w) (hk : ∀ k ∈ ks, k ∈ kz) (hG : G) (hm : ∀ k, M k → k < w.heap.size)
    (M' : MSet) (hM : ∀ k, M' k → M k) (hD : ∀ k ∈ ks, ∀ j, D k j → ¬ M' j) : All2 M' w Ss (xs.map a.eval) := by
  induction h with
  | nil => trivial
  | cons h1 _ ih => exact ⟨rep_less (h1.get hs (hx _ List.mem_cons_self) hG) hM, ih (fun x hm => hx x (List.mem_cons_of_mem _ hm)) hk hD⟩
  | lend h1 _ ih =>
    refine ⟨?_, ih (fun x hm => hx x (List.mem_cons_of_mem _ hm)) (fun k h => hk k (List.mem_cons_of_mem _ h)) (fun k h => hD k (List.mem_cons_of_mem _ h))⟩
    obtain ⟨hC, _⟩ := h1.get hs (hx _ List.mem_cons_self) hB (hk _ List.mem_cons_self)
    exact rep_less (rowV_rep M (D _) w _ hC hm) (fun k h => ⟨hM k h, fun hd => hD _ List.mem_cons_self k hd h⟩)
  | lendP h1 h2 h3 _ ih =>
    refine ⟨?_, ih (fun x hm => hx x (List.mem_cons_of_mem _ hm)) (fun k h => hk k (List.mem_cons_of_mem _ h)) (fun k h => hD k (List.mem_cons_of_mem _ h))⟩
    have hv := (rep_raw.1 (h1.get hs (hx _ List.mem_cons_self) hG)).1
    have hC := hB.has _ (hk _ List.mem_cons_self) _ h2
    rw [hv]
    exact rep_part (rep_less (rowV_rep M (D _) w _ hC hm) (fun k h => ⟨hM k h, fun hd => hD _ List.mem_cons_self k hd h⟩)) h3
  | gen h1 _ ih =>
    exact ⟨h1 hs (hx _ List.mem_cons_self) hB (fun k h => hk k (List.mem_append_left _ h)) hG hm M' hM (fun k h => hD k (List.mem_append_left _ h)),
      ih (fun x hm => hx x (List.mem_cons_of_mem _ hm)) (fun k h => hk k (List.mem_append_right _ h)) (fun k h => hD k (List.mem_append_right _ h))⟩

/-- A call to which memory is lent. -/
theorem StepOK.callL {f : Nat} {xs : Array Operand} {ts : Array TypeId} {Ss : List SPred} {S : SPred} {ks : List Nat} (hg : Guard ops g L G) (hf : FnOK P f) (hspec : G → FSpec P f Ss S) (hS : FlatS S) (hx : OpdB4 L B G xs.toList Ss ks) :
    StepOK P ops fs ⟨d, .call { callee := .value (.func f), args := xs, argTypes := ts }, ty, pos, after, g⟩ L B (ks, []) ⟨G, S⟩ [] :=
  .of hg fun M D a w hm hs hsB hG => by
    let M' : MSet := fun j => M j ∧ ∀ k ∈ ks, ¬ D k j
    have ha := hx.get hs (fun x hxm t ht => looksAt_op (call_ops (by subst ht; simpa using hxm))) hsB (fun k h => h) hG hm M' (fun k h => h.1) (fun k hk j hd h => h.2 k hk hd)
    have hgive := (hspec hG).calls M' w _ (hm.less fun k h => h.1) ha
    have hgive' : Gives P f (xs.toList.map a.eval) M w S := Calls.mono hgive fun e w' ⟨hx, v, he, hv⟩ => ⟨hx, v, he, hS _ _ _ _ hv⟩
    refine Does.enter (vs := xs.toList.map a.eval) ?_ hgive'
    rw [show (xs.toList.map a.eval).toArray = xs.map a.eval ++ #[] by rw [Array.append_empty, ← List.map_toArray]]
    exact ex_callV hf rfl
end

end Go.DB
