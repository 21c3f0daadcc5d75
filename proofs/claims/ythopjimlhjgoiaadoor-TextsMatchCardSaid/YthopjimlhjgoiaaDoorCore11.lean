/-
  Lifted functions: plain functions that say what a function computes, where it comes to an end; rules that walk along them.
-/
import Derived.Test.YthopjimlhjgoiaaDoorCore10
set_option linter.unusedSimpArgs false
set_option linter.unusedVariables false
namespace Go.DB
open Go Go.RowKit

/-! The words of lifted functions: none where the function would panic or not end. -/

inductive Step (σ ρ : Type) where
  | again (s : σ)
  | done (e : ρ)
inductive Res (σ ρ : Type) where
  | nx (s : σ)
  | ab (r : ρ)

def bnd {α β : Type} (e : α) (k : α → Option β) : Option β := k e
open Classical in
noncomputable def need {β : Type} (c : Prop) (k : Option β) : Option β := if c then k else none
/-- What is asked for only where b holds. -/
def gd {α : Type} [Inhabited α] (b : Bool) (m : Option α) : Option α := bif b then m else some default
/-- k is an index of l. -/
def inR {α : Type} (l : List α) (k : Int) : Prop := 0 ≤ k ∧ k < l.length
/-- l has room. -/
def room (n : Nat) : Prop := n ≤ 1073741824
/-- A part of a list. -/
def seg {α : Type} (l : List α) (i j : Int) : List α := (l.take j.toNat).drop i.toNat
def segR (n : Nat) (i j : Int) : Prop := 0 ≤ i ∧ i ≤ j ∧ j ≤ n

def iter {σ ρ : Type} (body : σ → Option (Step σ ρ)) : Nat → σ → Option ρ
  | 0, _ => none
  | n + 1, s => match body s with
    | none => none
    | some (.again s') => iter body n s'
    | some (.done e) => some e
open Classical in
noncomputable def loop {σ ρ : Type} (body : σ → Option (Step σ ρ)) (s : σ) : Option ρ :=
  if h : ∃ e n, iter body n s = some e then some h.choose else none

theorem need_some {β : Type} {c : Prop} {k : Option β} {r : β} (h : need c k = some r) : c ∧ k = some r := by
  unfold need at h
  by_cases hc : c
  · rw [if_pos hc] at h; exact ⟨hc, h⟩
  · rw [if_neg hc] at h; cases h
theorem need_pos {β : Type} {c : Prop} {k : Option β} (h : c) : need c k = k := by unfold need; rw [if_pos h]
theorem bnd_some {α β : Type} {e : α} {k : α → Option β} {r : β} (h : bnd e k = some r) : ∃ v, v = e ∧ k v = some r := ⟨e, rfl, h⟩
theorem bind_some {α β : Type} {m : Option α} {k : α → Option β} {r : β} (h : m.bind k = some r) : ∃ v, m = some v ∧ k v = some r := Option.bind_eq_some_iff.1 h
theorem bif_t {β : Type} {b : Bool} {x y : Option β} {r : Option β} (h : (bif b then x else y) = r) (hb : b = true) : x = r := by subst hb; exact h
theorem bif_f {β : Type} {b : Bool} {x y : Option β} {r : Option β} (h : (bif b then x else y) = r) (hb : b = false) : y = r := by subst hb; exact h
theorem gd_some {α : Type} [Inhabited α] {b : Bool} {m : Option α} {r : α} (h : gd b m = some r) (hb : b = true) : m = some r := by subst hb; exact h
theorem some_eq {α : Type} {x y : α} (h : some x = some y) : y = x := (Option.some.inj h).symm

theorem iter_mono {σ ρ : Type} {body : σ → Option (Step σ ρ)} : ∀ {n m : Nat} {s : σ} {e : ρ}, iter body n s = some e → n ≤ m → iter body m s = some e
  | 0, _, _, _, h, _ => by simp [iter] at h
  | n + 1, 0, _, _, _, h => by omega
  | n + 1, m + 1, s, e, h, hm => by
    simp only [iter] at h ⊢
    cases hb : body s with
    | none => rw [hb] at h; cases h
    | some x =>
      rw [hb] at h
      cases x with
      | again s' => exact iter_mono (n := n) h (by omega)
      | done e' => exact h
theorem loop_iff {σ ρ : Type} {body : σ → Option (Step σ ρ)} {s : σ} {e : ρ} : loop body s = some e ↔ ∃ n, iter body n s = some e := by
  unfold loop
  constructor
  · intro h
    by_cases hx : ∃ e n, iter body n s = some e
    · rw [dif_pos hx] at h
      obtain ⟨n, hn⟩ := hx.choose_spec
      rw [Option.some.inj h] at hn
      exact ⟨n, hn⟩
    · rw [dif_neg hx] at h; cases h
  · rintro ⟨n, hn⟩
    have hx : ∃ e n, iter body n s = some e := ⟨e, n, hn⟩
    rw [dif_pos hx]
    obtain ⟨m, hm⟩ := hx.choose_spec
    have h1 := iter_mono hm (Nat.le_max_left m n)
    have h2 := iter_mono hn (Nat.le_max_right m n)
    rw [h1] at h2
    exact h2
theorem loop_eq {σ ρ : Type} (body : σ → Option (Step σ ρ)) (s : σ) : loop body s = match body s with
    | none => none
    | some (.again s') => loop body s'
    | some (.done e) => some e := by
  cases hb : body s with
  | none =>
    cases hl : loop body s with
    | none => rfl
    | some e =>
      obtain ⟨n, hn⟩ := loop_iff.1 hl
      cases n with
      | zero => simp [iter] at hn
      | succ n => simp [iter, hb] at hn
  | some x =>
    cases x with
    | done e => exact loop_iff.2 ⟨1, by simp [iter, hb]⟩
    | again s' =>
      simp only
      cases hl : loop body s' with
      | some e =>
        obtain ⟨n, hn⟩ := loop_iff.1 hl
        exact loop_iff.2 ⟨n + 1, by simp [iter, hb, hn]⟩
      | none =>
        cases hl' : loop body s with
        | none => rfl
        | some e =>
          obtain ⟨n, hn⟩ := loop_iff.1 hl'
          cases n with
          | zero => simp [iter] at hn
          | succ n =>
            simp only [iter, hb] at hn
            rw [loop_iff.2 ⟨n, hn⟩] at hl; cases hl

/-- A loop over the numbers below n. -/
noncomputable def rforE {σ O : Type} (n : Int) (step : Int → σ → Option (Res σ O)) (fin : σ → O) (s0 : σ) : Option O :=
  loop (fun p : Int × σ => bif decide (p.1 < n) then (step p.1 p.2).bind (fun r => match r with
    | .nx s' => some (.again (W (p.1 + 1), s'))
    | .ab e => some (.done e)) else some (.done (fin p.2))) (0, s0)
noncomputable def rfor {σ : Type} (n : Int) (step : Int → σ → Option σ) (s0 : σ) : Option σ :=
  loop (fun p : Int × σ => bif decide (p.1 < n) then (step p.1 p.2).bind (fun s' => some (.again (W (p.1 + 1), s'))) else some (.done p.2)) (0, s0)

/-- Recursion: what comes out from some depth on. -/
def fixN {α β : Type} (b : (α → Option β) → α → Option β) : Nat → α → Option β
  | 0 => fun _ => none
  | n + 1 => b (fixN b n)
open Classical in
noncomputable def fixp {α β : Type} (b : (α → Option β) → α → Option β) (a : α) : Option β :=
  if h : ∃ r N, ∀ n, N ≤ n → fixN b n a = some r then some h.choose else none
theorem fixp_some {α β : Type} {b : (α → Option β) → α → Option β} {a : α} {r : β} (h : fixp b a = some r) : ∃ n, fixN b n a = some r := by
  unfold fixp at h
  by_cases hx : ∃ r N, ∀ n, N ≤ n → fixN b n a = some r
  · rw [dif_pos hx] at h
    obtain ⟨N, hN⟩ := hx.choose_spec
    rw [Option.some.inj h] at hN
    exact ⟨N, hN N (Nat.le_refl _)⟩
  · rw [dif_neg hx] at h; cases h
theorem fixp_of {α β : Type} {b : (α → Option β) → α → Option β} {a : α} {r : β} (N : Nat) (h : ∀ n, N ≤ n → fixN b n a = some r) : fixp b a = some r := by
  unfold fixp
  have hx : ∃ r N, ∀ n, N ≤ n → fixN b n a = some r := ⟨r, N, h⟩
  rw [dif_pos hx]
  obtain ⟨M, hM⟩ := hx.choose_spec
  have h1 := hM (max M N) (Nat.le_max_left _ _)
  rw [h _ (Nat.le_max_right _ _)] at h1
  exact h1.symm

/-! Function values. -/

abbrev fn0 (P : Program) {β : Type} (S : β → SPred) (f : Option β) : SPred := fnv P (ι := β) (fun r => f = some r) (fun _ => []) S
abbrev fn1 (P : Program) {α β : Type} [Rep α] (S : β → SPred) (f : α → Option β) : SPred := fnv P (ι := α × β) (fun i => f i.1 = some i.2) (fun i => [rep i.1]) (fun i => S i.2)
abbrev fn2 (P : Program) {α α' β : Type} [Rep α] [Rep α'] (S : β → SPred) (f : α → α' → Option β) : SPred := fnv P (ι := α × α' × β) (fun i => f i.1 i.2.1 = some i.2.2) (fun i => [rep i.1, rep i.2.1]) (fun i => S i.2.2)
abbrev fn3 (P : Program) {α α' α'' β : Type} [Rep α] [Rep α'] [Rep α''] (S : β → SPred) (f : α → α' → α'' → Option β) : SPred :=
  fnv P (ι := α × α' × α'' × β) (fun i => f i.1 i.2.1 i.2.2.1 = some i.2.2.2) (fun i => [rep i.1, rep i.2.1, rep i.2.2.1]) (fun i => S i.2.2.2)
abbrev tup2 {α β : Type} [Rep α] [Rep β] (r : α × β) : SPred := tup [rep r.1, rep r.2]
abbrev tup3 {α β γ : Type} [Rep α] [Rep β] [Rep γ] (r : α × β × γ) : SPred := tup [rep r.1, rep r.2.1, rep r.2.2]
abbrev tup4 {α β γ δ : Type} [Rep α] [Rep β] [Rep γ] [Rep δ] (r : α × β × γ × δ) : SPred := tup [rep r.1, rep r.2.1, rep r.2.2.1, rep r.2.2.2]

/-! Steps in other words. -/

section
variable {P : Program} {ops : Array Oper} {fs : Nat} {L : Slots} {B : Owns} {G : Prop}

theorem StepOK.re {o : Oper} {x : Aux} {α : Type} [Rep α] {e v : α} {Ws : Writes} (hv : v = e) (h : StepOK P ops fs o L B x ⟨G, rep e⟩ Ws) : StepOK P ops fs o L B x ⟨G, rep v⟩ Ws := hv ▸ h

/-- What stands for nothing in memory that is written. -/
def FlatS (S : SPred) : Prop := ∀ M M' v w, S.p M v w → S.p M' v w
class Flat (α : Type) [Rep α] : Prop where
  cells : ∀ {M M' : MSet} {x : α} {cs : List Value} {w : World}, Rep.cells M x cs w → Rep.cells M' x cs w
instance : Flat Int := ⟨fun h => h⟩
instance : Flat Bool := ⟨fun h => h⟩
instance {α β : Type} [Rep α] [Rep β] [Flat α] [Flat β] : Flat (α × β) := ⟨fun ⟨c1, c2, h, h1, h2⟩ => ⟨c1, c2, h, Flat.cells h1, Flat.cells h2⟩⟩
theorem Flat.via {α β : Type} [r : Rep β] [Flat β] (f : α → β) : @Flat α (Rep.via f) := @Flat.mk α (Rep.via f) (fun h => Flat.cells (α := β) h)
theorem FlatS.rep {α : Type} [Rep α] [Flat α] {x : α} : FlatS (rep x) := fun M M' v w ⟨cs, h, hv⟩ => ⟨cs, Flat.cells h, hv⟩
theorem FlatS.any : FlatS anyV := fun _ _ _ _ _ => trivial
theorem FlatS.tup {Ss : List SPred} (h : ∀ S ∈ Ss, FlatS S) : FlatS (tup Ss) := fun M M' v w ⟨vs, hv, hl, hall⟩ => ⟨vs, hv, hl, fun i S u h1 h2 => h S (List.mem_of_getElem? h1) M M' u w (hall i S u h1 h2)⟩
theorem FlatS.tup2 {α β : Type} [Rep α] [Rep β] [Flat α] [Flat β] {r : α × β} : FlatS (tup2 r) := .tup (by simp [FlatS.rep])
theorem FlatS.tup3 {α β γ : Type} [Rep α] [Rep β] [Rep γ] [Flat α] [Flat β] [Flat γ] {r : α × β × γ} : FlatS (tup3 r) := .tup (by simp [FlatS.rep])

/-- Operands, some of which are rows of one's own that are lent. -/
inductive OpdB (L : Slots) (B : Owns) (G : Prop) : List Operand → List SPred → List Nat → Prop
  | nil : OpdB L B G [] [] []
  | cons {x S xs Ss ks} : Opd L G x S → OpdB L B G xs Ss ks → OpdB L B G (x :: xs) (S :: Ss) ks
  | lend {x xs Ss ks k T} {α : Type} [Rep α] {l : List α} : RowArg L B x k (rowV T l) → OpdB L B G xs Ss ks → OpdB L B G (x :: xs) (rep l :: Ss) (k :: ks)

theorem rep_less {S : SPred} {M M' : MSet} {v : Value} {w : World} (h : S.p M v w) (hm : ∀ k, M' k → M k) : S.p M' v w := S.law M M' v w w (Keeps.refl _ _) (fun k hk => .inl (hm k hk)) h

theorem OpdB.get {xs : List Operand} {Ss : List SPred} {ks : List Nat} (h : OpdB L B G xs Ss ks) {ts kz : List Nat} {M : MSet} {D : Nat → MSet} {a : Act} {w : World}
    (hs : SatOn ts M L a w) (hx : ∀ x ∈ xs, ∀ t, x = .tmp t → t ∈ ts) (hB : SatB kz M D B a w) (hk : ∀ k ∈ ks, k ∈ kz) (hG : G) (hm : ∀ k, M k → k < w.heap.size)
    (M' : MSet) (hM : ∀ k, M' k → M k) (hD : ∀ k ∈ ks, ∀ j, D k j → ¬ M' j) : All2 M' w Ss (xs.map a.eval) := by
  induction h with
  | nil => trivial
  | cons h1 _ ih => exact ⟨rep_less (h1.get hs (hx _ List.mem_cons_self) hG) hM, ih (fun x hm => hx x (List.mem_cons_of_mem _ hm)) hk hD⟩
  | lend h1 _ ih =>
    refine ⟨?_, ih (fun x hm => hx x (List.mem_cons_of_mem _ hm)) (fun k h => hk k (List.mem_cons_of_mem _ h)) (fun k h => hD k (List.mem_cons_of_mem _ h))⟩
    obtain ⟨hC, _⟩ := h1.get hs (hx _ List.mem_cons_self) hB (hk _ List.mem_cons_self)
    exact rep_less (rowV_rep M (D _) w _ hC hm) (fun k h => ⟨hM k h, fun hd => hD _ List.mem_cons_self k hd h⟩)

variable {d : Option Tmp} {ty : TypeId} {pos : String} {after : Array Edge} {g : Option (Nat × Bool)}

/-- A call to which rows are lent. -/
theorem StepOK.callB {f : Nat} {xs : Array Operand} {ts : Array TypeId} {Ss : List SPred} {S : SPred} {ks : List Nat} (hg : Guard ops g L G) (hf : FnOK P f) (hspec : G → FSpec P f Ss S) (hS : FlatS S) (hx : OpdB L B G xs.toList Ss ks) :
    StepOK P ops fs ⟨d, .call { callee := .value (.func f), args := xs, argTypes := ts }, ty, pos, after, g⟩ L B (ks, []) ⟨G, S⟩ [] :=
  .of hg fun M D a w hm hs hsB hG => by
    let M' : MSet := fun j => M j ∧ ∀ k ∈ ks, ¬ D k j
    have ha := hx.get hs (fun x hxm t ht => looksAt_op (call_ops (by subst ht; simpa using hxm))) hsB (fun k h => h) hG hm M' (fun k h => h.1) (fun k hk j hd h => h.2 k hk hd)
    have hgive := (hspec hG).calls M' w _ (hm.less fun k h => h.1) ha
    have hgive' : Gives P f (xs.toList.map a.eval) M w S := Calls.mono hgive fun e w' ⟨hx, v, he, hv⟩ => ⟨hx, v, he, hS _ _ _ _ hv⟩
    refine Does.enter (vs := xs.toList.map a.eval) ?_ hgive'
    rw [show (xs.toList.map a.eval).toArray = xs.map a.eval ++ #[] by rw [Array.append_empty, ← List.map_toArray]]
    exact ex_callV hf rfl

end

/-! Loops. -/

section
variable {P : Program} {Q : Exit → Act → World → Prop} {n : Nat} {F : Fr} {L : Slots} {B : Owns}

theorem Cod.loopL {c : Code} {σ ρ : Type} {body : σ → Option (Step σ ρ)} {s0 : σ} {e : ρ} (he : Go.DB.loop body s0 = some e) (Ls : σ → Slots) (Bs : σ → Owns) {keep : Slots} {keepB : Owns}
    (h0 : Sub L (Ls s0)) (hB0 : SubB B (Bs s0)) (hk : Sub L keep) (hkB : SubB B keepB)
    (round : ∀ s o, body s = some o → (∀ e', o = .done e' → some e' = some e) → Cod P c (Exit.then (fun a w => ∃ s', o = .again s' ∧ Sat n F (Ls s' ++ keep) (Bs s' ++ keepB) a w) Q) n F (Ls s ++ keep) (Bs s ++ keepB)) :
    Cod P (.loop c) Q n F L B := by
  obtain ⟨m, hm⟩ := loop_iff.1 he
  refine Cod.loop (ι := { p : σ × Nat // iter body p.2 p.1 = some e }) (fun p => Ls p.1.1 ++ keep) (fun p => Bs p.1.1 ++ keepB) (fun p => p.1.2) ⟨(s0, m), hm⟩ (h0.append hk) (hB0.append hkB) ?_
  rintro ⟨⟨s, k⟩, hi⟩
  cases k with
  | zero => simp [iter] at hi
  | succ k =>
    simp only [iter] at hi
    cases hb : body s with
    | none => rw [hb] at hi; cases hi
    | some o =>
      rw [hb] at hi
      have hr := round s o hb (fun e' ho => by subst ho; exact hi)
      intro a w hs
      refine wp_mono (hr a w hs) (fun x a w hq => ?_)
      cases x with
      | normal =>
        obtain ⟨s', ho, h3⟩ := hq
        subst ho
        exact ⟨⟨(s', k), hi⟩, Nat.lt_succ_self k, h3⟩
      | _ => exact hq

theorem Ends.againL {σ ρ : Type} {o : Step σ ρ} {Ls : σ → Slots} {Bs : σ → Owns} {keep : Slots} {keepB : Owns} {s' : σ} (ho : o = .again s') (h : Sub L (Ls s' ++ keep)) (hB : SubB B (Bs s' ++ keepB)) :
    Ends (Exit.then (fun a w => ∃ s', o = .again s' ∧ Sat n F (Ls s' ++ keep) (Bs s' ++ keepB) a w) Q) .normal n F L B := fun _ _ hs => ⟨s', ho, hs.weaken h hB⟩

end

/-! Structs that are made. -/

section
variable {P : Program} {ops : Array Oper} {fs : Nat} {L : Slots} {B : Owns} {G : Prop}
variable {d : Option Tmp} {ty : TypeId} {pos : String} {after : Array Edge} {g : Option (Nat × Bool)} {xr : List Nat}

inductive Fills {α : Type} [Rep α] (pl : List (Nat × Nat)) : α → List Nat → List SPred → α → Prop
  | nil {x} : Fills pl x [] [] x
  | cons {x i is off Ss y} {β : Type} [Rep β] {z : β} {set : α → β → α} : pl[i]? = some (off, Rep.sz β) → SetField α β off set → Fills pl (set x z) is Ss y → Fills pl x (i :: is) (rep z :: Ss) y

theorem foldl_put (off : Nat) : ∀ (vs : List Value) (pre mid rest : List Value) (j : Nat), mid.length = vs.length → pre.length = off + j →
    (vs.zipIdx j).foldl (fun (cs : Array Value) (p : Value × Nat) => cs.setIfInBounds (off + p.2) p.1) (pre ++ mid ++ rest).toArray = (pre ++ vs ++ rest).toArray
  | [], pre, mid, rest, j, hl, _ => by
    have : mid = [] := List.length_eq_zero_iff.1 hl
    subst this; rfl
  | v :: vs, pre, m :: mid, rest, j, hl, hp => by
    simp only [List.zipIdx_cons, List.foldl_cons]
    have h1 : (pre ++ m :: mid ++ rest).toArray.setIfInBounds (off + j) v = ((pre ++ [v]) ++ mid ++ rest).toArray := by
      rw [← hp]
      apply Array.ext'
      simp
    rw [h1, foldl_put off vs (pre ++ [v]) mid rest (j + 1) (by simpa using hl) (by simp [hp]; omega)]
    simp

theorem Fills.run {α : Type} [Rep α] {pl : List (Nat × Nat)} {x y : α} {is : List Nat} {Ss : List SPred} (h : Fills pl x is Ss y) {M : MSet} {w : World} : ∀ {zs vs : List Value}, Rep.cells M x zs w → All2 M w Ss vs →
    ∃ cs, Instr.fill (pl.toArray[·]?) zs.toArray (is.zip vs) = some cs.toArray ∧ Rep.cells M y cs w := by
  induction h with
  | nil => intro zs vs hz ha; exact ⟨zs, by simp [Instr.fill], hz⟩
  | @cons x i is off Ss y β _ z set hi hF _ ih =>
    intro zs vs hz ha
    match vs, ha with
    | v :: vs, ha =>
      obtain ⟨⟨zc, hzc, rfl⟩, ha⟩ := ha
      have hfl := Rep.flat hzc
      have hlz := Rep.len hzc
      have hlx := Rep.len hz
      have hle := hF.1
      have hsplit : zs = zs.take off ++ (zs.drop off).take (Rep.sz β) ++ zs.drop (off + Rep.sz β) := by
        rw [← List.drop_drop, List.append_assoc, List.take_append_drop, List.take_append_drop]
      obtain ⟨cs, h1, h2⟩ := ih (hF.2 M x z zs zc w hz hzc) ha
      refine ⟨cs, ?_, h2⟩
      rw [List.zip_cons_cons, Instr.fill]
      simp only [List.getElem?_toArray, hi, hfl]
      rw [if_neg (by simp [hlz, hlx]; omega)]
      have key := foldl_put off zc (zs.take off) ((zs.drop off).take (Rep.sz β)) (zs.drop (off + Rep.sz β)) 0 (by rw [List.length_take, List.length_drop]; omega) (by rw [List.length_take]; omega)
      rw [← hsplit] at key
      have key2 : zc.toArray.zipIdx.foldl (fun (cs : Array Value) (p : Value × Nat) => cs.setIfInBounds (off + p.2) p.1) zs.toArray = (zs.take off ++ zc ++ zs.drop (off + Rep.sz β)).toArray := by
        rw [← key, ← Array.foldl_toList, Array.toList_zipIdx]
      have h1' := h1
      simp only [List.getElem?_toArray] at h1'
      rw [← h1', ← key2]

theorem StepOK.buildF {T : Nat} {α : Type} [Rep α] {parts : Array (Nat × Operand)} {x0 y : α} {zero : List Value} {places : List (Nat × Nat)} {Ss : List SPred} (hg : Guard ops g L G) (hb : BuildAt P T zero places) (hz : ∀ M w, Rep.cells M x0 zero w) (hagg : Rep.agg α = true)
    (hx : OpdL L G (parts.toList.map (·.2)) Ss) (hf : Fills places x0 (parts.toList.map (·.1)) Ss y) :
    StepOK P ops fs ⟨d, .build T parts, ty, pos, after, g⟩ L B (xr, []) ⟨G, rep y⟩ [] :=
  .build hg hb hx hagg (fun M w vs ha => hf.run (hz M w) ha)

end
end Go.DB
