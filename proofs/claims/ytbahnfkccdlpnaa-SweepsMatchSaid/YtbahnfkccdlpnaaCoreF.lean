/-
  Plain rules on the program's operations, code and memory (texts laid together).
-/
import Derived.Test.YtbahnfkccdlpnaaCoreE
/-
  Maps whose elements are rows of one's own; pointers that may be nil; rows that a call keeps.
-/
set_option linter.unusedVariables false
set_option linter.unusedSimpArgs false
namespace Go.DB
open Go Go.RowKit

section
variable {K α : Type} [Rep K] [Rep α]

/-- What an entry's row is. -/
def FitR (E : Nat) (M D : MSet) (w : World) : Option (List α) → Option Raw → Prop
  | some l, some s => (rowV E l).p M D s.v w
  | none, none => ∀ j, ¬ D j
  | _, _ => False

theorem FitR.law {E : Nat} {M M' D : MSet} {w w' : World} {a : Option (List α)} {b : Option Raw} (hk : Keeps M w w') (hm : ∀ k, M' k → M k ∨ w.heap.size ≤ k) (ho : ∀ k, D k → M' k ∧ w'.heap[k]? = w.heap[k]?) (h : FitR E M D w a b) : FitR E M' D w' a b := by
  match a, b, h with
  | some l, some s, h => exact (rowV E l).law M M' D s.v w w' hk hm ho h
  | none, none, h => exact h

/-- A map whose elements are rows of one's own; at the keys of the hole nothing is told. -/
def mapH (E : Nat) (hole : K → Prop) (m : GMap K (List α)) : CPred where
  p := fun M D v w => ∃ (r : GMap K Raw) (Dm : MSet) (Dr : K → MSet), (mapV r).p M Dm v w ∧ (∀ k, ¬ hole k → FitR E M (Dr k) w (m.f k) (r.f k)) ∧ (∀ j, D j → M j) ∧
    (∀ j, (Dm j ∨ ∃ k, Dr k j) → D j) ∧ (∀ k j, Dr k j → ¬ Dm j) ∧ ∀ k k' j, Dr k j → Dr k' j → k = k'
  inM := fun M D v w ⟨r, Dm, Dr, h1, _, h3, h4, _⟩ k hk => h3 k hk
  law := fun M M' D v w w' hk hm hown ⟨r, Dm, Dr, h1, h2, h3, h4, h5, h6⟩ => by
    have o1 : ∀ j, Dm j → D j := fun j h => h4 j (.inl h)
    have o2 : ∀ k j, Dr k j → D j := fun k j h => h4 j (.inr ⟨k, h⟩)
    exact ⟨r, Dm, Dr, (mapV r).law M M' Dm v w w' hk hm (fun j h => hown j (o1 j h)) h1, fun k hn => (h2 k hn).law hk hm (fun j h => hown j (o2 k j h)), fun j h => (hown j h).1, h4, h5, h6⟩
abbrev mapW (E : Nat) (m : GMap K (List α)) : CPred := mapH E (fun _ => False) m

end

section
variable {P : Program} {ops : Array Oper} {fs : Nat} {L : Slots} {B : Owns} {G : Prop}
variable {ty : TypeId} {pos : String} {after : Array Edge} {g : Option (Nat × Bool)} {xr : List Nat} {d : Option Tmp}
variable {K α : Type} [Rep K] [DecidableEq K] [MKey K] [Rep α] {T kt et : TypeId} {m : GMap K (List α)} {k : K}

end

section
variable {P : Program} {Q : Exit → Act → World → Prop} {n : Nat} {F : Fr} {L : Slots} {B : Owns} {K α : Type} [Rep K] [Rep α] {m : GMap K (List α)}
end


/-- A slot that is told without a condition. -/
theorem Opd.s {L : Slots} {G : Prop} {t : Nat} {S : SPred} (h : look L t = some ⟨True, S⟩) : Opd L G (.tmp t) S := .tmp h fun _ => trivial

/-! Pointers that may be nil. -/
instance {α : Type} [Rep α] : Rep (Option α) where
  sz := 1
  agg := false
  cells := fun M o cs w => ∃ v, cs = [v] ∧ ((v = .pointer none ∧ o = none) ∨ ∃ x, o = some x ∧ (ref x).p M v w)
  len := fun ⟨v, h, _⟩ => by rw [h]; rfl
  pos := by decide
  flat := fun ⟨v, h, hv⟩ => by
    subst h
    rcases hv with ⟨rfl, _⟩ | ⟨x, _, b, off, cs, rfl, _⟩ <;> rfl
  plain := fun ⟨v, h, hv⟩ c hc => by
    subst h; simp at hc; subst hc
    rcases hv with ⟨rfl, _⟩ | ⟨x, _, b, off, cs, rfl, _⟩ <;> rfl
  law := fun {M M' x cs w w'} hk hm ⟨v, h, hv⟩ => ⟨v, h, by
    rcases hv with hv | ⟨x, h1, h2⟩
    · exact .inl hv
    · exact .inr ⟨x, h1, (ref x).law _ _ _ _ _ hk hm h2⟩⟩
section
variable {P : Program} {ops : Array Oper} {fs : Nat} {L : Slots} {B : Owns} {G : Prop}
variable {d : Option Tmp} {ty : TypeId} {pos : String} {after : Array Edge}
end

section
variable {P : Program} {Q : Exit → Act → World → Prop} {n : Nat} {F : Fr} {L : Slots} {B : Owns}
end
end Go.DB

/-
  Arrays in place.
-/
set_option linter.unusedVariables false
set_option linter.unusedSimpArgs false
namespace Go.DB
open Go Go.RowKit

abbrev Arr.at0 {n : Nat} {α : Type} [Inhabited α] (x : Arr n α) : α := gx x.l 0
abbrev Arr.at1 {n : Nat} {α : Type} [Inhabited α] (x : Arr n α) : α := gx x.l 1
abbrev Arr.at2 {n : Nat} {α : Type} [Inhabited α] (x : Arr n α) : α := gx x.l 2
abbrev Arr.at3 {n : Nat} {α : Type} [Inhabited α] (x : Arr n α) : α := gx x.l 3
instance : Inhabited Raw := ⟨⟨.slice none 0 0⟩⟩
section
variable {P : Program} {ops : Array Oper} {fs : Nat} {L : Slots} {B : Owns} {G : Prop}
variable {d : Option Tmp} {ty : TypeId} {pos : String} {after : Array Edge} {g : Option (Nat × Bool)} {xr : List Nat}
end
end Go.DB

/-
  Structs that hold rows of one's own: they are stored, and handed back.
-/
set_option linter.unusedVariables false
set_option linter.unusedSimpArgs false
namespace Go.DB
open Go Go.RowKit

section
variable {P : Program} {ops : Array Oper} {fs : Nat} {L : Slots} {B : Owns} {G : Prop}
variable {ty : TypeId} {pos : String} {after : Array Edge} {g : Option (Nat × Bool)} {xr : List Nat} {d : Option Tmp}

end

section
variable {P : Program} {fn : Func} {n : Nat} {F : Fr} {L : Slots} {B : Owns}
end
end Go.DB

/-
  A row of one's own of which parts are moved within it, and of which the beginning is handed back.
-/
set_option linter.unusedVariables false
set_option linter.unusedSimpArgs false
namespace Go.DB
open Go Go.RowKit

section
variable {P : Program} {ops : Array Oper} {fs : Nat} {L : Slots} {B : Owns} {G : Prop}
variable {ty : TypeId} {pos : String} {after : Array Edge} {g : Option (Nat × Bool)} {xr : List Nat} {d : Option Tmp}

end

section
variable {Q : Exit → Act → World → Prop} {n : Nat} {F : Fr} {L : Slots} {B : Owns}

end
end Go.DB

/-
  Calls that are handed memory of one's own while other memory is lent to them.
-/
set_option linter.unusedVariables false
set_option linter.unusedSimpArgs false
namespace Go.DB
open Go Go.RowKit

/-- What is held says nothing of other memory. -/
def FlatC (C : CPred) : Prop := ∀ (M M1 D : MSet) (v : Value) (w : World), (∀ k, M k → M1 k) → C.p M D v w → C.p M1 D v w
theorem FlatC.row {T : Nat} {α : Type} [Rep α] [Flat α] {l : List α} : FlatC (rowV T l) := by
  rintro M M1 D v w hM ⟨ad, cap, e1, e2, e3, e4⟩
  refine ⟨ad, cap, e1, e2, e3, ?_⟩
  cases ad with
  | none => exact e4
  | some ad =>
    obtain ⟨f1, f2, f3, pre, cs, rest, f4, f5, f6, f7⟩ := e4
    exact ⟨f1, f2, hM _ f3, pre, cs, rest, f4, f5, Elems.flat _ _ f6, f7⟩
theorem FlatC.box {T : Nat} {α : Type} [Rep α] [Flat α] {y : α} : FlatC (cont T y) := by
  rintro M M1 D v w hM ⟨m, cs, hv, hD, hMm, hh, hc⟩
  exact ⟨m, cs, hv, hD, hM _ hMm, hh, Flat.cells hc⟩
theorem FlatO.nil : ∀ c, some c ∈ ([] : List (Option CPred)) → FlatC c := fun c h => by cases h
theorem FlatO.some {x : CPred} {l : List (Option CPred)} (h : FlatC x) (t : ∀ c, Option.some c ∈ l → FlatC c) : ∀ c, Option.some c ∈ (Option.some x :: l) → FlatC c := fun c hc => by
  rcases List.mem_cons.1 hc with e | e
  · obtain rfl := Option.some.inj e; exact h
  · exact t c e
theorem FlatO.none {l : List (Option CPred)} (t : ∀ c, Option.some c ∈ l → FlatC c) : ∀ c, Option.some c ∈ (Option.none :: l) → FlatC c := fun c hc => by
  rcases List.mem_cons.1 hc with e | e
  · cases e
  · exact t c e

section
variable {P : Program} {ops : Array Oper} {fs : Nat} {L : Slots} {B : Owns} {G : Prop}
variable {ty : TypeId} {pos : String} {after : Array Edge} {g : Option (Nat × Bool)} {xr : List Nat}

theorem StepOK.callOL {d : Option Nat} {f : Nat} {xs : Array Operand} {ts : Array TypeId} {Ss : List SPred} {Os : Given} {S : SPred} {outs : List (Option CPred)} {W : Nat × Option CPred} {Ws : Writes} {xk kl : List Nat} (ks : List Nat) (hspec : FSpecO P f Ss Os S outs)
    (hS : FlatS S) (hO : ∀ c, some c ∈ outs → FlatC c) (hx : OpdB4 L B True xs.toList Ss kl) (hH : Holds B ks Os) (hW : outW (Os.map (·.1)) ks d outs = W :: Ws) (hnd : (ks ++ d.toList).Nodup) (hxk : ∀ k ∈ ks, k ∈ xk) (hd : ∀ d', d = some d' → d' < fs)
    (hkl : ∀ k ∈ kl, k ∉ ks) (hkB : ∀ k ∈ kl, (lookB B k).isSome = true) :
    StepOK P ops fs ⟨d, .call { callee := .value (.func f), args := xs, argTypes := ts }, ty, pos, after, none⟩ L B (ks ++ kl, xk) ⟨True, S⟩ (W :: Ws) :=
  .doing fun M D a w hsz hm hs hsB => by
    let M' : MSet := fun j => M j ∧ ∀ k ∈ kl, ¬ D k j
    have hr : (execOp a.eval ⟨d, .call { callee := .value (.func f), args := xs, argTypes := ts }, ty, pos, after, none⟩).run P w = .ok (.enter f (xs.toList.map a.eval).toArray) w := by
      rw [show (xs.toList.map a.eval).toArray = xs.map a.eval ++ #[] by rw [Array.append_empty, ← List.map_toArray]]
      exact ex_callV hspec.ok rfl
    have hin : ∀ k, k ∈ ks ++ kl → k ∈ (ks ++ kl) ++ xk := fun k hk => List.mem_append_left _ hk
    have ha := hx.get hs (fun x hxm t ht => looksAt_op (call_ops (by subst ht; simpa using hxm))) hsB (fun k h => hin k (List.mem_append_right _ h)) trivial hm M' (fun k h => h.1) (fun k hk j hd h => h.2 k hk hd)
    have hnd' : ks.Nodup := (List.nodup_append.1 hnd).1
    have hown := OwnL.of hH hnd' hsB (fun k hk => hin k (List.mem_append_left _ hk))
    have hown' : OwnL M' (fun i => D ((ks[i]?).getD 0)) w Os := by
      refine ⟨fun i s c h => ?_, hown.apart⟩
      have hC := hown.has i s c h
      obtain ⟨k, hk, hl⟩ := hH.at i s c h
      refine c.law M M' _ s w w (Keeps.refl _ _) (fun j h => .inl h.1) (fun j hj => ⟨⟨c.inM _ _ _ _ hC j hj, fun k2 hk2 h2 => ?_⟩, rfl⟩) hC
      simp only [hk, Option.getD_some] at hj
      have hne : k ≠ k2 := fun e => hkl k2 hk2 (e ▸ List.mem_of_getElem? hk)
      obtain ⟨c2, hl2⟩ := Option.isSome_iff_exists.1 (hkB k2 hk2)
      exact hsB.apart k (hin k (List.mem_append_left _ (List.mem_of_getElem? hk))) k2 (hin k2 (List.mem_append_right _ hk2)) _ _ hl hl2 hne j hj h2
    refine Does.enterO hr (hspec.calls M' _ w _ (hm.less fun k h => h.1) ha hown') fun e w' he => ?_
    obtain ⟨v, M1, D1, rfl, hk, hml, hmh, hms, hSv, hC, hA⟩ := he
    refine ⟨v, rfl, .call hH hW hxk hnd (fun d' h => by rw [hsz]; exact hd d' h) ⟨v, fun j => M1 j ∨ (M j ∧ ∃ k ∈ kl, D k j), D1, rfl, hk, fun j hj => ?_, fun j hj => ?_, fun j hj => ?_, hS _ _ _ _ hSv, fun i c hc => ?_, hA⟩⟩
    · by_cases hl : ∃ k ∈ kl, D k j
      · exact .inl (.inr ⟨hj, hl⟩)
      · exact (hml j ⟨hj, fun k hk h => hl ⟨k, hk, h⟩⟩).imp .inl id
    · rcases hj with hj | hj
      · exact (hmh j hj).imp (fun h => h.1) id
      · exact .inl hj.1
    · rcases hj with hj | hj
      · exact hms j hj
      · exact Nat.lt_of_lt_of_le (hm j hj.1) hk.size
    · obtain ⟨h1, h2⟩ := hC i c hc
      exact ⟨hO c (List.mem_of_getElem? hc) _ _ _ _ _ (fun k h => .inl h) h1, h2⟩
end
end Go.DB

/-
  Rows whose elements hold rows of one's own.
-/
set_option linter.unusedVariables false
set_option linter.unusedSimpArgs false
namespace Go.DB
open Go Go.RowKit

section
variable {α β ρ : Type} [Rep β] [Rep ρ]

/-- A row of what mk makes of a plain element and of the value of a row of one's own; the rows at hs are told, and taken out. -/
def rowD (E E2 : Nat) (mk : α → Value → ρ) (sub : α → List β) (hs : List (Nat × Value)) (l : List α) : CPred where
  p := fun M D v w => ∃ (ss : List Value) (Dm : MSet) (Dr : Nat → MSet), ss.length = l.length ∧ (rowV E (List.zipWith mk l ss)).p M Dm v w ∧ (∀ x ∈ hs, ss[x.1]? = some x.2) ∧
    (∀ (i : Nat) a s, l[i]? = some a → ss[i]? = some s → (∀ x ∈ hs, x.1 ≠ i) → (rowV E2 (sub a)).p M (Dr i) s w) ∧ (∀ j, D j → M j) ∧ (∀ j, (Dm j ∨ ∃ i, Dr i j) → D j) ∧ (∀ i j, Dr i j → ¬ Dm j) ∧ ∀ i i' j, Dr i j → Dr i' j → i = i'
  inM := fun M D v w ⟨ss, Dm, Dr, _, _, _, _, h, _⟩ k hk => h k hk
  law := fun M M' D v w w' hk hm hown ⟨ss, Dm, Dr, h1, h2, h3, h4, h5, h6, h7, h8⟩ =>
    ⟨ss, Dm, Dr, h1, (rowV E _).law M M' Dm v w w' hk hm (fun j h => hown j (h6 j (.inl h))) h2, h3, fun i a s ha hs hn => (rowV E2 _).law M M' (Dr i) s w w' hk hm (fun j h => hown j (h6 j (.inr ⟨i, h⟩))) (h4 i a s ha hs hn), fun j h => (hown j h).1, h6, h7, h8⟩

variable {E E2 : Nat} {mk : α → Value → ρ} {sub : α → List β} {hs : List (Nat × Value)} {l : List α} {M D : MSet} {v : Value} {w : World}

omit [Rep β] [Rep ρ] in
theorem zw_len {ss : List Value} (h : ss.length = l.length) : (List.zipWith mk l ss).length = l.length := by rw [List.length_zipWith]; omega

theorem rowD_slice (h : (rowD E E2 mk sub hs l).p M D v w) : ∃ a cap, v = .slice a l.length cap := by
  obtain ⟨ss, Dm, Dr, h1, ⟨a, cap, h2, _⟩, _⟩ := h
  rw [zw_len h1] at h2
  exact ⟨a, cap, h2⟩
theorem oneRowD : OneC (rowD E E2 mk sub hs l) := fun _ _ _ _ h => by
  obtain ⟨a, cap, hv⟩ := rowD_slice h
  rw [hv]; exact ⟨rfl, rfl⟩

/-- An element's row is taken out. -/
theorem rowD_open [Inhabited α] {i : Int} (hi : inR l i) (hn : ∀ x ∈ hs, x.1 ≠ i.toNat) (h : (rowD E E2 mk sub hs l).p M D v w) :
    (deep (fun z => rowD E E2 mk sub ((i.toNat, z) :: hs) l) (rowV E2 (sub (gx l i)))).p M D v w := by
  obtain ⟨h0, h1'⟩ := hi
  obtain ⟨k, rfl⟩ : ∃ k : Nat, i = k := ⟨i.toNat, by omega⟩
  have hk : k < l.length := by omega
  simp only [Int.toNat_natCast] at hn ⊢
  obtain ⟨ss, Dm, Dr, h1, h2, h3, h4, h5, h6, h7, h8⟩ := h
  have hks : k < ss.length := by omega
  have hg : gx l (k : Int) = l[k] := by simp [gx, hk]
  refine ⟨ss[k], fun j => D j ∧ ¬ Dr k j, Dr k, ⟨ss, Dm, fun i j => i ≠ k ∧ Dr i j, h1, h2, fun x hx => ?_, fun i a s ha hs' hx => ?_, fun j h => h5 j h.1, fun j h => ?_, fun i j h => h7 i j h.2, fun i i' j h h' => h8 i i' j h.2 h'.2⟩, ?_, fun j => ?_, fun j h h' => h.2 h'⟩
  · rcases List.mem_cons.1 hx with e | e
    · subst e; exact List.getElem?_eq_getElem hks
    · exact h3 x e
  · have hik : i ≠ k := fun e => hx (k, ss[k]) List.mem_cons_self e.symm
    have e := h4 i a s ha hs' (fun x h => hx x (List.mem_cons_of_mem _ h))
    have : (fun j => i ≠ k ∧ Dr i j) = Dr i := by funext j; simp [hik]
    show (rowV E2 (sub a)).p M (fun j => i ≠ k ∧ Dr i j) s w
    rw [this]; exact e
  · rcases h with h | ⟨i, h, h'⟩
    · exact ⟨h6 j (.inl h), fun hd => h7 k j hd h⟩
    · exact ⟨h6 j (.inr ⟨i, h'⟩), fun hd => h (h8 i k j h' hd)⟩
  · rw [hg]
    exact h4 k l[k] ss[k] (List.getElem?_eq_getElem hk) (List.getElem?_eq_getElem hks) hn
  · constructor
    · intro h
      by_cases hd : Dr k j
      · exact .inr hd
      · exact .inl ⟨h, hd⟩
    · rintro (h | h)
      · exact h.1
      · exact h6 j (.inr ⟨k, h⟩)

omit [Rep β] [Rep ρ] in
theorem zw_set {ss : List Value} {k : Nat} {a a' : α} (hk : k < l.length) (ha : l[k] = a) (hm : ∀ s, mk a' s = mk a s) : List.zipWith mk (l.set k a') ss = List.zipWith mk l ss := by
  refine List.ext_getElem (by simp) fun j h1 h2 => ?_
  rw [List.getElem_zipWith, List.getElem_zipWith, List.getElem_set]
  split
  · rename_i e; subst e; rw [hm, ha]
  · rfl

/-- An element's row comes back. -/
theorem rowD_close [Inhabited α] {i : Int} {a' : α} {x : List β} (hi : inR l i) (hn : ∀ y ∈ hs, y.1 ≠ i.toNat) (hm : ∀ s, mk a' s = mk (gx l i) s) (hx : sub a' = x)
    (h : (deep (fun z => rowD E E2 mk sub ((i.toNat, z) :: hs) l) (rowV E2 x)).p M D v w) : (rowD E E2 mk sub hs (l.set i.toNat a')).p M D v w := by
  obtain ⟨h0, h1'⟩ := hi
  obtain ⟨k, rfl⟩ : ∃ k : Nat, i = k := ⟨i.toNat, by omega⟩
  have hk : k < l.length := by omega
  simp only [Int.toNat_natCast] at hn h ⊢
  have hg : gx l (k : Int) = l[k] := by simp [gx, hk]
  obtain ⟨z, D1, D2, ⟨ss, Dm, Dr, h1, h2, h3, h4, h5, h6, h7, h8⟩, hR, hD, hap⟩ := h
  have hks : k < ss.length := by omega
  have hz : ss[k] = z := by
    have := h3 (k, z) List.mem_cons_self
    rw [List.getElem?_eq_getElem hks] at this
    exact Option.some.inj this
  refine ⟨ss, Dm, fun i j => (i = k ∧ D2 j) ∨ (i ≠ k ∧ Dr i j), by simpa using h1, by rw [zw_set hk hg.symm hm]; exact h2, fun x hx => h3 x (List.mem_cons_of_mem _ hx), fun i a s ha hs' hno => ?_, fun j h => ?_, fun j h => ?_, fun i j h => ?_, fun i i' j h h' => ?_⟩
  · rw [List.getElem?_set] at ha
    by_cases e : k = i
    · subst e
      rw [if_pos rfl, if_pos hk] at ha
      obtain rfl := Option.some.inj ha
      rw [List.getElem?_eq_getElem hks] at hs'
      obtain rfl := Option.some.inj hs'
      have : (fun j => (k = k ∧ D2 j) ∨ (k ≠ k ∧ Dr k j)) = D2 := by funext j; simp
      show (rowV E2 (sub a')).p M (fun j => (k = k ∧ D2 j) ∨ (k ≠ k ∧ Dr k j)) ss[k] w
      rw [this, hx, hz]; exact hR
    · rw [if_neg e] at ha
      have e' : i ≠ k := fun h => e h.symm
      have : (fun j => (i = k ∧ D2 j) ∨ (i ≠ k ∧ Dr i j)) = Dr i := by funext j; simp [e']
      show (rowV E2 (sub a)).p M (fun j => (i = k ∧ D2 j) ∨ (i ≠ k ∧ Dr i j)) s w
      rw [this]
      refine h4 i a s ha hs' (fun x hx => ?_)
      rcases List.mem_cons.1 hx with q | q
      · subst q; exact e
      · exact hno x q
  · rcases (hD j).1 h with h | h
    · exact h5 j h
    · exact (rowV E2 x).inM _ _ _ _ hR j h
  · refine (hD j).2 ?_
    rcases h with h | ⟨i, ⟨_, h⟩ | ⟨_, h⟩⟩
    · exact .inl (h6 j (.inl h))
    · exact .inr h
    · exact .inl (h6 j (.inr ⟨i, h⟩))
  · intro hd
    rcases h with ⟨_, h⟩ | ⟨_, h⟩
    · exact hap j (h6 j (.inl hd)) h
    · exact h7 i j h hd
  · rcases h with ⟨e, h⟩ | ⟨e, h⟩ <;> rcases h' with ⟨e', h'⟩ | ⟨e', h'⟩
    · omega
    · exact absurd h (hap j (h6 j (.inr ⟨i', h'⟩)))
    · exact absurd h' (hap j (h6 j (.inr ⟨i, h⟩)))
    · exact h8 i i' j h h'
theorem set_gx [Inhabited α] {i : Int} (hi : inR l i) : l.set i.toNat (gx l i) = l := by
  obtain ⟨h0, h1⟩ := hi
  have hk : i.toNat < l.length := by omega
  have : gx l i = l[i.toNat] := by simp [gx, hk]
  rw [this]; exact List.set_getElem_self hk
theorem rowD_close0 [Inhabited α] {i : Int} (hi : inR l i) (hn : ∀ y ∈ hs, y.1 ≠ i.toNat) (h : (deep (fun z => rowD E E2 mk sub ((i.toNat, z) :: hs) l) (rowV E2 (sub (gx l i)))).p M D v w) : (rowD E E2 mk sub hs l).p M D v w := by
  have := rowD_close (a' := gx l i) hi hn (fun _ => rfl) rfl h
  rw [set_gx hi] at this
  exact this

theorem rowD_none (h : (rowV E ([] : List ρ)).p M D v w) : (rowD E E2 mk sub [] ([] : List α)).p M D v w :=
  ⟨[], D, fun _ _ => False, rfl, h, by simp, fun i b s hb => by simp at hb, (rowV E _).inM _ _ _ _ h, fun j h => h.elim id (fun ⟨_, h⟩ => h.elim), fun _ _ h => h.elim, fun _ _ _ h => h.elim⟩

/-- All of it is written no more. -/
theorem rowD_rep [Rep α] (hsz : Rep.sz ρ = Rep.sz α) (hF : ∀ (M : MSet) (a : α) (s : Value) (cs : List Value) (w : World), Rep.cells M (mk a s) cs w → (rep (sub a)).p M s w → Rep.cells M a cs w)
    (h : (rowD E E2 mk sub [] l).p M D v w) (hms : ∀ k, M k → k < w.heap.size) : (rep l).p (fun k => M k ∧ ¬ D k) v w := by
  obtain ⟨ss, Dm, Dr, h1, h2, h3, h4, h5, h6, h7, h8⟩ := h
  have hr := rep_less (M' := fun k => M k ∧ ¬ D k) (rowV_rep M Dm w v h2 hms) (fun k hk => ⟨hk.1, fun h => hk.2 (h6 k (.inl h))⟩)
  obtain ⟨a, cap, e1, e2, e3, e4⟩ := rep_list.1 hr
  rw [zw_len h1] at e1 e2
  refine rep_list.2 ⟨a, cap, e1, e2, e3, ?_⟩
  cases a with
  | none =>
    have : List.zipWith mk l ss = [] := e4
    have hl : l.length = 0 := by rw [← zw_len (mk := mk) h1, this]; rfl
    exact List.length_eq_zero_iff.1 hl
  | some ad =>
    intro q hq
    have hq' : q < (List.zipWith mk l ss).length := by rw [zw_len h1]; exact hq
    have hqs : q < ss.length := by omega
    obtain ⟨g1, g2, g3, cs, g4, g5⟩ := e4 q hq'
    refine ⟨g1, g2, g3, cs, ?_, fun k hk => ?_⟩
    · rw [List.getElem_zipWith] at g4
      refine hF _ _ _ _ _ g4 ?_
      have := h4 q l[q] ss[q] (List.getElem?_eq_getElem hq) (List.getElem?_eq_getElem hqs) (by simp)
      exact rep_less (rowV_rep M (Dr q) w _ this hms) (fun k hk => ⟨hk.1, fun h => hk.2 (h6 k (.inr ⟨q, h⟩))⟩)
    · rw [← g5 k (by rw [hsz]; exact hk), hsz]
end

/-- The rows of rows. -/
abbrev mkR {β : Type} : List β → Value → Raw := fun _ s => ⟨s⟩
abbrev subR {β : Type} : List β → List β := fun x => x
theorem rowR_rep {β : Type} [Rep β] {E E2 : Nat} {l : List (List β)} {M D : MSet} {v : Value} {w : World} (h : (rowD E E2 mkR subR [] l).p M D v w) (hms : ∀ k, M k → k < w.heap.size) : (rep l).p (fun k => M k ∧ ¬ D k) v w :=
  rowD_rep (α := List β) (mk := mkR) (sub := subR) rfl (fun M a s cs w hc hl => row_cells hc hl) h hms

section
variable {Q : Exit → Act → World → Prop} {P : Program} {n : Nat} {F : Fr} {L : Slots} {B : Owns}

theorem lookB_self {k : Nat} {C : Option CPred} : lookB ((k, C) :: B) k = C := by simp [lookB]
theorem lookB_skip {g k : Nat} {C C' : Option CPred} (h : ¬ g = k) : lookB ((g, C') :: (k, C) :: B) k = C := by simp only [lookB]; rw [beq_ne h]; simp
/-- What a key holds is told otherwise. -/
theorem Cod.tellK {c : Code} {k : Nat} {C C' : CPred} (hl : lookB B k = some C) (h : ∀ M D v w, C.p M D v w → C'.p M D v w) (hc : Cod P c Q n F L ((k, some C') :: B)) : Cod P c Q n F L B := by
  rintro a w ⟨M, D, hs⟩
  exact hc a w ⟨M, D, hs.retell hl (h _ _ _ _ (hs.hasB k _ hl))⟩
theorem Ends.tellK {e : Exit} {k : Nat} {C C' : CPred} (hl : lookB B k = some C) (h : ∀ M D v w, C.p M D v w → C'.p M D v w) (hc : Ends Q e n F L ((k, some C') :: B)) : Ends Q e n F L B := by
  rintro a w ⟨M, D, hs⟩
  exact hc a w ⟨M, D, hs.retell hl (h _ _ _ _ (hs.hasB k _ hl))⟩

variable {α β ρ : Type} [Rep β] [Rep ρ] [Inhabited α] {E E2 : Nat} {mk : α → Value → ρ} {sub : α → List β} {hs : List (Nat × Value)} {l : List α} {s : Value}

theorem Cod.openD {c : Code} {k g : Nat} {i : Int} (hl : lookB B k = some (CPred.at s (rowD E E2 mk sub hs l))) (hg : lookB B g = none) (hi : inR l i) (hn : ∀ x ∈ hs, x.1 ≠ i.toNat)
    (h : ∀ z, Cod P c Q n F L ((g, some (CPred.at z (rowV E2 (sub (gx l i))))) :: (k, some (CPred.at s (rowD E E2 mk sub ((i.toNat, z) :: hs) l))) :: (k, some (CPred.at s (deep (fun z => rowD E E2 mk sub ((i.toNat, z) :: hs) l) (rowV E2 (sub (gx l i)))))) :: B)) : Cod P c Q n F L B := by
  have hgk : ¬ k = g := fun e => by subst e; rw [hg] at hl; cases hl
  exact .tellK (C' := CPred.at s (deep (fun z => rowD E E2 mk sub ((i.toNat, z) :: hs) l) (rowV E2 (sub (gx l i))))) hl (fun M D v w h => by have h' : (rowD E E2 mk sub hs l).p M D s w := h; exact rowD_open hi hn h') (.open (k := k) (g := g) lookB_self (by simp only [lookB]; rw [beq_ne hgk]; exact hg) h)
theorem Cod.closeD {c : Code} {k g : Nat} {i : Int} {z : Value} {x : List β} (a' : α) (hl : lookB B k = some (CPred.at s (rowD E E2 mk sub ((i.toNat, z) :: hs) l))) (hg : lookB B g = some (CPred.at z (rowV E2 x))) (hgk : (g == k) = false) (hi : inR l i) (hn : ∀ y ∈ hs, y.1 ≠ i.toNat)
    (hm : ∀ s, mk a' s = mk (gx l i) s) (hx : sub a' = x)
    (h : Cod P c Q n F L ((k, some (CPred.at s (rowD E E2 mk sub hs (l.set i.toNat a')))) :: (g, none) :: (k, some (CPred.at s (deep (fun z => rowD E E2 mk sub ((i.toNat, z) :: hs) l) (rowV E2 x)))) :: B)) : Cod P c Q n F L B := by
  have hgk' : ¬ g = k := by simpa using hgk
  exact .close (k := k) (g := g) (fun z => rowD E E2 mk sub ((i.toNat, z) :: hs) l) hl hg hgk (.tellK (k := k) (C := CPred.at s (deep (fun z => rowD E E2 mk sub ((i.toNat, z) :: hs) l) (rowV E2 x))) (lookB_skip hgk') (fun M D v w h => by have h' : (deep (fun z => rowD E E2 mk sub ((i.toNat, z) :: hs) l) (rowV E2 x)).p M D s w := h; exact rowD_close hi hn hm hx h') h)
theorem Cod.closeD0 {c : Code} {k g : Nat} {i : Int} {z : Value} (hl : lookB B k = some (CPred.at s (rowD E E2 mk sub ((i.toNat, z) :: hs) l))) (hg : lookB B g = some (CPred.at z (rowV E2 (sub (gx l i))))) (hgk : (g == k) = false) (hi : inR l i) (hn : ∀ y ∈ hs, y.1 ≠ i.toNat)
    (h : Cod P c Q n F L ((k, some (CPred.at s (rowD E E2 mk sub hs l))) :: (g, none) :: (k, some (CPred.at s (deep (fun z => rowD E E2 mk sub ((i.toNat, z) :: hs) l) (rowV E2 (sub (gx l i)))))) :: B)) : Cod P c Q n F L B := by
  have hgk' : ¬ g = k := by simpa using hgk
  exact .close (k := k) (g := g) (fun z => rowD E E2 mk sub ((i.toNat, z) :: hs) l) hl hg hgk (.tellK (k := k) (C := CPred.at s (deep (fun z => rowD E E2 mk sub ((i.toNat, z) :: hs) l) (rowV E2 (sub (gx l i))))) (lookB_skip hgk') (fun M D v w h => by have h' : (deep (fun z => rowD E E2 mk sub ((i.toNat, z) :: hs) l) (rowV E2 (sub (gx l i)))).p M D s w := h; exact rowD_close0 hi hn h') h)
theorem Ends.closeD {e : Exit} {k g : Nat} {i : Int} {z : Value} {x : List β} (a' : α) (hl : lookB B k = some (CPred.at s (rowD E E2 mk sub ((i.toNat, z) :: hs) l))) (hg : lookB B g = some (CPred.at z (rowV E2 x))) (hgk : (g == k) = false) (hi : inR l i) (hn : ∀ y ∈ hs, y.1 ≠ i.toNat)
    (hm : ∀ s, mk a' s = mk (gx l i) s) (hx : sub a' = x)
    (h : Ends Q e n F L ((k, some (CPred.at s (rowD E E2 mk sub hs (l.set i.toNat a')))) :: (g, none) :: (k, some (CPred.at s (deep (fun z => rowD E E2 mk sub ((i.toNat, z) :: hs) l) (rowV E2 x)))) :: B)) : Ends Q e n F L B := by
  have hgk' : ¬ g = k := by simpa using hgk
  exact .close (k := k) (g := g) (fun z => rowD E E2 mk sub ((i.toNat, z) :: hs) l) hl hg hgk (.tellK (k := k) (C := CPred.at s (deep (fun z => rowD E E2 mk sub ((i.toNat, z) :: hs) l) (rowV E2 x))) (lookB_skip hgk') (fun M D v w h => by have h' : (deep (fun z => rowD E E2 mk sub ((i.toNat, z) :: hs) l) (rowV E2 x)).p M D s w := h; exact rowD_close hi hn hm hx h') h)
theorem Ends.closeD0 {e : Exit} {k g : Nat} {i : Int} {z : Value} (hl : lookB B k = some (CPred.at s (rowD E E2 mk sub ((i.toNat, z) :: hs) l))) (hg : lookB B g = some (CPred.at z (rowV E2 (sub (gx l i))))) (hgk : (g == k) = false) (hi : inR l i) (hn : ∀ y ∈ hs, y.1 ≠ i.toNat)
    (h : Ends Q e n F L ((k, some (CPred.at s (rowD E E2 mk sub hs l))) :: (g, none) :: (k, some (CPred.at s (deep (fun z => rowD E E2 mk sub ((i.toNat, z) :: hs) l) (rowV E2 (sub (gx l i)))))) :: B)) : Ends Q e n F L B := by
  have hgk' : ¬ g = k := by simpa using hgk
  exact .close (k := k) (g := g) (fun z => rowD E E2 mk sub ((i.toNat, z) :: hs) l) hl hg hgk (.tellK (k := k) (C := CPred.at s (deep (fun z => rowD E E2 mk sub ((i.toNat, z) :: hs) l) (rowV E2 (sub (gx l i))))) (lookB_skip hgk') (fun M D v w h => by have h' : (deep (fun z => rowD E E2 mk sub ((i.toNat, z) :: hs) l) (rowV E2 (sub (gx l i)))).p M D s w := h; exact rowD_close0 hi hn h') h)
end

section
variable {P : Program} {ops : Array Oper} {fs : Nat} {L : Slots} {B : Owns} {G : Prop}
variable {ty : TypeId} {pos : String} {after : Array Edge} {g : Option (Nat × Bool)} {xr : List Nat} {d : Option Tmp}
variable {α β ρ : Type} [Rep β] [Rep ρ] [Inhabited α] {E E2 : Nat} {mk : α → Value → ρ} {sub : α → List β} {hs : List (Nat × Value)} {l : List α} {s : Value}

theorem StepOK.post1 {o : Oper} {x : Aux} {e : Ent} {d : Nat} {C C' : CPred} (h : StepOK P ops fs o L B x e [(d, some C)]) (hC : ∀ M D v w, C.p M D v w → C'.p M D v w) : StepOK P ops fs o L B x e [(d, some C')] := by
  intro M D a w h1 h2 h3 h4
  have := h M D a w h1 h2 h3 h4
  split at this
  · rename_i hw
    rw [if_pos hw]
    refine Does.mono this fun v w' hl => ?_
    obtain ⟨M', D', a1, a2, a3, a4, a5, a6, a7⟩ := hl
    refine ⟨M', D', a1, a2, a3, a4, a5, fun t c hc => ?_, fun t1 t2 c1 c2 q1 q2 hne => ?_⟩
    · simp only [lookB] at hc
      by_cases e : d = t
      · subst e; simp at hc; subst hc
        obtain ⟨b1, b2⟩ := a6 d C (by simp [lookB])
        exact ⟨hC _ _ _ _ b1, b2⟩
      · rw [beq_ne e] at hc; cases hc
    · simp only [lookB] at q1 q2
      by_cases e1 : d = t1
      · by_cases e2 : d = t2
        · exact absurd (e1.symm.trans e2) hne
        · rw [beq_ne e2] at q2; cases q2
      · rw [beq_ne e1] at q1; cases q1
  · exact absurd this.1 (by simp)

omit [Inhabited α] in
/-- A look into such a row is a look into a row of what mk makes. -/
theorem StepOK.viaD {o : Oper} {k : Nat} {e : Ent} {xr : List Nat} (hk : lookB B k = some (CPred.at s (rowD E E2 mk sub hs l))) (hx : k ∈ xr)
    (h : ∀ ss : List Value, ss.length = l.length → (∀ x ∈ hs, ss[x.1]? = some x.2) → StepOK P ops fs o L ((k, some (CPred.at s (rowV E (List.zipWith mk l ss)))) :: B) (xr, []) e []) : StepOK P ops fs o L B (xr, []) e [] := by
  intro M D a w h1 h2 h3 h4
  obtain ⟨ss, Dm, Dr, g1, g2, g3, g4, g5, g6, g7, g8⟩ : (rowD E E2 mk sub hs l).p M (D k) s w := h4.has k (by simp [hx]) _ hk
  have hD : ∀ t j, (if t = k then Dm else D t) j → D t j := fun t j hj => by
    by_cases e : t = k
    · subst e; rw [if_pos rfl] at hj; exact g6 j (.inl hj)
    · rw [if_neg e] at hj; exact hj
  have cs : ∀ t c, lookB ((k, some (CPred.at s (rowV E (List.zipWith mk l ss)))) :: B) t = some c → (t = k ∧ c = CPred.at s (rowV E (List.zipWith mk l ss))) ∨ (t ≠ k ∧ lookB B t = some c) := by
    intro t c hc
    simp only [lookB] at hc
    by_cases e : k = t
    · subst e; simp at hc; exact .inl ⟨rfl, hc.symm⟩
    · rw [beq_ne e, cond_false] at hc; exact .inr ⟨Ne.symm e, hc⟩
  have old : ∀ t c, lookB ((k, some (CPred.at s (rowV E (List.zipWith mk l ss)))) :: B) t = some c → ∃ c', lookB B t = some c' := fun t c hc => by
    rcases cs t c hc with ⟨rfl, _⟩ | ⟨_, h⟩
    · exact ⟨_, hk⟩
    · exact ⟨_, h⟩
  have := h ss g1 g3 M (fun t => if t = k then Dm else D t) a w h1 h2 h3 ⟨fun t ht c hc => ?_, fun t1 m1 t2 m2 c1 c2 q1 q2 hne j j1 j2 => ?_⟩
  · split at this
    · rename_i hw
      rw [if_pos hw]
      exact this
    · rename_i hw
      rw [if_neg hw]
      exact this
  · rcases cs t c hc with ⟨rfl, rfl⟩ | ⟨e, h⟩
    · rw [if_pos rfl]; exact g2
    · rw [if_neg e]; exact h4.has t ht c h
  · obtain ⟨c1', r1⟩ := old t1 c1 q1
    obtain ⟨c2', r2⟩ := old t2 c2 q2
    exact h4.apart t1 m1 t2 m2 _ _ r1 r2 hne j (hD t1 j j1) (hD t2 j j2)

omit [Rep β] [Rep ρ] in
theorem gx_zw [Inhabited ρ] {ss : List Value} {i : Int} {z : Value} (hi : inR l i) (hs : ss[i.toNat]? = some z) : gx (List.zipWith mk l ss) i = mk (gx l i) z := by
  obtain ⟨h0, h1⟩ := hi
  have hk : i.toNat < l.length := by omega
  unfold gx
  rw [List.getElem?_zipWith, hs, List.getElem?_eq_getElem hk]
  rfl
omit [Rep β] [Rep ρ] [Inhabited α] in
theorem inR_zw {ss : List Value} {i : Int} (hi : inR l i) (h : ss.length = l.length) : inR (List.zipWith mk l ss) i := by
  obtain ⟨h0, h1⟩ := hi
  exact ⟨h0, by rw [zw_len h]; exact h1⟩

omit [Inhabited α] in
theorem StepOK.lenD {x : Operand} {T E' k : Nat} (hT : SliceOf P T E') (hx : Opd L True x (isV s)) (hk : lookB B k = some (CPred.at s (rowD E E2 mk sub hs l))) :
    StepOK P ops fs ⟨d, .call { callee := .builtin .len, args := #[x], argTypes := #[T] }, ty, pos, after, none⟩ L B ([k], []) ⟨True, rep (l.length : Int)⟩ [] :=
  .viaD hk (by simp) fun ss h _ => .re (e := ((List.zipWith mk l ss).length : Int)) (by rw [zw_len h]) (StepOK.lenO (k := k) (T' := E) (l := List.zipWith mk l ss) hT (.told hx lookB_self))

omit [Inhabited α] in
theorem StepOK.indexAddrD {T E' k : Nat} {x i : Operand} {j : Int} (hT : SliceOf P T E') (hE : Ty P E' ρ) (hx : Opd L True x (isV s)) (hk : lookB B k = some (CPred.at s (rowD E E2 mk sub hs l))) (hi : Opd L True i (rep j)) (hb : inR l j) :
    StepOK P ops fs ⟨d, .indexAddr T x i, ty, pos, after, none⟩ L B ([k], []) ⟨True, isV (elemPtr s (j.toNat * Rep.sz ρ + 0))⟩ [] :=
  .viaD hk (by simp) fun ss h _ => .indexAddrO (k := k) (E' := E) (l := List.zipWith mk l ss) .none hT hE hx lookB_self hi (fun _ => inR_zw hb h)
theorem StepOK.loadElemD {γ : Type} [Rep γ] [Inhabited ρ] {T k off : Nat} {x : Operand} {j : Int} {z : Value} {proj : ρ → γ} {y : γ} (hT : Ty P T γ) (hx : Opd L True x (isV (elemPtr s (j.toNat * Rep.sz ρ + off)))) (hk : lookB B k = some (CPred.at s (rowD E E2 mk sub hs l)))
    (hH : HasField ρ γ off proj) (hb : inR l j) (hz : (j.toNat, z) ∈ hs) (hy : y = proj (mk (gx l j) z)) :
    StepOK P ops fs ⟨d, .load T x, ty, pos, after, none⟩ L B ([k], []) ⟨True, rep y⟩ [] :=
  .viaD hk (by simp) fun ss h hh => .re (by rw [hy, gx_zw hb (hh _ hz)]) (StepOK.loadElem (k := k) (E' := E) (l := List.zipWith mk l ss) (proj := proj) .none hT hx lookB_self hH (fun _ => inR_zw hb h))

end

section
variable {P : Program} {Q : Exit → Act → World → Prop} {n : Nat} {F : Fr} {L : Slots} {B : Owns}
/-- Memory in a slot gets a name. -/
theorem Cod.nameC {c : Code} {t g : Nat} {C : CPred} (h1 : OneC C) (hl : lookB B t = some C) (ht : Nat.blt t n = true) (hg : lookB B g = none)
    (k : ∀ s, Cod P c Q n F ((t, ⟨True, isV s⟩) :: L) ((g, some (CPred.at s C)) :: (t, none) :: B)) : Cod P c Q n F L B := by
  intro a w hs
  obtain ⟨M, D, h⟩ := id hs
  have hC := h.hasB t _ hl
  refine k (Act.val a t) a w ⟨M, _, h.rekey hl hg hC fun t' e he => ?_⟩
  simp only [look] at he
  by_cases hne : t = t'
  · subst hne
    simp at he
    obtain rfl := he
    have hlt : t < a.tmps.size := by rw [h.size]; exact Nat.le_of_ble_eq_true ht
    obtain ⟨q1, q2⟩ := h1 _ _ _ _ hC
    refine ⟨Act.val a t, by unfold Act.val; simp [hlt], fun _ => rep_raw.2 ⟨rfl, q1, q2⟩, fun hf => (hf trivial).elim⟩
  · rw [beq_ne hne, cond_false] at he
    exact h.has t' e he
end
theorem frzRowR {β : Type} [Rep β] {E E2 : Nat} {l : List (List β)} : FrzC (rowD E E2 mkR subR [] l) l := fun M D s w h hms => rowR_rep h hms
theorem noHole {i : Nat} : ∀ x ∈ ([] : List (Nat × Value)), x.1 ≠ i := by simp
theorem allHoles {i : Nat} {hs : List (Nat × Value)} {j : Nat} {z : Value} (h : j ≠ i) (t : ∀ x ∈ hs, x.1 ≠ i) : ∀ x ∈ (j, z) :: hs, x.1 ≠ i := by
  intro x hx
  rcases List.mem_cons.1 hx with e | e
  · subst e; exact h
  · exact t x e
theorem nat_ne {i j : Int} (hi : 0 ≤ i) (hj : 0 ≤ j) (h : i ≠ j) : j.toNat ≠ i.toNat := by omega

/-! Loops whose rounds are walked one by one. -/
/-- What is to come at a loop's head. -/
def inLp (P : Program) (c : Code) (Q : Exit → Act → World → Prop) (a : Act) (w : World) : Prop :=
  ∀ (b : Frame) (k : List Item) (cs : List Frame), ∃ e a' w', Q e a' w' ∧ Arrives P (lone (b.at a (.code c :: .inLoop c :: k)) cs w) b k cs e a' w'
section
variable {Q : Exit → Act → World → Prop} {P : Program} {n : Nat} {F : Fr} {L : Slots} {B : Owns}
end

/-! A result of one's own that nobody writes. -/
theorem FSpecO.frzO {P : Program} {f T : Nat} {Ss : List SPred} {Os : Given} {outs : List (Option CPred)} {α : Type} [Rep α] {l : List α} (h : FSpecO P f Ss Os anyV (outs ++ [some (rowV T l)])) (hlen : outs.length = Os.length) : FSpecO P f Ss Os (rep l) outs := by
  refine ⟨h.ok, fun M D w vs hM ha hO => Calls.mono (h.calls M D w vs hM ha hO) ?_⟩
  rintro e w' ⟨v, M', D', rfl, hk, hml, hmh, hms, _, hC, hA⟩
  have hn : (outs ++ [some (rowV T l)])[Os.length]? = some (some (rowV T l)) := by rw [← hlen]; simp
  obtain ⟨g1, g2⟩ := hC Os.length _ hn
  have hv : (((Os.map (·.1)) ++ [v])[Os.length]?).getD undef = v := by
    rw [List.getElem?_append_right (by simp)]
    simp
  rw [hv] at g1
  refine ⟨v, fun k => M' k ∧ ¬ D' Os.length k, D', rfl, hk, fun k hk' => ?_, fun k hk' => hmh k hk'.1, fun k hk' => hms k hk'.1, rowV_rep M' (D' Os.length) w' v g1 hms, fun i c hc => ?_, fun i j c c' hi hj hne => ?_⟩
  · rcases hml k hk' with h1 | h1
    · by_cases hd : D' Os.length k
      · rcases g2 k hd with h2 | h2
        · exact .inr h2
        · exact absurd (hM k hk') (by have := h2; simp only at this; omega)
      · exact .inl ⟨h1, hd⟩
    · exact .inr h1
  · have hil : i < outs.length := (List.getElem?_eq_some_iff.1 hc).1
    have hc' : (outs ++ [some (rowV T l)])[i]? = some (some c) := by rw [List.getElem?_append_left hil]; exact hc
    obtain ⟨q1, q2⟩ := hC i c hc'
    refine ⟨c.law M' _ (D' i) _ w' w' (Keeps.refl _ _) (fun k hk => .inl hk.1) (fun k hk => ⟨⟨c.inM _ _ _ _ q1 k hk, hA i Os.length _ _ hc' hn (by omega) k hk⟩, rfl⟩) q1, q2⟩
  · have hil : i < outs.length := (List.getElem?_eq_some_iff.1 hi).1
    have hjl : j < outs.length := (List.getElem?_eq_some_iff.1 hj).1
    exact hA i j c c' (by rw [List.getElem?_append_left hil]; exact hi) (by rw [List.getElem?_append_left hjl]; exact hj) hne
theorem FSpecO.frzO1 {P : Program} {f T : Nat} {Ss : List SPred} {x : Value × CPred} {o : Option CPred} {α : Type} [Rep α] {l : List α} (h : FSpecO P f Ss [x] anyV [o, some (rowV T l)]) : FSpecO P f Ss [x] (rep l) [o] := FSpecO.frzO (outs := [o]) h rfl
end Go.DB

/-
  Arrays in place, looked into at any index; arrays of arrays.
-/
set_option linter.unusedVariables false
set_option linter.unusedSimpArgs false
namespace Go.DB
open Go Go.RowKit

theorem HasField.comp {α β γ : Type} [Rep α] [Rep β] [Rep γ] {o1 o2 : Nat} {p : α → β} {q : β → γ} (h : HasField α β o1 p) (h' : HasField β γ (0 + o2) q) : HasField α γ (o1 + o2) (fun x => q (p x)) := by
  rw [Nat.zero_add] at h'
  refine ⟨by have := h.1; have := h'.1; omega, fun M x cs w hc => ?_⟩
  obtain ⟨c1, hc1, hj1⟩ := h.2 M x cs w hc
  obtain ⟨c2, hc2, hj2⟩ := h'.2 M _ c1 w hc1
  refine ⟨c2, hc2, fun j hj => ?_⟩
  rw [hj2 j hj, hj1 (o2 + j) (by have := h'.1; omega), Nat.add_assoc]
theorem SetField.comp {α β γ : Type} [Rep α] [Rep β] [Rep γ] {o1 o2 : Nat} {p : α → β} {s : α → β → α} {q : β → γ → β} (h : HasField α β o1 p) (hs : SetField α β o1 s) (h' : SetField β γ (0 + o2) q) : SetField α γ (o1 + o2) (fun x z => s x (q (p x) z)) := by
  rw [Nat.zero_add] at h'
  refine ⟨by have := h.1; have := h'.1; omega, fun M x z cs zs w hc hz => ?_⟩
  obtain ⟨c1, hc1, hj1⟩ := h.2 M x cs w hc
  have l1 := Rep.len hc1
  have l0 := Rep.len hc
  have b1 := h.1
  have b2 := h'.1
  have e : c1 = (cs.drop o1).take (Rep.sz β) := by
    apply List.ext_getElem?
    intro j
    by_cases hj : j < Rep.sz β
    · rw [hj1 j hj, List.getElem?_take_of_lt hj, List.getElem?_drop]
    · rw [List.getElem?_eq_none (by omega), List.getElem?_eq_none (by simp; omega)]
  have := hs.2 M x (q (p x) z) cs _ w hc (h'.2 M _ z c1 zs w hc1 hz)
  have e2 : cs.take o1 ++ (c1.take o2 ++ zs ++ c1.drop (o2 + Rep.sz γ)) ++ cs.drop (o1 + Rep.sz β) = cs.take (o1 + o2) ++ zs ++ cs.drop (o1 + o2 + Rep.sz γ) := by
    rw [e]
    have t1 : ((cs.drop o1).take (Rep.sz β)).take o2 = (cs.drop o1).take o2 := by rw [List.take_take, Nat.min_eq_left (by omega)]
    have t2 : cs.take (o1 + o2) = cs.take o1 ++ (cs.drop o1).take o2 := List.take_add
    have t3 : ((cs.drop o1).take (Rep.sz β)).drop (o2 + Rep.sz γ) ++ cs.drop (o1 + Rep.sz β) = cs.drop (o1 + o2 + Rep.sz γ) := by
      have : cs.drop (o1 + Rep.sz β) = (cs.drop o1).drop (Rep.sz β) := by rw [List.drop_drop]
      rw [this, ← List.drop_append_of_le_length (by simp; omega), List.take_append_drop, List.drop_drop]
      congr 1; omega
    rw [t1, t2]
    simp only [List.append_assoc]
    rw [t3]
  rw [e2] at this
  exact this

section
variable {P : Program} {ops : Array Oper} {fs : Nat} {L : Slots} {B : Owns} {G : Prop}
variable {d : Option Tmp} {ty : TypeId} {pos : String} {after : Array Edge} {g : Option (Nat × Bool)} {xr : List Nat}
end
end Go.DB

/-
  Results that are nil exactly when they are empty.
-/
set_option linter.unusedVariables false
set_option linter.unusedSimpArgs false
namespace Go.DB
open Go Go.RowKit

/-- A list that is nil when it is empty. -/
def repN {α : Type} [Rep α] (l : List α) : SPred where
  p := fun M v w => (rep l).p M v w ∧ (l = [] → v = .slice none 0 0)
  law := fun M M' v w w' k hm h => ⟨(rep l).law M M' v w w' k hm h.1, h.2⟩
section
variable {P : Program} {ops : Array Oper} {fs : Nat} {L : Slots} {B : Owns} {G : Prop}
variable {d : Option Tmp} {ty : TypeId} {pos : String} {after : Array Edge} {g : Option (Nat × Bool)} {xr : List Nat}
variable {T T' E : TypeId} {x : Operand} {α : Type} [Rep α] {l : List α}
end
section
variable {P : Program} {ops : Array Oper} {fs : Nat} {L : Slots} {B : Owns} {ty : TypeId} {pos : String} {after : Array Edge}
/-- A map goes into a box that was made in the same region. -/
theorem StepOK.storeRow0M {T T' t k : Nat} {y0 : Raw} {R : CPred} {K V : Type} [Rep K] [DecidableEq K] [MKey K] [Rep V] (hT : Ty P T (GMap K V)) (hl : lookB B k = some (cont T' y0)) (hkn : Nat.blt k fs = true) (ht : lookB B t = some R) (hR1 : OneC R) (hkt : (k == t) = false) :
    StepOK P ops fs ⟨none, .store T (.tmp k) (.tmp t), ty, pos, after, none⟩ L B ([k, t], [k, t]) ⟨True, anyV⟩ [(k, some (deep (fun s => cont T' (⟨s⟩ : Raw)) R)), (t, none)] := by
  have hkt : k ≠ t := by simpa using hkt
  refine .doing fun M D a w hsz hm hs hsB => ?_
  obtain ⟨m, old, hvm, hD, hM, hh, hold⟩ := hsB.has k (by simp) _ hl
  have hR := hsB.has t (by simp) _ ht
  have hap := hsB.apart k (by simp) t (by simp) _ _ hl ht hkt
  have hxv : a.eval (.tmp t) = Act.val a t := eval_val
  obtain ⟨ho1, ho2⟩ := hR1 _ _ _ _ hR
  have hz : Rep.cells M (⟨Act.val a t⟩ : Raw) [Act.val a t] w := ⟨rfl, ho1, ho2⟩
  have hat : a.eval (.tmp k) = .pointer (some ⟨m, 0, none⟩) := by
    have hlt : k < a.tmps.size := by rw [hsz]; exact Nat.le_of_ble_eq_true hkn
    rw [Act.eval_tmp (v := Act.val a k) (by unfold Act.val; simp [hlt]), hvm]
  obtain ⟨w', h1, h2, h3, h4, h5, h6, h7⟩ := run_storeAt (w := w) (m := m) (off := 0) (cs := [Act.val a t]) (pre := []) (mid := old) (rest := []) hT rfl (show old.length = 1 from Rep.len hold) rfl (Rep.plain hz) (show (Act.val a t).cells = #[Act.val a t] from ho2) (by simpa using hh)
  have hkeep : Keeps (D k) w w' := ⟨h3, h4, h5, by omega, fun j _ hn => h7 j (fun e => hn ((hD j).2 e))⟩
  have hkM : Keeps M w w' := ⟨h3, h4, h5, by omega, fun j _ hn => h7 j (fun e => hn (e ▸ hM))⟩
  refine Does.skip (w' := w') (ex_store (by rw [hat, hxv]; exact h1)) rfl (.merge hl ht hkeep (fun j h => by rw [h6]; exact hm j h) ⟨fun _ => trivial, fun hf => (hf trivial).elim⟩ ?_)
  rw [val_none]
  refine ⟨Act.val a t, D k, D t, ⟨m, _, hvm, hD, hM, by simpa using h2, rfl, ho1, ho2⟩, ?_, fun _ => Iff.rfl, fun j h1 h2 => hap j h1 h2⟩
  exact R.law M M (D t) _ w w' hkM (fun _ h => .inl h) (fun j hj => ⟨R.inM _ _ _ _ hR j hj, h7 j (fun e => hap j ((hD j).2 e) hj)⟩) hR
end
theorem map_cells {K V : Type} [Rep K] [DecidableEq K] [MKey K] [Rep V] {l : GMap K V} {s : Value} {M : MSet} {cs : List Value} {w : World} (h : Rep.cells M (⟨s⟩ : Raw) cs w) (hl : (rep l).p M s w) : Rep.cells M l cs w := by
  obtain ⟨rfl, _⟩ := h
  obtain ⟨cs, hc, hv⟩ := hl
  have h1 := Rep.len hc
  have : Rep.sz (GMap K V) = 1 := rfl
  match cs, h1 with
  | [c], _ =>
    have : s = c := hv
    rw [this]; exact hc
end Go.DB

