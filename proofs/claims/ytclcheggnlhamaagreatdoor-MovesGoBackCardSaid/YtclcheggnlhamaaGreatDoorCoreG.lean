/-
  Plain rules on the program's operations, code and memory (texts laid together).
-/
import Derived.Test.YtclcheggnlhamaaGreatDoorCoreF
import Derived.Laws.Cover1
/-
  Ranges over maps whose outcome depends on the order, where what comes behind makes the same of all.
-/
set_option linter.unusedVariables false
set_option linter.unusedSimpArgs false
namespace Go.DB
open Go Go.RowKit

section
variable {K V σ ρ : Type}
open Classical in
/-- A loop over the entries of a map, and what comes behind: what comes out in whatever order the entries come. -/
noncomputable def mrangeK (m : GMap K V) (step : K → V → σ → Option σ) (s0 : σ) (k : σ → Option ρ) : Option ρ :=
  if h : ∃ r, ∀ l, Lists m l → ∃ s, mfold step l s0 = some s ∧ k s = some r then some h.choose else none
variable {m : GMap K V}
/-- All outcomes are so. -/
def MOut (m : GMap K V) (step : K → V → σ → Option σ) (s0 : σ) (Pp : σ → Prop) : Prop := ∀ l, Lists m l → ∃ s, mfold step l s0 = some s ∧ Pp s
end

section
variable {P : Program} {Q : Exit → Act → World → Prop} {n : Nat} {F : Fr} {L : Slots} {B : Owns}
variable {K V : Type} {m : GMap K V}
end
end Go.DB

/-
  Elements of a part of a row that turns.
-/
set_option linter.unusedVariables false
set_option linter.unusedSimpArgs false
namespace Go.DB
open Go Go.RowKit
section
variable {P : Program} {ops : Array Oper} {fs : Nat} {L : Slots} {B : Owns} {G : Prop}
variable {d : Option Tmp} {ty : TypeId} {pos : String} {after : Array Edge} {g : Option (Nat × Bool)} {xr : List Nat}

end
end Go.DB

/-
  Rows of rows of one's own grow.
-/
set_option linter.unusedVariables false
set_option linter.unusedSimpArgs false
namespace Go.DB
open Go Go.RowKit
section
variable {P : Program} {ops : Array Oper} {fs : Nat} {L : Slots} {B : Owns} {ty : TypeId} {pos : String} {after : Array Edge}

end
end Go.DB

/-
  Calls of functions that are values, while memory is lent to them.
-/
set_option linter.unusedVariables false
set_option linter.unusedSimpArgs false
namespace Go.DB
open Go Go.RowKit
section
variable {P : Program} {ops : Array Oper} {fs : Nat} {L : Slots} {B : Owns} {G : Prop}
variable {ty : TypeId} {pos : String} {after : Array Edge} {g : Option (Nat × Bool)} {xr : List Nat}

end
end Go.DB

/-
  Rows whose elements' rows are one's own up to a place.
-/
set_option linter.unusedVariables false
set_option linter.unusedSimpArgs false
namespace Go.DB
open Go Go.RowKit

section
variable {α β ρ : Type} [Rep β] [Rep ρ]

/-- A row of what mk makes of a plain element and of the value of a row, n elements long: the rows ahead of k are one's own, those behind it are written by nobody. -/
def rowP (E E2 : Nat) (mk : α → Value → ρ) (sub : α → List β) (n k : Nat) (l : List α) : CPred where
  p := fun M D v w => ∃ (ss : List Value) (Dm : MSet) (Dr : Nat → MSet), ss.length = l.length ∧ (rowV E (List.zipWith mk l ss)).p M Dm v w ∧ l.length = n ∧
    (∀ (i : Nat) a s, l[i]? = some a → ss[i]? = some s → i < k → (rowV E2 (sub a)).p M (Dr i) s w) ∧ (∀ (i : Nat) a s, l[i]? = some a → ss[i]? = some s → k ≤ i → (rep (sub a)).p M s w) ∧
    (∀ j, D j → M j) ∧ (∀ j, (Dm j ∨ ∃ i, Dr i j) → D j) ∧ (∀ i j, Dr i j → ¬ Dm j) ∧ ∀ i i' j, Dr i j → Dr i' j → i = i'
  inM := fun M D v w ⟨ss, Dm, Dr, _, _, _, _, _, h, _⟩ k hk => h k hk
  law := fun M M' D v w w' hk hm hown ⟨ss, Dm, Dr, h1, h2, h3, h4, h4', h5, h6, h7, h8⟩ =>
    ⟨ss, Dm, Dr, h1, (rowV E _).law M M' Dm v w w' hk hm (fun j h => hown j (h6 j (.inl h))) h2, h3, fun i a s ha hs hn => (rowV E2 _).law M M' (Dr i) s w w' hk hm (fun j h => hown j (h6 j (.inr ⟨i, h⟩))) (h4 i a s ha hs hn),
      fun i a s ha hs hn => (rep (sub a)).law M M' s w w' hk hm (h4' i a s ha hs hn), fun j h => (hown j h).1, h6, h7, h8⟩

variable {E E2 : Nat} {mk : α → Value → ρ} {sub : α → List β} {n k : Nat} {l : List α} {M D : MSet} {v : Value} {w : World}

theorem elems_parts [Rep α] (hF : ∀ (M : MSet) (a : α) (cs : List Value) (w : World), Rep.cells M a cs w → ∃ s, Rep.cells M (mk a s) cs w ∧ (rep (sub a)).p M s w) : ∀ (l : List α) (cs : List Value), Elems M w l cs →
    ∃ ss : List Value, ss.length = l.length ∧ Elems M w (List.zipWith mk l ss) cs ∧ ∀ (i : Nat) a s, l[i]? = some a → ss[i]? = some s → (rep (sub a)).p M s w
  | [], cs, h => ⟨[], rfl, h, fun i a s ha => by simp at ha⟩
  | x :: l, cs, ⟨c, r, h, h1, h2⟩ => by
    obtain ⟨s, h3, h4⟩ := hF M x c w h1
    obtain ⟨ss, g1, g2, g3⟩ := elems_parts hF l r h2
    refine ⟨s :: ss, by simp [g1], ⟨c, r, h, h3, g2⟩, fun i a s' ha hs => ?_⟩
    cases i with
    | zero => simp at ha hs; subst ha; subst hs; exact h4
    | succ i => exact g3 i a s' (by simpa using ha) (by simpa using hs)

/-- A row of plain elements, none of whose rows is one's own yet. -/
theorem rowP_of [Rep α] (hsz : Rep.sz ρ = Rep.sz α) (hF : ∀ (M : MSet) (a : α) (cs : List Value) (w : World), Rep.cells M a cs w → ∃ s, Rep.cells M (mk a s) cs w ∧ (rep (sub a)).p M s w) (h : (rowV E l).p M D v w) : (rowP E E2 mk sub l.length 0 l).p M D v w := by
  obtain ⟨a, cap, hv, h1, h2, h3⟩ := id h
  have hin := (rowV E l).inM M D v w h
  cases a with
  | none =>
    obtain ⟨rfl, hc, hD⟩ := h3
    exact ⟨[], D, fun _ _ => False, rfl, ⟨none, cap, hv, h1, h2, rfl, hc, hD⟩, rfl, fun i a s ha => by simp at ha, fun i a s ha => by simp at ha, hin, fun j h => h.elim id (fun ⟨_, h⟩ => h.elim), fun _ _ h => h.elim, fun _ _ _ h => h.elim⟩
  | some ad =>
    obtain ⟨hs, hD, hM, pre, cs, rest, hh, hp, he, hr⟩ := h3
    obtain ⟨ss, g1, g2, g3⟩ := elems_parts hF l cs he
    have hl : (List.zipWith mk l ss).length = l.length := zw_len g1
    exact ⟨ss, D, fun _ _ => False, g1, ⟨some ad, cap, by rw [hl]; exact hv, by rw [hl]; exact h1, h2, hs, hD, hM, pre, cs, rest, hh, hp, g2, by rw [hl, hsz]; exact hr⟩, rfl, fun i a s _ _ h => by omega, fun i a s ha hs _ => g3 i a s ha hs,
      hin, fun j h => h.elim id (fun ⟨_, h⟩ => h.elim), fun _ _ h => h.elim, fun _ _ _ h => h.elim⟩

theorem rowP_slice (h : (rowP E E2 mk sub n k l).p M D v w) : l.length = n ∧ l.length ≤ 9223372036854775807 := by
  obtain ⟨ss, Dm, Dr, h1, ⟨a, cap, h2, h2', h2'', _⟩, h3, _⟩ := h
  rw [zw_len h1] at h2'
  exact ⟨h3, by omega⟩

/-- All of its elements' rows are one's own. -/
theorem rowP_all (hk : n ≤ k) (h : (rowP E E2 mk sub n k l).p M D v w) : (rowD E E2 mk sub [] l).p M D v w := by
  obtain ⟨ss, Dm, Dr, h1, h2, h3, h4, h4', h5, h6, h7, h8⟩ := h
  refine ⟨ss, Dm, Dr, h1, h2, by simp, fun i a s ha hs _ => h4 i a s ha hs ?_, h5, h6, h7, h8⟩
  have : i < l.length := by
    rcases Nat.lt_or_ge i l.length with q | q
    · exact q
    · rw [List.getElem?_eq_none q] at ha; cases ha
  omega
theorem rowP_succ {i : Int} (h0 : 0 ≤ i) (h1 : i < (n : Int)) (h : (rowP E E2 mk sub n (i.toNat + 1) l).p M D v w) : (rowP E E2 mk sub n (W (i + 1)).toNat l).p M D v w := by
  obtain ⟨q1, q2⟩ := rowP_slice h
  have e : (W (i + 1)).toNat = i.toNat + 1 := by
    rw [W_eq ⟨by omega, by omega⟩]; omega
  rw [e]; exact h
end

section
variable {P : Program} {ops : Array Oper} {fs : Nat} {L : Slots} {B : Owns} {G : Prop}
variable {ty : TypeId} {pos : String} {after : Array Edge} {g : Option (Nat × Bool)} {xr : List Nat} {d : Option Tmp}
variable {α β ρ : Type} [Rep β] [Rep ρ] {E E2 : Nat} {mk : α → Value → ρ} {sub : α → List β} {n k0 : Nat} {l : List α} {s : Value}

/-- A look into such a row is a look into a row of what mk makes. -/
theorem StepOK.viaP {o : Oper} {k : Nat} {e : Ent} {xr : List Nat} (hk : lookB B k = some (CPred.at s (rowP E E2 mk sub n k0 l))) (hx : k ∈ xr)
    (h : ∀ ss : List Value, ss.length = l.length → StepOK P ops fs o L ((k, some (CPred.at s (rowV E (List.zipWith mk l ss)))) :: B) (xr, []) e []) : StepOK P ops fs o L B (xr, []) e [] := by
  intro M D a w h1 h2 h3 h4
  obtain ⟨ss, Dm, Dr, g1, g2, g3, g4, g4', g5, g6, g7, g8⟩ : (rowP E E2 mk sub n k0 l).p M (D k) s w := h4.has k (by simp [hx]) _ hk
  have hD : ∀ t j, (if t = k then Dm else D t) j → D t j := fun t j hj => by
    by_cases e : t = k
    · subst e; rw [if_pos rfl] at hj; exact g6 j (.inl hj)
    · rw [if_neg e] at hj; exact hj
  have cs : ∀ t c, lookB ((k, some (CPred.at s (rowV E (List.zipWith mk l ss)))) :: B) t = some c → (t = k ∧ c = CPred.at s (rowV E (List.zipWith mk l ss))) ∨ (t ≠ k ∧ lookB B t = some c) := by
    intro t c hc
    simp only [lookB] at hc
    by_cases e : k = t
    · subst e; simp at hc; exact .inl ⟨rfl, hc.symm⟩
    · rw [beq_ne e, cond_false] at hc; exact .inr ⟨Ne.symm e, hc⟩
  have old : ∀ t c, lookB ((k, some (CPred.at s (rowV E (List.zipWith mk l ss)))) :: B) t = some c → ∃ c', lookB B t = some c' := fun t c hc => by
    rcases cs t c hc with ⟨rfl, _⟩ | ⟨_, h⟩
    · exact ⟨_, hk⟩
    · exact ⟨_, h⟩
  have := h ss g1 M (fun t => if t = k then Dm else D t) a w h1 h2 h3 ⟨fun t ht c hc => ?_, fun t1 m1 t2 m2 c1 c2 q1 q2 hne j j1 j2 => ?_⟩
  · split at this
    · rename_i hw
      rw [if_pos hw]
      exact this
    · rename_i hw
      rw [if_neg hw]
      exact this
  · rcases cs t c hc with ⟨rfl, rfl⟩ | ⟨e, h⟩
    · rw [if_pos rfl]; exact g2
    · rw [if_neg e]; exact h4.has t ht c h
  · obtain ⟨c1', r1⟩ := old t1 c1 q1
    obtain ⟨c2', r2⟩ := old t2 c2 q2
    exact h4.apart t1 m1 t2 m2 _ _ r1 r2 hne j (hD t1 j j1) (hD t2 j j2)

theorem StepOK.indexAddrP {T E' k : Nat} {x i : Operand} {j : Int} (hT : SliceOf P T E') (hE : Ty P E' ρ) (hx : Opd L True x (isV s)) (hk : lookB B k = some (CPred.at s (rowP E E2 mk sub n k0 l))) (hi : Opd L True i (rep j)) (hb : inR l j) :
    StepOK P ops fs ⟨d, .indexAddr T x i, ty, pos, after, none⟩ L B ([k], []) ⟨True, isV (elemPtr s (j.toNat * Rep.sz ρ + 0))⟩ [] :=
  .viaP hk (by simp) fun ss h => .indexAddrO (k := k) (E' := E) (l := List.zipWith mk l ss) .none hT hE hx lookB_self hi (fun _ => inR_zw hb h)
theorem StepOK.fieldElemP {S f o k off : Nat} {x : Operand} {j : Int} (hF : FieldAt P S f o) (hx : Opd L True x (isV (elemPtr s (j.toNat * Rep.sz ρ + off)))) (hk : lookB B k = some (CPred.at s (rowP E E2 mk sub n k0 l))) (hb : inR l j) :
    StepOK P ops fs ⟨d, .fieldAddr S x f, ty, pos, after, none⟩ L B ([k], []) ⟨True, isV (elemPtr s (j.toNat * Rep.sz ρ + (off + o)))⟩ [] :=
  .viaP hk (by simp) fun ss h => .fieldElem (k := k) (E' := E) (l := List.zipWith mk l ss) .none hF hx lookB_self (fun _ => inR_zw hb h)

/-- A row that nobody writes is looked up. -/
theorem StepOK.loadElemP [Inhabited α] {T k off : Nat} {x : Operand} {j : Int} {proj : ρ → Raw} (hT : Ty P T Raw) (hx : Opd L True x (isV (elemPtr s (j.toNat * Rep.sz ρ + off)))) (hk : lookB B k = some (CPred.at s (rowP E E2 mk sub n k0 l)))
    (hH : HasField ρ Raw off proj) (hp : ∀ a z, proj (mk a z) = ⟨z⟩) (hb : inR l j) (hkj : k0 ≤ j.toNat) :
    StepOK P ops fs ⟨d, .load T x, ty, pos, after, none⟩ L B ([k], []) ⟨True, rep (sub (gx l j))⟩ [] :=
  .of .none fun M D a w _ hs hsB hG => by
    obtain ⟨h0, h1⟩ := hb
    obtain ⟨ss, Dm, Dr, g1, g2, g3, g4, g4', g5, g6, g7, g8⟩ : (rowP E E2 mk sub n k0 l).p M (D k) s w := hsB.has k (by simp) _ hk
    have hll : j.toNat < l.length := by omega
    have hls : j.toNat < ss.length := by omega
    have hlt : j.toNat < (List.zipWith mk l ss).length := by rw [zw_len g1]; exact hll
    obtain ⟨b, of, cap, pre, cs, rest, rfl, _, _, _, _, hh, hpr, he, _⟩ := rowAt_block (j := j.toNat) g2 hlt
    have hv : a.eval x = ptr b (of + (j.toNat * Rep.sz ρ + off)) := (rep_raw.1 (hx.get hs (fun t ht => looksAt_op (by simp [Op.operands, ht])) hG)).1
    obtain ⟨c, hc, hj⟩ := he.at _ cs j.toNat hlt
    obtain ⟨fcs, hf, hfj⟩ := hH.2 M _ c w hc
    have hgx : gx l j = l[j.toNat] := by simp [gx, List.getElem?_eq_getElem hll]
    rw [hgx]
    have hfr := g4' j.toNat l[j.toNat] ss[j.toNat] (List.getElem?_eq_getElem hll) (List.getElem?_eq_getElem hls) hkj
    have hfe : (List.zipWith mk l ss)[j.toNat] = mk l[j.toNat] ss[j.toNat] := by rw [List.getElem_zipWith]
    rw [hfe, hp] at hf
    have hval : mkv (Rep.agg Raw) fcs = ss[j.toNat] := by
      obtain ⟨rfl, _⟩ := hf
      rfl
    refine Does.value (v := ss[j.toNat]) (w' := w) ?_ ⟨Keeps.refl _ _, hfr⟩
    have hcl := he.len
    have := run_loadAt (P := P) hT hf (w := w) (b := b) (off := of + (j.toNat * Rep.sz ρ + off)) (fun i hi => by
      have hle := hH.1
      have hlt' : j.toNat * Rep.sz ρ + (off + i) < cs.length := by
        rw [hcl]
        have := Nat.mul_le_mul_right (Rep.sz ρ) (show j.toNat + 1 ≤ (List.zipWith mk l ss).length by omega)
        rw [Nat.add_mul] at this; omega
      rw [hfj i hi, ← hj (off + i) (by omega), cell_of_heap hh, List.getElem?_toArray, List.append_assoc, List.getElem?_append_right (by omega), List.getElem?_append_left (by omega), hpr]
      congr 1; omega)
    rw [hval] at this
    simp only [execOp, hv, ptr, Sem.run_bind, this, Result.andThen, Sem.run_pure]

/-- The next element gets a row of one's own. -/
theorem StepOK.storeElemP {T k t off : Nat} {p : Operand} {x : List β} {j : Int} {set : ρ → Raw → ρ} [Inhabited ρ] [Inhabited α] (a' : α) (hT : Ty P T (List β)) (hp : Opd L True p (isV (elemPtr s (j.toNat * Rep.sz ρ + off))))
    (hk : lookB B k = some (CPred.at s (rowP E E2 mk sub n j.toNat l))) (hF : SetField ρ Raw off set) (ht : lookB B t = some (rowV E2 x)) (hb : inR l j) (hkt : (k == t) = false)
    (hm : ∀ z0 s', set (mk (gx l j) z0) ⟨s'⟩ = mk a' s') (hx : sub a' = x) :
    StepOK P ops fs ⟨none, .store T p (.tmp t), ty, pos, after, none⟩ L B ([k, t], [k, t]) ⟨True, anyV⟩ [(k, some (CPred.at s (rowP E E2 mk sub n (j.toNat + 1) (l.set j.toNat a')))), (t, none)] := by
  have hkt : k ≠ t := by simpa using hkt
  refine .doing fun M D a w hsz hmm hsat hsB => ?_
  obtain ⟨q1, q2⟩ := hb
  have hlt0 : j.toNat < l.length := by omega
  have hg : gx l j = l[j.toNat] := by simp [gx, hlt0]
  obtain ⟨ss, Dm, Dr, h1, h2, hn0, h4, h4', h5, h6, h7, h8⟩ : (rowP E E2 mk sub n j.toNat l).p M (D k) s w := hsB.has k (by simp) _ hk
  have hR := hsB.has t (by simp) _ ht
  have hap := hsB.apart k (by simp) t (by simp) _ _ hk ht hkt
  have hzl : (List.zipWith mk l ss).length = l.length := zw_len h1
  have hlt : j.toNat < (List.zipWith mk l ss).length := by omega
  have hls : j.toNat < ss.length := by omega
  obtain ⟨b, of, cap, pre, cs, rest, rfl, hlc, hcm, hD, hM, hh', hpr, he, hrest⟩ := rowAt_block (j := j.toNat) h2 hlt
  have hv : a.eval p = ptr b (of + (j.toNat * Rep.sz ρ + off)) := (rep_raw.1 (hp.get hsat (fun t ht => looksAt_op (by simp [Op.operands, ht])) trivial)).1
  have hxv : a.eval (.tmp t) = Act.val a t := eval_val
  obtain ⟨ad, cap', hsl, _⟩ := id hR
  have hz : Rep.cells M (⟨Act.val a t⟩ : Raw) [Act.val a t] w := ⟨rfl, by rw [hsl]; rfl, by rw [hsl]; rfl⟩
  obtain ⟨c, hc, hj⟩ := he.at _ cs j.toNat hlt
  have hcl := he.len
  have hce := Rep.len hc
  have hle : off + 1 ≤ Rep.sz ρ := hF.1
  have hroom : j.toNat * Rep.sz ρ + Rep.sz ρ ≤ cs.length := by
    rw [hcl]
    have := Nat.mul_le_mul_right (Rep.sz ρ) (show j.toNat + 1 ≤ (List.zipWith mk l ss).length by omega)
    rw [Nat.add_mul] at this; omega
  have hceq : c = (cs.drop (j.toNat * Rep.sz ρ)).take (Rep.sz ρ) := by
    refine List.ext_getElem? fun i => ?_
    by_cases hi : i < Rep.sz ρ
    · rw [List.getElem?_take_of_lt hi, List.getElem?_drop, hj i hi]
    · rw [List.getElem?_eq_none (by omega), List.getElem?_eq_none (by rw [List.length_take]; omega)]
  have hsplit : cs = cs.take (j.toNat * Rep.sz ρ) ++ (c.take off ++ (c.drop off).take 1 ++ c.drop (off + 1)) ++ cs.drop (j.toNat * Rep.sz ρ + Rep.sz ρ) := by
    have h2 : c.take off ++ (c.drop off).take 1 ++ c.drop (off + 1) = c := by
      rw [← List.drop_drop, List.append_assoc, List.take_append_drop, List.take_append_drop]
    rw [h2, hceq, ← List.drop_drop, List.append_assoc, List.take_append_drop, List.take_append_drop]
  obtain ⟨w', g1, g2, g3, g4, g5, g6, g7⟩ := run_storeAt (P := P) (w := w) (m := b) (off := of + (j.toNat * Rep.sz ρ + off)) (cs := [Act.val a t]) (pre := pre ++ cs.take (j.toNat * Rep.sz ρ) ++ c.take off) (mid := (c.drop off).take 1)
    (rest := c.drop (off + 1) ++ cs.drop (j.toNat * Rep.sz ρ + Rep.sz ρ) ++ rest) hT rfl
    (by rw [List.length_take, List.length_drop]; show _ = 1; omega) (by rw [List.length_append, List.length_append, List.length_take, List.length_take]; omega) (Rep.plain hz) (show (Act.val a t).cells = #[Act.val a t] by rw [hsl]; rfl) (by
      rw [hh']
      congr 2
      conv => lhs; rw [hsplit]
      simp)
  have hbm : Dm b := (hD b).2 rfl
  have hkD : Keeps (D k) w w' := ⟨g3, g4, g5, by omega, fun i _ hn => g7 i (fun e => hn (e ▸ h6 b (.inl hbm)))⟩
  have hkM : Keeps M w w' := ⟨g3, g4, g5, by omega, fun i _ hn => g7 i (fun e => hn (e ▸ hM))⟩
  refine Does.skip (w' := w') (ex_store (by rw [hv, hxv]; exact g1)) rfl (.merge hk ht hkD (fun i h => by rw [g6]; exact hmm i h) ⟨fun _ => trivial, fun hf => (hf trivial).elim⟩ ?_)
  have hl' := Rep.law hkM (fun _ h => .inl h) hc
  have hset := hF.2 M (List.zipWith mk l ss)[j.toNat] ⟨Act.val a t⟩ c [Act.val a t] w' hl' (Rep.law hkM (fun _ h => .inl h) hz)
  have hel := Elems.set _ cs j.toNat _ _ hlt (Elems.law hkM (fun _ h => .inl h) _ cs he) hset
  have hput : (List.zipWith mk l ss).set j.toNat (set (List.zipWith mk l ss)[j.toNat] ⟨Act.val a t⟩) = List.zipWith mk (l.set j.toNat a') (ss.set j.toNat (Act.val a t)) := by
    rw [List.getElem_zipWith, ← hg, hm]
    exact zw_put hlt0 h1
  rw [hput] at hel
  have hnl : (List.zipWith mk (l.set j.toNat a') (ss.set j.toNat (Act.val a t))).length = l.length := by rw [List.length_zipWith, List.length_set, List.length_set]; omega
  have hlen0 : (List.zipWith mk l ss).length = l.length := hzl
  refine ⟨ss.set j.toNat (Act.val a t), Dm, fun i q => (i = j.toNat ∧ D t q) ∨ (i ≠ j.toNat ∧ i < j.toNat ∧ Dr i q), by simp [h1], ⟨some ⟨b, of, none⟩, cap, by rw [hnl, ← hlen0], by rw [hnl, ← hlen0]; exact hlc, hcm, rfl, hD, hM, pre, _, rest, ?_, hpr, hel, by rw [hnl, ← hlen0]; exact hrest⟩, by rw [List.length_set]; exact hn0, fun i a0 s0 ha hs0 hno => ?_, fun i a0 s0 ha hs0 hno => ?_, fun q hq => ?_, fun q hq => ?_, fun i q hq => ?_, fun i i' q hq hq' => ?_⟩
  · rw [g2]
    congr 2
    simp [show Rep.sz Raw = 1 from rfl]
  · rw [List.getElem?_set] at ha hs0
    by_cases e : j.toNat = i
    · subst e
      rw [if_pos rfl, if_pos hlt0] at ha
      rw [if_pos rfl, if_pos hls] at hs0
      obtain rfl := Option.some.inj ha
      obtain rfl := Option.some.inj hs0
      show (rowV E2 (sub a')).p M (fun q => (j.toNat = j.toNat ∧ D t q) ∨ (j.toNat ≠ j.toNat ∧ j.toNat < j.toNat ∧ Dr j.toNat q)) _ w'
      have : (fun q => (j.toNat = j.toNat ∧ D t q) ∨ (j.toNat ≠ j.toNat ∧ j.toNat < j.toNat ∧ Dr j.toNat q)) = D t := by funext q; simp
      rw [this, hx]
      exact (rowV E2 x).law M M (D t) _ w w' hkM (fun _ h => .inl h) (fun q hq => ⟨(rowV E2 x).inM _ _ _ _ hR q hq, g7 q (fun e => hap q (e ▸ h6 b (.inl hbm)) hq)⟩) hR
    · rw [if_neg e] at ha hs0
      have e' : i ≠ j.toNat := fun h => e h.symm
      have hij : i < j.toNat := by omega
      show (rowV E2 (sub a0)).p M (fun q => (i = j.toNat ∧ D t q) ∨ (i ≠ j.toNat ∧ i < j.toNat ∧ Dr i q)) s0 w'
      have : (fun q => (i = j.toNat ∧ D t q) ∨ (i ≠ j.toNat ∧ i < j.toNat ∧ Dr i q)) = Dr i := by funext q; simp [e', hij]
      rw [this]
      exact (rowV E2 _).law M M (Dr i) s0 w w' hkM (fun _ h => .inl h) (fun q hq => ⟨h5 q (h6 q (.inr ⟨i, hq⟩)), g7 q (fun e => h7 i q hq (e ▸ hbm))⟩) (h4 i a0 s0 ha hs0 hij)
  · rw [List.getElem?_set, if_neg (by omega)] at ha hs0
    exact (rep (sub a0)).law M M s0 w w' hkM (fun _ h => .inl h) (h4' i a0 s0 ha hs0 (by omega))
  · rcases hq with hq | hq
    · exact h5 q hq
    · exact (rowV E2 x).inM _ _ _ _ hR q hq
  · rcases hq with hq | ⟨i, ⟨_, hq⟩ | ⟨_, _, hq⟩⟩
    · exact .inl (h6 q (.inl hq))
    · exact .inr hq
    · exact .inl (h6 q (.inr ⟨i, hq⟩))
  · intro hd
    rcases hq with ⟨_, hq⟩ | ⟨_, _, hq⟩
    · exact hap q (h6 q (.inl hd)) hq
    · exact h7 i q hq hd
  · rcases hq with ⟨e, hq⟩ | ⟨e, e2, hq⟩ <;> rcases hq' with ⟨e', hq'⟩ | ⟨e', e2', hq'⟩
    · omega
    · exact absurd hq (hap q (h6 q (.inr ⟨i', hq'⟩)))
    · exact absurd hq' (hap q (h6 q (.inr ⟨i, hq⟩)))
    · exact h8 i i' q hq hq'

/-- An element's place is none that is nil. -/
theorem StepOK.nilCheckE {α : Type} [Rep α] {k off E' : Nat} {x : Operand} {l : List α} {j : Int} (hg : Guard ops g L G) (hx : Opd L G x (isV (elemPtr s (j.toNat * Rep.sz α + off)))) (hk : lookB B k = some (CPred.at s (rowV E' l))) (hb : G → 0 ≤ j ∧ j < l.length) :
    StepOK P ops fs ⟨d, .nilCheck x, ty, pos, after, g⟩ L B ([k], []) ⟨G, isV (elemPtr s (j.toNat * Rep.sz α + off))⟩ [] :=
  .of hg fun M D a w _ hs hsB hG => by
    obtain ⟨b, of, cap, pre, cs, rest, rfl, _⟩ := rowAt_block (j := j.toNat) (show (rowV E' l).p M (D k) s w from hsB.has k (by simp) _ hk) (by have := hb hG; omega)
    have h := hx.get hs (fun t ht => looksAt_op (by simp [Op.operands, ht])) hG
    exact Does.value (ex_nilCheck (rep_raw.1 h).1) ⟨Keeps.refl _ _, isV_ptr⟩

/-- A value goes into a box without a name that held another kind of value of the same size. -/
theorem StepOK.storeH {T T' t : Nat} {x : Operand} {α0 α1 : Type} [Rep α0] [Rep α1] {y : α1} {y0 : α0} (hT : Ty P T α1) (hl : lookB B t = some (cont T' y0)) (hsz0 : Rep.sz α0 = Rep.sz α1) (ht : Nat.blt t fs = true) (hx : Opd L True x (rep y)) :
    StepOK P ops fs ⟨none, .store T (.tmp t) x, ty, pos, after, none⟩ L B ([t], [t]) ⟨True, anyV⟩ [(t, some (cont T' y))] := by
  refine .doing fun M D a w hsz hm hs hsB => ?_
  obtain ⟨m, old, hvm, hD, hM, hh, hold⟩ := hsB.has t (by simp) _ hl
  obtain ⟨cs, hc, hxv⟩ := hx.get hs (fun t ht => looksAt_op (by simp [Op.operands, ht])) trivial
  have hat : a.eval (.tmp t) = .pointer (some ⟨m, 0, none⟩) := by
    have hlt : t < a.tmps.size := by rw [hsz]; exact Nat.le_of_ble_eq_true ht
    rw [Act.eval_tmp (v := Act.val a t) (by unfold Act.val; simp [hlt]), hvm]
  obtain ⟨w', h1, h2, h3, h4, h5, h6, h7⟩ := run_storeAt (w := w) (m := m) (pre := []) (rest := []) hT (Rep.len hc) ((Rep.len hold).trans hsz0) rfl (Rep.plain hc) (Rep.flat hc) (by simpa using hh)
  have hkeep : Keeps (D t) w w' := ⟨h3, h4, h5, by omega, fun k _ hn => h7 k (fun e => hn ((hD k).2 e))⟩
  have hkM : Keeps M w w' := ⟨h3, h4, h5, by omega, fun k _ hn => h7 k (fun e => hn (e ▸ hM))⟩
  refine Does.skip (w' := w') (ex_store (by rw [hat, hxv]; exact h1)) rfl (.turn hl hkeep (fun k h => by rw [h6]; exact hm k h) ⟨fun _ => trivial, fun hf => (hf trivial).elim⟩ ?_)
  rw [val_none]
  exact ⟨m, cs, hvm, hD, hM, by simpa using h2, Rep.law hkM (fun _ h => .inl h) hc⟩
end
end Go.DB

/-
  Short names for the steps that walks take most.
-/
set_option linter.unusedVariables false
set_option linter.unusedSimpArgs false
namespace Go.DB
open Go Go.RowKit

abbrev oo : Aux := ([], [])

section
variable {P : Program} {ops : Array Oper} {n : Nat} {rest : List Oper} {L : Slots} {B : Owns} {K : Slots → Owns → Prop} {aux : List Aux} {xr : List Nat} {d t : Nat} {ty : TypeId} {pos : String} {after : Array Edge}

theorem Chain.mv {S : SPred} (h : look L t = some ⟨True, S⟩) (k : Chain P ops n rest [] ((d, ⟨True, S⟩) :: L) B K) (hB : hasKey B d = false := by exact rfl) :
    Chain P ops n (⟨some d, .move (.tmp t), ty, pos, after, none⟩ :: rest) [] L B K := .cons (.move .none (.s h)) hB k
theorem Chain.mvA {S : SPred} (h : look L t = some ⟨True, S⟩) (k : Chain P ops n rest aux ((d, ⟨True, S⟩) :: L) B K) (hB : hasKey B d = false := by exact rfl) :
    Chain P ops n (⟨some d, .move (.tmp t), ty, pos, after, none⟩ :: rest) ((xr, []) :: aux) L B K := .consA (.move .none (.s h)) hB k
theorem Chain.asn {S : SPred} (h : look L t = some ⟨True, S⟩) (k : Chain P ops n rest [] ((d, ⟨True, S⟩) :: L) B K) (hB : hasKey B d = false := by exact rfl) :
    Chain P ops n (⟨some d, .assign (.tmp t), ty, pos, after, none⟩ :: rest) [] L B K := .cons (.assign .none (.s h)) hB k
theorem Chain.asnA {S : SPred} (h : look L t = some ⟨True, S⟩) (k : Chain P ops n rest aux ((d, ⟨True, S⟩) :: L) B K) (hB : hasKey B d = false := by exact rfl) :
    Chain P ops n (⟨some d, .assign (.tmp t), ty, pos, after, none⟩ :: rest) ((xr, []) :: aux) L B K := .consA (.assign .none (.s h)) hB k
theorem Chain.asi {i : Int} (k : Chain P ops n rest [] ((d, ⟨True, rep i⟩) :: L) B K) (hi : InI i := by decide) (hB : hasKey B d = false := by exact rfl) :
    Chain P ops n (⟨some d, .assign (.const (.int .i64 i)), ty, pos, after, none⟩ :: rest) [] L B K := .cons (.assign .none (.int hi)) hB k
theorem Chain.mvi {i : Int} (k : Chain P ops n rest [] ((d, ⟨True, rep i⟩) :: L) B K) (hi : InI i := by decide) (hB : hasKey B d = false := by exact rfl) :
    Chain P ops n (⟨some d, .move (.const (.int .i64 i)), ty, pos, after, none⟩ :: rest) [] L B K := .cons (.move .none (.int hi)) hB k
theorem Chain.ld {T : TypeId} {α : Type} [Rep α] {y : α} (hT : Ty P T α) (h : look L t = some ⟨True, ref y⟩) (k : Chain P ops n rest [] ((d, ⟨True, rep y⟩) :: L) B K) (hB : hasKey B d = false := by exact rfl) :
    Chain P ops n (⟨some d, .load T (.tmp t), ty, pos, after, none⟩ :: rest) [] L B K := .cons (.load .none hT (.s h)) hB k
theorem Chain.ldA {T : TypeId} {α : Type} [Rep α] {y : α} (hT : Ty P T α) (h : look L t = some ⟨True, ref y⟩) (k : Chain P ops n rest aux ((d, ⟨True, rep y⟩) :: L) B K) (hB : hasKey B d = false := by exact rfl) :
    Chain P ops n (⟨some d, .load T (.tmp t), ty, pos, after, none⟩ :: rest) ((xr, []) :: aux) L B K := .consA (.load .none hT (.s h)) hB k
theorem Chain.fa {S f off : Nat} {α β : Type} [Rep α] [Rep β] {proj : α → β} {y : α} (hF : FieldAt P S f off) (hH : HasField α β off proj) (h : look L t = some ⟨True, ref y⟩)
    (k : Chain P ops n rest [] ((d, ⟨True, ref (proj y)⟩) :: L) B K) (hB : hasKey B d = false := by exact rfl) :
    Chain P ops n (⟨some d, .fieldAddr S (.tmp t) f, ty, pos, after, none⟩ :: rest) [] L B K := .cons (.fieldAddr .none hF hH (.s h)) hB k
theorem Chain.faA {S f off : Nat} {α β : Type} [Rep α] [Rep β] {proj : α → β} {y : α} (hF : FieldAt P S f off) (hH : HasField α β off proj) (h : look L t = some ⟨True, ref y⟩)
    (k : Chain P ops n rest aux ((d, ⟨True, ref (proj y)⟩) :: L) B K) (hB : hasKey B d = false := by exact rfl) :
    Chain P ops n (⟨some d, .fieldAddr S (.tmp t) f, ty, pos, after, none⟩ :: rest) ((xr, []) :: aux) L B K := .consA (.fieldAddr .none hF hH (.s h)) hB k
theorem Chain.c {op : Op} {g : Option (Nat × Bool)} {E : Ent} (h : StepOK P ops n ⟨some d, op, ty, pos, after, g⟩ L B ([], []) E []) (k : Chain P ops n rest [] ((d, E) :: L) B K) (hB : hasKey B d = false := by exact rfl) :
    Chain P ops n (⟨some d, op, ty, pos, after, g⟩ :: rest) [] L B K := .cons h hB k
theorem Chain.cA {op : Op} {g : Option (Nat × Bool)} {E : Ent} (h : StepOK P ops n ⟨some d, op, ty, pos, after, g⟩ L B (xr, []) E []) (k : Chain P ops n rest aux ((d, E) :: L) B K) (hB : hasKey B d = false := by exact rfl) :
    Chain P ops n (⟨some d, op, ty, pos, after, g⟩ :: rest) ((xr, []) :: aux) L B K := .consA h hB k
theorem Chain.cN {op : Op} {g : Option (Nat × Bool)} {E : Ent} {xs : List Nat} {V : Nat × Option CPred} {Ws : Writes} (h : StepOK P ops n ⟨none, op, ty, pos, after, g⟩ L B (xr, xs) E (V :: Ws)) (k : Chain P ops n rest aux L (V :: (Ws ++ B)) K)
    (hx : (V :: Ws).map (·.1) = xs := by exact rfl) : Chain P ops n (⟨none, op, ty, pos, after, g⟩ :: rest) ((xr, xs) :: aux) L B K := .consN h hx k
theorem Chain.cW {op : Op} {g : Option (Nat × Bool)} {E : Ent} {xs : List Nat} {V : Nat × Option CPred} {Ws : Writes} (h : StepOK P ops n ⟨some d, op, ty, pos, after, g⟩ L B (xr, xs) E (V :: Ws)) (k : Chain P ops n rest aux ((d, E) :: L) (V :: (Ws ++ B)) K)
    (hx : (V :: Ws).map (·.1) = xs := by exact rfl) (hB : hasKey B d = false := by exact rfl) : Chain P ops n (⟨some d, op, ty, pos, after, g⟩ :: rest) ((xr, xs) :: aux) L B K := .consW h hx hB k
theorem Chain.ixO {T E E' u : Nat} {s : Value} {α : Type} [Rep α] {l : List α} {j : Int} (q : Nat) (hT : SliceOf P T E) (hE : Ty P E α) (hx : look L t = some ⟨True, isV s⟩) (hk : lookB B q = some (CPred.at s (rowV E' l))) (hi : look L u = some ⟨True, rep j⟩)
    (hb : 0 ≤ j ∧ j < l.length) (k : Chain P ops n rest aux ((d, ⟨True, isV (elemPtr s (j.toNat * Rep.sz α + 0))⟩) :: L) B K) (hB : hasKey B d = false := by exact rfl) :
    Chain P ops n (⟨some d, .indexAddr T (.tmp t) (.tmp u), ty, pos, after, none⟩ :: rest) (([q], []) :: aux) L B K := .consA (.indexAddrO (k := q) .none hT hE (.s hx) hk (.s hi) (fun _ => hb)) hB k
theorem Chain.ix {T E u : Nat} {α : Type} [Rep α] [Inhabited α] {l : List α} {j : Int} (hT : SliceOf P T E) (hE : Ty P E α) (hx : look L t = some ⟨True, rep l⟩) (hi : look L u = some ⟨True, rep j⟩)
    (hb : 0 ≤ j ∧ j < l.length) (k : Chain P ops n rest [] ((d, ⟨True, ref (gx l j)⟩) :: L) B K) (hB : hasKey B d = false := by exact rfl) :
    Chain P ops n (⟨some d, .indexAddr T (.tmp t) (.tmp u), ty, pos, after, none⟩ :: rest) [] L B K := .cons (.indexAddr .none hT hE (.s hx) (.s hi) (fun _ => hb)) hB k
theorem Chain.ixA {T E u : Nat} {α : Type} [Rep α] [Inhabited α] {l : List α} {j : Int} (hT : SliceOf P T E) (hE : Ty P E α) (hx : look L t = some ⟨True, rep l⟩) (hi : look L u = some ⟨True, rep j⟩)
    (hb : 0 ≤ j ∧ j < l.length) (k : Chain P ops n rest aux ((d, ⟨True, ref (gx l j)⟩) :: L) B K) (hB : hasKey B d = false := by exact rfl) :
    Chain P ops n (⟨some d, .indexAddr T (.tmp t) (.tmp u), ty, pos, after, none⟩ :: rest) ((xr, []) :: aux) L B K := .consA (.indexAddr .none hT hE (.s hx) (.s hi) (fun _ => hb)) hB k
theorem Chain.ex {i : Nat} {Ss : List SPred} {S : SPred} (h : look L t = some ⟨True, tup Ss⟩) (hi : Ss[i]? = some S) (k : Chain P ops n rest [] ((d, ⟨True, S⟩) :: L) B K) (hB : hasKey B d = false := by exact rfl) :
    Chain P ops n (⟨some d, .extract (.tmp t) i, ty, pos, after, none⟩ :: rest) [] L B K := .cons (.extract .none (.s h) hi) hB k
theorem Chain.exA {i : Nat} {Ss : List SPred} {S : SPred} (h : look L t = some ⟨True, tup Ss⟩) (hi : Ss[i]? = some S) (k : Chain P ops n rest aux ((d, ⟨True, S⟩) :: L) B K) (hB : hasKey B d = false := by exact rfl) :
    Chain P ops n (⟨some d, .extract (.tmp t) i, ty, pos, after, none⟩ :: rest) ((xr, []) :: aux) L B K := .consA (.extract .none (.s h) hi) hB k
theorem Chain.mg {j tg : Nat} {want b : Bool} {c : Prop} {S : SPred} (h1 : (ops[j]?).bind (·.dst) = some tg) (h2 : look L tg = some ⟨c, rep b⟩) (h : look L t = some ⟨True, S⟩) (k : Chain P ops n rest [] ((d, ⟨c ∧ b = want, S⟩) :: L) B K) (hB : hasKey B d = false := by exact rfl) :
    Chain P ops n (⟨some d, .move (.tmp t), ty, pos, after, some (j, want)⟩ :: rest) [] L B K := .cons (.move (.at h1 h2) (.s h)) hB k
theorem Chain.lg {j tg : Nat} {want b : Bool} {c : Prop} {T : TypeId} {α : Type} [Rep α] {y : α} (hT : Ty P T α) (h1 : (ops[j]?).bind (·.dst) = some tg) (h2 : look L tg = some ⟨c, rep b⟩) (h : look L t = some ⟨c ∧ b = want, ref y⟩)
    (k : Chain P ops n rest [] ((d, ⟨c ∧ b = want, rep y⟩) :: L) B K) (hB : hasKey B d = false := by exact rfl) :
    Chain P ops n (⟨some d, .load T (.tmp t), ty, pos, after, some (j, want)⟩ :: rest) [] L B K := .cons (.load (.at h1 h2) hT (.tmp h id)) hB k
theorem Chain.fg {j tg : Nat} {want b : Bool} {c : Prop} {S f off : Nat} {α β : Type} [Rep α] [Rep β] {proj : α → β} {y : α} (hF : FieldAt P S f off) (hH : HasField α β off proj) (h1 : (ops[j]?).bind (·.dst) = some tg) (h2 : look L tg = some ⟨c, rep b⟩)
    (h : look L t = some ⟨True, ref y⟩) (k : Chain P ops n rest [] ((d, ⟨c ∧ b = want, ref (proj y)⟩) :: L) B K) (hB : hasKey B d = false := by exact rfl) :
    Chain P ops n (⟨some d, .fieldAddr S (.tmp t) f, ty, pos, after, some (j, want)⟩ :: rest) [] L B K := .cons (.fieldAddr (.at h1 h2) hF hH (.s h)) hB k
theorem Chain.pa {u : Nat} {b1 b2 : Bool} (h1 : look L t = some ⟨True, rep b1⟩) (h2 : look L u = some ⟨True ∧ b1 = true, rep b2⟩) (k : Chain P ops n rest [] ((d, ⟨True, rep (b1 && b2)⟩) :: L) B K) (hB : hasKey B d = false := by exact rfl) :
    Chain P ops n (⟨some d, .pick (.tmp t) (.tmp u) (.const (.bool false)), ty, pos, after, none⟩ :: rest) [] L B K := .cons (.pickAnd .none (.s h1) (.tmp h2 id)) hB k
theorem Chain.po {u : Nat} {b1 b2 : Bool} (h1 : look L t = some ⟨True, rep b1⟩) (h2 : look L u = some ⟨True ∧ b1 = false, rep b2⟩) (k : Chain P ops n rest [] ((d, ⟨True, rep (b1 || b2)⟩) :: L) B K) (hB : hasKey B d = false := by exact rfl) :
    Chain P ops n (⟨some d, .pick (.tmp t) (.const (.bool true)) (.tmp u), ty, pos, after, none⟩ :: rest) [] L B K := .cons (.pickOr .none (.s h1) (.tmp h2 id)) hB k
theorem Chain.lt {u : Nat} {T T' : TypeId} {i j : Int} (h1 : look L t = some ⟨True, rep i⟩) (h2 : look L u = some ⟨True, rep j⟩) (k : Chain P ops n rest [] ((d, ⟨True, rep (decide (i < j))⟩) :: L) B K) (hB : hasKey B d = false := by exact rfl) :
    Chain P ops n (⟨some d, .binOp .lss T (.tmp t) (.tmp u) T', ty, pos, after, none⟩ :: rest) [] L B K := .cons (.lt .none (.s h1) (.s h2)) hB k
theorem Chain.add {u : Nat} {T T' : TypeId} {i j : Int} (h1 : look L t = some ⟨True, rep i⟩) (h2 : look L u = some ⟨True, rep j⟩) (k : Chain P ops n rest [] ((d, ⟨True, rep (W (i + j))⟩) :: L) B K) (hB : hasKey B d = false := by exact rfl) :
    Chain P ops n (⟨some d, .binOp .add T (.tmp t) (.tmp u) T', ty, pos, after, none⟩ :: rest) [] L B K := .cons (.addW .none (.s h1) (.s h2)) hB k
theorem Chain.sub {u : Nat} {T T' : TypeId} {i j : Int} (h1 : look L t = some ⟨True, rep i⟩) (h2 : look L u = some ⟨True, rep j⟩) (k : Chain P ops n rest [] ((d, ⟨True, rep (W (i - j))⟩) :: L) B K) (hB : hasKey B d = false := by exact rfl) :
    Chain P ops n (⟨some d, .binOp .sub T (.tmp t) (.tmp u) T', ty, pos, after, none⟩ :: rest) [] L B K := .cons (.subW .none (.s h1) (.s h2)) hB k
theorem Chain.asb {b : Bool} (k : Chain P ops n rest [] ((d, ⟨True, rep b⟩) :: L) B K) (hB : hasKey B d = false := by exact rfl) :
    Chain P ops n (⟨some d, .assign (.const (.bool b)), ty, pos, after, none⟩ :: rest) [] L B K := .cons (.assign .none .bool) hB k
theorem Opd.i {G : Prop} {m : Int} (h : InI m := by decide) : Opd L G (.const (.int .i64 m)) (rep m) := .int h
theorem Chain.addA {u : Nat} {T T' : TypeId} {i j : Int} (h1 : look L t = some ⟨True, rep i⟩) (h2 : look L u = some ⟨True, rep j⟩) (k : Chain P ops n rest aux ((d, ⟨True, rep (W (i + j))⟩) :: L) B K) (hB : hasKey B d = false := by exact rfl) :
    Chain P ops n (⟨some d, .binOp .add T (.tmp t) (.tmp u) T', ty, pos, after, none⟩ :: rest) ((xr, []) :: aux) L B K := .consA (.addW .none (.s h1) (.s h2)) hB k
theorem Chain.subA {u : Nat} {T T' : TypeId} {i j : Int} (h1 : look L t = some ⟨True, rep i⟩) (h2 : look L u = some ⟨True, rep j⟩) (k : Chain P ops n rest aux ((d, ⟨True, rep (W (i - j))⟩) :: L) B K) (hB : hasKey B d = false := by exact rfl) :
    Chain P ops n (⟨some d, .binOp .sub T (.tmp t) (.tmp u) T', ty, pos, after, none⟩ :: rest) ((xr, []) :: aux) L B K := .consA (.subW .none (.s h1) (.s h2)) hB k
theorem Chain.adi {T T' : TypeId} {i j : Int} (h1 : look L t = some ⟨True, rep i⟩) (k : Chain P ops n rest [] ((d, ⟨True, rep (W (i + j))⟩) :: L) B K) (hj : InI j := by decide) (hB : hasKey B d = false := by exact rfl) :
    Chain P ops n (⟨some d, .binOp .add T (.tmp t) (.const (.int .i64 j)) T', ty, pos, after, none⟩ :: rest) [] L B K := .cons (.addW .none (.s h1) (.int hj)) hB k
theorem Chain.eqi {T T' : TypeId} {i j : Int} (h1 : look L t = some ⟨True, rep i⟩) (k : Chain P ops n rest [] ((d, ⟨True, rep (decide (i = j))⟩) :: L) B K) (hj : InI j := by decide) (hB : hasKey B d = false := by exact rfl) :
    Chain P ops n (⟨some d, .binOp .eql T (.tmp t) (.const (.int .i64 j)) T', ty, pos, after, none⟩ :: rest) [] L B K := .cons (.eqI .none (.s h1) (.int hj)) hB k
theorem Chain.nei {T T' : TypeId} {i j : Int} (h1 : look L t = some ⟨True, rep i⟩) (k : Chain P ops n rest [] ((d, ⟨True, rep (!decide (i = j))⟩) :: L) B K) (hj : InI j := by decide) (hB : hasKey B d = false := by exact rfl) :
    Chain P ops n (⟨some d, .binOp .neq T (.tmp t) (.const (.int .i64 j)) T', ty, pos, after, none⟩ :: rest) [] L B K := .cons (.neI .none (.s h1) (.int hj)) hB k
theorem Chain.ra {α : Type} [Rep α] {e v : α} (hv : v = e) (h : look L t = some ⟨True, rep e⟩) (k : Chain P ops n rest [] ((d, ⟨True, rep v⟩) :: L) B K) (hB : hasKey B d = false := by exact rfl) :
    Chain P ops n (⟨some d, .assign (.tmp t), ty, pos, after, none⟩ :: rest) [] L B K := .cons (.re hv (.assign .none (.s h))) hB k
theorem Chain.rlA {T : TypeId} {α : Type} [Rep α] {y v : α} (hv : v = y) (hT : Ty P T α) (h : look L t = some ⟨True, ref y⟩) (k : Chain P ops n rest aux ((d, ⟨True, rep v⟩) :: L) B K) (hB : hasKey B d = false := by exact rfl) :
    Chain P ops n (⟨some d, .load T (.tmp t), ty, pos, after, none⟩ :: rest) ((xr, []) :: aux) L B K := .consA (.re hv (.load .none hT (.s h))) hB k
theorem Chain.fe {S f o off E' : Nat} {s : Value} {α : Type} [Rep α] {l : List α} {j : Int} (q : Nat) (hF : FieldAt P S f o) (hx : look L t = some ⟨True, isV (elemPtr s (j.toNat * Rep.sz α + off))⟩) (hk : lookB B q = some (CPred.at s (rowV E' l)))
    (hb : 0 ≤ j ∧ j < l.length) (k : Chain P ops n rest aux ((d, ⟨True, isV (elemPtr s (j.toNat * Rep.sz α + (off + o)))⟩) :: L) B K) (hB : hasKey B d = false := by exact rfl) :
    Chain P ops n (⟨some d, .fieldAddr S (.tmp t) f, ty, pos, after, none⟩ :: rest) (([q], []) :: aux) L B K := .consA (.fieldElem (k := q) .none hF (.s hx) hk (fun _ => hb)) hB k
theorem Chain.st {T T' u : Nat} {α : Type} [Rep α] {y y0 : α} (hT : Ty P T α) (hl : lookB B t = some (cont T' y0)) (ht : Nat.blt t n = true) (hx : look L u = some ⟨True, rep y⟩) (k : Chain P ops n rest aux L ((t, some (cont T' y)) :: ([] ++ B)) K) :
    Chain P ops n (⟨none, .store T (.tmp t) (.tmp u), ty, pos, after, none⟩ :: rest) (([t], [t]) :: aux) L B K := .consN (.store hT hl ht (.s hx)) rfl k
theorem Chain.ln {T E : Nat} {α : Type} [Rep α] {l : List α} (hT : SliceOf P T E) (h : look L t = some ⟨True, rep l⟩) (k : Chain P ops n rest [] ((d, ⟨True, rep (l.length : Int)⟩) :: L) B K) (hB : hasKey B d = false := by exact rfl) :
    Chain P ops n (⟨some d, .call { callee := .builtin .len, args := #[.tmp t], argTypes := #[T] }, ty, pos, after, none⟩ :: rest) [] L B K := .cons (.len .none hT (.s h)) hB k
theorem Chain.al {T : Nat} {α : Type} [Rep α] {z : α} (hz : ZeroOf P T z) (hd : Nat.blt d n = true) (k : Chain P ops n rest aux ((d, ⟨True, anyV⟩) :: L) ((d, some (cont T z)) :: ([] ++ B)) K) (hB : hasKey B d = false := by exact rfl) :
    Chain P ops n (⟨some d, .alloc T, ty, pos, after, none⟩ :: rest) (([], [d]) :: aux) L B K := .consW (.alloc hz hd) rfl hB k
theorem Chain.s0 {T T' m u : Nat} {α : Type} [Rep α] {y0 z : α} (q : Nat) (hT : Ty P T α) (hl : lookB B q = some (boxAt m T' y0)) (hp : look L t = some ⟨True, isV (ptr m 0)⟩) (hx : look L u = some ⟨True, rep z⟩)
    (k : Chain P ops n rest aux L ((q, some (boxAt m T' z)) :: ([] ++ B)) K) : Chain P ops n (⟨none, .store T (.tmp t) (.tmp u), ty, pos, after, none⟩ :: rest) (([q], [q]) :: aux) L B K := .consN (.storeAt0 (g := q) hT hl (.s hp) (.s hx)) rfl k
end

section
variable {P : Program} {ops : Array Oper} {fs : Nat} {L : Slots} {B : Owns} {ty : TypeId} {pos : String} {after : Array Edge}
theorem StepOK.cO {d : Option Nat} {f : Nat} {xs : Array Operand} {ts : Array TypeId} {Ss : List SPred} {Os : Given} {S : SPred} {outs : List (Option CPred)} {V : Nat × Option CPred} {Ws : Writes} {xk : List Nat} (ks : List Nat) (hspec : FSpecO P f Ss Os S outs)
    (hx : OpdL L True xs.toList Ss) (hH : Holds B ks Os) (hW : outW (Os.map (·.1)) ks d outs = V :: Ws) (hnd : (ks ++ d.toList).Nodup := by decide) (hxk : ∀ k ∈ ks, k ∈ xk := by decide) (hd : ∀ d', d = some d' → d' < fs := by intro d h; cases h; decide) :
    StepOK P ops fs ⟨d, .call { callee := .value (.func f), args := xs, argTypes := ts }, ty, pos, after, none⟩ L B (ks, xk) ⟨True, S⟩ (V :: Ws) := .callO ks hspec hx hH hW hnd hxk hd
end

section
variable {P : Program} {Q : Exit → Act → World → Prop} {n : Nat} {F : Fr} {L : Slots} {B : Owns}

/-- A region, and what comes behind it. -/
theorem Cod.sr {id : Nat} {l : List Oper} {draw : Bool} {y : Code} (aux : List Aux) (hm : P.follows .mixedOrders = true)
    (h : Chain P l.toArray n l aux L B (fun L' B' => Cod P y Q n F L' B')) (hok : regOk n l.toArray aux = true := by kernel_rfl) : Cod P (.seq (.region id l.toArray draw) y) Q n F L B :=
  .seq (.region aux hm hok h)
/-- A region at the end. -/
theorem Cod.rg {id : Nat} {l : List Oper} {draw : Bool} (aux : List Aux) (hm : P.follows .mixedOrders = true)
    (h : Chain P l.toArray n l aux L B (fun L' B' => Ends Q .normal n F L' B')) (hok : regOk n l.toArray aux = true := by kernel_rfl) : Cod P (.region id l.toArray draw) Q n F L B :=
  .region aux hm hok h
theorem Cod.sn {id : Nat} {l : List Oper} {draw : Bool} {y : Code} (hm : P.follows .mixedOrders = true) (h : Chain P l.toArray n l [] L B (fun L' B' => Cod P y Q n F L' B')) (hok : regOk n l.toArray [] = true := by kernel_rfl) :
    Cod P (.seq (.region id l.toArray draw) y) Q n F L B := .sr [] hm h hok
theorem Cod.rn {id : Nat} {l : List Oper} {draw : Bool} (hm : P.follows .mixedOrders = true) (h : Chain P l.toArray n l [] L B (fun L' B' => Ends Q .normal n F L' B')) (hok : regOk n l.toArray [] = true := by kernel_rfl) :
    Cod P (.region id l.toArray draw) Q n F L B := .rg [] hm h hok
/-- What comes behind is shown once; nothing new is told but prop. -/
theorem Cod.tJ {x y : Code} (prop : Unit → Prop) {keep : Slots} {keepB : Owns} (hk : Sub L keep) (hkB : SubB B keepB) (h : Cod P x (Exit.then (fun a w => ∃ j : Unit, prop j ∧ Sat n F ((fun _ => ([] : Slots)) j ++ keep) ((fun _ => ([] : Owns)) j ++ keepB) a w) Q) n F L B)
    (k : ∀ i : Unit, prop i → Cod P y Q n F ((fun _ => ([] : Slots)) i ++ keep) ((fun _ => ([] : Owns)) i ++ keepB)) : Cod P x (Exit.then (y.wp P Q) Q) n F L B := .thenJ (fun _ => []) (fun _ => []) prop hk hkB h k
theorem Sub.k4 {e1 e2 e3 e4 : Ent} {L' : Slots} (a b c d : Nat) (h1 : look L a = some e1) (h2 : look L b = some e2) (h3 : look L c = some e3) (h4 : look L d = some e4) (r : Sub L L') : Sub L ((a, e1) :: (b, e2) :: (c, e3) :: (d, e4) :: L') := .cons h1 (.cons h2 (.cons h3 (.cons h4 r)))
theorem Sub.k2 {e1 e2 : Ent} {L' : Slots} (a b : Nat) (h1 : look L a = some e1) (h2 : look L b = some e2) (r : Sub L L') : Sub L ((a, e1) :: (b, e2) :: L') := .cons h1 (.cons h2 r)
theorem SubB.k2 {C1 C2 : CPred} {B' : Owns} (a b : Nat) (h1 : lookB B a = some C1) (h2 : lookB B b = some C2) (r : SubB B B') : SubB B ((a, some C1) :: (b, some C2) :: B') := .cons h1 (.cons h2 r)
/-- A branch, and what the plain function does on each road. -/
theorem Cod.cb {t : Nat} {x y : Code} {b : Bool} {β : Type} {A C r : Option β} (hl : look L t = some ⟨True, rep b⟩) (h : (bif b then A else C) = r)
    (h1 : b = true → A = r → Cod P x Q n F L B) (h2 : b = false → C = r → Cod P y Q n F L B) : Cod P (.cond (.tmp t) x y) Q n F L B :=
  .cond hl trivial (fun hb => h1 hb (bif_t h hb)) (fun hb => h2 hb (bif_f h hb))

/-- The slots' words, key by key. -/
inductive SubI (L : Slots) : Slots → Prop
  | n : SubI L []
  | c {t : Nat} {e : Ent} {L' : Slots} (h : look L t = some e) (k : SubI L L') : SubI L ((t, e) :: L')
inductive SubJ (B : Owns) : Owns → Prop
  | n : SubJ B []
  | c {t : Nat} {e : CPred} {B' : Owns} (h : lookB B t = some e) (k : SubJ B B') : SubJ B ((t, some e) :: B')
theorem SubI.sub {L L' : Slots} (h : SubI L L') : Sub L L' := by
  induction h with
  | n => exact .nil
  | c h _ ih => exact .cons h ih
theorem SubJ.sub {B B' : Owns} (h : SubJ B B') : SubB B B' := by
  induction h with
  | n => exact .nil
  | c h _ ih => exact .cons h ih
theorem Ends.j {ι : Type} {Ls : ι → Slots} {Bs : ι → Owns} {prop : ι → Prop} {keep : Slots} {keepB : Owns} (j : ι) (hp : prop j) (h : SubI L (Ls j ++ keep) := by repeat constructor) (hB : SubJ B (Bs j ++ keepB) := by repeat constructor) :
    Ends (Exit.then (fun a w => ∃ j, prop j ∧ Sat n F (Ls j ++ keep) (Bs j ++ keepB) a w) Q) .normal n F L B := .join j hp h.sub hB.sub
theorem Ends.ag {σ ρ : Type} {o : Step σ ρ} {Ls : σ → Slots} {Bs : σ → Owns} {keep : Slots} {keepB : Owns} {s' : σ} (ho : o = .again s') (h : SubI L (Ls s' ++ keep) := by repeat constructor) (hB : SubJ B (Bs s' ++ keepB) := by repeat constructor) :
    Ends (Exit.then (fun a w => ∃ s', o = .again s' ∧ Sat n F (Ls s' ++ keep) (Bs s' ++ keepB) a w) Q) .normal n F L B := .againL ho h.sub hB.sub
theorem Ends.rt {fn : Func} {e : Exit} {t : Nat} {S : SPred} (hr : fn.results = #[.tmp t]) (h : look L t = some ⟨True, S⟩) (he : e = .ret ∨ e = .normal := by exact .inl rfl) : Ends (bodyPost P fn (Post F S)) e n F L B :=
  .ret1 he hr (.tmp h trivial Imp.refl)
theorem Cod.fb {c : Code} {T m : Nat} {α : Type} [Rep α] {y : α} (q : Nat) (ts : List Nat) (hl : lookB B q = some (boxAt m T y)) (hts : AllAre L (ptr m 0) ts) (k : Cod P c Q n F (fillS (ref y) ts L) []) : Cod P c Q n F L B := .freezeBox hl hts .nil rfl k
theorem Ends.r2 {fn : Func} {e : Exit} {t t2 T : Nat} {S2 : SPred} {α : Type} [Rep α] {y : α} (hr : fn.results = #[.cell t T, .tmp t2]) (hT : Ty P T α) (h : look L t = some ⟨True, ref y⟩) (h2 : look L t2 = some ⟨True, S2⟩) (he : e = .ret ∨ e = .normal := by exact .inl rfl) :
    Ends (bodyPost P fn (Post F (tup [rep y, S2]))) e n F L B := .ret2 he hr (.cellR hT h trivial Imp.refl) (.tmp h2 trivial Imp.refl)
theorem FSpec.i {f : Nat} {fn : Func} {c : Code} {Ss : List SPred} {S : SPred} (hf : P.funcs[f]? = some fn) (hb : fn.body = some c) (hn : fn.ntmps = n) (hle : Nat.ble Ss.length n = true)
    (h : ∀ F, Cod P c (bodyPost P fn (Post F S)) n F (args0 0 Ss) []) (hN : (fn.name == "runtime.NumGoroutine") = false := by kernel_rfl) (hB : fn.body.isNone = false := by kernel_rfl) : FSpec P f Ss S := .intro ⟨fn, hf, hN, hB⟩ hf hb hn hle h
theorem FSpecO.i {f : Nat} {fn : Func} {c : Code} {Ss : List SPred} {Os : Given} {S : SPred} {outs : List (Option CPred)} (hf : P.funcs[f]? = some fn) (hb : fn.body = some c) (hn : fn.ntmps = n) (hle : Nat.ble Ss.length n = true)
    (h : ∀ F, Cod P c (bodyPost P fn (PostO F S (Os.map (·.1)) outs)) n F (args0 0 Ss) (owns0 n Os)) (hN : (fn.name == "runtime.NumGoroutine") = false := by kernel_rfl) (hB : fn.body.isNone = false := by kernel_rfl) : FSpecO P f Ss Os S outs := .intro ⟨fn, hf, hN, hB⟩ hf hb hn hle h
end
end Go.DB

