/-
  What draw leaves: the levels, the places and the moves of a branch.
-/
import Derived.Test.YtakkmmhjohadaaaTdmPuTidy4
set_option linter.unusedSimpArgs false
set_option linter.unusedVariables false
namespace Go.DB
open Go Go.RowKit

/-! Branches as sets. -/

def sub (kd : Int → List Int) (k v : Int) : Prop := ∃ r, v ∈ levf kd [k] r
def ssub (kd : Int → List Int) (k v : Int) : Prop := ∃ c ∈ kd k, sub kd c v
theorem levf_mem (kd : Int → List Int) : ∀ (l : List Int) (r : Nat) (v : Int), v ∈ levf kd l r ↔ ∃ c ∈ l, v ∈ levf kd [c] r
  | [], r, v => by rw [levf_nil]; simp
  | c :: l, r, v => by
    have e : c :: l = [c] ++ l := rfl
    rw [e, levf_append, List.mem_append, levf_mem kd l r v]
    simp
theorem sub_iff {kd : Int → List Int} {k v : Int} : sub kd k v ↔ v = k ∨ ssub kd k v := by
  constructor
  · rintro ⟨r, hr⟩
    match r, hr with
    | 0, hr => left; simpa [levf] using hr
    | r + 1, hr =>
      right
      rw [levf_succ] at hr
      simp only [List.flatMap_cons, List.flatMap_nil, List.append_nil] at hr
      obtain ⟨c, hc, hv⟩ := (levf_mem kd _ _ _).1 hr
      exact ⟨c, hc, r, hv⟩
  · rintro (rfl | ⟨c, hc, r, hv⟩)
    · exact ⟨0, by simp [levf]⟩
    · refine ⟨r + 1, ?_⟩
      rw [levf_succ]
      simp only [List.flatMap_cons, List.flatMap_nil, List.append_nil]
      exact (levf_mem kd _ _ _).2 ⟨c, hc, hv⟩
theorem sub_self (kd : Int → List Int) (k : Int) : sub kd k k := sub_iff.2 (.inl rfl)

/-- The move of a node beside its elder siblings. -/
noncomputable def mvd (kd : Int → List Int) (w : Int → Int) (gap : Int) (n m : Nat) (v : Int) : Int :=
  open Classical in if h : ∃ (k : Int) (j : Nat), 0 ≤ k ∧ k < n ∧ j < (kd k).length ∧ gx (kd k) (j : Int) = v then gx (mov kd w gap m h.choose) (h.choose_spec.choose : Int) else 0
theorem Fo.mvd_eq {n : Nat} {kd : Int → List Int} (h : Fo n kd) (w : Int → Int) (gap : Int) (m : Nat) {k : Int} {j : Nat} (h0 : 0 ≤ k) (h1 : k < n) (hj : j < (kd k).length) : mvd kd w gap n m (gx (kd k) (j : Int)) = gx (mov kd w gap m k) (j : Int) := by
  have hx : ∃ (k' : Int) (j' : Nat), 0 ≤ k' ∧ k' < n ∧ j' < (kd k').length ∧ gx (kd k') (j' : Int) = gx (kd k) (j : Int) := ⟨k, j, h0, h1, hj, rfl⟩
  unfold mvd
  rw [dif_pos hx]
  obtain ⟨a1, a2, a3, a4⟩ := hx.choose_spec.choose_spec
  generalize hx.choose_spec.choose = j' at *
  generalize hx.choose = k' at *
  have hkk : k' = k := by
    by_cases e : k' = k
    · exact e
    · exact absurd (gx_mem (l := kd k) (k := (j : Int)) ⟨by omega, by omega⟩) (h.two k' k a1 a2 h0 h1 e _ (a4 ▸ gx_mem ⟨by omega, by omega⟩))
  subst hkk
  have hjj : j' = j := by
    have := h.one k' h0 h1
    rw [gx_nat a3, gx_nat hj] at a4
    unfold List.Nodup at this
    rw [List.pairwise_iff_getElem] at this
    rcases Nat.lt_trichotomy j' j with e | e | e
    · exact absurd a4 (this j' j a3 hj e)
    · exact e
    · exact absurd a4.symm (this j j' hj a3 e)
  rw [hjj]

/-! A drawer in which places and moves are told for some nodes. -/

section
open Classical
noncomputable def ds (n : Nat) (px mv : Int → Int) (X Y : Int → Prop) (dr : Tree_drawer) : Tree_drawer :=
  { dr with x := (List.range n).map (fun j : Nat => if X (j : Int) then px (j : Int) else gx dr.x (j : Int)), moved := (List.range n).map (fun j : Nat => if Y (j : Int) then mv (j : Int) else gx dr.moved (j : Int)) }
end
structure DOK (t : List Branch) (gap : Int) (px : Int → Int) (dr : Tree_drawer) : Prop where
  te : dr.t = t
  ge : dr.gap = gap
  lx : dr.x.length = t.length
  lm : dr.moved.length = t.length
  good : ∀ j : Int, 0 ≤ j → j < t.length → gx dr.x j = 0 ∨ gx dr.x j = px j
theorem gx_tab {n : Nat} {f : Nat → Int} {j : Int} (h0 : 0 ≤ j) (h1 : j < n) : gx ((List.range n).map f) j = f j.toNat := by
  unfold gx
  have : j.toNat < n := by omega
  simp [this]
theorem ds_x {n : Nat} {px mv : Int → Int} {X Y : Int → Prop} {dr : Tree_drawer} {j : Int} (h0 : 0 ≤ j) (h1 : j < n) : gx (ds n px mv X Y dr).x j = open Classical in if X j then px j else gx dr.x j := by
  unfold ds
  rw [gx_tab h0 h1]
  rw [show ((j.toNat : Nat) : Int) = j by omega]
theorem ds_m {n : Nat} {px mv : Int → Int} {X Y : Int → Prop} {dr : Tree_drawer} {j : Int} (h0 : 0 ≤ j) (h1 : j < n) : gx (ds n px mv X Y dr).moved j = open Classical in if Y j then mv j else gx dr.moved j := by
  unfold ds
  rw [gx_tab h0 h1]
  rw [show ((j.toNat : Nat) : Int) = j by omega]
theorem DOK.ds {t : List Branch} {gap : Int} {px mv : Int → Int} {X Y : Int → Prop} {dr : Tree_drawer} (h : DOK t gap px dr) : DOK t gap px (ds t.length px mv X Y dr) where
  te := h.te
  ge := h.ge
  lx := by simp [DB.ds]
  lm := by simp [DB.ds]
  good j h0 h1 := by
    rw [ds_x h0 h1]
    by_cases hx : X j
    · rw [if_pos hx]; exact .inr rfl
    · rw [if_neg hx]; exact h.good j h0 h1
theorem list_gx {l l' : List Int} (h : l.length = l'.length) (hg : ∀ j : Int, 0 ≤ j → j < l.length → gx l j = gx l' j) : l = l' :=
  List.ext_getElem h (fun i h1 h2 => by have := hg i (by omega) (by omega); rw [gx_nat h1, gx_nat h2] at this; exact this)
theorem drawer_eq {t : List Branch} {gap : Int} {px : Int → Int} {a b : Tree_drawer} (ha : DOK t gap px a) (hb : DOK t gap px b) (hx : ∀ j : Int, 0 ≤ j → j < t.length → gx a.x j = gx b.x j) (hm : ∀ j : Int, 0 ≤ j → j < t.length → gx a.moved j = gx b.moved j) : a = b := by
  obtain ⟨at_, ag, ax, am⟩ := a
  obtain ⟨bt, bg, bx, bm⟩ := b
  have h1 := ha.te; have h2 := hb.te; have h3 := ha.ge; have h4 := hb.ge; have h5 := ha.lx; have h6 := hb.lx; have h7 := ha.lm; have h8 := hb.lm
  simp only at *
  subst h1 h3
  have e1 : ax = bx := list_gx (by omega) (fun j j0 j1 => hx j j0 (by omega))
  have e2 : am = bm := list_gx (by omega) (fun j j0 j1 => hm j j0 (by omega))
  rw [h2, h4, e1, e2]
theorem ds_none {t : List Branch} {gap : Int} {px mv : Int → Int} {dr : Tree_drawer} (h : DOK t gap px dr) : ds t.length px mv (fun _ => False) (fun _ => False) dr = dr :=
  drawer_eq h.ds h (fun j h0 h1 => by rw [ds_x h0 h1, if_neg (fun h => h)]) (fun j h0 h1 => by rw [ds_m h0 h1, if_neg (fun h => h)])
theorem ds_ds {t : List Branch} {gap : Int} {px mv : Int → Int} {X Y X' Y' : Int → Prop} {dr : Tree_drawer} (h : DOK t gap px dr) : ds t.length px mv X' Y' (ds t.length px mv X Y dr) = ds t.length px mv (fun v => X v ∨ X' v) (fun v => Y v ∨ Y' v) dr :=
  drawer_eq h.ds.ds h.ds (fun j h0 h1 => by
    rw [ds_x h0 h1, ds_x h0 h1, ds_x h0 h1]
    by_cases a : X' j <;> by_cases b : X j <;> simp [a, b]) (fun j h0 h1 => by
    rw [ds_m h0 h1, ds_m h0 h1, ds_m h0 h1]
    by_cases a : Y' j <;> by_cases b : Y j <;> simp [a, b])
theorem ds_congr {n : Nat} {px mv : Int → Int} {X Y X' Y' : Int → Prop} {dr : Tree_drawer} (hX : ∀ v, X v ↔ X' v) (hY : ∀ v, Y v ↔ Y' v) : ds n px mv X Y dr = ds n px mv X' Y' dr := by
  rw [show X = X' from funext fun v => propext (hX v), show Y = Y' from funext fun v => propext (hY v)]

end Go.DB
