/-
  Diagrams whose nodes are moved: what steps make of them.
-/
import Derived.Test.YtclcheggnlhamaaGreatDoorMGBPuSel1
import Derived.Test.YtclcheggnlhamaaGreatDoorMGBPuCopy
set_option linter.unusedSimpArgs false
set_option linter.unusedVariables false
namespace Go.DB
open Go Go.RowKit

theorem rfor_sets {α : Type} [Inhabited α] {l : List α} {step : Int → List α → Option (List α)} (g : Nat → α → α) (hl : (l.length : Int) ≤ 9223372036854775807)
    (h : ∀ (i : Nat) (s : List α), i < l.length → s.length = l.length → gx s (i : Int) = gx l (i : Int) → step i s = some (s.set i (g i (gx l (i : Int))))) :
    rfor (l.length : Int) step l = some ((List.range l.length).map fun (i : Nat) => g i (gx l (i : Int))) := by
  obtain ⟨s, h1, h2, h3⟩ := rfor_inv (n := (l.length : Int)) (step := step) (s0 := l) (fun k s => s.length = l.length ∧ ∀ j : Nat, j < l.length → gx s (j : Int) = if j < k then g j (gx l (j : Int)) else gx l (j : Int)) hl ⟨rfl, fun j hj => by rw [if_neg (by omega)]⟩ (fun i s hi hI => by
    obtain ⟨i1, i2⟩ := hI
    have hi' : i < l.length := by omega
    refine ⟨_, h i s hi' i1 (by rw [i2 i hi', if_neg (by omega)]), by simpa using i1, fun j hj => ?_⟩
    rw [gx_nat (by simpa [i1] using hj), List.getElem_set]
    by_cases e : i = j
    · subst e; rw [if_pos rfl, if_pos (by omega)]
    · rw [if_neg e]
      have := i2 j hj
      rw [gx_nat (by omega)] at this
      rw [this]
      by_cases c : j < i
      · rw [if_pos c, if_pos (by omega)]
      · rw [if_neg c, if_neg (by omega)])
  rw [h1]
  congr 1
  refine List.ext_getElem (by simpa using h2) fun j a1 a2 => ?_
  have := h3 j (by omega)
  rw [gx_nat a1, if_pos (by omega)] at this
  rw [this]; simp
theorem range_mapS {α β : Type} [Inhabited α] (l : List α) (g : α → β) : (List.range l.length).map (fun (i : Nat) => g (gx l (i : Int))) = l.map g := by
  conv => rhs; rw [← range_gxS l]
  rw [List.map_map]; rfl
theorem gx_setS {α : Type} [Inhabited α] {s : List α} {i : Nat} (h : i < s.length) (x : α) : gx (s.set i x) (i : Int) = x := by
  rw [gx_nat (by simpa using h)]; simp
theorem set_gxS {α : Type} [Inhabited α] {s : List α} {i : Nat} (h : i < s.length) {x : α} (hx : x = gx s (i : Int)) : s.set i x = s := by
  rw [hx, gx_nat h]; exact List.set_getElem_self h
theorem fe_anyB {b : Nat → Bool} {e : Int} (he : e ≠ 0) : ∀ l : List Nat, firstErr (l.map (fun i => if b i = true then e else 0)) = if l.any b = true then e else 0
  | [] => rfl
  | x :: l => by
    rw [List.map_cons, firstErr_cons, fe_anyB he l, List.any_cons]
    cases h : b x with
    | true => simp [he]
    | false => simp

def mvP (dx dy : Int) (p : Point) : Point := ⟨W (p.X + dx), W (p.Y + dy)⟩
def mvN (dx dy : Int) (n : DNode) : DNode := if n.Kind = 6 then n else { n with Box := { n.Box with X := W (n.Box.X + dx), Y := W (n.Box.Y + dy) } }
def mvE (dx dy : Int) (x : DEdge) : DEdge := { x with Bends := x.Bends.map (mvP dx dy) }
def stN (P : Nat → Bool) (dx dy : Int) (l : List DNode) : List DNode := (List.range l.length).map fun (i : Nat) => if P i = true then mvN dx dy (gx l (i : Int)) else gx l (i : Int)
def endsP (L : List DNode) (P : Nat → Bool) (x : DEdge) : Bool := P (nodeAt L x.From.Node).toNat && P (nodeAt L x.To.Node).toNat
def stE (L : List DNode) (P : Nat → Bool) (dx dy : Int) (l : List DEdge) : List DEdge := l.map fun x => if endsP L P x = true then mvE dx dy x else x
theorem stN_len {P : Nat → Bool} {dx dy : Int} {l : List DNode} : (stN P dx dy l).length = l.length := by simp [stN]
/-- The ends of an edge are there. -/
def EndsIn (L : List DNode) (x : DEdge) : Prop := inR L (nodeAt L x.From.Node) ∧ inR L (nodeAt L x.To.Node)
theorem Right.endsIn {d : Doc} (h : Right d) {x : DEdge} (hx : x ∈ d.Edges) : EndsIn d.Nodes x := by
  obtain ⟨i, hi, rfl⟩ := List.getElem_of_mem hx
  have := h.edge i hi
  unfold edgeErr at this
  have h1 := firstErr_zero.1 this (endErr d.Nodes d.Edges[i].From) (by simp)
  have h2 := firstErr_zero.1 this (endErr d.Nodes d.Edges[i].To) (by simp)
  have key : ∀ y : DEnd, endErr d.Nodes y = 0 → inR d.Nodes (nodeAt d.Nodes y.Node) := fun y hy => by
    refine (nodeAt_in fun hc => ?_).1
    unfold endErr at hy
    rw [if_pos hc] at hy; cases hy
  exact ⟨key _ h1, key _ h2⟩
theorem shiftN_eq (P : Nat → Bool) (dx dy : Int) {l : List DNode} (hl : l.length ≤ 100000) : rfor (l.length : Int) (page_view_shift_L1 dx dy (MK l.length P)) l = some (stN P dx dy l) := by
  refine rfor_sets (fun i n => if P i = true then mvN dx dy n else n) (by omega) fun i s hi hs hg => ?_
  unfold page_view_shift_L1
  have his : i < s.length := by omega
  have hin : ∀ x, inR (s.set i x) (i : Int) := fun x => ⟨by omega, by simp; omega⟩
  rw [need_of ⟨by omega, by omega⟩, need_of ⟨by omega, by rw [MK_len]; omega⟩, MK_at hi, hg]
  simp only [Int.toNat_natCast]
  by_cases c : P i = true ∧ ¬ (gx l (i : Int)).Kind = 6
  · have e : (P i && !decide ((gx l (i : Int)).Kind = 6)) = true := by simp [c]
    rw [e, cond_true, bnd_eq, bnd_eq, need_of (hin _), need_of (hin _), need_of (hin _), need_of (hin _), gx_setS his, List.set_set, if_pos c.1]
    unfold mvN
    rw [if_neg c.2]
  · have e : (P i && !decide ((gx l (i : Int)).Kind = 6)) = false := by
      rw [Bool.eq_false_iff]; intro hh; exact c (by simpa using hh)
    rw [e, cond_false]
    congr 1
    refine (set_gxS his ?_).symm
    rw [hg]
    by_cases hp : P i = true
    · rw [if_pos hp]
      unfold mvN
      rw [if_pos (Classical.byContradiction fun hk => c ⟨hp, hk⟩)]
    · rw [if_neg hp]
theorem shiftP_eq (dx dy : Int) {l : List Point} (hl : l.length ≤ 100000) : rfor (l.length : Int) (page_view_shift_L3 dx dy) l = some (l.map (mvP dx dy)) := by
  rw [rfor_sets (fun _ p => mvP dx dy p) (by omega) fun i s hi hs hg => ?_]
  · rw [range_mapS]
  · unfold page_view_shift_L3
    rw [need_of ⟨by omega, by omega⟩, need_of ⟨by omega, by omega⟩, bnd_eq, need_of ⟨by omega, by omega⟩, hg]
    rfl
theorem shiftE_eq {d : Doc} (hn : d.Nodes.length ≤ 500) (P : Nat → Bool) (dx dy : Int) {l : List DEdge} (hl : l.length ≤ 100000) (he : ∀ x ∈ l, EndsIn d.Nodes x) (hb : ∀ x ∈ l, x.Bends.length ≤ 1000) :
    rfor (l.length : Int) (page_view_shift_L2 (viewD d) dx dy (MK d.Nodes.length P)) l = some (stE d.Nodes P dx dy l) := by
  rw [rfor_sets (fun _ x => if endsP d.Nodes P x = true then mvE dx dy x else x) (by omega) fun i s hi hs hg => ?_]
  · exact congrArg some (range_mapS l (fun x => if endsP d.Nodes P x = true then mvE dx dy x else x))
  · have his : i < s.length := by omega
    have hx : gx l (i : Int) ∈ l := gx_mem ⟨by omega, by omega⟩
    obtain ⟨⟨f1, f2⟩, t1, t2⟩ := he _ hx
    have hb' := hb _ hx
    have hvn : (viewD d).number = numM d.Nodes := rfl
    unfold page_view_shift_L2
    rw [need_of ⟨by omega, by omega⟩, need_of ⟨by omega, by omega⟩, bnd_eq, hg, hvn, numM_getD f1, numM_getD t1]
    generalize gx l (i : Int) = x at *
    obtain ⟨a, ha⟩ := Int.eq_ofNat_of_zero_le f1
    obtain ⟨b, hb2⟩ := Int.eq_ofNat_of_zero_le t1
    have ha' : a < d.Nodes.length := by omega
    have hb3 : b < d.Nodes.length := by omega
    have hE : endsP d.Nodes P x = (P a && P b) := by unfold endsP; rw [ha, hb2]; rfl
    rw [hE, ha, hb2, need_of ⟨by omega, by rw [MK_len]; omega⟩, need_of (fun _ => ⟨by omega, by rw [MK_len]; omega⟩), MK_at ha', MK_at hb3]
    simp only [Int.toNat_natCast]
    cases hc : P a && P b with
    | true => rw [cond_true, shiftP_eq dx dy (by omega), bind_sm, if_pos rfl]; rfl
    | false => rw [cond_false, if_neg (by simp)]
theorem shift_eq {d D : Doc} (hn : d.Nodes.length ≤ 500) (P : Nat → Bool) (dx dy : Int) (hD : D.Nodes.length = d.Nodes.length) (hl : D.Edges.length ≤ 100000) (he : ∀ x ∈ D.Edges, EndsIn d.Nodes x) (hb : ∀ x ∈ D.Edges, x.Bends.length ≤ 1000) :
    page_view_shift (viewD d) D (MK d.Nodes.length P) dx dy = some (stN P dx dy D.Nodes, stE d.Nodes P dx dy D.Edges) := by
  unfold page_view_shift
  have := shiftN_eq P dx dy (l := D.Nodes) (by omega)
  rw [hD] at this
  rw [hD, this, bind_sm, shiftE_eq hn P dx dy hl he hb]; rfl
/-- What a step moves. -/
noncomputable def stepP (d : Doc) (st : Page_step) (j : Nat) : Bool := st.roots.any fun k => subB d.Nodes k.toNat j
noncomputable def stepD (d : Doc) (D : Doc) (st : Page_step) : Doc := ⟨stN (stepP d st) st.dx st.dy D.Nodes, stE d.Nodes (stepP d st) st.dx st.dy D.Edges⟩
def farS (st : Page_step) : Bool := decide (st.dx < -2000000 ∨ 2000000 < st.dx) || decide (st.dy < -2000000 ∨ 2000000 < st.dy)
noncomputable def lockS (d : Doc) (st : Page_step) : Bool := !(decide (st.dx = 0) && decide (st.dy = 0)) && (List.range d.Nodes.length).any fun (j : Nat) => stepP d st j && (gx d.Nodes (j : Int)).Locked
/-- The roots of a step are nodes. -/
def RootsIn (d : Doc) (st : Page_step) : Prop := st.roots.length ≤ 100000 ∧ ∀ k ∈ st.roots, ∃ j : Nat, j < d.Nodes.length ∧ k = j
theorem marks_eq {d : Doc} (h : Right d) {st : Page_step} (hs : RootsIn d st) : page_view_marks (viewD d) st = some (MK d.Nodes.length (stepP d st)) := by
  have hnl := h.nl
  have hv : (viewD d).d.Nodes = d.Nodes := rfl
  obtain ⟨hs1, hs2⟩ := hs
  unfold page_view_marks
  simp only [hv, bnd_eq]
  rw [need_of ⟨by omega, by omega, by omega⟩]
  have hrep : List.replicate (d.Nodes.length : Int).toNat false = MK d.Nodes.length (fun _ => false) := by
    unfold MK
    rw [show (d.Nodes.length : Int).toNat = d.Nodes.length by omega, List.map_const', List.length_range]
  obtain ⟨mk, g1, g2⟩ := rfor_inv (n := (st.roots.length : Int)) (step := page_view_marks_L1 st (viewD d)) (s0 := MK d.Nodes.length (fun _ => false)) (fun k s => s = MK d.Nodes.length (fun j => (st.roots.take k).any (fun c => subB d.Nodes c.toNat j))) (by omega) (by simp) (fun k s hk hI => by
    subst hI
    have hk' : k < st.roots.length := by omega
    unfold page_view_marks_L1
    obtain ⟨j, hj, e⟩ := hs2 _ (List.getElem_mem hk')
    rw [need_of ⟨by omega, by omega⟩, gx_nat hk', e, below_eq h hj, bind_sm]
    refine ⟨_, rfl, MK_congr fun t ht => ?_⟩
    rw [List.take_succ_eq_append_getElem hk', List.any_append, e]
    simp)
  rw [hrep, g1, bind_sm, g2, show (st.roots.length : Int).toNat = st.roots.length by omega, List.take_length]
  rfl
theorem far_eqM (n : Int) : page_far n = some (decide (n < -2000000 ∨ 2000000 < n)) := by
  unfold page_far
  simp
/-- What stays as it is while nodes move. -/
theorem fold_keeps {d : Doc} (h : Right d) : ∀ (steps : List Page_step) (D : Doc), D.Nodes.length = d.Nodes.length → D.Edges.length ≤ 1000 → (∀ x ∈ D.Edges, EndsIn d.Nodes x) → (∀ x ∈ D.Edges, x.Bends.length ≤ 50) →
    (steps.foldl (stepD d) D).Nodes.length = d.Nodes.length ∧ (steps.foldl (stepD d) D).Edges.length ≤ 1000 ∧ (∀ x ∈ (steps.foldl (stepD d) D).Edges, EndsIn d.Nodes x) ∧ ∀ x ∈ (steps.foldl (stepD d) D).Edges, x.Bends.length ≤ 50
  | [], D, h1, h2, h3, h4 => ⟨h1, h2, h3, h4⟩
  | st :: r, D, h1, h2, h3, h4 => by
    rw [List.foldl_cons]
    refine fold_keeps h r _ (by simp [stepD, stN_len, h1]) (by simp [stepD, stE, h2]) (fun x hx => ?_) (fun x hx => ?_)
    · obtain ⟨y, hy, rfl⟩ := List.mem_map.1 (show x ∈ D.Edges.map _ from hx)
      have := h3 y hy
      split
      · exact this
      · exact this
    · obtain ⟨y, hy, rfl⟩ := List.mem_map.1 (show x ∈ D.Edges.map _ from hx)
      have := h4 y hy
      split
      · simpa [mvE] using this
      · exact this
/-- What the program's steps make. -/
theorem moved_eq {d : Doc} (h : Right d) {steps : List Page_step} (hs : ∀ st ∈ steps, RootsIn d st) (hl : steps.length ≤ 1000) :
    page_view_moved (viewD d) steps = if steps.any (lockS d) = true then some (⟨[], []⟩, 12) else if steps.any farS = true then some (⟨[], []⟩, 3) else
      Option.bind (page_Check (steps.foldl (stepD d) d)) fun e => some (if e = 0 then (steps.foldl (stepD d) d, 0) else (⟨[], []⟩, e)) := by
  have hv : (viewD d).d = d := rfl
  have hnl := h.nl
  unfold page_view_moved
  rw [bnd_eq, rforE_any (l := steps) (lockS d) (Res.ab ((⟨[], []⟩ : Doc), (12 : Int))) (by omega) (fun i hi => by
    have hin := gx_mem hi
    unfold page_view_moved_L1
    rw [need_of hi, bnd_eq]
    generalize gx steps i = st at *
    unfold lockS
    cases hz : decide (st.dx = 0) && decide (st.dy = 0) with
    | true => simp
    | false =>
      rw [cond_false, marks_eq h (hs st hin), bind_sm]
      have hE := rforE_errS (n := d.Nodes.length) (step := page_view_moved_L2 (viewD d) (MK d.Nodes.length (stepP d st))) (fin := fun s => (Res.nx s : Res Unit (Res Unit (Doc × Int)))) (fun _ => ()) (fun (j : Nat) => if (stepP d st j && (gx d.Nodes (j : Int)).Locked) = true then (12 : Int) else 0) (fun e => Res.ab (Res.ab (⟨[], []⟩, e))) (by omega) (fun j hj _ => by
        unfold page_view_moved_L2
        rw [hv, need_of ⟨by omega, by omega⟩, bnd_eq, need_of ⟨by omega, by rw [MK_len]; omega⟩, MK_at hj]
        cases stepP d st j && (gx d.Nodes (j : Int)).Locked with
        | true => simp [bnd_eq]
        | false => simp)
      rw [hv, hE, fe_anyB (b := fun (j : Nat) => stepP d st j && (gx d.Nodes (j : Int)).Locked) (by decide)]
      simp only [Bool.not_false, Bool.true_and]
      cases (List.range d.Nodes.length).any fun (j : Nat) => stepP d st j && (gx d.Nodes (j : Int)).Locked with
      | true => simp
      | false => simp)]
  cases hlk : steps.any (lockS d) with
  | true => rfl
  | false =>
    rw [if_neg (by simp), bindR_nx, rforE_any (l := steps) farS (Res.ab ((⟨[], []⟩ : Doc), (3 : Int))) (by omega) (fun i hi => by
      unfold page_view_moved_L3
      rw [need_of hi, bnd_eq, far_eqM, far_eqM, bind_sm]
      generalize gx steps i = st at *
      unfold farS
      by_cases c : st.dx < -2000000 ∨ 2000000 < st.dx
      · rw [decide_eq_true c]; simp [gd, bnd_eq]
      · rw [decide_eq_false c]
        simp only [Bool.not_false, gd_true, bind_sm, Bool.false_or]
        by_cases c2 : st.dy < -2000000 ∨ 2000000 < st.dy
        · rw [decide_eq_true c2]; simp [bnd_eq]
        · rw [decide_eq_false c2]; simp)]
    cases hfr : steps.any farS with
    | true => rfl
    | false =>
      rw [if_neg (by simp), bindR_nx, hv, cloned_eq h, bind_sm]
      obtain ⟨s, g1, g2⟩ := rfor_inv (n := (steps.length : Int)) (step := page_view_moved_L4 d (viewD d) steps) (s0 := (d.Nodes, d.Edges)) (fun k s => s = (((steps.take k).foldl (stepD d) d).Nodes, ((steps.take k).foldl (stepD d) d).Edges)) (by omega) rfl (fun k s hk hI => by
        subst hI
        have hk' : k < steps.length := by omega
        obtain ⟨a1, a2, a3, a4⟩ := fold_keeps h (steps.take k) d rfl h.el (fun x hx => h.endsIn hx) (fun x hx => h.bends hx)
        unfold page_view_moved_L4
        rw [need_of ⟨by omega, by omega⟩, bnd_eq, gx_nat hk', marks_eq h (hs _ (List.getElem_mem hk')), bind_sm]
        have := shift_eq (d := d) (D := (steps.take k).foldl (stepD d) d) hnl (stepP d steps[k]) steps[k].dx steps[k].dy a1 (by omega) a3 (fun x hx => by have := a4 x hx; omega)
        refine ⟨_, (by rw [show ({ d with Nodes := ((steps.take k).foldl (stepD d) d).Nodes, Edges := ((steps.take k).foldl (stepD d) d).Edges } : Doc) = (steps.take k).foldl (stepD d) d from rfl, this, bind_sm]), ?_⟩
        rw [List.take_succ_eq_append_getElem hk', List.foldl_append]; rfl)
      rw [g1, bind_sm, g2, show (steps.length : Int).toNat = steps.length by omega, List.take_length]
      simp only [if_false, Bool.false_eq_true]
      have e : ({ d with Nodes := (steps.foldl (stepD d) d).Nodes, Edges := (steps.foldl (stepD d) d).Edges } : Doc) = steps.foldl (stepD d) d := rfl
      rw [e]
      cases page_Check (steps.foldl (stepD d) d) with
      | none => rfl
      | some c =>
        rw [bind_sm, bind_sm]
        by_cases hc : c = 0
        · simp [hc, bnd_eq]
        · simp [hc, bnd_eq]
end Go.DB
