/-
  Diagrams, in plain words: what is right.
-/
import Derived.Test.YtbogpbomhmabhaaGreatDoorSkePuDoc3
import Derived.Test.YtbogpbomhmabhaaGreatDoorSkePuGeo
set_option linter.unusedSimpArgs false
set_option linter.unusedVariables false
namespace Go.DB
open Go Go.RowKit

theorem fe_if {c : Prop} [Decidable c] {e : Int} {l : List Int} (he : e ≠ 0) : firstErr ((if c then 0 else e) :: l) = if c then firstErr l else e := by
  by_cases h : c <;> simp [h, he]
theorem fe_if2 {c : Prop} [Decidable c] {e : Int} {l : List Int} (he : e ≠ 0) : firstErr ((if c then e else 0) :: l) = if c then e else firstErr l := by
  by_cases h : c <;> simp [h, he]
theorem fe_app : ∀ (l m : List Int), firstErr (l ++ m) = if firstErr l = 0 then firstErr m else firstErr l
  | [], m => by simp
  | e :: l, m => by
    rw [List.cons_append, firstErr_cons, firstErr_cons, fe_app l m]
    by_cases h : e = 0 <;> simp [h]
def clsErr (s : Str) : Int := if s = Str.nil ∨ nameB s = true then 0 else 5
/-- What is wrong with a node by itself. -/
def nodeErr (n : DNode) (tw : Bool) : Int :=
  firstErr [if nameB n.Id = true then 0 else 5, if tw = true then 6 else 0, if 1 ≤ n.Kind ∧ n.Kind ≤ 6 then 0 else 1, if n.Kind = 6 then (if n.Box = zeroB then 0 else 2) else boxErr n.Box, textErr n.Text, clsErr n.Class]
theorem cls_page (s : Str) {k : Bool → Option Int} : (Option.bind (gd (!decide (s = Str.nil)) (page_isName s)) fun r => bif (!decide (s = Str.nil)) && !r then some 5 else some 0) = some (clsErr s) := by
  unfold clsErr
  rw [isName_eq]
  by_cases h : s = Str.nil
  · simp [h, gd]
  · rw [decide_eq_false h, Bool.not_false, gd_true, Option.bind_some]
    cases nameB s <;> simp [h]
theorem checkNode_eq (n : DNode) (tw : Bool) : page_checkNode n tw = some (nodeErr n tw) := by
  unfold page_checkNode nodeErr
  rw [isName_eq, Option.bind_some, fe_if (by decide), fe_if2 (by decide), fe_if (by decide), firstErr_cons]
  cases nameB n.Id with
  | false => rfl
  | true =>
    cases tw with
    | true => rfl
    | false =>
      simp only [Bool.not_true, cond_false, if_true, Bool.false_eq_true, if_false]
      by_cases hk : 1 ≤ n.Kind ∧ n.Kind ≤ 6
      case neg =>
        have : (decide (n.Kind < 1) || decide (6 < n.Kind)) = true := by simp; omega
        rw [this, if_neg hk]; rfl
      have : (decide (n.Kind < 1) || decide (6 < n.Kind)) = false := by simp; omega
      rw [this, if_pos hk, cond_false]
      have hz : (⟨(0 : Int), (0 : Int), (0 : Int), (0 : Int)⟩ : Box) = zeroB := rfl
      rw [hz]
      have last : (Option.bind (shape_CheckText n.Text) fun e2 => bif !decide (e2 = 0) then some e2 else Option.bind (gd (!decide (n.Class = Str.nil)) (page_isName n.Class)) fun r2 => bif (!decide (n.Class = Str.nil)) && !r2 then some 5 else some 0) = some (firstErr [textErr n.Text, clsErr n.Class]) := by
        rw [CheckText_eq, Option.bind_some, cls_page (k := fun _ => none)]
        by_cases h : textErr n.Text = 0
        · simp [h]
        · simp [h]
      by_cases h6 : n.Kind = 6
      · rw [decide_eq_true h6, if_pos h6]
        by_cases hb : n.Box = zeroB
        · rw [decide_eq_true hb, if_pos hb]
          simp only [Bool.not_true, Bool.and_false, cond_false, bindR_nx, if_true]
          exact last
        · rw [decide_eq_false hb, if_neg hb]; simp
      · rw [decide_eq_false h6, if_neg h6]
        simp only [Bool.false_and, cond_false, Bool.not_false, cond_true]
        rw [CheckBox_eq, Option.bind_some]
        by_cases hb : boxErr n.Box = 0
        · rw [decide_eq_true hb, if_pos hb]
          simp only [Bool.not_true, cond_false, bindR_nx]
          exact last
        · rw [decide_eq_false hb, if_neg hb]
          simp
theorem classError_eq {s : Str} (hs : fits s) : ref_classError s = some (clsErr s) := by
  unfold ref_classError clsErr
  rw [NameOf_eq hs]
  by_cases h : s = Str.nil
  · simp [h, gd, When_eq]
  · rw [decide_eq_false h, Bool.not_false, gd_true, Option.bind_some, When_eq]
    cases nameB s <;> simp [h]
theorem nodeError_eq {d : Doc} (hl : d.Nodes.length ≤ 500) (hf : ∀ n ∈ d.Nodes, fits n.Id ∧ fits n.Text ∧ fits n.Class) {i : Nat} (hi : i < d.Nodes.length) :
    ref_nodeError d (i : Int) = some (nodeErr d.Nodes[i] (decide (d.Nodes[i].Id ∈ (d.Nodes.take i).map (·.Id)))) := by
  obtain ⟨f1, f2, f3⟩ := hf _ (List.getElem_mem hi)
  unfold ref_nodeError
  rw [need_of ⟨by omega, by omega⟩, gx_nat hi, bnd_eq, need_of ⟨by omega, by omega, by omega⟩]
  have hseg : seg d.Nodes 0 (i : Int) = d.Nodes.take i := by simp [seg]
  rw [hseg, ContainsFunc_Node_eq (d.Nodes.take i) (fun x0 => ref_nodeError_1 x0 d.Nodes[i]) (fun m => decide (m.Id = d.Nodes[i].Id)) (by simp; omega) (fun x _ => rfl), Option.bind_some, NameOf_eq f1, Option.bind_some, When_eq, Option.bind_some, When_eq, Option.bind_some, In_eq, Option.bind_some, When_eq, Option.bind_some, First_eq (by simp), Option.bind_some]
  have htw : (d.Nodes.take i).any (fun m => decide (m.Id = d.Nodes[i].Id)) = decide (d.Nodes[i].Id ∈ (d.Nodes.take i).map (·.Id)) := by
    rw [Bool.eq_iff_iff, List.any_eq_true, decide_eq_true_eq, List.mem_map]
    simp
  rw [htw]
  generalize decide (d.Nodes[i].Id ∈ (d.Nodes.take i).map (·.Id)) = tw
  generalize d.Nodes[i] = n at *
  have e1 : nodeErr n tw = if firstErr [if nameB n.Id = true then (0 : Int) else 5, if tw = true then (6 : Int) else 0, if 1 ≤ n.Kind ∧ n.Kind ≤ 6 then (0 : Int) else 1] = 0 then firstErr [if n.Kind = 6 then (if n.Box = zeroB then (0 : Int) else 2) else boxErr n.Box, textErr n.Text, clsErr n.Class] else firstErr [if nameB n.Id = true then (0 : Int) else 5, if tw = true then (6 : Int) else 0, if 1 ≤ n.Kind ∧ n.Kind ≤ 6 then (0 : Int) else 1] := fe_app [_, _, _] [_, _, _]
  have e2 : firstErr [if (!nameB n.Id) = true then (5 : Int) else 0, if tw = true then (6 : Int) else 0, if (!decide (1 ≤ n.Kind ∧ n.Kind ≤ 6)) = true then (1 : Int) else 0] = firstErr [if nameB n.Id = true then (0 : Int) else 5, if tw = true then (6 : Int) else 0, if 1 ≤ n.Kind ∧ n.Kind ≤ 6 then (0 : Int) else 1] := by
    cases nameB n.Id <;> by_cases h : 1 ≤ n.Kind ∧ n.Kind ≤ 6 <;> simp [h]
  rw [e2, e1]
  generalize firstErr [if nameB n.Id = true then (0 : Int) else 5, if tw = true then (6 : Int) else 0, if 1 ≤ n.Kind ∧ n.Kind ≤ 6 then (0 : Int) else 1] = E
  by_cases hE : E = 0
  · rw [decide_eq_true hE, if_pos hE, Bool.not_true, cond_false, When_eq, Option.bind_some, BoxError_eq, TextError_eq f2, classError_eq f3]
    have hz : (⟨(0 : Int), (0 : Int), (0 : Int), (0 : Int)⟩ : Box) = zeroB := rfl
    rw [hz]
    by_cases h6 : n.Kind = 6
    · rw [decide_eq_true h6, if_pos h6]
      simp only [Bool.not_true, cond_false, Option.bind_some]
      rw [First_eq (by simp), Option.bind_some]
      by_cases hb : n.Box = zeroB <;> simp [hb]
    · rw [decide_eq_false h6, if_neg h6]
      simp only [Bool.not_false, cond_true, Option.bind_some]
      rw [First_eq (by simp), Option.bind_some]
  · rw [decide_eq_false hE, if_neg hE]; rfl

/-- What is wrong with an end of an edge. -/
def endErr (l : List DNode) (y : DEnd) : Int := if nodeAt l y.Node < 0 then 10 else if (gx l (nodeAt l y.Node)).Kind = 6 then 1 else if (1 ≤ y.Side ∧ y.Side ≤ 4) ∧ 0 ≤ y.At ∧ y.At ≤ 1000 then 0 else 3
def edgeErr (l : List DNode) (x : DEdge) (tw : Bool) : Int :=
  firstErr [if nameB x.Id = true then 0 else 5, if tw = true then 6 else 0, endErr l x.From, endErr l x.To, if 50 < x.Bends.length then 4 else 0, ptsErr x.Bends, textErr x.Text, clsErr x.Class]
theorem nodeAt_in {l : List DNode} {id : Str} (h : ¬ nodeAt l id < 0) : inR l (nodeAt l id) ∧ (gx l (nodeAt l id)).Id = id :=
  nodeAt_pos (Classical.byContradiction fun hne => h (nodeAt_neg.2 (fun n hn e => hne ⟨n, hn, e⟩)))
theorem checkEnd_eq (d : Doc) (y : DEnd) : page_view_checkEnd (viewD d) y = some (endErr d.Nodes y) := by
  unfold page_view_checkEnd endErr
  have hvn : (viewD d).number = numM d.Nodes := rfl
  have hv : (viewD d).d.Nodes = d.Nodes := rfl
  rw [hvn, hv, numM_has]
  by_cases h : nodeAt d.Nodes y.Node < 0
  · rw [if_pos h, decide_eq_false (by omega)]; rfl
  · rw [if_neg h, decide_eq_true (by omega), numM_getD (by omega), Bool.not_true, cond_false, need_of (nodeAt_in h).1]
    by_cases h6 : (gx d.Nodes (nodeAt d.Nodes y.Node)).Kind = 6
    · rw [if_pos h6, decide_eq_true h6]; rfl
    · rw [if_neg h6, decide_eq_false h6, cond_false]
      by_cases hs : (1 ≤ y.Side ∧ y.Side ≤ 4) ∧ 0 ≤ y.At ∧ y.At ≤ 1000
      · have : (decide (y.Side < 1) || decide (4 < y.Side) || decide (y.At < 0) || decide (1000 < y.At)) = false := by simp; omega
        rw [this, if_pos hs]; rfl
      · have : (decide (y.Side < 1) || decide (4 < y.Side) || decide (y.At < 0) || decide (1000 < y.At)) = true := by simp; omega
        rw [this, if_neg hs]; rfl
theorem checkEdge_eq (d : Doc) (x : DEdge) (tw : Bool) : page_view_checkEdge (viewD d) x tw = some (edgeErr d.Nodes x tw) := by
  unfold page_view_checkEdge edgeErr
  rw [isName_eq, Option.bind_some, fe_if (by decide), fe_if2 (by decide)]
  cases nameB x.Id with
  | false => rfl
  | true =>
    cases tw with
    | true => rfl
    | false =>
      simp only [Bool.not_true, cond_false, if_true, Bool.false_eq_true, if_false, bnd_eq]
      rw [rforE_err (endErr d.Nodes) (fun e => (Res.ab e : Res Unit Int)) (by simp) (fun i hi => by
        unfold page_view_checkEdge_L1
        rw [need_of hi, bnd_eq, checkEnd_eq, Option.bind_some]
        by_cases h : endErr d.Nodes (gx [x.From, x.To] i) = 0 <;> simp [h])]
      rw [show [endErr d.Nodes x.From, endErr d.Nodes x.To, if 50 < x.Bends.length then (4 : Int) else 0, ptsErr x.Bends, textErr x.Text, clsErr x.Class] = [x.From, x.To].map (endErr d.Nodes) ++ [if 50 < x.Bends.length then (4 : Int) else 0, ptsErr x.Bends, textErr x.Text, clsErr x.Class] from rfl, fe_app]
      by_cases hE : firstErr ([x.From, x.To].map (endErr d.Nodes)) = 0
      case neg => rw [if_neg hE, if_neg hE]; rfl
      rw [if_pos hE, if_pos hE, bindR_nx, fe_if2 (by decide)]
      by_cases h50 : 50 < x.Bends.length
      · rw [if_pos h50, decide_eq_true (by omega)]; rfl
      rw [if_neg h50, decide_eq_false (by omega), cond_false, CheckPoints_eq, Option.bind_some, firstErr_cons]
      by_cases hp : ptsErr x.Bends = 0
      case neg => rw [if_neg hp, decide_eq_false hp]; rfl
      rw [if_pos hp, decide_eq_true hp, Bool.not_true, cond_false, CheckText_eq, Option.bind_some, firstErr_cons]
      by_cases ht : textErr x.Text = 0
      case neg => rw [if_neg ht, decide_eq_false ht]; rfl
      rw [if_pos ht, decide_eq_true ht, Bool.not_true, cond_false, cls_page (k := fun _ => none)]
      by_cases h2 : clsErr x.Class = 0 <;> simp [h2]
theorem PortError_eq2 (s a : Int) : ref_PortError s a = some (if (1 ≤ s ∧ s ≤ 4) ∧ 0 ≤ a ∧ a ≤ 1000 then 0 else 3) := by
  unfold ref_PortError
  rw [In_eq, In_eq, Option.bind_some]
  by_cases h1 : 1 ≤ s ∧ s ≤ 4
  · rw [decide_eq_true h1]
    simp only [Bool.not_true, Bool.not_false, gd_true, Option.bind_some, Bool.false_or]
    rw [When_eq]
    by_cases h2 : 0 ≤ a ∧ a ≤ 1000 <;> simp [h1, h2]
  · rw [decide_eq_false h1, if_neg (fun h => h1 h.1)]
    simp [gd, When_eq]
theorem edgeError_eq {d : Doc} (hl : d.Nodes.length ≤ 500) (hel : d.Edges.length ≤ 1000) (hf : ∀ x ∈ d.Edges, fits x.Id ∧ fits x.Text ∧ fits x.Class) {i : Nat} (hi : i < d.Edges.length) :
    ref_edgeError d (i : Int) = some (edgeErr d.Nodes d.Edges[i] (decide (d.Edges[i].Id ∈ d.Nodes.map (·.Id) ++ (d.Edges.take i).map (·.Id)))) := by
  obtain ⟨f1, f2, f3⟩ := hf _ (List.getElem_mem hi)
  have hll : (d.Nodes.length : Int) ≤ 9223372036854775807 := by omega
  unfold ref_edgeError
  rw [need_of ⟨by omega, by omega⟩, gx_nat hi, bnd_eq, NodeAt_eq hll, Option.bind_some, need_of (fun _ => ⟨by omega, by omega, by omega⟩)]
  have hseg : seg d.Edges 0 (i : Int) = d.Edges.take i := by simp [seg]
  rw [hseg, ContainsFunc_Edge_eq (d.Edges.take i) (fun x0 => ref_edgeError_1 x0 d.Edges[i]) (fun m => decide (m.Id = d.Edges[i].Id)) (by simp; omega) (fun x _ => rfl)]
  have htw : (decide (0 ≤ nodeAt d.Nodes d.Edges[i].Id) || (d.Edges.take i).any (fun m => decide (m.Id = d.Edges[i].Id))) = decide (d.Edges[i].Id ∈ d.Nodes.map (·.Id) ++ (d.Edges.take i).map (·.Id)) := by
    rw [Bool.eq_iff_iff, Bool.or_eq_true, List.any_eq_true, decide_eq_true_eq, decide_eq_true_eq, List.mem_append, List.mem_map, List.mem_map]
    refine or_congr ?_ (by simp)
    constructor
    · intro h
      obtain ⟨h1, h2⟩ := nodeAt_in (l := d.Nodes) (id := d.Edges[i].Id) (by omega)
      exact ⟨_, gx_mem h1, h2⟩
    · rintro ⟨n, hn, e⟩
      have := (nodeAt_pos ⟨n, hn, e⟩).1.1
      exact this
  have hgd : ∀ {k : Bool → Option Int}, (Option.bind (gd (!(decide (0 ≤ nodeAt d.Nodes d.Edges[i].Id))) (some ((d.Edges.take i).any (fun m => decide (m.Id = d.Edges[i].Id))))) fun r2 => k (decide (0 ≤ nodeAt d.Nodes d.Edges[i].Id) || r2)) = k (decide (d.Edges[i].Id ∈ d.Nodes.map (·.Id) ++ (d.Edges.take i).map (·.Id))) := fun {k} => by
    rw [← htw]
    cases decide (0 ≤ nodeAt d.Nodes d.Edges[i].Id) <;> simp [gd]
  rw [hgd (k := fun tw => Option.bind (ref_NameOf d.Edges[i].Id) fun r3 => Option.bind (ref_When (!r3) 5) fun r4 => Option.bind (ref_When tw 6) fun r5 => Option.bind (ref_First [r4, r5]) fun e1 =>
    bif !decide (e1 = 0) then some e1 else bnd [d.Edges[i].From, d.Edges[i].To] fun v2 => bindR (rforE (v2.length : Int) (ref_edgeError_L1 d v2) (fun s => Res.nx s) ()) fun j_12 =>
      bif decide (50 < (d.Edges[i].Bends.length : Int)) then some 4 else Option.bind (ref_PointsError d.Edges[i].Bends) fun r8 => Option.bind (ref_TextError d.Edges[i].Text) fun r9 => Option.bind (ref_classError d.Edges[i].Class) fun r10 => Option.bind (ref_First [r8, r9, r10]) fun r11 => some r11)]
  generalize decide (d.Edges[i].Id ∈ d.Nodes.map (·.Id) ++ (d.Edges.take i).map (·.Id)) = tw
  generalize d.Edges[i] = x at *
  simp only [NameOf_eq f1, Option.bind_some, When_eq]
  rw [First_eq (by simp), Option.bind_some]
  have eR : edgeErr d.Nodes x tw = if nameB x.Id = true then (if tw = true then 6 else firstErr [endErr d.Nodes x.From, endErr d.Nodes x.To, if 50 < x.Bends.length then 4 else 0, ptsErr x.Bends, textErr x.Text, clsErr x.Class]) else 5 := by
    unfold edgeErr
    rw [fe_if (by decide), fe_if2 (by decide)]
  rw [eR]
  cases nameB x.Id with
  | false => rfl
  | true =>
    cases tw with
    | true => rfl
    | false =>
      have e0 : firstErr [if (!true) = true then (5 : Int) else 0, if false = true then (6 : Int) else 0] = 0 := by simp
      rw [e0]
      simp only [decide_true, Bool.not_true, cond_false, if_true, Bool.false_eq_true, if_false, bnd_eq]
      rw [rforE_err (endErr d.Nodes) (fun e => (Res.ab e : Res Unit Int)) (by simp) (fun i hi => by
        unfold ref_edgeError_L1
        rw [need_of hi, bnd_eq, NodeAt_eq hll, Option.bind_some]
        generalize gx [x.From, x.To] i = y
        unfold endErr
        by_cases h : nodeAt d.Nodes y.Node < 0
        · rw [if_pos h, decide_eq_true h]; rfl
        · rw [if_neg h, decide_eq_false h, cond_false, need_of (nodeAt_in h).1, When_eq, Option.bind_some, PortError_eq2, Option.bind_some, First_eq (by simp), Option.bind_some]
          by_cases h6 : (gx d.Nodes (nodeAt d.Nodes y.Node)).Kind = 6
          · simp [h6]
          · by_cases hs : (1 ≤ y.Side ∧ y.Side ≤ 4) ∧ 0 ≤ y.At ∧ y.At ≤ 1000
            · simp [h6, hs]
            · simp only [if_neg h6, if_neg hs, decide_eq_false h6]; simp)]
      rw [show [endErr d.Nodes x.From, endErr d.Nodes x.To, if 50 < x.Bends.length then (4 : Int) else 0, ptsErr x.Bends, textErr x.Text, clsErr x.Class] = [x.From, x.To].map (endErr d.Nodes) ++ [if 50 < x.Bends.length then (4 : Int) else 0, ptsErr x.Bends, textErr x.Text, clsErr x.Class] from rfl, fe_app]
      by_cases hE : firstErr ([x.From, x.To].map (endErr d.Nodes)) = 0
      case neg => rw [if_neg hE, if_neg hE]; rfl
      rw [if_pos hE, if_pos hE, bindR_nx, fe_if2 (by decide)]
      by_cases h50 : 50 < x.Bends.length
      · rw [if_pos h50, decide_eq_true (by omega)]; rfl
      rw [if_neg h50, decide_eq_false (by omega), cond_false, PointsError_eq, Option.bind_some, TextError_eq f2, Option.bind_some, classError_eq f3, Option.bind_some, First_eq (by simp), Option.bind_some]
/-- What is known: Ids that were met. -/
def knM (l : List Str) : GMap Str Bool := ⟨fun id => if id ∈ l then some true else none⟩
theorem knM_set {l : List Str} {x : Str} : (knM l).set x true = knM (l ++ [x]) := by
  unfold knM GMap.set
  congr 1
  funext id
  by_cases h : id = x
  · simp [h]
  · simp [h]
theorem knM_getD {l : List Str} {x : Str} : (knM l).getD x false = decide (x ∈ l) := by
  unfold knM GMap.getD
  by_cases h : x ∈ l <;> simp [h]

/-- A right diagram. -/
structure Right (d : Doc) : Prop where
  nl : d.Nodes.length ≤ 500
  el : d.Edges.length ≤ 1000
  node : ∀ (i : Nat) (h : i < d.Nodes.length), nodeErr d.Nodes[i] (decide (d.Nodes[i].Id ∈ (d.Nodes.take i).map (·.Id))) = 0
  tree : ∀ n ∈ d.Nodes, n.Parent ≠ Str.nil → ∃ g ∈ d.Nodes, g.Id = n.Parent ∧ (par d.Nodes n).Kind = 6
  deep : ∀ n ∈ d.Nodes, ∃ k, k ≤ 8 ∧ Dp d.Nodes n k
  full : ∀ n ∈ d.Nodes, n.Kind = 6 → idxs d.Nodes n.Id ≠ []
  edge : ∀ (i : Nat) (h : i < d.Edges.length), edgeErr d.Nodes d.Edges[i] (decide (d.Edges[i].Id ∈ d.Nodes.map (·.Id) ++ (d.Edges.take i).map (·.Id))) = 0
  box : ∀ (i : Nat) (h : i < d.Nodes.length), ∃ b, page_view_boxOf (viewD d) (i : Int) = some (b, 0) ∧ ref_BoxOfNode d d.Nodes[i].Id = some (b, 0) ∧ okB b

theorem nodeErr_zero {n : DNode} {tw : Bool} (h : nodeErr n tw = 0) : nameB n.Id = true ∧ tw = false ∧ (1 ≤ n.Kind ∧ n.Kind ≤ 6) ∧ (n.Kind ≠ 6 → okB n.Box) := by
  have := firstErr_zero.1 h
  have h1 := this (if nameB n.Id = true then 0 else 5) (by simp)
  have h2 := this (if tw = true then 6 else 0) (by simp)
  have h3 := this (if 1 ≤ n.Kind ∧ n.Kind ≤ 6 then 0 else 1) (by simp)
  have h4 := this (if n.Kind = 6 then (if n.Box = zeroB then 0 else 2) else boxErr n.Box) (by simp)
  refine ⟨?_, ?_, ?_, fun hk => ?_⟩
  · apply Classical.byContradiction; intro hc; rw [if_neg hc] at h1; cases h1
  · cases tw with
    | false => rfl
    | true => simp at h2
  · apply Classical.byContradiction; intro hc; rw [if_neg hc] at h3; cases h3
  · rw [if_neg hk] at h4; exact boxErr_zero.1 h4
theorem nodup_of_tw : ∀ {l : List DNode}, (∀ (i : Nat) (h : i < l.length), l[i].Id ∉ (l.take i).map (·.Id)) → (l.map (·.Id)).Nodup := fun {l} h => by
  rw [List.nodup_iff_pairwise_ne, List.pairwise_iff_getElem]
  intro i j hi hj hij e
  simp only [List.length_map] at hi hj
  simp only [List.getElem_map] at e
  refine h j hj (List.mem_map.2 ⟨l[i], ?_, e⟩)
  have : l[i] = (l.take j)[i]'(by simp; omega) := by simp
  rw [this]; exact List.getElem_mem _

/-- A diagram's error is found alike. -/
theorem Check_both {d : Doc} (hf : fits d) : ∃ e, page_Check d = some e ∧ ref_DocError d = some e ∧ (e = 0 → Right d) := by
  have hfn : ∀ n ∈ d.Nodes, fits n.Id ∧ fits n.Text ∧ fits n.Class := fun n hn => by
    have := hf.1.2 n hn
    exact ⟨this.1, this.2.2.2.1, this.2.2.2.2.1⟩
  have hfe : ∀ x ∈ d.Edges, fits x.Id ∧ fits x.Text ∧ fits x.Class := fun x hx => by
    have := hf.2.2 x hx
    exact ⟨this.1, this.2.2.2.2.1, this.2.2.2.2.2⟩
  unfold page_Check ref_DocError
  by_cases hsz : 500 < d.Nodes.length ∨ 1000 < d.Edges.length
  · have : (decide (500 < (d.Nodes.length : Int)) || decide (1000 < (d.Edges.length : Int))) = true := by simp; omega
    rw [this]
    exact ⟨4, rfl, rfl, fun h => by cases h⟩
  have hl : d.Nodes.length ≤ 500 := by omega
  have hel : d.Edges.length ≤ 1000 := by omega
  have : (decide (500 < (d.Nodes.length : Int)) || decide (1000 < (d.Edges.length : Int))) = false := by simp; omega
  rw [this, cond_false, cond_false, bnd_eq]
  let nE : Nat → Int := fun i => nodeErr (gx d.Nodes (i : Int)) (decide ((gx d.Nodes (i : Int)).Id ∈ (d.Nodes.take i).map (·.Id)))
  have k0 : (GMap.nil : GMap Str Bool) = knM ((d.Nodes.take 0).map (·.Id)) := by simp [knM, GMap.nil]
  rw [k0]
  have p1 := rforE_errS (n := d.Nodes.length) (step := page_Check_L1 d) (fin := fun s => (Res.nx s : Res (GMap Str Bool) Int)) (fun k => knM ((d.Nodes.take k).map (·.Id))) nE (fun e => Res.ab e) (by omega) (fun i hi _ => by
    unfold page_Check_L1
    rw [need_of ⟨by omega, by omega⟩, bnd_eq, knM_getD, checkNode_eq, Option.bind_some]
    show (bif !decide (nE i = 0) then _ else _) = _
    by_cases h : nE i = 0
    · rw [decide_eq_true h, if_pos h, knM_set, List.take_succ_eq_append_getElem hi, List.map_append, gx_nat hi]; rfl
    · rw [decide_eq_false h, if_neg h]; rfl)
  have q1 := rforE_errS (n := d.Nodes.length) (step := ref_DocError_L1 d) (fin := fun s => (Res.nx s : Res Unit Int)) (fun _ => ()) nE (fun e => Res.ab e) (by omega) (fun i hi _ => by
    unfold ref_DocError_L1
    rw [nodeError_eq hl hfn hi, Option.bind_some, ← gx_nat hi]
    show (bif !decide (nE i = 0) then some (Res.ab (Res.ab (nE i))) else _) = _
    by_cases h : nE i = 0
    · rw [decide_eq_true h, if_pos h]; rfl
    · rw [decide_eq_false h, if_neg h]; rfl)
  rw [p1, q1]
  by_cases h1 : firstErr ((List.range d.Nodes.length).map nE) = 0
  case neg => rw [if_neg h1, if_neg h1]; exact ⟨_, rfl, rfl, fun h => absurd h h1⟩
  rw [if_pos h1, if_pos h1, bindR_nx, bindR_nx, List.take_length]
  have hnode : ∀ (i : Nat) (h : i < d.Nodes.length), nodeErr d.Nodes[i] (decide (d.Nodes[i].Id ∈ (d.Nodes.take i).map (·.Id))) = 0 := fun i h => by
    have := firstErr_zero.1 h1 (nE i) (List.mem_map.2 ⟨i, by simpa using h, rfl⟩)
    rw [← gx_nat h]; exact this
  have hd : (d.Nodes.map (·.Id)).Nodup := nodup_of_tw fun i h => by
    have := (nodeErr_zero (hnode i h)).2.1
    exact of_decide_eq_false this
  have hat : ∀ n ∈ d.Nodes, nameB n.Id = true ∧ (n.Kind ≠ 6 → okB n.Box) := fun n hn => by
    obtain ⟨i, hi, rfl⟩ := List.mem_iff_getElem.1 hn
    have := nodeErr_zero (hnode i hi)
    exact ⟨this.1, this.2.2.2⟩
  have hid : ∀ n ∈ d.Nodes, n.Id ≠ Str.nil := fun n hn => nameB_ne (hat n hn).1
  have hbx : ∀ n ∈ d.Nodes, n.Kind ≠ 6 → okB n.Box := fun n hn => (hat n hn).2
  rw [viewOf_eq hl hd, Option.bind_some, Option.bind_some]
  obtain ⟨e, t1, t2, t3⟩ := tree_both hl hid
  rw [t1, t2, Option.bind_some, Option.bind_some]
  by_cases he : e = 0
  case neg => rw [decide_eq_false he]; exact ⟨e, rfl, rfl, fun h => absurd h he⟩
  rw [decide_eq_true he, Bool.not_true, cond_false, cond_false]
  obtain ⟨htree, hdeep, hfull⟩ := t3 he
  have hdp : ∀ n ∈ d.Nodes, ∃ k, k ≤ 8 ∧ Dp d.Nodes n k := fun n hn => by
    obtain ⟨k, a, b, c⟩ := hdeep n hn
    exact ⟨k, a, b, c⟩
  let eE : Nat → Int := fun i => edgeErr d.Nodes (gx d.Edges (i : Int)) (decide ((gx d.Edges (i : Int)).Id ∈ d.Nodes.map (·.Id) ++ (d.Edges.take i).map (·.Id)))
  have k1 : knM (d.Nodes.map (·.Id)) = knM (d.Nodes.map (·.Id) ++ (d.Edges.take 0).map (·.Id)) := by simp
  rw [k1]
  have p2 := rforE_errS (n := d.Edges.length) (step := page_Check_L2 d (viewD d)) (fin := fun s => (Res.nx s : Res (GMap Str Bool) Int)) (fun k => knM (d.Nodes.map (·.Id) ++ (d.Edges.take k).map (·.Id))) eE (fun e => Res.ab e) (by omega) (fun i hi _ => by
    unfold page_Check_L2
    rw [need_of ⟨by omega, by omega⟩, bnd_eq, knM_getD, checkEdge_eq, Option.bind_some]
    show (bif !decide (eE i = 0) then _ else _) = _
    by_cases h : eE i = 0
    · rw [decide_eq_true h, if_pos h, knM_set, List.take_succ_eq_append_getElem hi, List.map_append, gx_nat hi, List.append_assoc]; rfl
    · rw [decide_eq_false h, if_neg h]; rfl)
  have q2 := rforE_errS (n := d.Edges.length) (step := ref_DocError_L2 d) (fin := fun s => (Res.nx s : Res Unit Int)) (fun _ => ()) eE (fun e => Res.ab e) (by omega) (fun i hi _ => by
    unfold ref_DocError_L2
    rw [edgeError_eq hl hel hfe hi, Option.bind_some, ← gx_nat hi]
    show (bif !decide (eE i = 0) then some (Res.ab (Res.ab (eE i))) else _) = _
    by_cases h : eE i = 0
    · rw [decide_eq_true h, if_pos h]; rfl
    · rw [decide_eq_false h, if_neg h]; rfl)
  rw [p2, q2]
  by_cases h2 : firstErr ((List.range d.Edges.length).map eE) = 0
  case neg => rw [if_neg h2, if_neg h2]; exact ⟨_, rfl, rfl, fun h => absurd h h2⟩
  rw [if_pos h2, if_pos h2, bindR_nx, bindR_nx]
  -- boxes
  have hbox : ∀ i : Nat, ∃ x : (Box × Int) × Box, i < d.Nodes.length → page_view_boxOf (viewD d) (i : Int) = some x.1 ∧ ref_BoxOfNode d (gx d.Nodes (i : Int)).Id = some (x.2, x.1.2) ∧ (x.1.2 = 0 → x.1.1 = x.2 ∧ okB x.2) := fun i => by
    by_cases hi : i < d.Nodes.length
    · obtain ⟨b, e, b', g1, g2, g3⟩ := box_both hl hd hid hbx hdp hi
      exact ⟨((b, e), b'), fun _ => ⟨g1, by rw [gx_nat hi]; exact g2, g3⟩⟩
    · exact ⟨((zeroB, 0), zeroB), fun h => absurd h hi⟩
  let bE : Nat → Int := fun i => (hbox i).choose.1.2
  have p3 := rforE_errS (n := d.Nodes.length) (step := page_Check_L3 (viewD d)) (fin := fun s => (Res.nx s : Res Unit Int)) (fun _ => ()) bE (fun e => Res.ab e) (by omega) (fun i hi _ => by
    unfold page_Check_L3
    rw [((hbox i).choose_spec hi).1, Option.bind_some]
    show (bif !decide (bE i = 0) then some (Res.ab (Res.ab (bE i))) else _) = _
    by_cases h : bE i = 0
    · rw [decide_eq_true h, if_pos h]; rfl
    · rw [decide_eq_false h, if_neg h]; rfl)
  have q3 := rforE_errS (n := d.Nodes.length) (step := ref_DocError_L3 d) (fin := fun s => (Res.nx s : Res Unit Int)) (fun _ => ()) bE (fun e => Res.ab e) (by omega) (fun i hi _ => by
    unfold ref_DocError_L3
    rw [need_of ⟨by omega, by omega⟩, bnd_eq, ((hbox i).choose_spec hi).2.1, Option.bind_some]
    show (bif !decide (bE i = 0) then some (Res.ab (Res.ab (bE i))) else _) = _
    by_cases h : bE i = 0
    · rw [decide_eq_true h, if_pos h]; rfl
    · rw [decide_eq_false h, if_neg h]; rfl)
  rw [p3, q3]
  by_cases h3 : firstErr ((List.range d.Nodes.length).map bE) = 0
  case neg => rw [if_neg h3]; exact ⟨_, rfl, rfl, fun h => absurd h h3⟩
  rw [if_pos h3]
  refine ⟨0, rfl, rfl, fun _ => ⟨hl, hel, hnode, htree, hdp, hfull, fun i h => ?_, fun i h => ?_⟩⟩
  · have := firstErr_zero.1 h2 (eE i) (List.mem_map.2 ⟨i, by simpa using h, rfl⟩)
    rw [← gx_nat h]; exact this
  · have hz := firstErr_zero.1 h3 (bE i) (List.mem_map.2 ⟨i, by simpa using h, rfl⟩)
    obtain ⟨g1, g2, g3⟩ := (hbox i).choose_spec h
    have hz' : (hbox i).choose.1.2 = 0 := hz
    generalize (hbox i).choose = x at *
    obtain ⟨⟨b, e⟩, b'⟩ := x
    simp only at hz' g1 g2 g3
    subst hz'
    obtain ⟨rfl, g4⟩ := g3 rfl
    rw [gx_nat h] at g2
    exact ⟨b, g1, g2, g4⟩
end Go.DB
