/-
  Moves that are corrected: the law.
-/
import Derived.Test.YtclcheggnlhamaaDoorGuiPuGuide1
import Derived.Test.YtclcheggnlhamaaDoorGuiPuPages
set_option linter.unusedSimpArgs false
set_option linter.unusedVariables false
namespace Go.DB
open Go Go.RowKit

/-- Boxes of those that a condition picks. -/
def pickB (q : DNode → Bool) (l : List DNode) : List Box := (l.filter q).map (·.Box)
theorem pickB_snoc {q : DNode → Bool} {l : List DNode} {n : DNode} : pickB q (l ++ [n]) = pickB q l ++ (if q n = true then [n.Box] else []) := by
  unfold pickB
  rw [List.filter_append, List.map_append]
  by_cases h : q n = true <;> simp [h]
theorem pickB_len {q : DNode → Bool} {l : List DNode} : (pickB q l).length ≤ l.length := by
  unfold pickB
  rw [List.length_map]
  exact List.length_filter_le _ _
def posX (l : List Box) : List (Int × Int) := l.map (fun b => (b.X, b.W_))
def posY (l : List Box) : List (Int × Int) := l.map (fun b => (b.Y, b.H))
def sidesL (l : List (Int × Int)) : List Int := l.flatMap (fun p => [2 * p.1, 2 * (p.1 + p.2)])
def midsL (l : List (Int × Int)) : List Int := l.map (fun p => 2 * p.1 + p.2)
theorem sidesL_len : ∀ {l : List (Int × Int)}, (sidesL l).length = 2 * l.length
  | [] => rfl
  | p :: l => by
    have := sidesL_len (l := l)
    unfold sidesL at *
    rw [List.flatMap_cons, List.length_append, this, List.length_cons]; simp; omega

theorem view_boxG {d : Doc} {i : Int} {b : Box} {e : Int} (h : page_view_boxOf (viewD d) i = some (b, e)) : page_view_box (viewD d) i = some b := by
  unfold page_view_box
  rw [bnd_eq, h]; rfl
theorem far_eq (n : Int) : page_far n = some (decide (n < -2000000 ∨ 2000000 < n)) := by
  unfold page_far
  simp
theorem StepError_eq (dx dy : Int) : ref_StepError dx dy = some (if (-2000000 ≤ dx ∧ dx ≤ 2000000) ∧ -2000000 ≤ dy ∧ dy ≤ 2000000 then 0 else 3) := by
  unfold ref_StepError
  rw [In_eq, In_eq, Option.bind_some]
  by_cases h1 : -2000000 ≤ dx ∧ dx ≤ 2000000
  · rw [decide_eq_true h1]
    simp only [Bool.not_true, Bool.not_false, gd_true, Option.bind_some, Bool.false_or]
    rw [When_eq]
    by_cases h2 : -2000000 ≤ dy ∧ dy ≤ 2000000 <;> simp [h1, h2]
  · rw [decide_eq_false h1, if_neg (fun h => h1 h.1)]
    simp [gd, When_eq]

/-- Guide and what the document says, of a right diagram and a right selection. -/
theorem Guide_both {d : Doc} (hc : page_Check d = some 0) (h : Right d) {ids : List Str} (hi : (ids.length : Int) ≤ 9223372036854775807) (hs : selErr d.Nodes ids = 0) (dx dy reach : Int) :
    ∃ u v e, page_Guide d ids dx dy reach = some (u, v, e) ∧ ref_GuideOf d ids dx dy reach = some (u, v, e) := by
  have hnl := h.nl
  have hv : (viewD d).d.Nodes = d.Nodes := rfl
  have hRl := rootL_len (l := d.Nodes) (ids := ids) hnl
  let bx : Int → Box := fun k => ((page_view_boxOf (viewD d) k).getD (zeroB, 0)).1
  have hbx : ∀ (j : Nat) (hj : j < d.Nodes.length), page_view_boxOf (viewD d) (j : Int) = some (bx (j : Int), 0) ∧ ref_BoxOfNode d d.Nodes[j].Id = some (bx (j : Int), 0) ∧ okB (bx (j : Int)) := fun j hj => by
    obtain ⟨b, b1, b2, b3⟩ := h.box j hj
    have e : bx (j : Int) = b := by show ((page_view_boxOf (viewD d) (j : Int)).getD (zeroB, 0)).1 = b; rw [b1]; rfl
    rw [e]; exact ⟨b1, b2, b3⟩
  generalize hR : rootL d.Nodes ids = R at *
  have hRm : ∀ k ∈ R, ∃ j : Nat, ∃ hj : j < d.Nodes.length, k = j := fun k hk => by
    obtain ⟨j, hj, e, _⟩ := rootL_mem (hR ▸ hk)
    exact ⟨j, hj, e⟩
  obtain ⟨hb, eh, u1, u2, u3⟩ := hull_both (l := R.map bx) (fun b hb => by
    obtain ⟨k, hk, rfl⟩ := List.mem_map.1 hb
    obtain ⟨j, hj, rfl⟩ := hRm k hk
    exact (hbx j hj).2.2) (by simp; omega)
  have hhull : page_view_hullOf (viewD d) R = some (hb, eh) := by
    unfold page_view_hullOf
    rw [bnd_eq, rfor_gather (fun k => [bx k]) [] (fun a _ => by simp) (by simp; omega) (fun i s hk hs => by
      unfold page_view_hullOf_L1
      obtain ⟨j, hj, e⟩ := hRm _ (gx_mem hk)
      rw [need_of hk, e, view_boxG (hbx j hj).1, Option.bind_some, need_of (by show _ ≤ _; simp; omega)])]
    rw [← List.map_eq_flatMap, List.nil_append, Option.bind_some, u1]; rfl
  have hroots : ref_RootBoxes d ids = some (R.map bx, hb, eh) := by
    unfold ref_RootBoxes
    rw [bnd_eq, RootsOf_eq h hi, hR, Option.bind_some, rfor_gather (l := R.map (fun k => (gx d.Nodes k).Id)) (fun id => [((ref_BoxOfNode d id).getD (zeroB, 0)).1]) [] (fun a _ => by simp) (by simp; omega) (fun i s hk hs => by
      unfold ref_RootBoxes_L1
      have hin := gx_mem hk
      obtain ⟨k, hk2, e⟩ := List.mem_map.1 hin
      obtain ⟨j, hj, rfl⟩ := hRm k hk2
      rw [gx_nat hj] at e
      rw [need_of hk, ← e, (hbx j hj).2.1, Option.bind_some, need_of (by show _ ≤ _; simp; omega)]; rfl)]
    rw [← List.map_eq_flatMap, List.nil_append, Option.bind_some, List.map_map]
    have : R.map ((fun id => ((ref_BoxOfNode d id).getD (zeroB, 0)).1) ∘ fun k => (gx d.Nodes k).Id) = R.map bx := List.map_congr_left fun k hk => by
      obtain ⟨j, hj, rfl⟩ := hRm k hk
      show ((ref_BoxOfNode d (gx d.Nodes (j : Int)).Id).getD (zeroB, 0)).1 = _
      rw [gx_nat hj, (hbx j hj).2.1]; rfl
    rw [this, u2]; rfl
  unfold page_Guide ref_GuideOf
  rw [selected_eq hc h hi, if_pos hs, hroots, Option.bind_some, Option.bind_some, hR]
  simp only [decide_true, Bool.not_true, cond_false, Option.bind_some]
  rw [hhull, Option.bind_some, StepError_eq, Option.bind_some, In_eq, Option.bind_some, When_eq, Option.bind_some, First_eq (by simp), Option.bind_some, far_eq, far_eq, Option.bind_some]
  simp only
  by_cases heh : eh = 0
  case neg =>
    have e1 : firstErr [eh, if (-2000000 ≤ dx ∧ dx ≤ 2000000) ∧ -2000000 ≤ dy ∧ dy ≤ 2000000 then (0 : Int) else 3, if (!decide (0 ≤ reach ∧ reach ≤ 1000)) = true then (3 : Int) else 0] = eh := by simp [heh]
    rw [e1, decide_eq_false heh]
    exact ⟨_, _, _, rfl, rfl⟩
  rw [decide_eq_true heh]
  simp only [Bool.not_true, cond_false]
  by_cases hok : ((-2000000 ≤ dx ∧ dx ≤ 2000000) ∧ -2000000 ≤ dy ∧ dy ≤ 2000000) ∧ 0 ≤ reach ∧ reach ≤ 1000
  case neg =>
    have e1 : firstErr [eh, if (-2000000 ≤ dx ∧ dx ≤ 2000000) ∧ -2000000 ≤ dy ∧ dy ≤ 2000000 then (0 : Int) else 3, if (!decide (0 ≤ reach ∧ reach ≤ 1000)) = true then (3 : Int) else 0] = 3 := by
      rw [heh]
      by_cases c1 : (-2000000 ≤ dx ∧ dx ≤ 2000000) ∧ -2000000 ≤ dy ∧ dy ≤ 2000000
      · have c2 : ¬ (0 ≤ reach ∧ reach ≤ 1000) := fun c2 => hok ⟨c1, c2⟩
        rw [if_pos c1, decide_eq_false c2]; rfl
      · rw [if_neg c1]; simp
    have e2 : (Option.bind (gd (!decide (dx < -2000000 ∨ 2000000 < dx)) (some (decide (dy < -2000000 ∨ 2000000 < dy)))) fun r4 => some (decide (dx < -2000000 ∨ 2000000 < dx) || r4 || decide (reach < 0) || decide (1000 < reach))) = some true := by
      by_cases c1 : dx < -2000000 ∨ 2000000 < dx
      · rw [decide_eq_true c1]; simp [gd]
      · rw [decide_eq_false c1]
        simp only [Bool.not_false, gd_true, Option.bind_some, Bool.false_or]
        congr 1
        simp only [Bool.or_eq_true, decide_eq_true_eq]
        omega
    have e3 : ∀ (k : Bool → Option (Int × Int × Int)), (Option.bind (gd (!decide (dx < -2000000 ∨ 2000000 < dx)) (some (decide (dy < -2000000 ∨ 2000000 < dy)))) fun r4 => k (decide (dx < -2000000 ∨ 2000000 < dx) || r4 || decide (reach < 0) || decide (1000 < reach))) = k true := fun k => by
      cases hg : gd (!decide (dx < -2000000 ∨ 2000000 < dx)) (some (decide (dy < -2000000 ∨ 2000000 < dy))) with
      | none => rw [hg] at e2; cases e2
      | some r =>
        rw [hg] at e2
        simp only [Option.bind_some, Option.some.injEq] at e2
        rw [Option.bind_some, e2]
    rw [e1, e3 (fun c => bif c then some (0, 0, 3) else _)]
    exact ⟨_, _, _, rfl, rfl⟩
  obtain ⟨⟨hdx, hdy⟩, hre⟩ := hok
  have e1 : firstErr [eh, if (-2000000 ≤ dx ∧ dx ≤ 2000000) ∧ -2000000 ≤ dy ∧ dy ≤ 2000000 then (0 : Int) else 3, if (!decide (0 ≤ reach ∧ reach ≤ 1000)) = true then (3 : Int) else 0] = 0 := by
    rw [heh, if_pos ⟨hdx, hdy⟩, decide_eq_true hre]; rfl
  rw [e1, decide_eq_false (show ¬ (dx < -2000000 ∨ 2000000 < dx) by omega), decide_eq_false (show ¬ (dy < -2000000 ∨ 2000000 < dy) by omega), decide_eq_false (show ¬ reach < 0 by omega), decide_eq_false (show ¬ 1000 < reach by omega)]
  simp only [Bool.not_false, gd_true, Option.bind_some, Bool.or_self, cond_false, decide_true, Bool.not_true, bnd_eq]
  rw [need_of ⟨by omega, by omega, by omega⟩]
  -- marks
  have hrep : List.replicate (d.Nodes.length : Int).toNat false = MK d.Nodes.length (fun _ => false) := by
    unfold MK
    rw [show (d.Nodes.length : Int).toNat = d.Nodes.length by omega, List.map_const', List.length_range]
  obtain ⟨mk, g1, g2⟩ := rfor_inv (n := (R.length : Int)) (step := page_Guide_L1 (some (viewD d), R, 0) (viewD d)) (s0 := MK d.Nodes.length (fun _ => false)) (fun k s => s = MK d.Nodes.length (fun j => (R.take k).any (fun c => subB d.Nodes c.toNat j))) (by omega) (by simp) (fun k s hk hI => by
    subst hI
    have hk' : k < R.length := by omega
    unfold page_Guide_L1
    simp only
    obtain ⟨j, hj, e⟩ := hRm _ (List.getElem_mem hk')
    rw [need_of ⟨by omega, by omega⟩, gx_nat hk', e, below_eq h hj, Option.bind_some]
    refine ⟨_, rfl, MK_congr fun t ht => ?_⟩
    rw [List.take_succ_eq_append_getElem hk', List.any_append, e]
    simp)
  have hmk : mk = MK d.Nodes.length (fun j => tchB d.Nodes ids (gx d.Nodes (j : Int))) := by
    rw [g2, show (R.length : Int).toNat = R.length by omega, List.take_length]
    refine MK_congr fun j hj => ?_
    rw [gx_nat hj, ← roots_tch h ids hj, hR]
  rw [hrep, g1, Option.bind_some, hmk]
  obtain ⟨tm, tm1, tm2⟩ := Touched_eq h hi
  rw [tm1, Option.bind_some]
  let q : DNode → Bool := fun n => !tchB d.Nodes ids n && !decide (n.Kind = 6)
  have hbd : ∀ b ∈ pickB q d.Nodes, okB b := fun b hb => by
    obtain ⟨n, hn, rfl⟩ := List.mem_map.1 hb
    obtain ⟨h1, h2⟩ := List.mem_filter.1 hn
    have hk : n.Kind ≠ 6 := fun e => by
      have : q n = true := h2
      simp [q, e] at this
    exact (h.at h1).2.2 hk
  -- the program's lists
  obtain ⟨st, p1, p2⟩ := rfor_inv (n := (d.Nodes.length : Int)) (step := page_Guide_L2 d (MK d.Nodes.length (fun j => tchB d.Nodes ids (gx d.Nodes (j : Int))))) (s0 := ((⟨[([] : List Int), ([] : List Int)]⟩ : (Arr 1 (List Int))), (⟨[([] : List Int), ([] : List Int)]⟩ : (Arr 1 (List Int)))))
    (fun k s => s = ((⟨[sidesL (posX (pickB q (d.Nodes.take k))), sidesL (posY (pickB q (d.Nodes.take k)))]⟩ : (Arr 1 (List Int))), (⟨[midsL (posX (pickB q (d.Nodes.take k))), midsL (posY (pickB q (d.Nodes.take k)))]⟩ : (Arr 1 (List Int))))) (by omega) rfl (fun k s hk hI => by
    subst hI
    have hk' : k < d.Nodes.length := by omega
    have hpl := pickB_len (q := q) (l := d.Nodes.take k)
    have hpl2 : (d.Nodes.take k).length ≤ 500 := by simp; omega
    unfold page_Guide_L2
    rw [need_of ⟨by omega, by omega⟩, bnd_eq, need_of ⟨by omega, by rw [MK_len]; omega⟩, MK_at hk', gx_nat hk', List.take_succ_eq_append_getElem hk', pickB_snoc]
    have hq : q d.Nodes[k] = (!tchB d.Nodes ids d.Nodes[k] && !decide (d.Nodes[k].Kind = 6)) := rfl
    rw [hq]
    have x0 : ∀ (a b : List Int), (⟨[a, b]⟩ : Arr 1 (List Int)).at0 = a := fun _ _ => rfl
    have x1 : ∀ (a b : List Int), (⟨[a, b]⟩ : Arr 1 (List Int)).at1 = b := fun _ _ => rfl
    simp only [x0, x1]
    cases hc : (!tchB d.Nodes ids d.Nodes[k] && !decide (d.Nodes[k].Kind = 6)) with
    | false => exact ⟨_, rfl, by simp⟩
    | true =>
      have hkk : d.Nodes[k].Kind ≠ 6 := fun e => by rw [e] at hc; simp at hc
      obtain ⟨o1, o2, o3, o4, o5, o6, o7, o8⟩ := (h.at (List.getElem_mem hk')).2.2 hkk
      simp only [cond_true, if_true, bnd_eq]
      rw [need_of (by show _ ≤ _; rw [sidesL_len]; simp [posX]; omega), need_of (by show _ ≤ _; rw [sidesL_len]; simp [posY]; omega), need_of (by show _ ≤ _; simp [midsL, posX]; omega), need_of (by show _ ≤ _; simp [midsL, posY]; omega)]
      rw [Wk (n := 2 * d.Nodes[k].Box.X) (by omega) (by omega), Wk (n := d.Nodes[k].Box.X + d.Nodes[k].Box.W_) (by omega) (by omega), Wk (n := 2 * (d.Nodes[k].Box.X + d.Nodes[k].Box.W_)) (by omega) (by omega), Wk (n := 2 * d.Nodes[k].Box.Y) (by omega) (by omega), Wk (n := d.Nodes[k].Box.Y + d.Nodes[k].Box.H) (by omega) (by omega), Wk (n := 2 * (d.Nodes[k].Box.Y + d.Nodes[k].Box.H)) (by omega) (by omega), Wk (n := 2 * d.Nodes[k].Box.X + d.Nodes[k].Box.W_) (by omega) (by omega), Wk (n := 2 * d.Nodes[k].Box.Y + d.Nodes[k].Box.H) (by omega) (by omega)]
      refine ⟨_, rfl, ?_⟩
      simp [sidesL, midsL, posX, posY])
  -- the reference's lists
  obtain ⟨rt, r1, r2⟩ := rfor_inv (n := (d.Nodes.length : Int)) (step := ref_GuideOf_L1 d tm) (s0 := (([] : List (Arr 2 Int)), ([] : List (Arr 2 Int))))
    (fun k s => s = ((posX (pickB q (d.Nodes.take k))).map three, (posY (pickB q (d.Nodes.take k))).map three)) (by omega) rfl (fun k s hk hI => by
    subst hI
    have hk' : k < d.Nodes.length := by omega
    have hpl := pickB_len (q := q) (l := d.Nodes.take k)
    have hpl2 : (d.Nodes.take k).length ≤ 500 := by simp; omega
    unfold ref_GuideOf_L1
    rw [need_of ⟨by omega, by omega⟩, bnd_eq, gx_nat hk', tm2 k hk', List.take_succ_eq_append_getElem hk', pickB_snoc]
    have hq : q d.Nodes[k] = (!decide (d.Nodes[k].Kind = 6) && !tchB d.Nodes ids d.Nodes[k]) := Bool.and_comm _ _
    rw [hq]
    cases hc : (!decide (d.Nodes[k].Kind = 6) && !tchB d.Nodes ids d.Nodes[k]) with
    | false => exact ⟨_, rfl, by simp⟩
    | true =>
      have hkk : d.Nodes[k].Kind ≠ 6 := fun e => by rw [e] at hc; simp at hc
      obtain ⟨o1, o2, o3, o4, o5, o6, o7, o8⟩ := (h.at (List.getElem_mem hk')).2.2 hkk
      simp only [cond_true, if_true, bnd_eq]
      rw [need_of (by show _ ≤ _; simp [posX]; omega), need_of (by show _ ≤ _; simp [posY]; omega)]
      rw [Wk (n := 2 * d.Nodes[k].Box.X) (by omega) (by omega), Wk (n := 2 * d.Nodes[k].Box.W_) (by omega) (by omega), Wk (n := 2 * d.Nodes[k].Box.Y) (by omega) (by omega), Wk (n := 2 * d.Nodes[k].Box.H) (by omega) (by omega), Wk (n := 2 * d.Nodes[k].Box.X + d.Nodes[k].Box.W_) (by omega) (by omega), Wk (n := 2 * d.Nodes[k].Box.Y + d.Nodes[k].Box.H) (by omega) (by omega), Wk (n := 2 * d.Nodes[k].Box.X + 2 * d.Nodes[k].Box.W_) (by omega) (by omega), Wk (n := 2 * d.Nodes[k].Box.Y + 2 * d.Nodes[k].Box.H) (by omega) (by omega)]
      refine ⟨_, rfl, ?_⟩
      simp [posX, posY, three])
  rw [p1, Option.bind_some, r1, Option.bind_some, p2, r2, show (d.Nodes.length : Int).toNat = d.Nodes.length by omega, List.take_length]
  obtain ⟨b1, b2, b3, b4, b5, b6, b7, b8⟩ := u3 heh
  have hpl := pickB_len (q := q) (l := d.Nodes)
  have x0 : ∀ (a b : List Int), (⟨[a, b]⟩ : Arr 1 (List Int)).at0 = a := fun _ _ => rfl
  have x1 : ∀ (a b : List Int), (⟨[a, b]⟩ : Arr 1 (List Int)).at1 = b := fun _ _ => rfl
  simp only [x0, x1]
  have hbX : ∀ p ∈ posX (pickB q d.Nodes), -1000000 ≤ p.1 ∧ p.1 ≤ 1000000 ∧ 0 ≤ p.2 ∧ p.2 ≤ 20000 := fun p hp => by
    obtain ⟨b, hb, rfl⟩ := List.mem_map.1 hp
    obtain ⟨o1, o2, o3, o4, o5, o6, o7, o8⟩ := hbd b hb
    simp only; omega
  have hbY : ∀ p ∈ posY (pickB q d.Nodes), -1000000 ≤ p.1 ∧ p.1 ≤ 1000000 ∧ 0 ≤ p.2 ∧ p.2 ≤ 20000 := fun p hp => by
    obtain ⟨b, hb, rfl⟩ := List.mem_map.1 hp
    obtain ⟨o1, o2, o3, o4, o5, o6, o7, o8⟩ := hbd b hb
    simp only; omega
  have hlX : (posX (pickB q d.Nodes)).length ≤ 500 := by simp [posX]; omega
  have hlY : (posY (pickB q d.Nodes)).length ≤ 500 := by simp [posY]; omega
  rw [Wk (n := hb.X + dx) (by omega) (by omega), Wk (n := hb.Y + dy) (by omega) (by omega), Wk (n := 2 * (hb.X + dx)) (by omega) (by omega), Wk (n := 2 * (hb.Y + dy)) (by omega) (by omega), Wk (n := 2 * hb.W_) (by omega) (by omega), Wk (n := 2 * hb.H) (by omega) (by omega),
    Wk (n := 2 * (hb.X + dx) + hb.W_) (by omega) (by omega), Wk (n := 2 * (hb.Y + dy) + hb.H) (by omega) (by omega), Wk (n := 2 * (hb.X + dx) + 2 * hb.W_) (by omega) (by omega), Wk (n := 2 * (hb.Y + dy) + 2 * hb.H) (by omega) (by omega)]
  rw [fix_eq (m0 := 2 * (hb.X + dx)) (m1 := 2 * (hb.X + dx) + hb.W_) (m2 := 2 * (hb.X + dx) + 2 * hb.W_) (bs := posX (pickB q d.Nodes)) (.inl rfl) (by omega) (by omega) hre rfl rfl rfl rfl (by omega) hbX (by omega), Option.bind_some,
    fix_eq (m0 := 2 * (hb.Y + dy)) (m1 := 2 * (hb.Y + dy) + hb.H) (m2 := 2 * (hb.Y + dy) + 2 * hb.H) (bs := posY (pickB q d.Nodes)) (.inr rfl) (by omega) (by omega) hre rfl rfl rfl rfl (by omega) hbY (by omega), Option.bind_some,
    snapped_eq (by omega) (by omega) (by omega) hre hbX (by omega), Option.bind_some, snapped_eq (by omega) (by omega) (by omega) hre hbY (by omega), Option.bind_some]
  exact ⟨_, _, _, rfl, rfl⟩

theorem GuidesMatch_true (d : Doc) (ids : List Str) (dx dy reach : Int) (hd : fits d) (hids : fits ids) : law_GuidesMatch d ids dx dy reach = some true := by
  obtain ⟨e, c1, c2, hr⟩ := Check_both hd
  have hi : (ids.length : Int) ≤ 9223372036854775807 := by have : ids.length ≤ 9223372036854775807 := hids.1; omega
  unfold law_GuidesMatch law_selected
  rw [c2, pages_eq]
  by_cases he : e = 0
  case neg =>
    unfold page_Guide
    rw [selected_bad c1 he ids]
    simp [he]
  subst he
  have h := hr rfl
  rw [Option.bind_some (a := (0 : Int))]
  simp only [decide_true, Bool.not_true, cond_false]
  rw [SelectionError_eq h.nl hi]
  by_cases hs : selErr d.Nodes ids = 0
  case neg =>
    unfold page_Guide
    rw [selected_eq c1 h hi, if_neg hs]
    simp [hs]
  obtain ⟨u, v, e, g1, g2⟩ := Guide_both c1 h hi hs dx dy reach
  rw [g1, g2, hs]
  simp
end Go.DB
