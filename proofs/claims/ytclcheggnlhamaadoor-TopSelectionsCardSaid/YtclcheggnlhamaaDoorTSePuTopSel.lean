/-
  What is aligned is in line, what is spread has equal gaps.
-/
import Derived.Test.YtclcheggnlhamaaDoorTSePuTopS1
import Derived.Test.YtclcheggnlhamaaDoorTSePuSortBox
set_option linter.unusedSimpArgs false
set_option linter.unusedVariables false
namespace Go.DB
open Go Go.RowKit
theorem oneNode_T : page_Check (⟨[(⟨Str.nil, (0 : Int), (⟨(0 : Int), (0 : Int), (0 : Int), (0 : Int)⟩ : Box), Str.nil, Str.nil, Str.nil, false⟩ : DNode)], ([] : (List DEdge))⟩ : Doc) = some 5 := by
 unfold page_Check
 simp only [List.length_nil, List.length_cons, bnd_eq]
 rw [rforE_eq (by simp)]
 have : ((0 + 1 : Nat) : Int).toNat = 1 := rfl
 rw [this]
 simp only [rgoE]
 have : page_Check_L1 (⟨[(⟨Str.nil, (0 : Int), (⟨(0 : Int), (0 : Int), (0 : Int), (0 : Int)⟩ : Box), Str.nil, Str.nil, Str.nil, false⟩ : DNode)], ([] : (List DEdge))⟩ : Doc) 0 GMap.nil = some (Res.ab (Res.ab 5)) := by
  unfold page_Check_L1
  rw [need_of ⟨by omega, by simp⟩, bnd_eq, checkNode_eq]
  simp [gx, nodeErr, nameB, Str.nil]
 rw [this]
 rfl
theorem Roots_badT {d : Doc} {ids : List Str} {r : Option Page_view × List Int × Int} (h : page_selected d ids = some r) (h0 : r.2.1 = []) : page_Roots d ids = some ([], r.2.2) := by
 unfold page_Roots
 rw [h, Option.bind_some, h0, rfor_eq (by simp)]; rfl
theorem Roots_eqT {d : Doc} (hck : page_Check d = some 0) (h : Right d) {ids : List Str} (hi : (ids.length : Int) ≤ 9223372036854775807) (hs : selErr d.Nodes ids = 0) : page_Roots d ids = some ((rootL d.Nodes ids).map (idK d), 0) := by
 have hRl := rootL_len (l := d.Nodes) (ids := ids) h.nl
 unfold page_Roots
 rw [selected_eq hck h hi, if_pos hs, Option.bind_some]
 simp only
 rw [rfor_gather (l := rootL d.Nodes ids) (fun k => [(gx d.Nodes k).Id]) [] (fun a _ => by simp) (by simp; omega) (fun i s hk hs' => by
  unfold page_Roots_L1
  simp only
  obtain ⟨j, hj, e, _⟩ := rootL_mem (gx_mem hk)
  rw [need_of hk, e, need_of ⟨by omega, by omega⟩, need_of (by show _ ≤ _; simp; omega)]), Option.bind_some, ← List.map_eq_flatMap, List.nil_append]
 rfl
theorem BoxOf_T {d : Doc} (hc : page_Check d = some 0) (h : Right d) {j : Nat} (hj : j < d.Nodes.length) : page_BoxOf d d.Nodes[j].Id = some (bxD d (j : Int), 0) := by
 have hvn : (viewD d).number = numM d.Nodes := rfl
 have ha := nodeAt_of h.hd hj
 have hf : page_find d d.Nodes[j].Id = some (some (viewD d), (j : Int), 0) := by
  unfold page_find
  rw [slook_ok hc h, Option.bind_some]
  simp only [decide_true, Bool.not_true, cond_false, Option.bind_some]
  rw [hvn, numM_has, numM_getD (by omega), ha, decide_eq_true (by omega)]; rfl
 unfold page_BoxOf
 rw [bnd_eq, hf, Option.bind_some]
 simp only [decide_true, Bool.not_true, cond_false, Option.bind_some]
 rw [view_boxM (bxD_eq h hj).1]; rfl
theorem BoxOf_M {d : Doc} (h : Right d) {R : List Int} (hA : ApartR d R) {f : Int → Int × Int} (hD : Right (docM d R f)) (hc : page_Check (docM d R f) = some 0) {k : Int} (hk : k ∈ R) (hb : (-1000000000 ≤ (f k).1 ∧ (f k).1 ≤ 1000000000) ∧ -1000000000 ≤ (f k).2 ∧ (f k).2 ≤ 1000000000) :
  page_BoxOf (docM d R f) (idK d k) = some (shB (f k) (bxD d k), 0) := by
 have hr := bxD_root h hA hD hk hb
 obtain ⟨j, hj, rfl⟩ := hA.isIn k hk
 have hj' : j < (docM d R f).Nodes.length := by rw [docM_len.1]; exact hj
 have := BoxOf_T hc hD hj'
 rw [docM_at hj, mvR_same.1, hr] at this
 unfold idK
 rw [gx_nat hj]; exact this
def sideF (how : Int) (b : Box) : Int := if how = 1 then b.X else if how = 3 then b.X + b.W_ else if how = 4 then b.Y else if how = 6 then b.Y + b.H else 0
theorem side_eqT {how : Int} {b : Box} (hb : okB b) : top_TopSelections_1 b how = some (sideF how b) := by
 obtain ⟨x1, x2, y1, y2, w1, w2, g1, g2⟩ := hb
 unfold top_TopSelections_1 sideF
 rw [Wk (n := b.X + b.W_) (by omega) (by omega), Wk (n := b.Y + b.H) (by omega) (by omega)]
 by_cases h1 : how = 1
 ·
  simp [h1]
 by_cases h2 : how = 3
 ·
  simp [h1, h2]
 by_cases h3 : how = 4
 ·
  simp [h1, h2, h3]
 by_cases h4 : how = 6
 ·
  simp [h1, h2, h3, h4]
 simp [h1, h2, h3, h4]
theorem side_align (hb : Box) (how : Int) (b b' : Box) : sideF how (shB (alignF hb how b) b) = sideF how (shB (alignF hb how b') b') := by
 unfold sideF shB alignF
 by_cases h1 : how = 1
 ·
  simp only [if_pos h1]; omega
 by_cases h2 : how = 3
 ·
  have : ¬ how = 2 := by omega
  simp only [if_neg h1, if_neg this, if_pos h2]; omega
 by_cases h3 : how = 4
 ·
  have : ¬ how = 2 := by omega
  simp only [if_neg h1, if_neg this, if_neg h2, if_pos h3]; omega
 by_cases h4 : how = 6
 ·
  have a : ¬ how = 2 := by omega
  have b : ¬ how = 5 := by omega
  simp only [if_neg h1, if_neg a, if_neg b, if_neg h2, if_neg h3, if_pos h4]; omega
 simp only [if_neg h1, if_neg h2, if_neg h3, if_neg h4]
theorem fl_step {N : Nat} (hN : 1 ≤ N) (f : Int) (i : Nat) : ((i + 1 : Nat) : Int) * f / (N : Int) - (i : Int) * f / (N : Int) = f / (N : Int) ∨ ((i + 1 : Nat) : Int) * f / (N : Int) - (i : Int) * f / (N : Int) = f / (N : Int) + 1 := by
 have hN' : (0 : Int) < N := by omega
 have e : ((i + 1 : Nat) : Int) * f = (i : Int) * f + f := by rw [Int.natCast_add, Int.add_mul]; simp
 rw [e]
 generalize (i : Int) * f = a
 have a1 := Int.mul_ediv_add_emod a N
 have a2 := Int.emod_nonneg a (show (N : Int) ≠ 0 by omega)
 have a3 := Int.emod_lt_of_pos a hN'
 have f1 := Int.mul_ediv_add_emod f N
 have f2 := Int.emod_nonneg f (show (N : Int) ≠ 0 by omega)
 have f3 := Int.emod_lt_of_pos f hN'
 by_cases c : a % N + f % N < N
 ·
  left
  have := ((Int.ediv_emod_unique (a := a + f) (r := a % N + f % N) (q := a / N + f / N) hN').2 ⟨by rw [Int.mul_add]; omega, by omega, c⟩).1
  omega
 ·
  right
  have := ((Int.ediv_emod_unique (a := a + f) (r := a % N + f % N - N) (q := a / N + f / N + 1) hN').2 ⟨by rw [Int.mul_add, Int.mul_add]; omega, by omega, by omega⟩).1
  omega
theorem spread_law {N : Nat} (hN : 1 ≤ N) {free : Int} {pos sz : Nat → Int} (hsz : ∀ i, i ≤ N → 1 ≤ sz i) (hg : ∀ i, i < N → pos (i + 1) - pos i - sz i = ((i + 1 : Nat) : Int) * free / (N : Int) - (i : Int) * free / (N : Int)) (h0 : pos 0 ≤ pos N) :
  (0 ≤ free → ∀ i, i < N → 0 ≤ pos (i + 1) - pos i - sz i ∧ free / (N : Int) ≤ pos (i + 1) - pos i - sz i ∧ pos (i + 1) - pos i - sz i ≤ free / (N : Int) + 1) ∧
   (free < 0 → ¬ ∀ i, i < N → pos i + sz i ≤ pos (i + 1) ∨ pos (i + 1) + sz (i + 1) ≤ pos i) := by
 have hN' : (0 : Int) < N := by omega
 refine ⟨fun hf i hi => ?_, fun hf hall => ?_⟩
 ·
  rw [hg i hi]
  have := Int.ediv_nonneg hf (show (0 : Int) ≤ N by omega)
  rcases fl_step hN free i with e | e <;> omega
 ·
  have hc : free / (N : Int) < 0 := Int.ediv_neg_of_neg_of_pos hf hN'
  by_cases c : free / (N : Int) ≤ -2
  ·
   have hdec : ∀ i, i < N → pos (i + 1) < pos i := fun i hi => by
    have h1 := hg i hi
    have h2 := hsz (i + 1) (by omega)
    rcases hall i hi with h | h
    ·
     rcases fl_step hN free i with e | e <;> omega
    ·
     omega
   have : ∀ i, i ≤ N → 1 ≤ i → pos i < pos 0 := by
    intro i
    induction i with
    | zero => intro _ h; omega
    | succ i ih =>
     intro hi _
     have h1 := hdec i (by omega)
     by_cases h0 : i = 0
     ·
      subst h0; exact h1
     ·
      have := ih (by omega) (by omega); omega
   have := this N (Nat.le_refl _) hN
   omega
  ·
   have hz : ∀ i, i < N → ((i + 1 : Nat) : Int) * free / (N : Int) = (i : Int) * free / (N : Int) := fun i hi => by
    have h1 := hg i hi
    have h2 := hsz (i + 1) (by omega)
    have h3 := hsz i (by omega)
    rcases hall i hi with h | h
    ·
     rcases fl_step hN free i with e | e <;> omega
    ·
     rcases fl_step hN free i with e | e <;> omega
   have hall0 : ∀ i : Nat, i ≤ N → (i : Int) * free / (N : Int) = 0 := by
    intro i
    induction i with
    | zero => intro _; simp
    | succ i ih => intro hi; rw [hz i (by omega)]; exact ih (by omega)
   have := hall0 N (Nat.le_refl _)
   rw [Int.mul_ediv_cancel_left _ (by omega)] at this
   omega
def gapL (r : List Box) (i : Nat) : Int := (gx r ((i + 1 : Nat) : Int)).X - (gx r (i : Int)).X - (gx r (i : Int)).W_
def okT (b : Box) : Prop := (-100000000 ≤ b.X ∧ b.X ≤ 100000000) ∧ 1 ≤ b.W_ ∧ b.W_ ≤ 20000
theorem gaps_eq {r : List Box} (hok : ∀ b ∈ r, okT b) (h2 : 2 ≤ r.length) (hl : r.length ≤ 1000) : ∃ least most : Int, loop (top_TopSelections_L3 r) (0, 0, 1) = some (least, most) ∧ (∃ i, i + 1 < r.length ∧ least = gapL r i) ∧ (∃ i, i + 1 < r.length ∧ most = gapL r i) ∧ ∀ i, i + 1 < r.length → least ≤ gapL r i ∧ gapL r i ≤ most := by
 obtain ⟨e, e1, e2⟩ := loop_inv (body := top_TopSelections_L3 r) (s0 := ((0 : Int), (0 : Int), (1 : Int)))
  (fun s => ∃ k : Nat, s.2.2 = ((k + 1 : Nat) : Int) ∧ k + 1 ≤ r.length ∧ ((k = 0 ∧ s.1 = 0 ∧ s.2.1 = 0) ∨ (1 ≤ k ∧ (∃ i, i < k ∧ s.1 = gapL r i) ∧ (∃ i, i < k ∧ s.2.1 = gapL r i) ∧ ∀ i, i < k → s.1 ≤ gapL r i ∧ gapL r i ≤ s.2.1)))
  (fun s => ((r.length : Int) - s.2.2).toNat) (fun e => (∃ i, i + 1 < r.length ∧ e.1 = gapL r i) ∧ (∃ i, i + 1 < r.length ∧ e.2 = gapL r i) ∧ ∀ i, i + 1 < r.length → e.1 ≤ gapL r i ∧ gapL r i ≤ e.2)
  ⟨0, rfl, by omega, .inl ⟨rfl, rfl, rfl⟩⟩ (fun s hI => by
   obtain ⟨a, b, c⟩ := s
   obtain ⟨k, rfl, hk, hI⟩ := hI
   unfold top_TopSelections_L3
   simp only
   by_cases hlt : k + 1 < r.length
   ·
    left
    have o1 := hok _ (gx_mem (l := r) (k := ((k + 1 : Nat) : Int)) ⟨by omega, by omega⟩)
    have o0 := hok _ (gx_mem (l := r) (k := (k : Int)) ⟨by omega, by omega⟩)
    obtain ⟨⟨p1, p2⟩, p3, p4⟩ := o1
    obtain ⟨⟨q1, q2⟩, q3, q4⟩ := o0
    have hm : W (((k + 1 : Nat) : Int) - 1) = (k : Int) := by rw [Wk (by omega) (by omega)]; omega
    rw [decide_eq_true (show ((k + 1 : Nat) : Int) < (r.length : Int) by omega), cond_true, hm, need_of ⟨by omega, by omega⟩, need_of ⟨by omega, by omega⟩, need_of ⟨by omega, by omega⟩, bnd_eq]
    rw [Wk (n := (gx r ((k + 1 : Nat) : Int)).X - (gx r (k : Int)).X) (by omega) (by omega), Wk (n := (gx r ((k + 1 : Nat) : Int)).X - (gx r (k : Int)).X - (gx r (k : Int)).W_) (by omega) (by omega)]
    have hgap : (gx r ((k + 1 : Nat) : Int)).X - (gx r (k : Int)).X - (gx r (k : Int)).W_ = gapL r k := rfl
    rw [hgap]
    have hW : W (((k + 1 : Nat) : Int) + 1) = ((k + 1 + 1 : Nat) : Int) := by rw [Wk (by omega) (by omega)]; omega
    have hd : ∀ s' : Int × Int, (∃ i, i < k + 1 ∧ s'.1 = gapL r i) → (∃ i, i < k + 1 ∧ s'.2 = gapL r i) → (∀ i, i < k + 1 → s'.1 ≤ gapL r i ∧ gapL r i ≤ s'.2) → ∃ st' : Int × Int × Int, (Option.bind (some s') fun j => bnd (W (((k + 1 : Nat) : Int) + 1)) fun i1 => some (Step.again (ρ := Int × Int) (j.1, j.2, i1))) = some (Step.again st') ∧ (∃ k' : Nat, st'.2.2 = ((k' + 1 : Nat) : Int) ∧ k' + 1 ≤ r.length ∧ ((k' = 0 ∧ st'.1 = 0 ∧ st'.2.1 = 0) ∨ (1 ≤ k' ∧ (∃ i, i < k' ∧ st'.1 = gapL r i) ∧ (∃ i, i < k' ∧ st'.2.1 = gapL r i) ∧ ∀ i, i < k' → st'.1 ≤ gapL r i ∧ gapL r i ≤ st'.2.1))) ∧ ((r.length : Int) - st'.2.2).toNat < ((r.length : Int) - ((k + 1 : Nat) : Int)).toNat := fun s' g1 g2 g3 => by
     refine ⟨(s'.1, s'.2, ((k + 1 + 1 : Nat) : Int)), by rw [Option.bind_some, bnd_eq, hW], ⟨k + 1, rfl, by omega, .inr ⟨by omega, g1, g2, g3⟩⟩, by simp only; omega⟩
    rcases hI with ⟨rfl, rfl, rfl⟩ | ⟨h1, ⟨x, hx, rfl⟩, ⟨y, hy, rfl⟩, hall⟩
    ·
     have e : decide (((0 + 1 : Nat) : Int) = 1) = true := rfl
     rw [e]
     simp only [Bool.true_or, cond_true, Option.bind_some]
     exact hd (gapL r 0, gapL r 0) ⟨0, by omega, rfl⟩ ⟨0, by omega, rfl⟩ (fun i hi => by
      obtain rfl : i = 0 := by omega
      simp)
    ·
     simp only at hall
     have e : decide (((k + 1 : Nat) : Int) = 1) = false := decide_eq_false (by omega)
     rw [e]
     simp only [Bool.false_or]
     by_cases c1 : gapL r k < gapL r x
     ·
      rw [decide_eq_true c1, cond_true, Option.bind_some]
      by_cases c2 : gapL r y < gapL r k
      ·
       have := (hall x hx).2; omega
      ·
       rw [decide_eq_false c2, cond_false]
       refine hd (gapL r k, gapL r y) ⟨k, by omega, rfl⟩ ⟨y, by omega, rfl⟩ (fun i hi => ?_)
       by_cases hik : i = k
       ·
        subst hik; simp only; omega
       ·
        have := hall i (by omega); simp only; omega
     ·
      rw [decide_eq_false c1, cond_false, Option.bind_some]
      by_cases c2 : gapL r y < gapL r k
      ·
       rw [decide_eq_true c2, cond_true]
       refine hd (gapL r x, gapL r k) ⟨x, by omega, rfl⟩ ⟨k, by omega, rfl⟩ (fun i hi => ?_)
       by_cases hik : i = k
       ·
        subst hik; simp only; omega
       ·
        have := hall i (by omega); simp only; omega
      ·
       rw [decide_eq_false c2, cond_false]
       refine hd (gapL r x, gapL r y) ⟨x, by omega, rfl⟩ ⟨y, by omega, rfl⟩ (fun i hi => ?_)
       by_cases hik : i = k
       ·
        subst hik; simp only; omega
       ·
        have := hall i (by omega); simp only; omega
   ·
    right
    rw [decide_eq_false (show ¬ ((k + 1 : Nat) : Int) < (r.length : Int) by omega), cond_false]
    rcases hI with ⟨rfl, _⟩ | ⟨h1, ⟨x, hx, hx'⟩, ⟨y, hy, hy'⟩, hall⟩
    ·
     omega
    ·
     exact ⟨_, rfl, ⟨x, by omega, hx'⟩, ⟨y, by omega, hy'⟩, fun i hi => hall i (by omega)⟩)
 exact ⟨e.1, e.2, e1, e2.1, e2.2.1, e2.2.2⟩
theorem gaps_apart {r : List Box} (hok : ∀ b ∈ r, okT b) (hg : ∀ i, i + 1 < r.length → 0 ≤ gapL r i) : r.Pairwise (fun a b => a.X + a.W_ ≤ b.X) := by
 refine List.pairwise_iff_getElem.2 fun i j hi hj hij => ?_
 have key : ∀ t, (ht : i + (t + 1) < r.length) → r[i].X + r[i].W_ ≤ r[i + (t + 1)].X := by
  intro t
  induction t with
  | zero =>
   intro ht
   have := hg i (by omega)
   unfold gapL at this
   rw [gx_nat (by omega), gx_nat (by omega)] at this
   show r[i].X + r[i].W_ ≤ r[i + 1].X
   omega
  | succ t ih =>
   intro ht
   have h1 := ih (by omega)
   have := hg (i + (t + 1)) (by omega)
   unfold gapL at this
   rw [gx_nat (by omega), gx_nat (by omega)] at this
   have h2 := (hok _ (List.getElem_mem (show i + (t + 1) < r.length by omega))).2.1
   show r[i].X + r[i].W_ ≤ r[i + (t + 1) + 1].X
   omega
 have := key (j - i - 1) (by omega)
 have e : i + (j - i - 1 + 1) = j := by omega
 simpa only [e] using this
def ltT (a b : Box) : Bool := decide (2 * a.X + a.W_ < 2 * b.X + b.W_)
theorem swoT : Swo okT ltT top_TopSelections_2 := by
 refine ⟨fun x y hx hy => ⟨_, rfl, ?_⟩, fun x y _ _ h => ?_, fun x y z _ _ _ h1 h2 => ?_⟩
 ·
  obtain ⟨⟨a1, a2⟩, a3, a4⟩ := hx
  obtain ⟨⟨b1, b2⟩, b3, b4⟩ := hy
  unfold ltT
  rw [Wk (n := 2 * x.X) (by omega) (by omega), Wk (n := 2 * y.X) (by omega) (by omega), Wk (n := 2 * x.X + x.W_) (by omega) (by omega), Wk (n := 2 * x.X + x.W_ - 2 * y.X) (by omega) (by omega), Wk (n := 2 * x.X + x.W_ - 2 * y.X - y.W_) (by omega) (by omega), decide_eq_decide]
  omega
 ·
  unfold ltT at *
  have := of_decide_eq_true h
  exact decide_eq_false (by omega)
 ·
  unfold ltT at *
  have h1 := of_decide_eq_false h1
  have h2 := of_decide_eq_false h2
  exact decide_eq_false (by omega)
theorem pos_eq {A : Int → Int × Int × Int} {M : List Int} (h3 : 3 ≤ M.length) {beg free : Int} (hbeg : beg = (A (gx M 0)).1 + (A (gx M 0)).2.1) (hfree : free = (A (gx M ((M.length : Int) - 1))).1 - beg - ((seg M 1 ((M.length : Int) - 1)).map (fun k => (A k).2.1)).sum) :
  ∀ i, i < M.length - 1 → ((A (gx M ((i + 1 : Nat) : Int))).1 + spS A M beg free (i + 1)) - ((A (gx M (i : Int))).1 + spS A M beg free i) - (A (gx M (i : Int))).2.1 = ((i + 1 : Nat) : Int) * free / ((M.length - 1 : Nat) : Int) - (i : Int) * free / ((M.length - 1 : Nat) : Int) := by
 have hN : ((M.length - 1 : Nat) : Int) = (M.length : Int) - 1 := by omega
 have hB1 : spB A M beg 1 = beg := by
  show (if 0 < 0 ∧ 0 + 1 < M.length then _ else _) = _
  rw [if_neg (by omega)]; rfl
 have hBs : ∀ i, 0 < i → i + 1 < M.length → spB A M beg (i + 1) = spB A M beg i + (A (gx M (i : Int))).2.1 := fun i h1 h2 => by rw [spB, if_pos ⟨h1, h2⟩]
 have hsum : ∀ i, 1 ≤ i → i < M.length → spB A M beg i = beg + ((seg M 1 (i : Int)).map (fun k => (A k).2.1)).sum := by
  intro i
  induction i with
  | zero => intro h; omega
  | succ i ih =>
   intro _ hi
   by_cases h0 : i = 0
   ·
    subst h0
    rw [hB1]
    have : seg M 1 ((0 + 1 : Nat) : Int) = [] := by unfold seg; simp
    rw [this]; simp
   ·
    rw [hBs i (by omega) hi, ih (by omega) (by omega)]
    have : seg M 1 ((i + 1 : Nat) : Int) = seg M 1 (i : Int) ++ [gx M (i : Int)] := by
     unfold seg
     have e1 : ((i + 1 : Nat) : Int).toNat = i + 1 := by omega
     have e2 : ((i : Nat) : Int).toNat = i := by omega
     have e3 : (1 : Int).toNat = 1 := rfl
     rw [e1, e2, e3, List.take_succ_eq_append_getElem (by omega), gx_nat (by omega)]
     rw [List.drop_append_of_le_length (by simp; omega)]
    rw [this, List.map_append, List.sum_append]
    simp only [List.map_cons, List.map_nil, List.sum_cons, List.sum_nil]
    omega
 have hpos : ∀ i, 1 ≤ i → i < M.length → (A (gx M (i : Int))).1 + spS A M beg free i = spB A M beg i + (i : Int) * free / ((M.length : Int) - 1) := fun i h1 hi => by
  unfold spS
  by_cases c : i + 1 < M.length
  ·
   rw [if_pos ⟨by omega, c⟩]; omega
  ·
   rw [if_neg (by omega)]
   have hi' : (i : Int) = (M.length : Int) - 1 := by omega
   rw [hsum i h1 hi, hi', Int.mul_ediv_cancel_left _ (by omega)]
   rw [hi'] at *
   omega
 have hp0 : (A (gx M ((0 : Nat) : Int))).1 + spS A M beg free 0 = (A (gx M 0)).1 := by
  unfold spS
  rw [if_neg (by omega)]
  simp
 intro i hi
 rw [hN, hpos (i + 1) (by omega) (by omega)]
 by_cases h0 : i = 0
 ·
  subst h0
  rw [hp0, hB1]
  have e : (((0 : Nat) : Int)) * free / ((M.length : Int) - 1) = 0 := by simp
  rw [e]
  have e2 : gx M ((0 : Nat) : Int) = gx M 0 := rfl
  rw [e2]
  omega
 ·
  rw [hpos i (by omega) (by omega), hBs i (by omega) (by omega)]
  omega
theorem key_incr {pos sz : Nat → Int} {n : Nat} (h1 : ∀ i, i < n → 1 ≤ sz i) (h : ∀ i, i + 1 < n → pos i + sz i ≤ pos (i + 1)) : ∀ i t, i + (t + 1) < n → 2 * pos i + sz i < 2 * pos (i + (t + 1)) + sz (i + (t + 1))
 | i, 0, hi => by
  have a := h i hi
  have b := h1 (i + 1) hi
  have c := h1 i (by omega)
  show 2 * pos i + sz i < 2 * pos (i + 1) + sz (i + 1)
  omega
 | i, t + 1, hi => by
  have ih := key_incr h1 h i t (by omega)
  have a := h (i + (t + 1)) hi
  have b := h1 (i + (t + 1) + 1) hi
  have c := h1 (i + (t + 1)) (by omega)
  show 2 * pos i + sz i < 2 * pos (i + (t + 1) + 1) + sz (i + (t + 1) + 1)
  omega
theorem spread_gaps {d : Doc} (h : Right d) (down : Bool) {R M : List Int} (hA : ApartR d R) (h3 : 3 ≤ R.length) (hR : R.length ≤ 500) (hp : M.Perm R) (hs : srt (ltS d down) M) {q : Int → Box}
  (hq : ∀ i (hi : i < M.length), (q M[i]).X = (atF d down M[i]).1 + spS (atF d down) M (begM d down M) (freeM d down M) i ∧ (q M[i]).W_ = (atF d down M[i]).2.1) :
  ∃ r least most, slices_SortStableFunc_Box (R.map q) top_TopSelections_2 = some r ∧ loop (top_TopSelections_L3 r) (0, 0, 1) = some (least, most) ∧ (decide (least < 0) || decide (W (most - least) ≤ 1)) = true := by
 have hAM := hA.perm hp
 have hMl := hp.length_eq
 obtain ⟨b1, b2, b3, b4⟩ := spread_bd h down hAM (by omega) (by omega)
 have hokM : ∀ i (hi : i < M.length), okT (q M[i]) := fun i hi => by
  obtain ⟨q1, q2⟩ := hq i hi
  have a := b3 _ (List.getElem_mem hi)
  have b := b4 i hi
  unfold okT
  omega
 have hokR : ∀ b ∈ R.map q, okT b := fun b hb => by
  obtain ⟨k, hk, rfl⟩ := List.mem_map.1 hb
  obtain ⟨i, hi, rfl⟩ := List.mem_iff_getElem.1 (hp.mem_iff.2 hk)
  exact hokM i hi
 obtain ⟨r, r1, r2⟩ := StbBox.stable_eq swoT (D := R.map q) hokR (by simp; omega)
 have hokr : ∀ b ∈ r, okT b := fun b hb => hokR b (r1.mem.1 hb)
 have hrl : r.length = M.length := by rw [r1.len, List.length_map]; exact hMl.symm
 obtain ⟨least, most, l1, ⟨x, hx, rfl⟩, ⟨y, hy, rfl⟩, l4⟩ := gaps_eq hokr (by omega) (by omega)
 refine ⟨r, _, _, r2, l1, ?_⟩
 have hpm : r.Perm (M.map q) := r1.perm.trans (hp.map q).symm
 let pos : Nat → Int := fun i => (atF d down (gx M (i : Int))).1 + spS (atF d down) M (begM d down M) (freeM d down M) i
 let sz : Nat → Int := fun i => (atF d down (gx M (i : Int))).2.1
 have hLM : ∀ i (hi : i < M.length), (q M[i]).X = pos i ∧ (q M[i]).W_ = sz i := fun i hi => by
  have := hq i hi
  show _ = (atF d down (gx M (i : Int))).1 + _ ∧ _ = (atF d down (gx M (i : Int))).2.1
  rw [gx_nat hi]; exact this
 have hsz : ∀ i, i ≤ M.length - 1 → 1 ≤ sz i := fun i hi => (b3 _ (gx_mem (l := M) (k := (i : Int)) ⟨by omega, by omega⟩)).2.1
 have hg := pos_eq (A := atF d down) (M := M) (by omega) (beg := begM d down M) (free := freeM d down M) rfl rfl
 have h0N : pos 0 ≤ pos (M.length - 1) := by
  have e0 : pos 0 = (atF d down (gx M 0)).1 := by
   show (atF d down (gx M ((0 : Nat) : Int))).1 + spS _ _ _ _ 0 = _
   unfold spS; rw [if_neg (by omega)]; simp
  have eN : pos (M.length - 1) = (atF d down (gx M ((M.length - 1 : Nat) : Int))).1 := by
   show (atF d down (gx M ((M.length - 1 : Nat) : Int))).1 + spS _ _ _ _ (M.length - 1) = _
   unfold spS; rw [if_neg (by omega)]; simp
  rw [e0, eN]
  have := List.pairwise_iff_getElem.1 hs 0 (M.length - 1) (by omega) (by omega) (by omega)
  unfold ltS at this
  have := of_decide_eq_false this
  rw [show (0 : Int) = ((0 : Nat) : Int) from rfl, gx_nat (show 0 < M.length by omega), gx_nat (show M.length - 1 < M.length by omega)]
  omega
 obtain ⟨s1, s2⟩ := spread_law (N := M.length - 1) (by omega) (free := freeM d down M) (pos := pos) (sz := sz) hsz (fun i hi => hg i hi) h0N
 rw [Bool.or_eq_true, decide_eq_true_eq, decide_eq_true_eq]
 by_cases hf : 0 ≤ freeM d down M
 ·
  right
  have hs1 := s1 hf
  have hkey := key_incr (pos := pos) (sz := sz) (n := M.length) (fun i hi => hsz i (by omega)) (fun i hi => by have := (hs1 i (by omega)).1; omega)
  have hpw : (M.map q).Pairwise (fun a b => 2 * a.X + a.W_ < 2 * b.X + b.W_) := by
   refine List.pairwise_iff_getElem.2 fun i j hi hj hij => ?_
   simp only [List.length_map] at hi hj
   simp only [List.getElem_map]
   obtain ⟨p1, p2⟩ := hLM i hi
   obtain ⟨p3, p4⟩ := hLM j hj
   have := hkey i (j - i - 1) (by omega)
   rw [show i + (j - i - 1 + 1) = j by omega] at this
   rw [p1, p2, p3, p4]; exact this
  have hr : r = M.map q := by
   refine sorted_one (fun a b => ltT b a = false) (fun a b ha hb h1 h2 => ?_) hpm r1.srtd (hpw.imp (fun {a b} hab => decide_eq_false (by omega)))
   have h1' := of_decide_eq_false h1
   have h2' := of_decide_eq_false h2
   obtain ⟨i, hi, ei⟩ := List.mem_iff_getElem.1 (hpm.mem_iff.1 ha)
   obtain ⟨j, hj, ej⟩ := List.mem_iff_getElem.1 (hpm.mem_iff.1 hb)
   rcases Nat.lt_trichotomy i j with c | c | c
   ·
    have := List.pairwise_iff_getElem.1 hpw i j hi hj c
    rw [ei, ej] at this; omega
   ·
    subst c; rw [← ei, ← ej]
   ·
    have := List.pairwise_iff_getElem.1 hpw j i hj hi c
    rw [ei, ej] at this; omega
  have hgr : ∀ i, i + 1 < M.length → gapL r i = pos (i + 1) - pos i - sz i := fun i hi => by
   unfold gapL
   rw [hr, gx_nat (by simpa using hi), gx_nat (by simp; omega)]
   simp only [List.getElem_map]
   obtain ⟨p1, p2⟩ := hLM i (by omega)
   obtain ⟨p3, p4⟩ := hLM (i + 1) hi
   rw [p1, p2, p3]
  have gx1 := hgr x (by omega)
  have gy1 := hgr y (by omega)
  have sx := hs1 x (by omega)
  have sy := hs1 y (by omega)
  rw [gx1, gy1, Wk (by omega) (by omega)]
  omega
 ·
  left
  apply Classical.byContradiction
  intro hneg
  refine s2 (by omega) fun i hi => ?_
  have hap := gaps_apart hokr (fun i hi => by have := (l4 i hi).1; omega)
  have hsym : r.Pairwise (fun a b => a.X + a.W_ ≤ b.X ∨ b.X + b.W_ ≤ a.X) := hap.imp (fun h => .inl h)
  have hM2 : (M.map q).Pairwise (fun a b => a.X + a.W_ ≤ b.X ∨ b.X + b.W_ ≤ a.X) := (hpm.pairwise_iff (fun {a b} h => h.symm)).1 hsym
  have := List.pairwise_iff_getElem.1 hM2 i (i + 1) (by simp; omega) (by simp; omega) (by omega)
  simp only [List.getElem_map] at this
  obtain ⟨p1, p2⟩ := hLM i (by omega)
  obtain ⟨p3, p4⟩ := hLM (i + 1) (by omega)
  rw [p1, p2, p3, p4] at this
  exact this
theorem TopSelections_true (d : Doc) (ids : List Str) (how : Int) (down : Bool) (hd : fits d) (hids : fits ids) : top_TopSelections d ids how down = some true := by
 obtain ⟨e, c1, c2, hr⟩ := Check_both hd
 have hi : (ids.length : Int) ≤ 9223372036854775807 := by have : ids.length ≤ 9223372036854775807 := hids.1; omega
 unfold top_TopSelections
 rw [oneNode_T, Option.bind_some]
 simp only [decide_true, Bool.not_true, cond_false]
 by_cases he : e = 0
 case neg =>
  rw [Roots_badT (selected_bad c1 he ids) rfl, Option.bind_some]
  simp [he]
 subst he
 have h := hr rfl
 by_cases hs : selErr d.Nodes ids = 0
 case neg =>
  rw [Roots_badT (by rw [selected_eq c1 h hi, if_neg hs]) rfl, Option.bind_some]
  simp [hs]
 have hA := rootL_apart h ids
 have hRl := rootL_len (l := d.Nodes) (ids := ids) h.nl
 obtain ⟨a, a1, a2, a3⟩ := Align_prog hd c1 h hi hs how
 obtain ⟨s, s1, s2, s3⟩ := Spread_prog hd c1 h hi hs down
 rw [Roots_eqT c1 h hi hs, Option.bind_some]
 simp only [decide_true, Bool.not_true, Bool.false_or, List.length_map]
 by_cases h0 : (rootL d.Nodes ids).length = 0
 ·
  rw [decide_eq_true (show ((rootL d.Nodes ids).length : Int) = 0 by omega)]; rfl
 rw [decide_eq_false (show ¬ ((rootL d.Nodes ids).length : Int) = 0 by omega), cond_false, a1, Option.bind_some]
 generalize hR : rootL d.Nodes ids = R at *
 have hid : ∀ k : Int, inR R k → gx (R.map (idK d)) k = idK d (gx R k) := fun k hk => by
  obtain ⟨g1, g2⟩ := hk
  obtain ⟨j, rfl⟩ := Int.eq_ofNat_of_zero_le g1
  have hj : j < R.length := by omega
  show gx (R.map (idK d)) (j : Int) = idK d (gx R (j : Int))
  rw [gx_nat (by simpa using hj), gx_nat hj, List.getElem_map]
 have hal : (bif decide (a.2 = 0) then (need (inR (R.map (idK d)) 0) <| Option.bind (page_BoxOf a.1 (gx (R.map (idK d)) 0)) fun r4 => rforE (R.length : Int) (top_TopSelections_L1 (R.map (idK d), 0) a r4 how) (fun s => (Res.nx s : Res Unit Bool)) ()) else some (Res.nx ())) = some (Res.nx ()) := by
  by_cases ha : a.2 = 0
  ·
   obtain ⟨hb, hw, hob, hc, e1, e2, e3⟩ := a3 ha
   rw [decide_eq_true ha, cond_true, need_of ⟨by omega, by simp; omega⟩]
   have r0 : inR R 0 := ⟨by omega, by omega⟩
   have hbd : ∀ k ∈ R, (-1000000000 ≤ (alignF hb how (bxD d k)).1 ∧ (alignF hb how (bxD d k)).1 ≤ 1000000000) ∧ -1000000000 ≤ (alignF hb how (bxD d k)).2 ∧ (alignF hb how (bxD d k)).2 ≤ 1000000000 := fun k hk => by
    obtain ⟨j, hj, rfl⟩ := hA.isIn k hk
    obtain ⟨x1, x2, y1, y2, w1, w2, g1, g2⟩ := hob
    obtain ⟨p1, p2, p3, p4, p5, p6, p7, p8⟩ := (bxD_eq h hj).2.2
    obtain ⟨q1, q2, q3, q4⟩ := hc _ (List.mem_map.2 ⟨_, hk, rfl⟩)
    unfold alignF
    split
    ·
     simp only; omega
    split
    ·
     simp only; omega
    split
    ·
     simp only; omega
    split
    ·
     simp only; omega
    split
    ·
     simp only; omega
    ·
     simp only; omega
   rw [e1] at e2 e3
   have hB : ∀ k ∈ R, page_BoxOf a.1 (idK d k) = some (shB (alignF hb how (bxD d k)) (bxD d k), 0) := fun k hk => by
    rw [e1]; exact BoxOf_M h hA e2 e3 hk (hbd k hk)
   have hok : ∀ k ∈ R, okB (shB (alignF hb how (bxD d k)) (bxD d k)) := fun k hk => by
    rw [← bxD_root (f := fun k => alignF hb how (bxD d k)) h hA e2 hk (hbd k hk)]
    obtain ⟨j, hj, rfl⟩ := hA.isIn k hk
    exact (bxD_eq e2 (by rw [docM_len.1]; exact hj)).2.2
   rw [hid 0 r0, hB _ (gx_mem r0), Option.bind_some]
   rw [rforE_any (l := R) (fun _ => false) (Res.ab false) (by omega) (fun i hi' => by
    unfold top_TopSelections_L1
    have hin := gx_mem hi'
    have hi2 : inR (R.map (idK d)) i := ⟨hi'.1, by rw [List.length_map]; exact hi'.2⟩
    simp only
    rw [need_of hi2, hid i hi', hB _ hin, Option.bind_some]
    simp only [decide_true, Bool.not_true, Bool.or_self, Bool.not_false, gd_true]
    rw [side_eqT (hok _ hin), side_eqT (hok _ (gx_mem r0)), Option.bind_some, Option.bind_some, side_align hb how (bxD d (gx R i)) (bxD d (gx R 0))]
    simp)]
   simp
  ·
   rw [decide_eq_false ha]; rfl
 rw [hal, bindR_nx, s1, Option.bind_some]
 by_cases hse : s.2 = 0
 case neg => rw [decide_eq_false hse]; rfl
 obtain ⟨M, m1, m2, m3, m4, m5, m6⟩ := s3 hse
 rw [decide_eq_true hse]
 simp only [Bool.not_true, cond_false]
 have hAM := hA.perm m2
 have hMl := m2.length_eq
 obtain ⟨b1, b2, b3, b4⟩ := spread_bd h down hAM (by omega) (by omega)
 have hbd : ∀ k ∈ R, (-1000000000 ≤ (spreadF d down M k).1 ∧ (spreadF d down M k).1 ≤ 1000000000) ∧ -1000000000 ≤ (spreadF d down M k).2 ∧ (spreadF d down M k).2 ≤ 1000000000 := fun k hk => by
  have hk' := m2.mem_iff.2 hk
  have := b4 (M.idxOf k) (List.idxOf_lt_length_of_mem hk')
  unfold spreadF
  split
  ·
   simp only; omega
  ·
   simp only; omega
 rw [m4] at m5 m6
 let q : Int → Box := fun k => if down = true then ⟨(shB (spreadF d down M k) (bxD d k)).Y, (shB (spreadF d down M k) (bxD d k)).X, (shB (spreadF d down M k) (bxD d k)).H, (shB (spreadF d down M k) (bxD d k)).W_⟩ else shB (spreadF d down M k) (bxD d k)
 have hL2 : rforE (R.length : Int) (top_TopSelections_L2 (R.map (idK d), 0) s down) (fun s => (Res.nx s : Res (List Box) Bool)) ([] : List Box) = some (Res.nx (R.map q)) := by
  have := rforE_errS (n := R.length) (step := top_TopSelections_L2 (R.map (idK d), 0) s down) (fin := fun s => (Res.nx s : Res (List Box) Bool)) (fun k => (R.take k).map q) (fun _ => 0) (fun e => Res.ab false) (by omega) (fun k hk' _ => by
   unfold top_TopSelections_L2
   have hink : inR R (k : Int) := ⟨by omega, by omega⟩
   have hink2 : inR (R.map (idK d)) (k : Int) := ⟨by omega, by simp; omega⟩
   have hin := gx_mem hink
   simp only
   rw [need_of hink2, hid _ hink, m4, BoxOf_M h hA m5 m6 hin (hbd _ hin), Option.bind_some]
   have hroom : room (min k R.length + 1) := by show _ ≤ _; omega
   rw [List.take_succ_eq_append_getElem hk', List.map_append, gx_nat hk']
   cases down with
   | true => simp [bnd_eq, need_of hroom, q]
   | false => simp [bnd_eq, need_of hroom, q])
  have hz : firstErr ((List.range R.length).map (fun _ => (0 : Int))) = 0 := firstErr_zero.2 (fun e he => by
   obtain ⟨_, _, rfl⟩ := List.mem_map.1 he; rfl)
  rw [if_pos hz] at this
  simp only [List.take_zero, List.map_nil, List.take_length] at this
  exact this
 rw [hL2, bindR_nx]
 obtain ⟨r, least, most, g1, g2, g3⟩ := spread_gaps h down hA m1 hRl m2 m3 (q := q) (fun i hi' => by
  have e : spreadF d down M M[i] = if down = true then (0, spS (atF d down) M (begM d down M) (freeM d down M) i) else (spS (atF d down) M (begM d down M) (freeM d down M) i, 0) := by unfold spreadF; rw [idxOf_nd hAM.nodup hi']
  show (if down = true then _ else _ : Box).X = _ ∧ (if down = true then _ else _ : Box).W_ = _
  rw [e]
  unfold atF shB
  cases down with
  | true => simp
  | false => simp)
 rw [g1, Option.bind_some, g2, Option.bind_some]
 exact congrArg some g3
end Go.DB
