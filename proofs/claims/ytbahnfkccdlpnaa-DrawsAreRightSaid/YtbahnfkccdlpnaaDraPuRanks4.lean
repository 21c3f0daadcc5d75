/-
  The reference finds that the total is least.
-/
import Derived.Test.YtbahnfkccdlpnaaDraPuRanks3
set_option linter.unusedSimpArgs false
set_option linter.unusedVariables false
namespace Go.DB
open Go Go.RowKit

theorem set_has {M : GMap Int Int} {k v x : Int} : (M.set k v).has x = (decide (x = k) || M.has x) := by
  show (if x = k then some v else M.f x).isSome = _
  by_cases c : x = k
  · simp [c]
  · rw [if_neg c]; simp [c]; rfl
theorem set_getD {M : GMap Int Int} {k v x d : Int} : (M.set k v).getD x d = if x = k then v else M.getD x d := by
  show (if x = k then some v else M.f x).getD d = _
  by_cases c : x = k
  · rw [if_pos c, if_pos c]; rfl
  · rw [if_neg c, if_neg c]; rfl

def nS (n : Nat) (need : List Int) (p : Int → Int) : Int := sm (fun v : Nat => gx need (v : Int) * p (v : Int)) n
theorem nS_set {n : Nat} {nd : List Int} (hn : nd.length = n) {v : Int} (v0 : 0 ≤ v) (v1 : v < n) (x : Int) (p : Int → Int) : nS n (nd.set v.toNat x) p = nS n nd p + (x - gx nd v) * p v := by
  obtain ⟨k, rfl⟩ : ∃ k : Nat, v = k := ⟨v.toNat, by omega⟩
  have hr : inR nd (k : Int) := ⟨by omega, by omega⟩
  unfold nS
  rw [sm_upd (n := n) (k := k) (h := fun v : Nat => gx nd (v : Int) * p (v : Int)) (by omega) (fun j hj hne => by
    rw [gx_setJ hr (by omega), if_neg (by omega)])]
  rw [gx_setJ hr (by omega), if_pos rfl, Int.sub_mul]

/-- What is still to be brought, and what flows. -/
structure Nd (n : Nat) (l : List Link) (r nd g : List Int) : Prop where
  nl : nd.length = n
  nb : ∀ v : Int, 0 ≤ v → v < n → -200 ≤ gx nd v ∧ gx nd v ≤ 200
  gl : g.length = l.length
  pos : ∀ i, inR l i → 0 ≤ gx g i
  tight : ∀ i, inR l i → 0 < gx g i → gx r (gx l i).To = gx r (gx l i).From + 1
  bal : ∀ p : Int → Int, nS n nd p + wS l g p = baS l p
section
variable {n : Nat} {l : List Link} {c r fs : List Int}
theorem Nd.gb (hn : n ≤ 60) (hl : OKl n l) (hr : RanksOK n l c r fs) {nd g : List Int} (h : Nd n l r nd g) {i : Int} (hi : inR l i) : gx g i ≤ 1000000 := by
  have hll := hl.1
  have h1 := h.bal (gx r)
  have h2 : wS l g (gx r) = sF l g := sm_congr fun k hk => by
    have hk' : inR l (k : Int) := ⟨by omega, by omega⟩
    have hp := h.pos _ hk'
    rcases Int.lt_or_le 0 (gx g (k : Int)) with y | y
    · rw [h.tight _ hk' y, show gx r (gx l (k : Int)).From + 1 - gx r (gx l (k : Int)).From = 1 by omega, Int.mul_one]
    · rw [show gx g (k : Int) = 0 by omega, Int.zero_mul]
  have h3 : baS l (gx r) ≤ l.length * 60 := (sm_bd (c := 60) (fun k hk => by
    have hk' : inR l (k : Int) := ⟨by omega, by omega⟩
    obtain ⟨a, b, d⟩ := hl.2 _ hk'
    have := hr.bd _ a.1 a.2
    have := hr.bd _ b.1 b.2
    have := hr.kept _ hk'
    omega)).2
  have h4 : sm (fun _ : Nat => (-12000 : Int)) n ≤ nS n nd (gx r) := sm_le fun v hv => by
    have := h.nb v (by omega) (by omega)
    have := hr.bd v (by omega) (by omega)
    generalize gx nd (v : Int) = a at *
    generalize gx r (v : Int) = b at *
    have h5 : -(200 * b) ≤ a * b := by
      have := Int.mul_le_mul_of_nonneg_right (show -200 ≤ a by omega) (show 0 ≤ b by omega)
      omega
    omega
  have h5 : ∀ n : Nat, sm (fun _ : Nat => (-12000 : Int)) n = -12000 * n := fun n => by
    induction n with
    | zero => rfl
    | succ n ih => show sm (fun _ : Nat => (-12000 : Int)) n + -12000 = _; rw [ih]; push_cast; omega
  rw [h5] at h4
  have h6 := sm_one (f := fun i : Nat => gx g (i : Int)) (n := l.length) (k := i.toNat) (fun k hk => h.pos _ ⟨by omega, by omega⟩) (by have := hi.1; have := hi.2; omega)
  rw [show ((i.toNat : Nat) : Int) = i by have := hi.1; omega] at h6
  have h7 : gx g i ≤ sF l g := h6
  omega

/-- What the search knows: D are the nodes found, the first of which are done. -/
structure Bfs (n : Nat) (l : List Link) (r nd g : List Int) (to : Int) (done queue : List Int) (came : GMap Int Int) (ord : Int → Nat) : Prop where
  nodup : (done ++ queue).Nodup
  rg : ∀ x ∈ done ++ queue, 0 ≤ x ∧ x < n
  has : ∀ x, came.has x = decide (x ∈ done ++ queue)
  tm : to ∈ done ++ queue
  ob : ∀ x ∈ done ++ queue, ord x < (done ++ queue).length
  via : ∀ x ∈ done ++ queue, x ≠ to → inR l (came.getD x 0) ∧ (((gx l (came.getD x 0)).From = x ∧ gx r (gx l (came.getD x 0)).To = gx r (gx l (came.getD x 0)).From + 1 ∧ (gx l (came.getD x 0)).To ∈ done ++ queue ∧ ord (gx l (came.getD x 0)).To < ord x) ∨
    ((gx l (came.getD x 0)).To = x ∧ 0 < gx g (came.getD x 0) ∧ (gx l (came.getD x 0)).From ∈ done ++ queue ∧ ord (gx l (came.getD x 0)).From < ord x))
  dn : ∀ x ∈ done, 0 ≤ gx nd x ∧ ∀ i, inR l i → ((gx l i).To = x → gx r (gx l i).To = gx r (gx l i).From + 1 → (gx l i).From ∈ done ++ queue) ∧ ((gx l i).From = x → 0 < gx g i → (gx l i).To ∈ done ++ queue)

/-- A node is found. -/
theorem Bfs.found {nd g : List Int} {to : Int} {done queue : List Int} {came : GMap Int Int} {ord : Int → Nat} (h : Bfs n l r nd g to done queue came ord) {x i : Int} (hx : 0 ≤ x ∧ x < n) (hnew : x ∉ done ++ queue) (hi : inR l i)
    (hv : ((gx l i).From = x ∧ gx r (gx l i).To = gx r (gx l i).From + 1 ∧ (gx l i).To ∈ done ++ queue) ∨ ((gx l i).To = x ∧ 0 < gx g i ∧ (gx l i).From ∈ done ++ queue)) :
    Bfs n l r nd g to done (queue ++ [x]) (came.set x i) (fun y => if y = x then (done ++ queue).length else ord y) := by
  have hm : ∀ y, y ∈ done ++ (queue ++ [x]) ↔ y ∈ done ++ queue ∨ y = x := fun y => by simp [or_assoc]
  have hlen : (done ++ (queue ++ [x])).length = (done ++ queue).length + 1 := by simp; omega
  have hne : ∀ y ∈ done ++ queue, y ≠ x := fun y hy e => hnew (e ▸ hy)
  constructor
  · rw [← List.append_assoc, List.nodup_append]
    exact ⟨h.nodup, by simp, fun a ha b hb => by simp at hb; subst hb; exact hne a ha⟩
  · intro y hy
    rcases (hm y).1 hy with k | k
    · exact h.rg y k
    · rw [k]; exact hx
  · intro y
    rw [set_has, h.has]
    by_cases e : y = x
    · have : y ∈ done ++ (queue ++ [x]) := (hm y).2 (.inr e)
      simp only [e, decide_true, Bool.true_or]
      rw [e] at this
      exact (decide_eq_true this).symm
    · simp only [e, decide_false, Bool.false_or]
      exact decide_eq_decide.2 ⟨fun k => (hm y).2 (.inl k), fun k => ((hm y).1 k).resolve_right e⟩
  · exact (hm to).2 (.inl h.tm)
  · intro y hy
    rw [hlen]
    show (if y = x then (done ++ queue).length else ord y) < _
    by_cases e : y = x
    · rw [if_pos e]; omega
    · rw [if_neg e]
      have := h.ob y (((hm y).1 hy).resolve_right e)
      omega
  · intro y hy hyt
    rw [set_getD]
    by_cases e : y = x
    · rw [if_pos e, if_pos e]
      refine ⟨hi, ?_⟩
      rcases hv with ⟨v1, v2, v3⟩ | ⟨v1, v2, v3⟩
      · left
        rw [if_neg (hne _ v3)]
        exact ⟨v1.trans e.symm, v2, (hm _).2 (.inl v3), h.ob _ v3⟩
      · right
        rw [if_neg (hne _ v3)]
        exact ⟨v1.trans e.symm, v2, (hm _).2 (.inl v3), h.ob _ v3⟩
    · rw [if_neg e, if_neg e]
      obtain ⟨w1, w2⟩ := h.via y (((hm y).1 hy).resolve_right e) hyt
      refine ⟨w1, ?_⟩
      rcases w2 with ⟨v1, v2, v3, v4⟩ | ⟨v1, v2, v3, v4⟩
      · left
        rw [if_neg (hne _ v3)]
        exact ⟨v1, v2, (hm _).2 (.inl v3), v4⟩
      · right
        rw [if_neg (hne _ v3)]
        exact ⟨v1, v2, (hm _).2 (.inl v3), v4⟩
  · intro y hy
    obtain ⟨w1, w2⟩ := h.dn y hy
    exact ⟨w1, fun i hi => ⟨fun a b => (hm _).2 (.inl ((w2 i hi).1 a b)), fun a b => (hm _).2 (.inl ((w2 i hi).2 a b))⟩⟩

/-- All links at a node. -/
theorem Bfs.links (hn : n ≤ 60) (hl : OKl n l) (hr : RanksOK n l c r fs) {nd g : List Int} (hN : Nd n l r nd g) {to : Int} {done queue : List Int} {came : GMap Int Int} {ord : Int → Nat} (h : Bfs n l r nd g to done queue came ord) {v : Int} (hv : v ∈ done ++ queue) :
    ∃ q' came' ord', rfor (l.length : Int) (ref_bring_L3 l v g r) (queue, came) = some (queue ++ q', came') ∧ Bfs n l r nd g to done (queue ++ q') came' ord' ∧
      ∀ i, inR l i → ((gx l i).To = v → gx r (gx l i).To = gx r (gx l i).From + 1 → (gx l i).From ∈ done ++ (queue ++ q')) ∧ ((gx l i).From = v → 0 < gx g i → (gx l i).To ∈ done ++ (queue ++ q')) := by
  have hll := hl.1
  have hrl := hr.len
  have hgl := hN.gl
  obtain ⟨s, e1, q', ord', e2, e3, e4⟩ := rfor_inv (n := (l.length : Int)) (step := ref_bring_L3 l v g r) (s0 := (queue, came))
    (fun k s => ∃ q' ord', s.1 = queue ++ q' ∧ Bfs n l r nd g to done s.1 s.2 ord' ∧ ∀ i, inR l i → i < k → ((gx l i).To = v → gx r (gx l i).To = gx r (gx l i).From + 1 → (gx l i).From ∈ done ++ s.1) ∧ ((gx l i).From = v → 0 < gx g i → (gx l i).To ∈ done ++ s.1)) (by omega)
    ⟨[], ord, by simp, h, fun i hi hlt => by have := hi.1; omega⟩ (fun k s hk hI => by
      obtain ⟨q', ord', i1, i2, i3⟩ := hI
      obtain ⟨q, ca⟩ := s
      simp only at i1 i2 i3
      subst i1
      have hj : inR l (k : Int) := ⟨by omega, hk⟩
      obtain ⟨a, b, d⟩ := hl.2 _ hj
      have ba := hr.bd _ a.1 a.2
      have hlen : (done ++ (queue ++ q')).length ≤ 60 := by
        have := nodup_few n _ i2.nodup i2.rg
        omega
      have hqlen : (queue ++ q').length ≤ 60 := by rw [List.length_append] at hlen; omega
      have hvD : v ∈ done ++ (queue ++ q') := by
        rcases List.mem_append.1 hv with w | w
        · exact List.mem_append_left _ w
        · exact List.mem_append_right _ (List.mem_append_left _ w)
      unfold ref_bring_L3
      simp only
      rw [need_of hj, bnd_eq, need_of (fun _ => ⟨b.1, by omega⟩), need_of (fun _ => ⟨a.1, by omega⟩), Wk (by omega) (by omega)]
      have old : ∀ (Q : List Int), (∀ y ∈ done ++ (queue ++ q'), y ∈ done ++ Q) → (((gx l (k : Int)).To = v → gx r (gx l (k : Int)).To = gx r (gx l (k : Int)).From + 1 → (gx l (k : Int)).From ∈ done ++ Q) ∧ ((gx l (k : Int)).From = v → 0 < gx g (k : Int) → (gx l (k : Int)).To ∈ done ++ Q)) →
          ∀ i, inR l i → i < ((k + 1 : Nat) : Int) → ((gx l i).To = v → gx r (gx l i).To = gx r (gx l i).From + 1 → (gx l i).From ∈ done ++ Q) ∧ ((gx l i).From = v → 0 < gx g i → (gx l i).To ∈ done ++ Q) := fun Q hQ hk' i hi hlt => by
        by_cases y : i = (k : Int)
        · subst y; exact hk'
        · obtain ⟨w1, w2⟩ := i3 i hi (by push_cast at hlt; omega)
          exact ⟨fun x y => hQ _ (w1 x y), fun x y => hQ _ (w2 x y)⟩
      -- what is found
      have fin : ∀ (x : Int), (0 ≤ x ∧ x < n) → (((gx l (k : Int)).From = x ∧ gx r (gx l (k : Int)).To = gx r (gx l (k : Int)).From + 1 ∧ (gx l (k : Int)).To ∈ done ++ (queue ++ q')) ∨ ((gx l (k : Int)).To = x ∧ 0 < gx g (k : Int) ∧ (gx l (k : Int)).From ∈ done ++ (queue ++ q'))) →
          (∀ Q : List Int, x ∈ done ++ Q → (((gx l (k : Int)).To = v → gx r (gx l (k : Int)).To = gx r (gx l (k : Int)).From + 1 → (gx l (k : Int)).From ∈ done ++ Q) ∧ ((gx l (k : Int)).From = v → 0 < gx g (k : Int) → (gx l (k : Int)).To ∈ done ++ Q))) →
          ∃ s', (bif decide (0 ≤ x) then (bif !(ca.has x) then (bnd (ca.set x (k : Int)) fun came2 => need (room ((queue ++ q').length + [x].length)) <| some ((queue ++ q') ++ [x], came2)) else some (queue ++ q', ca)) else some (queue ++ q', ca)) = some s' ∧
            ∃ q'' ord', s'.1 = queue ++ q'' ∧ Bfs n l r nd g to done s'.1 s'.2 ord' ∧ ∀ i, inR l i → i < ((k + 1 : Nat) : Int) → ((gx l i).To = v → gx r (gx l i).To = gx r (gx l i).From + 1 → (gx l i).From ∈ done ++ s'.1) ∧ ((gx l i).From = v → 0 < gx g i → (gx l i).To ∈ done ++ s'.1) := fun x hx hvia hin => by
        rw [decide_eq_true hx.1, cond_true, i2.has]
        by_cases m : x ∈ done ++ (queue ++ q')
        · rw [decide_eq_true m, Bool.not_true, cond_false]
          exact ⟨_, rfl, q', ord', rfl, i2, old _ (fun y hy => hy) (hin _ m)⟩
        · rw [decide_eq_false m, Bool.not_false, cond_true, bnd_eq, need_of (by rw [room_iff]; simp only [List.length_singleton]; omega)]
          refine ⟨_, rfl, q' ++ [x], _, by simp, i2.found hx m hj hvia, old _ (fun y hy => ?_) (hin _ (by simp))⟩
          rcases List.mem_append.1 hy with w | w
          · exact List.mem_append_left _ w
          · exact List.mem_append_right _ (List.mem_append_left _ w)
      by_cases c1 : (gx l (k : Int)).To = v ∧ gx r (gx l (k : Int)).To = gx r (gx l (k : Int)).From + 1
      · rw [decide_eq_true c1.1, decide_eq_true c1.2, Bool.and_self, cond_true, Option.bind_some]
        exact fin _ a (.inl ⟨rfl, c1.2, c1.1 ▸ hvD⟩) (fun Q hQ => ⟨fun _ _ => hQ, fun e _ => absurd (e.trans c1.1.symm) d⟩)
      · have e1 : (decide ((gx l (k : Int)).To = v) && decide (gx r (gx l (k : Int)).To = gx r (gx l (k : Int)).From + 1)) = false := by
          rw [← Bool.decide_and]; exact decide_eq_false c1
        rw [e1, cond_false, need_of (fun _ => ⟨by omega, by omega⟩)]
        by_cases c2 : (gx l (k : Int)).From = v ∧ 0 < gx g (k : Int)
        · rw [decide_eq_true c2.1, decide_eq_true c2.2, Bool.and_self, cond_true, Option.bind_some]
          exact fin _ b (.inr ⟨rfl, c2.2, c2.1 ▸ hvD⟩) (fun Q hQ => ⟨fun x y => absurd ⟨x, y⟩ c1, fun _ _ => hQ⟩)
        · have e2 : (decide ((gx l (k : Int)).From = v) && decide (0 < gx g (k : Int))) = false := by
            rw [← Bool.decide_and]; exact decide_eq_false c2
          rw [e2, cond_false, Option.bind_some, decide_eq_false (p := (0 : Int) ≤ -1) (by omega), cond_false]
          exact ⟨_, rfl, q', ord', rfl, i2, old _ (fun y hy => hy) ⟨fun x y => absurd ⟨x, y⟩ c1, fun x y => absurd ⟨x, y⟩ c2⟩⟩)
  obtain ⟨q, ca⟩ := s
  simp only at e2 e3 e4
  subst e2
  exact ⟨q', ca, ord', e1, e3, fun i hi => e4 i hi (by simpa using hi.2)⟩

/-- The way back. -/
theorem back_eq (hn : n ≤ 60) (hl : OKl n l) (hr : RanksOK n l c r fs) {nd g : List Int} (hN : Nd n l r nd g) {to : Int} {done queue : List Int} {came : GMap Int Int} {ord : Int → Nat} (h : Bfs n l r nd g to done queue came ord) {v : Int} (hv : v ∈ done ++ queue) (qs : List Int) :
    ∃ g', loop (ref_bring_L2 l (qs, came) to) (v, g) = some g' ∧ g'.length = l.length ∧ (∀ i, inR l i → 0 ≤ gx g' i) ∧ (∀ i, inR l i → 0 < gx g' i → gx r (gx l i).To = gx r (gx l i).From + 1) ∧ ∀ p : Int → Int, wS l g' p = wS l g p + p to - p v := by
  have hlen : (done ++ queue).length ≤ 60 := by
    have := nodup_few n _ h.nodup h.rg
    omega
  have hll := hl.1
  refine loop_inv (body := ref_bring_L2 l (qs, came) to) (s0 := (v, g))
    (fun st => st.1 ∈ done ++ queue ∧ st.2.length = l.length ∧ (∀ i, inR l i → 0 ≤ gx st.2 i ∧ gx st.2 i + ord st.1 ≤ 1000100) ∧ (∀ i, inR l i → 0 < gx st.2 i → gx r (gx l i).To = gx r (gx l i).From + 1) ∧ (∀ p : Int → Int, wS l st.2 p = wS l g p + p st.1 - p v) ∧
      ∀ w ∈ done ++ queue, w ≠ to → ord w ≤ ord st.1 → (gx l (came.getD w 0)).To = w → 1 ≤ gx st.2 (came.getD w 0)) (fun st => ord st.1) _
    ⟨hv, hN.gl, fun i hi => ⟨hN.pos i hi, by have := hN.gb hn hl hr hi; have := h.ob v hv; simp only; omega⟩, hN.tight, fun p => by simp only; omega, fun w hw hwt _ hto => by
      obtain ⟨w1, w2⟩ := h.via w hw hwt
      obtain ⟨_, _, d⟩ := hl.2 _ w1
      rcases w2 with ⟨v1, _⟩ | ⟨_, v2, _⟩
      · exact absurd (v1.trans hto.symm) d
      · simp only; omega⟩ (fun st hI => ?_)
  obtain ⟨i1, i2, i3, i4, i5, i6⟩ := hI
  obtain ⟨x, z⟩ := st
  simp only at i1 i2 i3 i4 i5 i6
  unfold ref_bring_L2
  simp only
  by_cases c : x = to
  · right
    rw [decide_eq_true c, Bool.not_true, cond_false]
    exact ⟨_, rfl, i2, fun i hi => (i3 i hi).1, i4, fun p => by rw [i5, c]⟩
  · left
    obtain ⟨w1, w2⟩ := h.via x i1 c
    obtain ⟨a, b, d⟩ := hl.2 _ w1
    have hz : inR z (came.getD x 0) := ⟨w1.1, by rw [i2]; exact w1.2⟩
    have hb := i3 _ w1
    rw [decide_eq_false c, Bool.not_false, cond_true, bnd_eq, need_of w1]
    rcases w2 with ⟨v1, v2, v3, v4⟩ | ⟨v1, v2, v3, v4⟩
    · rw [decide_eq_true v1, cond_true, need_of hz, Wk (by omega) (by omega), bnd_eq, need_of hz, bnd_eq, need_of w1, bnd_eq]
      refine ⟨_, rfl, ⟨v3, by simp [i2], fun i hi => ?_, fun i hi => ?_, fun p => ?_, fun w hw hwt hle hto => ?_⟩, v4⟩
      · simp only
        rw [gx_setJ hz hi.1]
        have := i3 i hi
        split
        · rename_i e; subst e; omega
        · omega
      · simp only
        rw [gx_setJ hz hi.1]
        split
        · rename_i e; subst e; exact fun _ => v2
        · exact i4 i hi
      · simp only
        rw [wS_set i2 w1, i5, show gx z (came.getD x 0) + 1 - gx z (came.getD x 0) = 1 by omega, Int.one_mul, v1]; omega
      · simp only at hle ⊢
        obtain ⟨u1, _⟩ := h.via w hw hwt
        rw [gx_setJ hz u1.1]
        have := i6 w hw hwt (by omega) hto
        split
        · rename_i e; rw [e] at this; omega
        · exact this
    · have hne : ¬ (gx l (came.getD x 0)).From = x := fun e => d (e.trans v1.symm)
      have h1 := i6 x i1 c (Nat.le_refl _) v1
      rw [decide_eq_false hne, cond_false, need_of hz, Wk (by omega) (by omega), bnd_eq, need_of hz, bnd_eq, need_of w1, bnd_eq]
      refine ⟨_, rfl, ⟨v3, by simp [i2], fun i hi => ?_, fun i hi => ?_, fun p => ?_, fun w hw hwt hle hto => ?_⟩, v4⟩
      · simp only
        rw [gx_setJ hz hi.1]
        have := i3 i hi
        split
        · rename_i e; subst e; omega
        · omega
      · simp only
        rw [gx_setJ hz hi.1]
        split
        · rename_i e; subst e; exact fun _ => i4 _ w1 (by omega)
        · exact i4 i hi
      · simp only
        rw [wS_set i2 w1, i5, show gx z (came.getD x 0) - 1 - gx z (came.getD x 0) = -1 by omega, Int.neg_one_mul, v1]; omega
      · simp only at hle ⊢
        obtain ⟨u1, _⟩ := h.via w hw hwt
        rw [gx_setJ hz u1.1]
        have := i6 w hw hwt (by omega) hto
        split
        · rename_i e
          rw [e, v1] at hto
          subst hto; omega
        · exact this

theorem loop_invG {σ ρ : Type} {body : σ → Option (Step σ ρ)} {s0 : σ} {k0 : Nat} (I : Nat → σ → Prop) (post : ρ → Prop) (h0 : I k0 s0)
    (hs : ∀ k s, I k s → (∃ s' k', body s = some (.again s') ∧ I k' s' ∧ k' < k) ∨ ∃ e, body s = some (.done e) ∧ post e) : ∃ e, loop body s0 = some e ∧ post e := by
  have key : ∀ (k : Nat) (s : σ), I k s → ∃ e, loop body s = some e ∧ post e := by
    intro k
    induction k using Nat.strongRecOn with
    | _ k ih =>
      intro s hI
      rcases hs k s hI with ⟨s', k', h1, h2, h3⟩ | ⟨e, h1, h2⟩
      · obtain ⟨e, h4, h5⟩ := ih k' h3 s' h2
        exact ⟨e, by rw [loop_again h1, h4], h5⟩
      · exact ⟨e, loop_done h1, h2⟩
  exact key k0 s0 h0
theorem Bfs.pop {nd g : List Int} {to v : Int} {done queue : List Int} {came : GMap Int Int} {ord : Int → Nat} (h : Bfs n l r nd g to done (v :: queue) came ord) (hv : 0 ≤ gx nd v)
    (hc : ∀ i, inR l i → ((gx l i).To = v → gx r (gx l i).To = gx r (gx l i).From + 1 → (gx l i).From ∈ done ++ (v :: queue)) ∧ ((gx l i).From = v → 0 < gx g i → (gx l i).To ∈ done ++ (v :: queue))) :
    Bfs n l r nd g to (done ++ [v]) queue came ord := by
  have e : (done ++ [v]) ++ queue = done ++ (v :: queue) := by simp
  refine ⟨by rw [e]; exact h.nodup, by rw [e]; exact h.rg, by rw [e]; exact h.has, by rw [e]; exact h.tm, by rw [e]; exact h.ob, by rw [e]; exact h.via, fun x hx => ?_⟩
  rw [e]
  rcases List.mem_append.1 hx with w | w
  · exact h.dn x w
  · simp at w; subst w; exact ⟨hv, hc⟩
/-- The search does not fail. -/
theorem Bfs.cut (hl : OKl n l) (hr : RanksOK n l c r fs) {nd g : List Int} (hN : Nd n l r nd g) {to : Int} {done : List Int} {came : GMap Int Int} {ord : Int → Nat} (h : Bfs n l r nd g to done [] came ord) (hpos : 0 < gx nd to) : False := by
  have e : done ++ [] = done := List.append_nil _
  have hdn := h.dn
  have htm := h.tm
  have hrg := h.rg
  rw [e] at htm hrg
  rw [e] at hdn
  have hto := hrg to htm
  let p : Int → Int := fun v => if v ∈ done then 1 else 0
  have pin : ∀ v, v ∈ done → p v = 1 := fun v hv => if_pos hv
  have pout : ∀ v, v ∉ done → p v = 0 := fun v hv => if_neg hv
  have p01 : ∀ v, p v = 0 ∨ p v = 1 := fun v => by
    by_cases hv : v ∈ done
    · exact .inr (pin v hv)
    · exact .inl (pout v hv)
  have h1 : 1 ≤ nS n nd p := by
    have := sm_one (f := fun v : Nat => gx nd (v : Int) * p (v : Int)) (n := n) (k := to.toNat) (fun v hv => by
      by_cases w : (v : Int) ∈ done
      · rw [pin _ w, Int.mul_one]; exact (hdn _ w).1
      · rw [pout _ w, Int.mul_zero]; exact Int.le_refl _) (by omega)
    have h2 : gx nd to * p to ≤ nS n nd p := by
      rw [show ((to.toNat : Nat) : Int) = to by omega] at this
      exact this
    rw [pin _ htm, Int.mul_one] at h2
    omega
  have h2 : wS l g p = 0 := by
    have : wS l g p = sm (fun _ => 0) l.length := sm_congr fun k hk => by
      have hk' : inR l (k : Int) := ⟨by omega, by omega⟩
      have hp := hN.pos _ hk'
      rcases Int.lt_or_le 0 (gx g (k : Int)) with y | y
      · have ht := hN.tight _ hk' y
        by_cases w : (gx l (k : Int)).From ∈ done
        · rw [pin _ w, pin _ (((hdn _ w).2 _ hk').2 rfl y)]; simp
        · have w' : (gx l (k : Int)).To ∉ done := fun hh => w (((hdn _ hh).2 _ hk').1 rfl ht)
          rw [pout _ w, pout _ w']; simp
      · rw [show gx g (k : Int) = 0 by omega, Int.zero_mul]
    rw [this, sm_zero]
  have h3 : wS l fs p ≤ 0 := by
    have : wS l fs p ≤ sm (fun _ => 0) l.length := sm_le fun k hk => by
      have hk' : inR l (k : Int) := ⟨by omega, by omega⟩
      have hp := hr.flow.pos _ hk'
      rcases Int.lt_or_le 0 (gx fs (k : Int)) with y | y
      · have ht := hr.tight _ hk' y
        have hle : p (gx l (k : Int)).To - p (gx l (k : Int)).From ≤ 0 := by
          by_cases w : (gx l (k : Int)).To ∈ done
          · rw [pin _ w, pin _ (((hdn _ w).2 _ hk').1 rfl ht)]; omega
          · rw [pout _ w]
            rcases p01 (gx l (k : Int)).From with q | q <;> rw [q] <;> omega
        have := Int.mul_le_mul_of_nonneg_left hle hp
        simpa using this
      · rw [show gx fs (k : Int) = 0 by omega, Int.zero_mul]; exact Int.le_refl _
    rw [sm_zero] at this; exact this
  have h4 := hN.bal p
  rw [hr.flow.con] at h3
  omega

theorem bring_eq (hn : n ≤ 60) (hl : OKl n l) (hr : RanksOK n l c r fs) {nd g : List Int} (hN : Nd n l r nd g) {to : Int} (t0 : 0 ≤ to) (t1 : to < n) (hpos : 0 < gx nd to) :
    ∃ nd' g', ref_bring to l r nd g = some (true, nd', g') ∧ Nd n l r nd' g' ∧ gx nd' to = gx nd to - 1 := by
  have hll := hl.1
  have hnl := hN.nl
  unfold ref_bring
  rw [bnd_eq, bnd_eq]
  obtain ⟨e, e1, nd', g', e2, e3, e4⟩ := loop_invG (body := ref_bring_L1 l to g nd r) (s0 := ([to], (GMap.nil : GMap Int Int).set to (-1))) (k0 := n)
    (fun k st => ∃ done ord, Bfs n l r nd g to done st.1 st.2 ord ∧ k = n - done.length) (fun e => ∃ nd' g', e = Res.ab (true, nd', g') ∧ Nd n l r nd' g' ∧ gx nd' to = gx nd to - 1) ⟨[], fun _ => 0, by
      refine ⟨by simp, fun x hx => ?_, fun x => ?_, by simp, fun x hx => by simp, fun x hx hxt => ?_, fun x hx => by simp at hx⟩
      · simp at hx; subst hx; exact ⟨t0, t1⟩
      · rw [set_has]
        have : (GMap.nil : GMap Int Int).has x = false := rfl
        rw [this]; simp
      · simp at hx; exact absurd hx hxt, by simp⟩ (fun k st hI => by
      obtain ⟨done, ord, h, rfl⟩ := hI
      obtain ⟨queue, came⟩ := st
      simp only at h
      cases queue with
      | nil => exact (h.cut hl hr hN hpos).elim
      | cons v q =>
        have hvD : v ∈ done ++ v :: q := by simp
        have hv := h.rg v hvD
        have hvr : inR nd v := ⟨hv.1, by omega⟩
        have hvb := hN.nb v hv.1 hv.2
        have htb := hN.nb to t0 t1
        have g0 : gx (v :: q) 0 = v := rfl
        have hdl : (done ++ v :: q).length ≤ n := nodup_few n _ h.nodup h.rg
        unfold ref_bring_L1
        simp only
        rw [decide_eq_true (p := (0 : Int) < (((v :: q).length : Nat) : Int)) (by simp), cond_true, need_of ⟨by omega, by simp⟩, bnd_eq, g0, need_of hvr]
        by_cases c1 : gx nd v < 0
        · right
          have hne : v ≠ to := fun e => by subst e; omega
          obtain ⟨g', b1, b2, b3, b4, b5⟩ := back_eq hn hl hr hN h hvD (v :: q)
          have htr : inR (nd.set v.toNat (gx nd v + 1)) to := ⟨t0, by simp; omega⟩
          have hg2 : gx (nd.set v.toNat (gx nd v + 1)) to = gx nd to := by rw [gx_setJ hvr t0, if_neg (fun e => hne e.symm)]
          rw [decide_eq_true c1, cond_true, need_of hvr, Wk (by omega) (by omega), bnd_eq, need_of hvr, bnd_eq, need_of htr, hg2, Wk (by omega) (by omega), bnd_eq, need_of htr, bnd_eq, b1, Option.bind_some, bindR_ab, bindR_ab]
          refine ⟨_, rfl, _, g', rfl, ⟨by simp [hnl], fun x x0 x1 => ?_, b2, b3, b4, fun p => ?_⟩, ?_⟩
          · rw [gx_setJ htr x0, gx_setJ hvr x0]
            have := hN.nb x x0 x1
            split
            · omega
            · split <;> omega
          · rw [nS_set (by simp [hnl]) t0 t1, nS_set hnl hv.1 hv.2, b5, hg2, show gx nd v + 1 - gx nd v = 1 by omega, show gx nd to - 1 - gx nd to = -1 by omega, Int.one_mul, Int.neg_one_mul]
            have := hN.bal p
            omega
          · rw [gx_setJ htr t0, if_pos rfl]
        · left
          obtain ⟨q', came', ord', k1, k2, k3⟩ := h.links hn hl hr hN hvD
          rw [decide_eq_false c1, cond_false, bindR_nx, k1, Option.bind_some, bindR_nx, need_of ⟨by omega, by simp; omega, by simp⟩]
          have hseg : seg (v :: q ++ q') 1 ((v :: q ++ q').length : Int) = q ++ q' := by
            unfold seg
            rw [Int.toNat_natCast, List.take_length]; rfl
          rw [hseg]
          refine ⟨_, _, rfl, ⟨done ++ [v], ord', Bfs.pop (by simpa using k2) (by omega) (fun i hi => by simpa using k3 i hi), rfl⟩, ?_⟩
          simp at hdl ⊢; omega)
  subst e2
  rw [e1, bindR_ab]
  exact ⟨nd', g', rfl, e3, e4⟩

theorem AreLeast_eq (hn : 1 ≤ n ∧ n ≤ 60) (hl : OKl n l) (hr : RanksOK n l c r fs) : ref_AreLeast (n : Int) l r = some true := by
  have hll := hl.1
  unfold ref_AreLeast
  rw [need_of ⟨by omega, by omega, by omega⟩, bnd_eq]
  have hz : ∀ v : Int, 0 ≤ v → v < n → gx (List.replicate (n : Int).toNat (0 : Int)) v = 0 := fun v v0 v1 => by
    obtain ⟨k, rfl⟩ : ∃ k : Nat, v = k := ⟨v.toNat, by omega⟩
    rw [gx_nat (by simp; omega)]; simp
  obtain ⟨nd, e1, e2, e3, e4⟩ := rfor_inv (n := (l.length : Int)) (step := ref_AreLeast_L1 l) (s0 := List.replicate (n : Int).toNat (0 : Int))
    (fun i s => s.length = n ∧ (∀ v : Int, 0 ≤ v → v < n → -(i : Int) ≤ gx s v ∧ gx s v ≤ i) ∧ ∀ p : Int → Int, nS n s p = sm (fun i : Nat => p (gx l (i : Int)).To - p (gx l (i : Int)).From) i) (by omega)
    ⟨by simp, fun v v0 v1 => by rw [hz v v0 v1]; omega, fun p => by
      have : nS n (List.replicate (n : Int).toNat (0 : Int)) p = sm (fun _ => 0) n := sm_congr fun v hv => by rw [hz v (by omega) (by omega), Int.zero_mul]
      rw [this, sm_zero]; rfl⟩ (fun i s hi hI => by
      obtain ⟨i1, i2, i3⟩ := hI
      have hj : inR l (i : Int) := ⟨by omega, hi⟩
      obtain ⟨a, b, d⟩ := hl.2 _ hj
      have hb : inR s (gx l (i : Int)).To := ⟨b.1, by omega⟩
      have bb := i2 _ b.1 b.2
      have ba := i2 _ a.1 a.2
      have ha : inR (s.set (gx l (i : Int)).To.toNat (gx s (gx l (i : Int)).To + 1)) (gx l (i : Int)).From := ⟨a.1, by simp; omega⟩
      have hg : gx (s.set (gx l (i : Int)).To.toNat (gx s (gx l (i : Int)).To + 1)) (gx l (i : Int)).From = gx s (gx l (i : Int)).From := by rw [gx_setJ hb a.1, if_neg d]
      unfold ref_AreLeast_L1
      rw [need_of hj, bnd_eq, need_of hb, Wk (by omega) (by omega), bnd_eq, need_of hb, bnd_eq, need_of ha, hg, Wk (by omega) (by omega), bnd_eq, need_of ha]
      refine ⟨_, rfl, by simp [i1], fun v v0 v1 => ?_, fun p => ?_⟩
      · rw [gx_setJ ha v0, gx_setJ hb v0]
        have := i2 v v0 v1
        push_cast
        split
        · omega
        · split <;> omega
      · rw [nS_set (by simp [i1]) a.1 a.2, nS_set i1 b.1 b.2, hg, i3, show gx s (gx l (i : Int)).To + 1 - gx s (gx l (i : Int)).To = 1 by omega, show gx s (gx l (i : Int)).From - 1 - gx s (gx l (i : Int)).From = -1 by omega, Int.one_mul, Int.neg_one_mul]
        show _ = _ + (p (gx l (i : Int)).To - p (gx l (i : Int)).From)
        omega)
  rw [e1, Option.bind_some, bnd_eq, need_of ⟨by omega, by omega, by omega⟩, bnd_eq]
  have hz2 : ∀ i, inR l i → gx (List.replicate (l.length : Int).toNat (0 : Int)) i = 0 := fun i hi => by
    obtain ⟨k, rfl⟩ : ∃ k : Nat, i = k := ⟨i.toNat, by have := hi.1; omega⟩
    have := hi.2
    rw [gx_nat (by simp; omega)]; simp
  simp only [Int.toNat_natCast] at e3 e4
  have h0 : Nd n l r nd (List.replicate (l.length : Int).toNat (0 : Int)) := ⟨e2, fun v v0 v1 => by have := e3 v v0 v1; omega, by simp, fun i hi => by rw [hz2 i hi]; omega, fun i hi hp => by rw [hz2 i hi] at hp; omega, fun p => by
    have : wS l (List.replicate (l.length : Int).toNat (0 : Int)) p = sm (fun _ => 0) l.length := sm_congr fun i hi => by rw [hz2 i ⟨by omega, by omega⟩, Int.zero_mul]
    rw [e4, this, sm_zero]; unfold baS; omega⟩
  obtain ⟨e, f1, f2⟩ := rforE_inv (n := (n : Int)) (step := ref_AreLeast_L2 l r) (fin := fun s => (Res.nx s : Res (List Int × List Int) Bool)) (s0 := (nd, List.replicate (l.length : Int).toNat (0 : Int))) (fun i s => Nd n l r s.1 s.2) (fun e => ∃ s, e = Res.nx s) (by omega) h0 (fun i s hi hI => by
    left
    unfold ref_AreLeast_L2
    obtain ⟨e, k1, s', k2, k3⟩ := loop_invG (body := ref_AreLeast_L3 l ((i : Int), s) r) (s0 := (s.1, s.2)) (k0 := (gx s.1 (i : Int)).toNat) (fun k st => Nd n l r st.1 st.2 ∧ k = (gx st.1 (i : Int)).toNat) (fun e => ∃ s', e = Res.nx s' ∧ Nd n l r s'.1 s'.2) ⟨hI, rfl⟩ (fun k st hst => by
      obtain ⟨h1, rfl⟩ := hst
      have hir : inR st.1 (i : Int) := ⟨by omega, by rw [h1.nl]; exact hi⟩
      unfold ref_AreLeast_L3
      simp only
      rw [need_of hir]
      by_cases c1 : 0 < gx st.1 (i : Int)
      · left
        obtain ⟨nd', g', b1, b2, b3⟩ := bring_eq hn.2 hl hr h1 (to := (i : Int)) (by omega) hi c1
        rw [decide_eq_true c1, cond_true, b1, Option.bind_some]
        exact ⟨_, _, rfl, ⟨b2, rfl⟩, by simp only; omega⟩
      · right
        rw [decide_eq_false c1, cond_false]
        exact ⟨_, rfl, _, rfl, h1⟩)
    subst k2
    exact ⟨s', k1, k3⟩) (fun s hs => ⟨s, rfl⟩)
  obtain ⟨s, rfl⟩ := f2
  rw [f1, bindR_nx]
end
end Go.DB
