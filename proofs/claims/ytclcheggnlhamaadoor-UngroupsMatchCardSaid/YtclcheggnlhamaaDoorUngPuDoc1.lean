/-
  Diagrams, in plain words: names, what is where, the view of a diagram.
-/
import Derived.Test.YtclcheggnlhamaaDoorUngPuRef
import Derived.Test.YtclcheggnlhamaaDoorUngPuTErr
import Derived.Test.YtclcheggnlhamaaDoorUngPuBox
import Derived.Test.YtclcheggnlhamaaDoorExTrim
set_option linter.unusedSimpArgs false
set_option linter.unusedVariables false
namespace Go.DB
open Go Go.RowKit

/-! Loops. -/

/-- A loop that gathers. -/
theorem rfor_gather {α β : Type} [Inhabited α] {l : List α} {step : Int → List β → Option (List β)} (g : α → List β) (s0 : List β) (hg : ∀ a ∈ l, (g a).length ≤ 1) (hl : s0.length + l.length ≤ 1073741824)
    (hf : ∀ i s, inR l i → (s.length : Int) < 1073741824 → step i s = some (s ++ g (gx l i))) : rfor (l.length : Int) step s0 = some (s0 ++ l.flatMap g) := by
  obtain ⟨s, h1, h2⟩ := rfor_inv (n := (l.length : Int)) (step := step) (s0 := s0) (fun i s => s = s0 ++ (l.take i).flatMap g ∧ s.length ≤ s0.length + i) (by omega) (by simp) (fun i s hi hI => by
    have hi' : i < l.length := by omega
    refine ⟨_, hf i s ⟨by omega, by omega⟩ (by omega), ?_, ?_⟩
    · rw [gx_nat hi', hI.1, List.take_succ_eq_append_getElem hi', List.flatMap_append, List.append_assoc]; simp
    · rw [gx_nat hi', List.length_append]
      have := hg _ (List.getElem_mem hi')
      omega)
  rw [h1, h2.1]; simp

/-- A loop whose state is told by the place; it looks for an error. -/
theorem rforE_errS {σ O : Type} {n : Nat} {step : Int → σ → Option (Res σ O)} {fin : σ → O} (S : Nat → σ) (err : Nat → Int) (mk : Int → O) (hn : (n : Int) ≤ 9223372036854775807)
    (hf : ∀ i : Nat, i < n → (∀ j, j < i → err j = 0) → step i (S i) = some (if err i = 0 then .nx (S (i + 1)) else .ab (mk (err i)))) :
    rforE (n : Int) step fin (S 0) = some (if firstErr ((List.range n).map err) = 0 then fin (S n) else mk (firstErr ((List.range n).map err))) := by
  have hfe : ∀ (k i : Nat), firstErr ((List.range' i k).map err) = 0 ∨ ∃ j, i ≤ j ∧ j < i + k ∧ (∀ q, i ≤ q → q < j → err q = 0) ∧ err j ≠ 0 ∧ firstErr ((List.range' i k).map err) = err j := by
    intro k
    induction k with
    | zero => intro i; left; rfl
    | succ k ih =>
      intro i
      rw [List.range'_succ, List.map_cons, firstErr_cons]
      by_cases h : err i = 0
      · rw [if_pos h]
        rcases ih (i + 1) with h1 | ⟨j, h1, h2, h3, h4, h5⟩
        · exact .inl h1
        · refine .inr ⟨j, by omega, by omega, fun q q1 q2 => ?_, h4, h5⟩
          by_cases hq : q = i
          · rw [hq]; exact h
          · exact h3 q (by omega) q2
      · rw [if_neg h]
        exact .inr ⟨i, Nat.le_refl _, by omega, fun q q1 q2 => by omega, h, rfl⟩
  obtain ⟨e, h1, h2⟩ := rforE_inv (n := (n : Int)) (step := step) (fin := fin) (s0 := S 0) (fun i s => s = S i ∧ ∀ j, j < i → err j = 0)
    (fun e => e = if firstErr ((List.range n).map err) = 0 then fin (S n) else mk (firstErr ((List.range n).map err))) hn ⟨rfl, fun j h => by omega⟩ (fun i s hi hI => by
      obtain ⟨rfl, hz⟩ := hI
      have hi' : i < n := by omega
      rw [hf i hi' hz]
      by_cases he : err i = 0
      · left
        rw [if_pos he]
        refine ⟨_, rfl, rfl, fun j hj => ?_⟩
        by_cases hj' : j = i
        · rw [hj']; exact he
        · exact hz j (by omega)
      · right
        rw [if_neg he]
        refine ⟨_, rfl, ?_⟩
        have := hfe n 0
        rw [List.range_eq_range']
        rcases this with h1 | ⟨j, a1, a2, a3, a4, a5⟩
        · have := firstErr_zero.1 h1 (err i) (List.mem_map.2 ⟨i, by simp; exact hi', rfl⟩)
          exact absurd this he
        · rw [a5, if_neg a4]
          have : j = i := by
            rcases Nat.lt_trichotomy j i with c | c | c
            · exact absurd (hz j c) a4
            · exact c
            · exact absurd (a3 i (by omega) c) he
          rw [this]) (fun s hI => by
      obtain ⟨rfl, hz⟩ := hI
      have : firstErr ((List.range n).map err) = 0 := firstErr_zero.2 (fun e he => by
        obtain ⟨j, hj, rfl⟩ := List.mem_map.1 he
        exact hz j (by simpa using hj))
      rw [if_pos this]; rfl)
  rw [h1, h2]

/-! Names. -/

def lowC (c : UInt8) : Bool := decide (97 ≤ c.toNat) && decide (c.toNat ≤ 122)
def nameC (c : UInt8) : Bool := lowC c || (decide (48 ≤ c.toNat) && decide (c.toNat ≤ 57)) || decide (c.toNat = 45)
/-- What a name is. -/
def nameB (s : Str) : Bool := decide (s.b.length ≤ 40) && (match s.b with | [] => false | c :: l => lowC c && l.all nameC)
theorem nameB_ne {s : Str} (h : nameB s = true) : s ≠ Str.nil := by
  rintro rfl
  simp [nameB, Str.nil] at h

theorem trim_nil (l cs : List UInt8) : Go.Lib.trimS l cs = [] ↔ l.all (cs.contains ·) = true := by
  have hd : ∀ (m : List UInt8), m.dropWhile (cs.contains ·) = [] ↔ m.all (cs.contains ·) = true := by
    intro m
    induction m with
    | nil => simp
    | cons c m ih =>
      rw [List.dropWhile_cons, List.all_cons]
      cases h : cs.contains c with
      | true => simp only [if_true, Bool.true_and]; exact ih
      | false => simp
  unfold Go.Lib.trimS Go.Lib.trimLeftS
  rw [hd]
  unfold Go.Lib.trimRightS
  constructor
  · intro h
    -- what is left ends with a byte that is not in cs
    cases hq : l.reverse.dropWhile (cs.contains ·) with
    | nil =>
      have := (hd l.reverse).1 hq
      simpa using this
    | cons c m =>
      have hc : cs.contains c = false := by
        have := List.head?_dropWhile_not (cs.contains ·) l.reverse
        rw [hq] at this
        simpa using this
      rw [hq] at h
      have : c ∈ (c :: m).reverse := by simp
      have := List.all_eq_true.1 h c this
      rw [hc] at this; cases this
  · intro h
    have : l.reverse.dropWhile (cs.contains ·) = [] := (hd _).2 (by simpa using h)
    rw [this]; rfl

theorem nameC_mem (c : UInt8) : ([97, 98, 99, 100, 101, 102, 103, 104, 105, 106, 107, 108, 109, 110, 111, 112, 113, 114, 115, 116, 117, 118, 119, 120, 121, 122, 48, 49, 50, 51, 52, 53, 54, 55, 56, 57, 45] : List UInt8).contains c = nameC c := by
  have h : ∀ n, n < 256 → ([97, 98, 99, 100, 101, 102, 103, 104, 105, 106, 107, 108, 109, 110, 111, 112, 113, 114, 115, 116, 117, 118, 119, 120, 121, 122, 48, 49, 50, 51, 52, 53, 54, 55, 56, 57, 45] : List UInt8).contains (UInt8.ofNat n) = nameC (UInt8.ofNat n) := by decide +kernel
  have := h c.toNat (UInt8.toNat_lt c)
  simpa using this

theorem low_int (c : UInt8) : (decide ((97 : Int) ≤ (c.toNat : Int)) && decide ((c.toNat : Int) ≤ 122)) = lowC c := by
  unfold lowC
  congr 1 <;> simp only [decide_eq_decide] <;> omega
theorem dig_int (c : UInt8) : (decide ((48 : Int) ≤ (c.toNat : Int)) && decide ((c.toNat : Int) ≤ 57)) = (decide (48 ≤ c.toNat) && decide (c.toNat ≤ 57)) := by
  congr 1 <;> simp only [decide_eq_decide] <;> omega
theorem dash_int (c : UInt8) : decide ((c.toNat : Int) = 45) = decide (c.toNat = 45) := by simp only [decide_eq_decide]; omega

theorem isName_eq (s : Str) : page_isName s = some (nameB s) := by
  obtain ⟨b⟩ := s
  unfold page_isName
  cases b with
  | nil => simp [need, Str.nil, nameB, gd, strings_Trim]
  | cons c l =>
    have hne : (⟨c :: l⟩ : Str) ≠ Str.nil := by simp [Str.nil]
    have hg : gx (c :: l) 0 = c := by simp [gx]
    have hin : inR (c :: l) 0 := ⟨by omega, by simp⟩
    rw [need_of (fun _ => hin), need_of (fun _ _ => hin)]
    simp only [hg, decide_eq_false hne, Bool.not_false, Bool.true_and]
    rw [low_int]
    unfold strings_Trim
    rw [need_of ⟨by decide, by decide⟩]
    have ht : decide (trimS ⟨c :: l⟩ (⟨[97, 98, 99, 100, 101, 102, 103, 104, 105, 106, 107, 108, 109, 110, 111, 112, 113, 114, 115, 116, 117, 118, 119, 120, 121, 122, 48, 49, 50, 51, 52, 53, 54, 55, 56, 57, 45]⟩ : Str) = Str.nil) = (c :: l).all nameC := by
      rw [Bool.eq_iff_iff, decide_eq_true_eq]
      unfold trimS Str.nil
      rw [Str.mk.injEq, trim_nil]
      have : (fun x => ([97, 98, 99, 100, 101, 102, 103, 104, 105, 106, 107, 108, 109, 110, 111, 112, 113, 114, 115, 116, 117, 118, 119, 120, 121, 122, 48, 49, 50, 51, 52, 53, 54, 55, 56, 57, 45] : List UInt8).contains x) = nameC := funext nameC_mem
      rw [this]
    have hlen : decide (((c :: l).length : Int) ≤ 40) = decide ((c :: l).length ≤ 40) := by simp only [decide_eq_decide]; omega
    unfold nameB
    simp only [hlen]
    cases hA : decide ((c :: l).length ≤ 40) with
    | false => simp [gd]
    | true =>
      cases hB : lowC c with
      | false => simp [gd]
      | true =>
        simp only [Bool.and_self, gd_true, Option.bind_some, Bool.true_and, ht, List.all_cons]
        have : nameC c = true := by simp [nameC, hB]
        rw [this, Bool.true_and]
theorem NameOf_eq {s : Str} (hs : fits s) : ref_NameOf s = some (nameB s) := by
  have hl : (s.b.length : Int) ≤ 9223372036854775807 := by have : s.b.length ≤ 9223372036854775807 := hs; omega
  obtain ⟨b⟩ := s
  unfold ref_NameOf
  simp only at hl ⊢
  let ok : Nat → Bool := fun i => match i with | 0 => lowC (gx b 0) | i + 1 => nameC (gx b ((i + 1 : Nat) : Int))
  have := rforE_errS (n := b.length) (step := ref_NameOf_L1 ⟨b⟩) (fin := fun s => (Res.nx s : Res Unit Bool)) (fun _ => ()) (fun i => if ok i = true then 0 else 1) (fun _ => Res.ab false) hl (fun i hi _ => by
    unfold ref_NameOf_L1
    have hin : inR b (i : Int) := ⟨by omega, by omega⟩
    rw [need_of hin, bnd_eq]
    simp only
    generalize hc : gx b (i : Int) = c
    rw [low_int, dig_int, dash_int]
    cases i with
    | zero =>
      have : ok 0 = lowC c := by show lowC (gx b 0) = _; rw [← hc]; rfl
      rw [this]
      cases lowC c <;> simp
    | succ i =>
      have : ok (i + 1) = nameC c := by show nameC (gx b ((i + 1 : Nat) : Int)) = _; rw [hc]
      rw [this]
      have h0 : decide (((i + 1 : Nat) : Int) = 0) = false := decide_eq_false (by omega)
      rw [h0]
      unfold nameC
      cases lowC c <;> cases (decide (48 ≤ c.toNat) && decide (c.toNat ≤ 57)) <;> cases decide (c.toNat = 45) <;> simp)
  rw [this]
  have hall : firstErr ((List.range b.length).map (fun i => if ok i = true then (0 : Int) else 1)) = 0 ↔ ∀ i, i < b.length → ok i = true := by
    rw [firstErr_zero]
    constructor
    · intro h i hi
      have := h _ (List.mem_map.2 ⟨i, by simpa using hi, rfl⟩)
      by_cases c : ok i = true
      · exact c
      · rw [if_neg c] at this; cases this
    · intro h e he
      obtain ⟨i, hi, rfl⟩ := List.mem_map.1 he
      rw [if_pos (h i (by simpa using hi))]
  cases b with
  | nil => simp [nameB, Str.nil]
  | cons c l =>
    have hok : (∀ i, i < (c :: l).length → ok i = true) ↔ (lowC c && l.all nameC) = true := by
      rw [Bool.and_eq_true, List.all_eq_true]
      constructor
      · intro h
        refine ⟨h 0 (by simp), fun x hx => ?_⟩
        obtain ⟨j, hj, rfl⟩ := List.mem_iff_getElem.1 hx
        have := h (j + 1) (by simp; exact hj)
        have e : gx (c :: l) ((j + 1 : Nat) : Int) = l[j] := by rw [gx_nat (by simp; exact hj)]; rfl
        rw [← e]; exact this
      · rintro ⟨h1, h2⟩ i hi
        cases i with
        | zero => exact h1
        | succ i =>
          show nameC (gx (c :: l) ((i + 1 : Nat) : Int)) = true
          rw [gx_nat hi]
          exact h2 _ (by simp)
    have hne : (⟨c :: l⟩ : Str) ≠ Str.nil := by simp [Str.nil]
    unfold nameB
    by_cases h : (lowC c && l.all nameC) = true
    · rw [if_pos (hall.2 (hok.2 h))]
      simp only [bindR_nx, decide_eq_false hne, h, Bool.not_false, Bool.true_and, Bool.and_true]
      congr 1
      simp only [decide_eq_decide]; omega
    · have h' : (lowC c && l.all nameC) = false := by simpa using h
      rw [if_neg (fun e => h (hok.1 (hall.1 e)))]
      simp [h']

/-! What is where. -/

/-- The place of a node, or -1. -/
def nodeAt (l : List DNode) (id : Str) : Int := match l.findIdx? (fun n => decide (n.Id = id)) with | some i => (i : Int) | none => -1
theorem IndexFunc_Node_eq (s : List DNode) (f : DNode → Option Bool) (p : DNode → Bool) (hl : (s.length : Int) ≤ 9223372036854775807) (hf : ∀ x ∈ s, f x = some (p x)) :
    slices_IndexFunc_Node s f = some (match s.findIdx? p with | some i => (i : Int) | none => -1) := by
  unfold slices_IndexFunc_Node
  rw [rforE_index p hl (fun i h => by unfold slices_IndexFunc_Node_L1; rw [need_of ⟨by omega, by omega⟩, gx_nat h, hf _ (List.getElem_mem h)]; simp only [bind_sm]; cases p s[i] <;> rfl)]
  cases s.findIdx? p <;> rfl
theorem ContainsFunc_Node_eq (s : List DNode) (f : DNode → Option Bool) (p : DNode → Bool) (hl : (s.length : Int) ≤ 9223372036854775807) (hf : ∀ x ∈ s, f x = some (p x)) :
    slices_ContainsFunc_Node s f = some (s.any p) := by
  unfold slices_ContainsFunc_Node
  rw [IndexFunc_Node_eq s f p hl hf, bind_sm]
  exact congrArg some idx_any
theorem IndexFunc_Edge_eq (s : List DEdge) (f : DEdge → Option Bool) (p : DEdge → Bool) (hl : (s.length : Int) ≤ 9223372036854775807) (hf : ∀ x ∈ s, f x = some (p x)) :
    slices_IndexFunc_Edge s f = some (match s.findIdx? p with | some i => (i : Int) | none => -1) := by
  unfold slices_IndexFunc_Edge
  rw [rforE_index p hl (fun i h => by unfold slices_IndexFunc_Edge_L1; rw [need_of ⟨by omega, by omega⟩, gx_nat h, hf _ (List.getElem_mem h)]; simp only [bind_sm]; cases p s[i] <;> rfl)]
  cases s.findIdx? p <;> rfl
theorem ContainsFunc_Edge_eq (s : List DEdge) (f : DEdge → Option Bool) (p : DEdge → Bool) (hl : (s.length : Int) ≤ 9223372036854775807) (hf : ∀ x ∈ s, f x = some (p x)) :
    slices_ContainsFunc_Edge s f = some (s.any p) := by
  unfold slices_ContainsFunc_Edge
  rw [IndexFunc_Edge_eq s f p hl hf, bind_sm]
  exact congrArg some idx_any
theorem NodeAt_eq {d : Doc} (hl : (d.Nodes.length : Int) ≤ 9223372036854775807) (id : Str) : ref_NodeAt d id = some (nodeAt d.Nodes id) := by
  unfold ref_NodeAt
  rw [IndexFunc_Node_eq d.Nodes (fun x0 => ref_NodeAt_1 x0 id) (fun n => decide (n.Id = id)) hl (fun x _ => rfl)]
  rfl
theorem nodeAt_neg {l : List DNode} {id : Str} : nodeAt l id < 0 ↔ ∀ n ∈ l, n.Id ≠ id := by
  unfold nodeAt
  cases h : l.findIdx? (fun n => decide (n.Id = id)) with
  | none =>
    rw [List.findIdx?_eq_none_iff] at h
    simpa using h
  | some i =>
    obtain ⟨hi, hp, _⟩ := List.findIdx?_eq_some_iff_getElem.1 h
    simp only
    constructor
    · intro h; omega
    · intro h; exact absurd (by simpa using hp) (h _ (List.getElem_mem hi))
theorem nodeAt_pos {l : List DNode} {id : Str} (h : ∃ n ∈ l, n.Id = id) : inR l (nodeAt l id) ∧ (gx l (nodeAt l id)).Id = id := by
  unfold nodeAt
  cases hq : l.findIdx? (fun n => decide (n.Id = id)) with
  | none =>
    rw [List.findIdx?_eq_none_iff] at hq
    obtain ⟨n, hn, e⟩ := h
    exact absurd e (by simpa using hq n hn)
  | some i =>
    obtain ⟨hi, hp, _⟩ := List.findIdx?_eq_some_iff_getElem.1 hq
    refine ⟨⟨by simp, by simp only; omega⟩, ?_⟩
    simp only
    rw [gx_nat hi]; simpa using hp
/-- Where Ids are told apart. -/
theorem nodeAt_of {l : List DNode} (hd : (l.map (·.Id)).Nodup) {i : Nat} (hi : i < l.length) : nodeAt l l[i].Id = i := by
  unfold nodeAt
  have : l.findIdx? (fun n => decide (n.Id = l[i].Id)) = some i := by
    rw [List.findIdx?_eq_some_iff_getElem]
    refine ⟨hi, by simp, fun j hj => ?_⟩
    simp only [decide_eq_true_eq]
    intro e
    have := List.pairwise_iff_getElem.1 hd j i (by simp; omega) (by simpa using hi) hj
    simp at this
    exact this e
  rw [this]

/-- The numbers of those whose parent p is. -/
def idxs (l : List DNode) (p : Str) : List Int := ((List.range l.length).filter (fun (i : Nat) => decide ((gx l (i : Int)).Parent = p))).map (fun (i : Nat) => (i : Int))
theorem gx_left {α : Type} [Inhabited α] {l m : List α} {i : Nat} (hi : i < l.length) : gx (l ++ m) (i : Int) = gx l (i : Int) := by
  rw [gx_nat hi, gx_nat (by simp; omega), List.getElem_append_left hi]
theorem gx_end {α : Type} [Inhabited α] {l : List α} {x : α} : gx (l ++ [x]) (l.length : Int) = x := by
  rw [gx_nat (by simp)]; simp
theorem idxs_snoc {l : List DNode} {x : DNode} {p : Str} : idxs (l ++ [x]) p = idxs l p ++ (if x.Parent = p then [(l.length : Int)] else []) := by
  unfold idxs
  rw [List.length_append, List.length_singleton, List.range_succ, List.filter_append, List.map_append]
  congr 1
  · congr 1
    refine List.filter_congr fun i hi => ?_
    rw [gx_left (by simpa using hi)]
  · by_cases h : x.Parent = p
    · simp [h, gx_end]
    · simp [h, gx_end]
theorem idxs_mem {l : List DNode} {p : Str} {k : Int} : k ∈ idxs l p ↔ inR l k ∧ (gx l k).Parent = p := by
  unfold idxs
  simp only [List.mem_map, List.mem_filter, List.mem_range, decide_eq_true_eq]
  constructor
  · rintro ⟨i, ⟨h1, h2⟩, rfl⟩; exact ⟨⟨by omega, by omega⟩, h2⟩
  · rintro ⟨⟨h1, h2⟩, h3⟩
    refine ⟨k.toNat, ⟨by omega, ?_⟩, by omega⟩
    rw [show ((k.toNat : Nat) : Int) = k by omega]; exact h3
theorem idxs_map {l : List DNode} {p : Str} : (idxs l p).map (gx l) = l.filter (fun n => decide (n.Parent = p)) := by
  have key : ∀ (k : Nat), k ≤ l.length → (idxs (l.take k) p).map (gx l) = (l.take k).filter (fun n => decide (n.Parent = p)) := by
    intro k
    induction k with
    | zero => intro _; rfl
    | succ k ih =>
      intro hk
      rw [List.take_succ_eq_append_getElem (by omega), idxs_snoc, List.map_append, ih (by omega), List.filter_append]
      congr 1
      have hlen : (l.take k).length = k := by simp; omega
      by_cases h : (l[k]'(by omega)).Parent = p
      · rw [if_pos h, hlen]; simp [h, gx_nat (show k < l.length by omega)]
      · rw [if_neg h]; simp [h]
  have := key l.length (Nat.le_refl _)
  rwa [List.take_length] at this

/-- The numbers of the nodes, by Id; what is in the groups. -/
def numM (l : List DNode) : GMap Str Int := ⟨fun id => (l.findIdx? (fun n => decide (n.Id = id))).map (fun (i : Nat) => (i : Int))⟩
def memM (l : List DNode) : GMap Str (List Int) := ⟨fun p => if p ≠ Str.nil ∧ idxs l p ≠ [] then some (idxs l p) else none⟩
theorem numM_snoc {l : List DNode} {x : DNode} (h : ∀ n ∈ l, n.Id ≠ x.Id) : numM (l ++ [x]) = (numM l).set x.Id l.length := by
  unfold numM GMap.set
  congr 1
  funext id
  rw [List.findIdx?_append]
  by_cases he : id = x.Id
  · subst he
    have : l.findIdx? (fun n => decide (n.Id = x.Id)) = none := by
      rw [List.findIdx?_eq_none_iff]
      intro n hn
      simpa using h n hn
    rw [this, if_pos rfl]
    simp [List.findIdx?_cons]
  · rw [if_neg he]
    have : [x].findIdx? (fun n => decide (n.Id = id)) = none := by
      rw [List.findIdx?_eq_none_iff]
      intro n hn
      have : n = x := by simpa using hn
      subst this
      simpa using fun e => he e.symm
    rw [this]
    simp only
    cases l.findIdx? (fun n => decide (n.Id = id)) <;> rfl
theorem memM_getD {l : List DNode} {p : Str} (hp : p ≠ Str.nil) : (memM l).getD p [] = idxs l p := by
  unfold memM GMap.getD
  simp only
  by_cases h : idxs l p = []
  · rw [if_neg (by simp [h])]; simp [h]
  · rw [if_pos ⟨hp, h⟩]; rfl
theorem memM_snoc0 {l : List DNode} {x : DNode} (h : x.Parent = Str.nil) : memM (l ++ [x]) = memM l := by
  unfold memM
  congr 1
  funext p
  by_cases hp : p = Str.nil
  · simp [hp]
  · have e : (if x.Parent = p then [(l.length : Int)] else []) = [] := if_neg (fun e => hp (by rw [← e, h]))
    rw [idxs_snoc, e, List.append_nil]
theorem memM_snoc {l : List DNode} {x : DNode} (h : x.Parent ≠ Str.nil) : memM (l ++ [x]) = (memM l).set x.Parent ((memM l).getD x.Parent [] ++ [(l.length : Int)]) := by
  rw [memM_getD h]
  unfold memM GMap.set
  congr 1
  funext p
  simp only
  by_cases hp : p = x.Parent
  · subst hp
    rw [if_pos rfl, idxs_snoc, if_pos rfl, if_pos ⟨h, by simp⟩]
  · have e : (if x.Parent = p then [(l.length : Int)] else []) = [] := if_neg (fun e => hp e.symm)
    rw [if_neg hp, idxs_snoc, e, List.append_nil]
theorem numM_has {l : List DNode} {id : Str} : (numM l).has id = decide (0 ≤ nodeAt l id) := by
  unfold numM GMap.has nodeAt
  simp only
  cases l.findIdx? (fun n => decide (n.Id = id)) <;> simp
theorem numM_getD {l : List DNode} {id : Str} (h : 0 ≤ nodeAt l id) : (numM l).getD id 0 = nodeAt l id := by
  unfold numM GMap.getD nodeAt at *
  simp only at *
  cases hq : l.findIdx? (fun n => decide (n.Id = id)) with
  | none => rw [hq] at h; simp at h
  | some i => rfl
/-- The view of a diagram. -/
def viewD (d : Doc) : Page_view := ⟨d, numM d.Nodes, memM d.Nodes⟩
theorem viewOf_eq {d : Doc} (hl : d.Nodes.length ≤ 500) (hd : (d.Nodes.map (·.Id)).Nodup) : page_viewOf d = some (some (viewD d)) := by
  unfold page_viewOf
  simp only [bnd_eq]
  have hlen : ∀ k p, (idxs (d.Nodes.take k) p).length ≤ 500 := fun k p => by
    unfold idxs
    rw [List.length_map]
    refine Nat.le_trans (List.length_filter_le _ _) ?_
    simp; omega
  obtain ⟨s, h1, h2⟩ := rfor_inv (n := (d.Nodes.length : Int)) (step := page_viewOf_L1 d) (s0 := (GMap.nil, GMap.nil)) (fun i s => s = (numM (d.Nodes.take i), memM (d.Nodes.take i))) (by omega) (by
    simp only [List.take_zero]
    have e1 : numM [] = (GMap.nil : GMap Str Int) := rfl
    have e2 : memM [] = (GMap.nil : GMap Str (List Int)) := by
      unfold memM GMap.nil
      congr 1
      funext p
      rw [if_neg (fun h => h.2 rfl)]
    rw [e1, e2]) (fun i s hi hI => by
    subst hI
    have hi' : i < d.Nodes.length := by omega
    have hln : (d.Nodes.take i).length = i := by simp; omega
    have hnew : ∀ n ∈ d.Nodes.take i, n.Id ≠ d.Nodes[i].Id := fun n hn => by
      obtain ⟨j, hj, rfl⟩ := List.mem_iff_getElem.1 hn
      rw [List.getElem_take]
      have hj' : j < i := by simp at hj; omega
      have := List.pairwise_iff_getElem.1 hd j i (by simp; omega) (by simpa using hi') hj'
      simpa using this
    unfold page_viewOf_L1
    rw [need_of ⟨by omega, by omega⟩, gx_nat hi', bnd_eq, bnd_eq, List.take_succ_eq_append_getElem hi', numM_snoc hnew, hln]
    simp only
    by_cases hp : d.Nodes[i].Parent = Str.nil
    · rw [decide_eq_true hp, memM_snoc0 hp]
      exact ⟨_, rfl, rfl⟩
    · rw [decide_eq_false hp, memM_snoc hp, hln]
      rw [memM_getD hp]
      refine ⟨_, ?_, rfl⟩
      simp only [Bool.not_false, cond_true]
      rw [need_of]
      show _ ≤ 1073741824
      have := hlen i d.Nodes[i].Parent
      simp; omega)
  rw [h1, h2]
  simp [viewD]
theorem members_eq {d : Doc} (hl : d.Nodes.length ≤ 500) (id : Str) : ref_members d id = some (d.Nodes.filter (fun n => decide (n.Parent = id))) := by
  unfold ref_members
  rw [rfor_gather (fun n => if n.Parent = id then [n] else []) [] (fun a _ => by split <;> simp) (by simp; omega) (fun i s hi hs => by
    unfold ref_members_L1
    rw [need_of hi, bnd_eq]
    by_cases h : (gx d.Nodes i).Parent = id
    · rw [decide_eq_true h, if_pos h, cond_true, need_of]
      show _ ≤ 1073741824
      simp; omega
    · rw [decide_eq_false h, if_neg h, cond_false, List.append_nil])]
  simp only [List.nil_append, Option.bind_some]
  congr 1
  generalize d.Nodes = l
  induction l with
  | nil => rfl
  | cons n l ih =>
    rw [List.flatMap_cons, ih, List.filter_cons]
    by_cases h : n.Parent = id <;> simp [h]
end Go.DB
