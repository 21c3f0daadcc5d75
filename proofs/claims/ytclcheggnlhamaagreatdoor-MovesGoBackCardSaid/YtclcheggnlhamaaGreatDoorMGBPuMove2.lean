/-
  Diagrams whose nodes are moved: as a whole, and each root by its own numbers.
-/
import Derived.Test.YtclcheggnlhamaaGreatDoorMGBPuMove1
import Derived.Test.YtclcheggnlhamaaGreatDoorMGBPuMap
set_option linter.unusedSimpArgs false
set_option linter.unusedVariables false
namespace Go.DB
open Go Go.RowKit

/-- What is under a node is it, or has it above. -/
theorem sub_anc {d : Doc} (h : Right d) {k j : Nat} (hk : k < d.Nodes.length) (hj : j < d.Nodes.length) (hs : subB d.Nodes k j = true) : ∃ q, (∀ s, s < q → (anc d.Nodes d.Nodes[j] s).Parent ≠ Str.nil) ∧ anc d.Nodes d.Nodes[j] q = d.Nodes[k] := by
  unfold subB at hs
  rw [Bool.or_eq_true, decide_eq_true_eq, gx_nat hj, gx_nat hk, belB_iff] at hs
  rcases hs with rfl | ⟨q, h1, h2⟩
  · exact ⟨0, fun s hs => by omega, rfl⟩
  · refine ⟨q + 1, fun s hs => h1 s (by omega), ?_⟩
    obtain ⟨p1, p2⟩ := par_mem h.parIn (anc_mem h.parIn (List.getElem_mem hj) q (fun t ht => h1 t (by omega))) (h1 q (by omega))
    obtain ⟨c, hc, he⟩ := List.mem_iff_getElem.1 p1
    have : c = k := h.at_Id hc hk (by rw [he, p2, h2])
    subst this
    exact he.symm
theorem bel_of_anc {d : Doc} {n : DNode} {q : Nat} {g : DNode} (hp : ParIn d.Nodes) (hn : n ∈ d.Nodes) (h1 : ∀ s, s < q + 1 → (anc d.Nodes n s).Parent ≠ Str.nil) (h2 : anc d.Nodes n (q + 1) = g) : belB d.Nodes n g.Id = true := by
  rw [belB_iff]
  refine ⟨q, fun s hs => h1 s (by omega), ?_⟩
  have := (par_mem hp (anc_mem hp hn q (fun t ht => h1 t (by omega))) (h1 q (by omega))).2
  rw [← this, ← h2]; rfl
/-- A node is under one root at most. -/
theorem roots_one {d : Doc} (h : Right d) (ids : List Str) {a b : Int} (ha : a ∈ rootL d.Nodes ids) (hb : b ∈ rootL d.Nodes ids) {j : Nat} (hj : j < d.Nodes.length) (sa : subB d.Nodes a.toNat j = true) (sb : subB d.Nodes b.toNat j = true) : a = b := by
  obtain ⟨k, hk, rfl, rk⟩ := rootL_mem ha
  obtain ⟨t, ht, rfl, rt⟩ := rootL_mem hb
  simp only [Int.toNat_natCast] at sa sb
  obtain ⟨p, p1, p2⟩ := sub_anc h hk hj sa
  obtain ⟨q, q1, q2⟩ := sub_anc h ht hj sb
  unfold rootB at rk rt
  rw [Bool.and_eq_true, decide_eq_true_eq, Bool.not_eq_true', List.any_eq_false] at rk rt
  rcases Nat.lt_trichotomy p q with c | c | c
  · exfalso
    obtain ⟨e, rfl⟩ : ∃ e, q = p + (e + 1) := ⟨q - p - 1, by omega⟩
    refine rk.2 _ rt.1 (bel_of_anc h.parIn (List.getElem_mem hk) (q := e) (fun s hs => ?_) ?_)
    · rw [← p2, ← anc_add]; exact q1 _ (by omega)
    · rw [← p2, ← anc_add]; exact q2
  · subst c
    rw [p2] at q2
    have : k = t := h.at_Id hk ht (by rw [q2])
    rw [this]
  · exfalso
    obtain ⟨e, rfl⟩ : ∃ e, p = q + (e + 1) := ⟨p - q - 1, by omega⟩
    refine rt.2 _ rk.1 (bel_of_anc h.parIn (List.getElem_mem ht) (q := e) (fun s hs => ?_) ?_)
    · rw [← q2, ← anc_add]; exact p1 _ (by omega)
    · rw [← q2, ← anc_add]; exact p2
theorem rootL_nodup {l : List DNode} {ids : List Str} : (rootL l ids).Nodup := by
  unfold rootL
  have h : ((List.range l.length).filter (fun (i : Nat) => rootB l ids (gx l (i : Int)))).Nodup := (List.nodup_range (n := l.length)).sublist List.filter_sublist
  have h2 : ((List.range l.length).filter (fun (i : Nat) => rootB l ids (gx l (i : Int)))).Pairwise (fun (a b : Nat) => (a : Int) ≠ (b : Int)) := List.Pairwise.imp (fun {a b} (hne : a ≠ b) => by omega) h
  exact List.pairwise_map.2 h2

/-- Roots under which no two nodes are. -/
structure ApartR (d : Doc) (R : List Int) : Prop where
  isIn : ∀ k ∈ R, ∃ j : Nat, j < d.Nodes.length ∧ k = j
  nodup : R.Nodup
  one : ∀ a ∈ R, ∀ b ∈ R, ∀ j : Nat, j < d.Nodes.length → subB d.Nodes a.toNat j = true → subB d.Nodes b.toNat j = true → a = b
theorem rootL_apart {d : Doc} (h : Right d) (ids : List Str) : ApartR d (rootL d.Nodes ids) :=
  ⟨fun k hk => by obtain ⟨j, hj, e, _⟩ := rootL_mem hk; exact ⟨j, hj, e⟩, rootL_nodup, fun a ha b hb j hj => roots_one h ids ha hb hj⟩

/-- The root under which a node is. -/
noncomputable def rootOf (d : Doc) (R : List Int) (j : Nat) : Option Int := R.find? fun k => subB d.Nodes k.toNat j
noncomputable def rootOfE (d : Doc) (R : List Int) (x : DEdge) : Option Int := R.find? fun k => endsP d.Nodes (fun j => subB d.Nodes k.toNat j) x
noncomputable def mvR (f : Int → Int × Int) (o : Option Int) (n : DNode) : DNode := match o with | some k => mvN (f k).1 (f k).2 n | none => n
noncomputable def mvRE (f : Int → Int × Int) (o : Option Int) (x : DEdge) : DEdge := match o with | some k => mvE (f k).1 (f k).2 x | none => x
/-- A diagram whose roots are moved, each by its own numbers. -/
noncomputable def docM (d : Doc) (R : List Int) (f : Int → Int × Int) : Doc := ⟨(List.range d.Nodes.length).map fun (j : Nat) => mvR f (rootOf d R j) (gx d.Nodes (j : Int)), d.Edges.map fun x => mvRE f (rootOfE d R x) x⟩
def stepsR (R : List Int) (f : Int → Int × Int) : List Page_step := R.map fun k => ⟨[k], (f k).1, (f k).2⟩
theorem find_snoc {α : Type} {p : α → Bool} {R : List α} {k : α} (hn : k ∉ R) (hu : ∀ a ∈ R, p a = true → p k = true → a = k) : (R ++ [k]).find? p = if p k = true then some k else R.find? p := by
  rw [List.find?_append]
  by_cases h : p k = true
  · have : R.find? p = none := List.find?_eq_none.2 fun a ha hp => hn (by rw [← hu a ha hp h]; exact ha)
    rw [this, if_pos h, List.find?_cons_of_pos h]; rfl
  · rw [if_neg h, List.find?_cons_of_neg h]
    cases R.find? p <;> rfl
theorem find_none_of {α : Type} {p : α → Bool} {R : List α} {k : α} (hn : k ∉ R) (hu : ∀ a ∈ R, p a = true → p k = true → a = k) (h : p k = true) : R.find? p = none :=
  List.find?_eq_none.2 fun a ha hp => hn (by rw [← hu a ha hp h]; exact ha)
theorem snoc_ind2 {α : Type} {P : List α → Prop} (h0 : P []) (h1 : ∀ l a, P l → P (l ++ [a])) (l : List α) : P l := by
  have : ∀ m : List α, P m.reverse := by
    intro m
    induction m with
    | nil => exact h0
    | cons x m ih => rw [List.reverse_cons]; exact h1 _ _ ih
  have := this l.reverse
  rwa [List.reverse_reverse] at this
theorem fold_docM {d : Doc} (h : Right d) (f : Int → Int × Int) (R : List Int) : ApartR d R → (stepsR R f).foldl (stepD d) d = docM d R f := by
  induction R using snoc_ind2 with
  | h0 =>
    intro _
    have e1 : (List.range d.Nodes.length).map (fun (j : Nat) => mvR f (rootOf d [] j) (gx d.Nodes (j : Int))) = d.Nodes := range_gxS d.Nodes
    have e2 : d.Edges.map (fun x => mvRE f (rootOfE d [] x) x) = d.Edges := List.map_id _
    unfold docM
    rw [e1, e2]; rfl
  | h1 R k ih =>
    intro hA
    have hA' : ApartR d R := ⟨fun a ha => hA.isIn a (by simp [ha]), (List.nodup_append.1 hA.nodup).1, fun a ha b hb => hA.one a (by simp [ha]) b (by simp [hb])⟩
    have hk : k ∉ R := fun hc => (List.nodup_append.1 hA.nodup).2.2 k hc k (by simp) rfl
    have hu : ∀ j : Nat, j < d.Nodes.length → ∀ a ∈ R, subB d.Nodes a.toNat j = true → subB d.Nodes k.toNat j = true → a = k := fun j hj a ha => hA.one a (by simp [ha]) k (by simp) j hj
    rw [stepsR, List.map_append, List.foldl_append]
    rw [show (R.map fun k => (⟨[k], (f k).1, (f k).2⟩ : Page_step)) = stepsR R f from rfl, ih hA']
    simp only [List.map_cons, List.map_nil, List.foldl_cons, List.foldl_nil]
    have hP : stepP d ⟨[k], (f k).1, (f k).2⟩ = fun j => subB d.Nodes k.toNat j := by funext j; simp [stepP]
    unfold stepD
    rw [hP]
    have hlen : (docM d R f).Nodes.length = d.Nodes.length := by simp [docM]
    have e1 : stN (fun j => subB d.Nodes k.toNat j) (f k).1 (f k).2 (docM d R f).Nodes = (docM d (R ++ [k]) f).Nodes := by
      unfold stN
      rw [hlen]
      refine List.map_congr_left fun j hj => ?_
      have hj' : j < d.Nodes.length := by simpa using hj
      have hg : gx (docM d R f).Nodes (j : Int) = mvR f (rootOf d R j) (gx d.Nodes (j : Int)) := by
        rw [gx_nat (by omega)]; simp [docM]
      rw [hg]
      unfold rootOf
      rw [find_snoc hk (hu j hj')]
      by_cases hs : subB d.Nodes k.toNat j = true
      · rw [if_pos hs, if_pos hs, find_none_of hk (hu j hj') hs]; rfl
      · rw [if_neg hs, if_neg hs]
    have e2 : stE d.Nodes (fun j => subB d.Nodes k.toNat j) (f k).1 (f k).2 (docM d R f).Edges = (docM d (R ++ [k]) f).Edges := by
      unfold stE docM
      simp only
      rw [List.map_map]
      refine List.map_congr_left fun x hx => ?_
      obtain ⟨⟨f1, f2⟩, t1, t2⟩ := h.endsIn hx
      have huE : ∀ a ∈ R, endsP d.Nodes (fun j => subB d.Nodes a.toNat j) x = true → endsP d.Nodes (fun j => subB d.Nodes k.toNat j) x = true → a = k := fun a ha h1 h2 => by
        unfold endsP at h1 h2
        rw [Bool.and_eq_true] at h1 h2
        exact hu _ (by omega) a ha h1.1 h2.1
      have hE : endsP d.Nodes (fun j => subB d.Nodes k.toNat j) (mvRE f (rootOfE d R x) x) = endsP d.Nodes (fun j => subB d.Nodes k.toNat j) x := by
        unfold mvRE
        cases rootOfE d R x <;> rfl
      show (if endsP d.Nodes (fun j => subB d.Nodes k.toNat j) (mvRE f (rootOfE d R x) x) = true then mvE (f k).1 (f k).2 (mvRE f (rootOfE d R x) x) else mvRE f (rootOfE d R x) x) = mvRE f (rootOfE d (R ++ [k]) x) x
      rw [hE]
      unfold rootOfE
      rw [find_snoc hk huE]
      by_cases hs : endsP d.Nodes (fun j => subB d.Nodes k.toNat j) x = true
      · rw [if_pos hs, if_pos hs, find_none_of hk huE hs]; rfl
      · rw [if_neg hs, if_neg hs]
    rw [e1, e2]
/-- A diagram that is moved by as much everywhere. -/
noncomputable def docA (d : Doc) (ids : List Str) (dx dy : Int) : Doc :=
  ⟨(List.range d.Nodes.length).map fun (j : Nat) => if tchB d.Nodes ids (gx d.Nodes (j : Int)) = true then mvN dx dy (gx d.Nodes (j : Int)) else gx d.Nodes (j : Int),
    d.Edges.map fun x => if endsP d.Nodes (fun j => tchB d.Nodes ids (gx d.Nodes (j : Int))) x = true then mvE dx dy x else x⟩
theorem fold_docA {d : Doc} (h : Right d) (ids : List Str) (dx dy : Int) : [(⟨rootL d.Nodes ids, dx, dy⟩ : Page_step)].foldl (stepD d) d = docA d ids dx dy := by
  have hP : ∀ j, j < d.Nodes.length → stepP d ⟨rootL d.Nodes ids, dx, dy⟩ j = tchB d.Nodes ids (gx d.Nodes (j : Int)) := fun j hj => by
    rw [gx_nat hj, ← roots_tch h ids hj]; rfl
  simp only [List.foldl_cons, List.foldl_nil]
  unfold stepD docA
  have e1 : stN (stepP d ⟨rootL d.Nodes ids, dx, dy⟩) dx dy d.Nodes = (List.range d.Nodes.length).map fun (j : Nat) => if tchB d.Nodes ids (gx d.Nodes (j : Int)) = true then mvN dx dy (gx d.Nodes (j : Int)) else gx d.Nodes (j : Int) :=
    List.map_congr_left fun j hj => by rw [hP j (by simpa using hj)]
  have e2 : stE d.Nodes (stepP d ⟨rootL d.Nodes ids, dx, dy⟩) dx dy d.Edges = d.Edges.map fun x => if endsP d.Nodes (fun j => tchB d.Nodes ids (gx d.Nodes (j : Int))) x = true then mvE dx dy x else x :=
    List.map_congr_left fun x hx => by
      obtain ⟨⟨f1, f2⟩, t1, t2⟩ := h.endsIn hx
      unfold endsP
      rw [hP _ (by omega), hP _ (by omega)]
  simp only
  rw [e1, e2]
end Go.DB
