/-
  Diagrams with the same names and parents have the same selections; a move as a whole, and the move back.
-/
import Derived.Test.YtclcheggnlhamaaGreatDoorMGBPuMove5
set_option linter.unusedSimpArgs false
set_option linter.unusedVariables false
namespace Go.DB
open Go Go.RowKit

/-- The same names and parents. -/
def Alike (l m : List DNode) : Prop := m.length = l.length ∧ ∀ i : Nat, i < l.length → (gx m (i : Int)).Id = (gx l (i : Int)).Id ∧ (gx m (i : Int)).Parent = (gx l (i : Int)).Parent
theorem Alike.symm {l m : List DNode} (h : Alike l m) : Alike m l := ⟨h.1.symm, fun i hi => ⟨(h.2 i (by rw [← h.1]; exact hi)).1.symm, (h.2 i (by rw [← h.1]; exact hi)).2.symm⟩⟩
theorem Alike.ids {l m : List DNode} (h : Alike l m) : m.map (·.Id) = l.map (·.Id) := by
  refine List.ext_getElem (by simp [h.1]) fun i h1 h2 => ?_
  have hi : i < l.length := by simpa using h2
  have := (h.2 i hi).1
  rw [gx_nat hi, gx_nat (by rw [h.1]; exact hi)] at this
  simpa using this
theorem nodeAt_ids {l m : List DNode} (h : m.map (·.Id) = l.map (·.Id)) (id : Str) : nodeAt m id = nodeAt l id := by
  have key : ∀ k : List DNode, k.findIdx? (fun n => decide (n.Id = id)) = (k.map (·.Id)).findIdx? (fun x => decide (x = id)) := fun k => by
    rw [List.findIdx?_map]; rfl
  unfold nodeAt
  rw [key m, key l, h]
theorem Alike.nodeAt {l m : List DNode} (h : Alike l m) (id : Str) : Go.DB.nodeAt m id = Go.DB.nodeAt l id := nodeAt_ids h.ids id
theorem Alike.par {l m : List DNode} (h : Alike l m) (hp : ParIn l) : ParIn m := fun n hn hne => by
  obtain ⟨i, hi, rfl⟩ := List.mem_iff_getElem.1 hn
  have hi' : i < l.length := by rw [← h.1]; exact hi
  have e := h.2 i hi'
  rw [gx_nat hi, gx_nat hi'] at e
  obtain ⟨g, hg, eg⟩ := hp l[i] (List.getElem_mem hi') (by rw [← e.2]; exact hne)
  obtain ⟨j, hj, rfl⟩ := List.mem_iff_getElem.1 hg
  have ej := h.2 j hj
  rw [gx_nat hj, gx_nat (by rw [h.1]; exact hj)] at ej
  exact ⟨m[j]'(by rw [h.1]; exact hj), List.getElem_mem _, by rw [ej.1, eg, e.2]⟩
theorem Alike.anc {l m : List DNode} (h : Alike l m) (hp : ParIn l) {i : Nat} (hi : i < l.length) : ∀ q : Nat, (∀ s, s < q → (Go.DB.anc l (gx l (i : Int)) s).Parent ≠ Str.nil) →
    ∃ j : Nat, j < l.length ∧ Go.DB.anc l (gx l (i : Int)) q = gx l (j : Int) ∧ Go.DB.anc m (gx m (i : Int)) q = gx m (j : Int)
  | 0, _ => ⟨i, hi, rfl, rfl⟩
  | q + 1, hs => by
    obtain ⟨j, hj, e1, e2⟩ := Alike.anc h hp hi q (fun s hs' => hs s (by omega))
    have hne := hs q (by omega)
    rw [e1] at hne
    obtain ⟨g, hg, eg⟩ := hp (gx l (j : Int)) (gx_mem ⟨by omega, by omega⟩) hne
    have hin := (nodeAt_pos (l := l) (id := (gx l (j : Int)).Parent) ⟨g, hg, eg⟩).1
    obtain ⟨a, b⟩ := hin
    refine ⟨(Go.DB.nodeAt l (gx l (j : Int)).Parent).toNat, by omega, ?_, ?_⟩
    · show Go.DB.par l (Go.DB.anc l (gx l (i : Int)) q) = _
      rw [e1, Int.toNat_of_nonneg a]; rfl
    · show Go.DB.par m (Go.DB.anc m (gx m (i : Int)) q) = _
      rw [e2, Int.toNat_of_nonneg a]
      unfold Go.DB.par
      rw [h.nodeAt, (h.2 j hj).2]
theorem Alike.bel1 {l m : List DNode} (h : Alike l m) (hp : ParIn l) {i : Nat} (hi : i < l.length) {g : Str} (hb : belB l (gx l (i : Int)) g = true) : belB m (gx m (i : Int)) g = true := by
  rw [belB_iff] at *
  obtain ⟨k, h1, h2⟩ := hb
  have key : ∀ j, j ≤ k → (Go.DB.anc m (gx m (i : Int)) j).Parent = (Go.DB.anc l (gx l (i : Int)) j).Parent := fun j hj => by
    obtain ⟨t, ht, e1, e2⟩ := h.anc hp hi j (fun s hs => h1 s (by omega))
    rw [e1, e2, (h.2 t ht).2]
  exact ⟨k, fun j hj => by rw [key j hj]; exact h1 j hj, by rw [key k (Nat.le_refl _)]; exact h2⟩
theorem Alike.bel {l m : List DNode} (h : Alike l m) (hp : ParIn l) {i : Nat} (hi : i < l.length) (g : Str) : belB m (gx m (i : Int)) g = belB l (gx l (i : Int)) g := by
  rw [Bool.eq_iff_iff]
  exact ⟨fun hb => h.symm.bel1 (h.par hp) (by rw [h.1]; exact hi) hb, fun hb => h.bel1 hp hi hb⟩
theorem Alike.tch {l m : List DNode} (h : Alike l m) (hp : ParIn l) (ids : List Str) {i : Nat} (hi : i < l.length) : tchB m ids (gx m (i : Int)) = tchB l ids (gx l (i : Int)) := by
  unfold tchB
  congr 1
  funext g
  rw [(h.2 i hi).1, h.bel hp hi]
theorem Alike.selErr {l m : List DNode} (h : Alike l m) (ids : List Str) : Go.DB.selErr m ids = Go.DB.selErr l ids := by
  unfold Go.DB.selErr selE
  simp only [h.nodeAt]
theorem docM_alike {d : Doc} {R : List Int} {f : Int → Int × Int} : Alike d.Nodes (docM d R f).Nodes := by
  refine ⟨docM_len.1, fun i hi => ?_⟩
  rw [gx_nat (by rw [docM_len.1]; exact hi), docM_at hi, gx_nat hi]
  exact ⟨mvR_same.1, mvR_same.2.2.2.2.1⟩
theorem docA_len {d : Doc} {ids : List Str} {dx dy : Int} : (docA d ids dx dy).Nodes.length = d.Nodes.length ∧ (docA d ids dx dy).Edges.length = d.Edges.length := by simp [docA]
theorem docA_gx {d : Doc} {ids : List Str} {dx dy : Int} {j : Nat} (hj : j < d.Nodes.length) :
    gx (docA d ids dx dy).Nodes (j : Int) = if tchB d.Nodes ids (gx d.Nodes (j : Int)) = true then mvN dx dy (gx d.Nodes (j : Int)) else gx d.Nodes (j : Int) := by
  rw [gx_nat (by rw [docA_len.1]; exact hj)]
  simp [docA]
theorem docA_alike {d : Doc} {ids : List Str} {dx dy : Int} : Alike d.Nodes (docA d ids dx dy).Nodes := by
  refine ⟨docA_len.1, fun i hi => ?_⟩
  rw [docA_gx hi]
  split
  · exact ⟨mvN_same.1, mvN_same.2.2.2.2.1⟩
  · exact ⟨rfl, rfl⟩
theorem W_neg2 {n : Int} (h : -2000000 ≤ n ∧ n ≤ 2000000) : W (-n) = -n := Wk (by omega) (by omega)
theorem W_go {a b : Int} (ha : -9223372036854775808 ≤ a ∧ a ≤ 9223372036854775807) : W (W (a + b) + -b) = a := by
  unfold W
  rw [IntKind.wrap_i64, IntKind.wrap_i64]
  omega
theorem doc_ext : ∀ {a b : Doc}, a.Nodes = b.Nodes → a.Edges = b.Edges → a = b
  | ⟨_, _⟩, ⟨_, _⟩, rfl, rfl => rfl
/-- A move and the move back. -/
theorem docA_back {d : Doc} (hf : fits d) (h : Right d) (ids : List Str) {dx dy : Int} : docA (docA d ids dx dy) ids (-dx) (-dy) = d := by
  have hal := docA_alike (d := d) (ids := ids) (dx := dx) (dy := dy)
  obtain ⟨⟨fn, fn'⟩, fe, fe'⟩ := hf
  have hN : (docA (docA d ids dx dy) ids (-dx) (-dy)).Nodes = d.Nodes := by
    refine List.ext_getElem (by rw [docA_len.1, docA_len.1]) fun j h1 h2 => ?_
    have e := docA_gx (d := docA d ids dx dy) (ids := ids) (dx := -dx) (dy := -dy) (j := j) (by rw [docA_len.1]; exact h2)
    rw [gx_nat h1, hal.tch h.parIn ids h2, docA_gx h2] at e
    rw [e, ← gx_nat h2]
    cases tchB d.Nodes ids (gx d.Nodes (j : Int)) with
    | false => rfl
    | true =>
      simp only [if_true]
      have hm := fn' _ (List.getElem_mem h2)
      rw [← gx_nat h2] at hm
      generalize gx d.Nodes (j : Int) = n at hm
      obtain ⟨_, _, ⟨b1, b2, _, _⟩, _⟩ := hm
      unfold mvN
      by_cases hk : n.Kind = 6
      · rw [if_pos hk, if_pos hk]
      · rw [if_neg hk, if_neg hk]
        simp only
        rw [W_go b1, W_go b2]
  have hE : (docA (docA d ids dx dy) ids (-dx) (-dy)).Edges = d.Edges := by
    show ((d.Edges.map _).map _) = d.Edges
    rw [List.map_map]
    conv => rhs; rw [← List.map_id d.Edges]
    refine List.map_congr_left fun x hx => ?_
    simp only [Function.comp]
    have hends := h.endsIn hx
    have hP : ∀ id, inR d.Nodes (nodeAt d.Nodes id) → tchB (docA d ids dx dy).Nodes ids (gx (docA d ids dx dy).Nodes (((nodeAt (docA d ids dx dy).Nodes id).toNat : Nat) : Int)) = tchB d.Nodes ids (gx d.Nodes (((nodeAt d.Nodes id).toNat : Nat) : Int)) := fun id hin => by
      rw [hal.nodeAt]
      obtain ⟨a, b⟩ := hin
      exact hal.tch h.parIn ids (by omega)
    have hsame : ∀ y : DEdge, y.From = x.From → y.To = x.To → endsP (docA d ids dx dy).Nodes (fun j => tchB (docA d ids dx dy).Nodes ids (gx (docA d ids dx dy).Nodes (j : Int))) y = endsP d.Nodes (fun j => tchB d.Nodes ids (gx d.Nodes (j : Int))) x := fun y e1 e2 => by
      unfold endsP
      rw [e1, e2]
      simp only
      rw [hP _ hends.1, hP _ hends.2]
    cases hc : endsP d.Nodes (fun j => tchB d.Nodes ids (gx d.Nodes (j : Int))) x with
    | false =>
      simp only [Bool.false_eq_true, if_false]
      rw [hsame x rfl rfl, hc]; rfl
    | true =>
      simp only [if_true]
      rw [hsame (mvE dx dy x) rfl rfl, hc, if_pos rfl]
      have hm := fe' x hx
      obtain ⟨_, _, _, ⟨_, hb⟩, _⟩ := hm
      unfold mvE
      simp only [List.map_map]
      have : x.Bends.map (mvP (-dx) (-dy) ∘ mvP dx dy) = x.Bends := by
        conv => rhs; rw [← List.map_id x.Bends]
        refine List.map_congr_left fun p hp => ?_
        obtain ⟨p1, p2⟩ := hb p hp
        simp only [Function.comp, mvP]
        rw [W_go p1, W_go p2]; rfl
      rw [this]; rfl
  exact doc_ext hN hE
noncomputable def lockD (d : Doc) (ids : List Str) (dx dy : Int) : Bool := !(decide (dx = 0) && decide (dy = 0)) && (List.range d.Nodes.length).any fun (j : Nat) => tchB d.Nodes ids (gx d.Nodes (j : Int)) && (gx d.Nodes (j : Int)).Locked
/-- What a move as a whole comes to. -/
theorem all_prog {d : Doc} (hf : fits d) (h : Right d) (ids : List Str) (dx dy : Int) :
    ∃ r : Doc × Int, page_view_moved (viewD d) [⟨rootL d.Nodes ids, dx, dy⟩] = some r ∧
      (r.2 = 0 → r.1 = docA d ids dx dy ∧ Right (docA d ids dx dy) ∧ page_Check (docA d ids dx dy) = some 0 ∧ lockD d ids dx dy = false ∧ (-2000000 ≤ dx ∧ dx ≤ 2000000) ∧ -2000000 ≤ dy ∧ dy ≤ 2000000) ∧
      (lockD d ids dx dy = false → (-2000000 ≤ dx ∧ dx ≤ 2000000) ∧ -2000000 ≤ dy ∧ dy ≤ 2000000 → page_Check (docA d ids dx dy) = some 0 → r = (docA d ids dx dy, 0)) := by
  rw [moved_eq h (fun st hst => by
    rw [List.mem_singleton.1 hst]
    exact ⟨by have := rootL_len (l := d.Nodes) (ids := ids) h.nl; simp only; omega, (rootL_apart h ids).isIn⟩) (by simp), fold_docA h]
  obtain ⟨e, c1, c2, c3⟩ := Check_both (fits_docA hf ids dx dy)
  have hlk : [(⟨rootL d.Nodes ids, dx, dy⟩ : Page_step)].any (lockS d) = lockD d ids dx dy := by
    simp only [List.any_cons, List.any_nil, Bool.or_false]
    unfold lockS lockD
    simp only
    congr 1
    rw [Bool.eq_iff_iff, List.any_eq_true, List.any_eq_true]
    have hP : ∀ j, j ∈ List.range d.Nodes.length → stepP d ⟨rootL d.Nodes ids, dx, dy⟩ j = tchB d.Nodes ids (gx d.Nodes (j : Int)) := fun j hj => by
      have hj' : j < d.Nodes.length := by simpa using hj
      rw [gx_nat hj', ← roots_tch h ids hj']; rfl
    constructor
    · rintro ⟨j, hj, hx⟩; exact ⟨j, hj, by rw [← hP j hj]; exact hx⟩
    · rintro ⟨j, hj, hx⟩; exact ⟨j, hj, by rw [hP j hj]; exact hx⟩
  rw [hlk]
  cases lockD d ids dx dy with
  | true => exact ⟨(⟨[], []⟩, 12), rfl, (fun h => by cases h), fun h => by cases h⟩
  | false =>
    simp only [Bool.false_eq_true, if_false, List.any_cons, List.any_nil, Bool.or_false]
    by_cases hok : (-2000000 ≤ dx ∧ dx ≤ 2000000) ∧ -2000000 ≤ dy ∧ dy ≤ 2000000
    · have hn : farS ⟨rootL d.Nodes ids, dx, dy⟩ = false := by
        unfold farS
        rw [Bool.or_eq_false_iff, decide_eq_false_iff_not, decide_eq_false_iff_not]
        simp only; omega
      rw [hn, if_neg (by simp), c1, Option.bind_some]
      refine ⟨if e = 0 then (docA d ids dx dy, 0) else (⟨[], []⟩, e), rfl, fun h => ?_, fun _ _ hc => ?_⟩
      · by_cases he : e = 0
        · rw [if_pos he]; exact ⟨rfl, c3 he, by rw [he], trivial, hok⟩
        · rw [if_neg he] at h; exact (he h).elim
      · rw [if_pos (Option.some.inj hc)]
    · have hn : farS ⟨rootL d.Nodes ids, dx, dy⟩ = true := by
        unfold farS
        rw [Bool.or_eq_true, decide_eq_true_eq, decide_eq_true_eq]
        simp only; omega
      rw [hn, if_pos rfl]
      exact ⟨(⟨[], []⟩, 3), rfl, (fun h => by cases h), fun _ h => absurd h hok⟩
end Go.DB
