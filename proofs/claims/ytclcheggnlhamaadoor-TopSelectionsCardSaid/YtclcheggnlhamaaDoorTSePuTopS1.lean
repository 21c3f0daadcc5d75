/-
  Boxes of diagrams whose roots are moved: they move along.
-/
import Derived.Test.YtclcheggnlhamaaDoorTSePuMove7
set_option linter.unusedSimpArgs false
set_option linter.unusedVariables false
namespace Go.DB
open Go Go.RowKit
theorem hull_att {l : List Box} (hok : ∀ b ∈ l, okB b) (hl : l.length ≤ 1000) {b : Box} (h : ref_HullOf l = some (b, 0)) :
  (∃ v ∈ l, b.X = v.X) ∧ (∃ v ∈ l, b.Y = v.Y) ∧ (∃ v ∈ l, b.X + b.W_ = v.X + v.W_) ∧ ∃ v ∈ l, b.Y + b.H = v.Y + v.H := by
 unfold ref_HullOf at h
 simp only [bnd_eq] at h
 by_cases h0 : l = []
 ·
  subst h0; simp at h
 have hpos : 0 < l.length := List.length_pos_iff.2 h0
 have hin : inR l 0 := ⟨by omega, by omega⟩
 rw [decide_eq_false (show ¬ (l.length : Int) = 0 by omega)] at h
 simp only [cond_false, need_of hin] at h
 have hm0 : gx l 0 ∈ l := gx_mem hin
 have hg0 : okB (gx l 0) := hok _ hm0
 have hl0 : l[0] = gx l 0 := (gx_nat (i := 0) hpos).symm
 obtain ⟨s, h1, h2⟩ := rfor_inv (n := (l.length : Int)) (step := ref_HullOf_L1 l) (s0 := ((gx l 0).X, (gx l 0).Y, (gx l 0).X, (gx l 0).Y))
  (fun k s => (-1000000 ≤ s.1 ∧ s.1 ≤ 1000000 ∧ -1000000 ≤ s.2.1 ∧ s.2.1 ≤ 1000000 ∧ -1000000 ≤ s.2.2.1 ∧ s.2.2.1 ≤ 1020000 ∧ -1000000 ≤ s.2.2.2 ∧ s.2.2.2 ≤ 1020000) ∧ (∃ v ∈ l, s.1 = v.X) ∧ (∃ v ∈ l, s.2.1 = v.Y) ∧
   ((k = 0 ∧ s.2.2.1 = (gx l 0).X ∧ s.2.2.2 = (gx l 0).Y) ∨ ((∃ v ∈ l, s.2.2.1 = v.X + v.W_) ∧ ∃ v ∈ l, s.2.2.2 = v.Y + v.H)))
  (by omega) (by
   obtain ⟨x1, x2, y1, y2, _⟩ := hg0
   exact ⟨by simp only; omega, ⟨_, hm0, rfl⟩, ⟨_, hm0, rfl⟩, .inl ⟨rfl, rfl, rfl⟩⟩) (fun i s hi hI => by
   have hi' : i < l.length := by omega
   have hm := List.getElem_mem hi'
   obtain ⟨x1, x2, y1, y2, w1, w2, g1, g2⟩ := hok _ hm
   obtain ⟨⟨c1, c2, c3, c4, c5, c6, c7, c8⟩, ⟨a, ha, ea⟩, ⟨b, hb, eb⟩, hr⟩ := hI
   unfold ref_HullOf_L1
   rw [need_of ⟨by omega, by omega⟩, gx_nat hi']
   simp only [bnd_eq]
   rw [Wk (n := l[i].X + l[i].W_) (by omega) (by omega), Wk (n := l[i].Y + l[i].H) (by omega) (by omega)]
   refine ⟨_, rfl, by simp only; omega, ?_, ?_, .inr ?_⟩
   ·
    rcases Int.le_total s.1 l[i].X with c | c
    ·
     exact ⟨a, ha, by simp only; omega⟩
    ·
     exact ⟨l[i], hm, by simp only; omega⟩
   ·
    rcases Int.le_total s.2.1 l[i].Y with c | c
    ·
     exact ⟨b, hb, by simp only; omega⟩
    ·
     exact ⟨l[i], hm, by simp only; omega⟩
   ·
    rcases hr with ⟨rfl, e1, e2⟩ | ⟨⟨p, hp, ep⟩, q, hq, eq⟩
    ·
     rw [hl0] at *
     exact ⟨⟨_, hm0, by simp only; omega⟩, ⟨_, hm0, by simp only; omega⟩⟩
    ·
     constructor
     ·
      rcases Int.le_total (l[i].X + l[i].W_) s.2.2.1 with c | c
      ·
       exact ⟨p, hp, by simp only; omega⟩
      ·
       exact ⟨l[i], hm, by simp only; omega⟩
     ·
      rcases Int.le_total (l[i].Y + l[i].H) s.2.2.2 with c | c
      ·
       exact ⟨q, hq, by simp only; omega⟩
      ·
       exact ⟨l[i], hm, by simp only; omega⟩)
 rw [h1, bind_sm] at h
 obtain ⟨⟨c1, c2, c3, c4, c5, c6, c7, c8⟩, ha, hb, hr⟩ := h2
 rw [Wk (n := s.2.2.1 - s.1) (by omega) (by omega), Wk (n := s.2.2.2 - s.2.1) (by omega) (by omega)] at h
 cases hc : decide ((20000 : Int) < s.2.2.1 - s.1) || decide ((20000 : Int) < s.2.2.2 - s.2.1) with
 | true => rw [hc] at h; cases h
 | false =>
  rw [hc, cond_false] at h
  have hbb := (Prod.mk.inj (Option.some.inj h)).1
  rw [← hbb]
  obtain ⟨hr1, hr2⟩ : (∃ v ∈ l, s.2.2.1 = v.X + v.W_) ∧ ∃ v ∈ l, s.2.2.2 = v.Y + v.H := by
   rcases hr with ⟨e, _⟩ | hr
   ·
    omega
   ·
    exact hr
  refine ⟨ha, hb, ?_, ?_⟩
  ·
   obtain ⟨v, hv, e⟩ := hr1; exact ⟨v, hv, by simp only; omega⟩
  ·
   obtain ⟨v, hv, e⟩ := hr2; exact ⟨v, hv, by simp only; omega⟩
theorem fixp_ev {α β : Type} {b : (α → Option β) → α → Option β} {a : α} {r : β} (h : fixp b a = some r) : ∃ N, ∀ n, N ≤ n → fixN b n a = some r := by
 unfold fixp at h
 by_cases hx : ∃ r N, ∀ n, N ≤ n → fixN b n a = some r
 ·
  rw [dif_pos hx] at h
  obtain ⟨N, hN⟩ := hx.choose_spec
  rw [Option.some.inj h] at hN
  exact ⟨N, hN⟩
 ·
  rw [dif_neg hx] at h; cases h
theorem fixN_all {d : Doc} (h : Right d) : ∀ ks : List Int, (∀ c ∈ ks, ∃ j : Nat, j < d.Nodes.length ∧ c = j) → ∃ N, ∀ n, N ≤ n → ∀ c ∈ ks, fixN page_view_boxOf_body n (viewD d, c) = some (bxD d c, 0)
 | [], _ => ⟨0, fun n _ c hc => by cases hc⟩
 | k :: ks, hk => by
  obtain ⟨N, hN⟩ := fixN_all h ks (fun c hc => hk c (by simp [hc]))
  obtain ⟨j, hj, rfl⟩ := hk k (by simp)
  obtain ⟨M, hM⟩ := fixp_ev (bxD_eq h hj).1
  refine ⟨max N M, fun n hn c hc => ?_⟩
  rcases List.mem_cons.1 hc with rfl | hc
  ·
   exact hM n (by omega)
  ·
   exact hN n (by omega) c hc
theorem bxD_leaf {d : Doc} (h : Right d) {j : Nat} (hj : j < d.Nodes.length) (hk : d.Nodes[j].Kind ≠ 6) : bxD d (j : Int) = d.Nodes[j].Box := by
 obtain ⟨N, hN⟩ := fixp_ev (bxD_eq h hj).1
 have h1 := hN (N + 1) (by omega)
 have hv : (viewD d).d.Nodes = d.Nodes := rfl
 have h2 : page_view_boxOf_body (fixN page_view_boxOf_body N) (viewD d, (j : Int)) = some (bxD d (j : Int), 0) := h1
 unfold page_view_boxOf_body at h2
 simp only [bnd_eq] at h2
 rw [hv, need_of ⟨by omega, by omega⟩, gx_nat hj, decide_eq_false hk] at h2
 exact ((Prod.mk.inj (Option.some.inj h2)).1).symm
theorem bxD_group {d : Doc} (h : Right d) {j : Nat} (hj : j < d.Nodes.length) (hk : d.Nodes[j].Kind = 6) :
  ∃ hb, ref_HullOf ((idxs d.Nodes d.Nodes[j].Id).map (bxD d)) = some (hb, 0) ∧ okB hb ∧ bxD d (j : Int) = ⟨hb.X - 10, hb.Y - 10, hb.W_ + 20, hb.H + 20⟩ := by
 have hv : (viewD d).d.Nodes = d.Nodes := rfl
 have hvm : (viewD d).members = memM d.Nodes := rfl
 have hn := List.getElem_mem hj
 obtain ⟨N, hN⟩ := fixp_ev (bxD_eq h hj).1
 have hks : ∀ c ∈ idxs d.Nodes d.Nodes[j].Id, ∃ t : Nat, t < d.Nodes.length ∧ c = t := fun c hc => by
  obtain ⟨t, ht, e, _⟩ := (kid_iff (h := h) hj).1 hc; exact ⟨t, ht, e⟩
 obtain ⟨M, hM⟩ := fixN_all h _ hks
 have h2 : page_view_boxOf_body (fixN page_view_boxOf_body (max N M)) (viewD d, (j : Int)) = some (bxD d (j : Int), 0) := hN (max N M + 1) (by omega)
 have hM' := hM (max N M) (by omega)
 generalize fixN page_view_boxOf_body (max N M) = slf at *
 unfold page_view_boxOf_body at h2
 simp only [bnd_eq] at h2
 rw [hv, hvm, need_of ⟨by omega, by omega⟩, gx_nat hj, decide_eq_true hk, memM_getD (h.hid hn)] at h2
 simp only [Bool.not_true, cond_false] at h2
 generalize hg : idxs d.Nodes d.Nodes[j].Id = ks at *
 have hkl : ks.length ≤ 500 := by
  rw [← hg]; unfold idxs
  rw [List.length_map]
  refine Nat.le_trans (List.length_filter_le _ _) ?_
  have := h.nl
  simp; omega
 have hloop : rforE (ks.length : Int) (page_view_boxOf_L1 slf (viewD d, (j : Int)) ks) (fun s => Res.nx s) ([] : List Box) = some (Res.nx (ks.map (bxD d))) := by
  have := rforE_errS (n := ks.length) (step := page_view_boxOf_L1 slf (viewD d, (j : Int)) ks) (fin := fun s => (Res.nx s : Res (List Box) (Box × Int))) (fun k => (ks.take k).map (bxD d)) (fun _ => 0) (fun e => Res.ab (zeroB, e)) (by omega) (fun k hk' _ => by
   unfold page_view_boxOf_L1
   have hink : inR ks (k : Int) := ⟨by omega, by omega⟩
   rw [need_of hink, hM' _ (gx_mem hink), Option.bind_some]
   simp only [decide_true, Bool.not_true, cond_false, if_true]
   rw [need_of (by show _ ≤ _; simp; omega), List.take_succ_eq_append_getElem hk', List.map_append, gx_nat hk']
   rfl)
  have hz : firstErr ((List.range ks.length).map (fun _ => (0 : Int))) = 0 := firstErr_zero.2 (fun e he => by
   obtain ⟨_, _, rfl⟩ := List.mem_map.1 he; rfl)
  rw [if_pos hz] at this
  simp only [List.take_zero, List.map_nil, List.take_length] at this
  exact this
 rw [hloop, bindR_nx] at h2
 have hok : ∀ b ∈ ks.map (bxD d), okB b := fun b hb => by
  obtain ⟨c, hc, rfl⟩ := List.mem_map.1 hb
  obtain ⟨t, ht, rfl⟩ := hks c hc
  exact (bxD_eq h ht).2.2
 obtain ⟨b, e, u1, u2, u3⟩ := hull_both hok (by simp; omega)
 rw [u1, Option.bind_some] at h2
 by_cases he : e = 0
 case neg =>
  rw [decide_eq_false he] at h2
  exact (he (Prod.mk.inj (Option.some.inj h2)).2).elim
 subst he
 have hob := u3 rfl
 obtain ⟨b2, e2, g1, g2, g3⟩ := grow_both hob
 simp only [decide_true, Bool.not_true, cond_false] at h2
 rw [g1, Option.bind_some] at h2
 obtain ⟨q1, q2⟩ := Prod.mk.inj (Option.some.inj h2)
 simp only at q1 q2
 obtain ⟨x1, x2, y1, y2, w1, w2, k1, k2⟩ := id hob
 have := (g3 q2).1
 rw [Wk (n := b.X - 10) (by omega) (by omega), Wk (n := b.Y - 10) (by omega) (by omega), Wk (n := b.W_ + 20) (by omega) (by omega), Wk (n := b.H + 20) (by omega) (by omega)] at this
 exact ⟨b, u2, hob, by rw [← q1, this]⟩
def shB (p : Int × Int) (b : Box) : Box := ⟨b.X + p.1, b.Y + p.2, b.W_, b.H⟩
theorem hull_shift {l l' : List Box} {p : Int × Int} (hl : l' = l.map (shB p)) (hok : ∀ b ∈ l, okB b) (hok' : ∀ b ∈ l', okB b) (hn : l.length ≤ 1000) {b b' : Box} (h : ref_HullOf l = some (b, 0)) (h' : ref_HullOf l' = some (b', 0)) : b' = shB p b := by
 have a := hull_has hok hn h
 obtain ⟨⟨v1, m1, e1⟩, ⟨v2, m2, e2⟩, ⟨v3, m3, e3⟩, v4, m4, e4⟩ := hull_att hok hn h
 have hn' : l'.length ≤ 1000 := by rw [hl]; simpa using hn
 have a' := hull_has hok' hn' h'
 obtain ⟨⟨w1, n1, f1⟩, ⟨w2, n2, f2⟩, ⟨w3, n3, f3⟩, w4, n4, f4⟩ := hull_att hok' hn' h'
 subst hl
 obtain ⟨x1, k1, rfl⟩ := List.mem_map.1 n1
 obtain ⟨x2, k2, rfl⟩ := List.mem_map.1 n2
 obtain ⟨x3, k3, rfl⟩ := List.mem_map.1 n3
 obtain ⟨x4, k4, rfl⟩ := List.mem_map.1 n4
 have b1 := a' _ (List.mem_map_of_mem (f := shB p) m1)
 have b2 := a' _ (List.mem_map_of_mem (f := shB p) m2)
 have b3 := a' _ (List.mem_map_of_mem (f := shB p) m3)
 have b4 := a' _ (List.mem_map_of_mem (f := shB p) m4)
 have c1 := a _ k1
 have c2 := a _ k2
 have c3 := a _ k3
 have c4 := a _ k4
 unfold shB at *
 simp only at *
 obtain ⟨X, Y, W_, H⟩ := b'
 simp only [Box.mk.injEq] at *
 omega
theorem docM_idxs {d : Doc} {R : List Int} {f : Int → Int × Int} (p : Str) : idxs (docM d R f).Nodes p = idxs d.Nodes p := by
 unfold idxs
 rw [docM_len.1]
 congr 1
 refine List.filter_congr fun i hi => ?_
 have hi' : i < d.Nodes.length := by simpa using hi
 rw [gx_nat (by rw [docM_len.1]; exact hi'), docM_at hi', gx_nat hi', mvR_same.2.2.2.2.1]
theorem bxD_shift {d : Doc} (h : Right d) {R : List Int} (hA : ApartR d R) {f : Int → Int × Int} (hD : Right (docM d R f)) {k : Int} (hk : k ∈ R) (hb : (-1000000000 ≤ (f k).1 ∧ (f k).1 ≤ 1000000000) ∧ -1000000000 ≤ (f k).2 ∧ (f k).2 ≤ 1000000000) :
  ∀ (q m j : Nat) (hj : j < d.Nodes.length), Dp d.Nodes d.Nodes[j] m → 9 ≤ m + q → subB d.Nodes k.toNat j = true → bxD (docM d R f) (j : Int) = shB (f k) (bxD d (j : Int)) := by
 intro q
 induction q with
 | zero =>
  intro m j hj hDp hm _
  obtain ⟨m', h1, h2⟩ := h.deep _ (List.getElem_mem hj)
  have := hDp.uni h2
  omega
 | succ q ih =>
  intro m j hj hDp hm hs
  have hj' : j < (docM d R f).Nodes.length := by rw [docM_len.1]; exact hj
  have hat := docM_at (R := R) (f := f) hj
  rw [rootOf_some hA hj hk hs] at hat
  have hat' : (docM d R f).Nodes[j] = mvN (f k).1 (f k).2 d.Nodes[j] := hat
  by_cases hK : d.Nodes[j].Kind = 6
  case neg =>
   have hK' : (docM d R f).Nodes[j].Kind ≠ 6 := by rw [hat', mvN_same.2.1]; exact hK
   rw [bxD_leaf hD hj' hK', bxD_leaf h hj hK, hat']
   obtain ⟨o1, o2, o3, o4, _⟩ := (h.at (List.getElem_mem hj)).2.2 hK
   unfold mvN shB
   rw [if_neg hK]
   simp only
   rw [Wk (n := d.Nodes[j].Box.X + (f k).1) (by omega) (by omega), Wk (n := d.Nodes[j].Box.Y + (f k).2) (by omega) (by omega)]
  have hK' : (docM d R f).Nodes[j].Kind = 6 := by rw [hat', mvN_same.2.1]; exact hK
  obtain ⟨hb1, u1, u2, u3⟩ := bxD_group h hj hK
  obtain ⟨hb2, v1, v2, v3⟩ := bxD_group hD hj' hK'
  have hid : (docM d R f).Nodes[j].Id = d.Nodes[j].Id := by rw [hat', mvN_same.1]
  rw [hid, docM_idxs] at v1
  have hmem : ∀ c ∈ idxs d.Nodes d.Nodes[j].Id, bxD (docM d R f) c = shB (f k) (bxD d c) := fun c hc => by
   obtain ⟨t, ht, rfl, hp⟩ := (kid_iff (h := h) hj).1 hc
   have hpar : par d.Nodes d.Nodes[t] = d.Nodes[j] := par_at h.hd hj hp
   have ha : ∀ s, anc d.Nodes d.Nodes[t] (s + 1) = anc d.Nodes d.Nodes[j] s := fun s => by
    rw [show s + 1 = 1 + s by omega, anc_add]
    show anc d.Nodes (par d.Nodes d.Nodes[t]) s = _
    rw [hpar]
   have hDt : Dp d.Nodes d.Nodes[t] (m + 1) := by
    refine ⟨by rw [ha]; exact hDp.1, fun i hi => ?_⟩
    cases i with
    | zero => show d.Nodes[t].Parent ≠ _; rw [hp]; exact h.hid (List.getElem_mem hj)
    | succ i => rw [ha]; exact hDp.2 i (by omega)
   refine ih (m + 1) t ht hDt (by omega) ?_
   obtain ⟨i, hi, rfl⟩ := hA.isIn k hk
   rw [Int.toNat_natCast] at hs ⊢
   obtain ⟨s, s1, s2⟩ := sub_anc h hi hj hs
   have : belB d.Nodes d.Nodes[t] d.Nodes[i].Id = true := bel_of_anc h.parIn (List.getElem_mem ht) (q := s) (fun r hr => by
    cases r with
    | zero => show d.Nodes[t].Parent ≠ _; rw [hp]; exact h.hid (List.getElem_mem hj)
    | succ r => rw [ha]; exact s1 r (by omega)) (by rw [ha]; exact s2)
   unfold subB
   rw [Bool.or_eq_true, gx_nat ht, gx_nat hi]
   exact .inr this
  have hmap : (idxs d.Nodes d.Nodes[j].Id).map (bxD (docM d R f)) = ((idxs d.Nodes d.Nodes[j].Id).map (bxD d)).map (shB (f k)) := by
   rw [List.map_map]
   exact List.map_congr_left hmem
  have hil : (idxs d.Nodes d.Nodes[j].Id).length ≤ 500 := by
   unfold idxs
   rw [List.length_map]
   refine Nat.le_trans (List.length_filter_le _ _) ?_
   have := h.nl
   simp; omega
  have hks : ∀ c ∈ idxs d.Nodes d.Nodes[j].Id, ∃ t : Nat, t < d.Nodes.length ∧ c = t := fun c hc => by
   obtain ⟨t, ht, e, _⟩ := (kid_iff (h := h) hj).1 hc; exact ⟨t, ht, e⟩
  have hsh := hull_shift hmap (fun b hb => by
   obtain ⟨c, hc, rfl⟩ := List.mem_map.1 hb
   obtain ⟨t, ht, rfl⟩ := hks c hc
   exact (bxD_eq h ht).2.2) (fun b hb => by
   obtain ⟨c, hc, rfl⟩ := List.mem_map.1 hb
   obtain ⟨t, ht, rfl⟩ := hks c hc
   exact (bxD_eq hD (by rw [docM_len.1]; exact ht)).2.2) (by simp; omega) u1 v1
  rw [u3, v3, hsh]
  show (⟨hb1.X + (f k).1 - 10, hb1.Y + (f k).2 - 10, hb1.W_ + 20, hb1.H + 20⟩ : Box) = ⟨hb1.X - 10 + (f k).1, hb1.Y - 10 + (f k).2, hb1.W_ + 20, hb1.H + 20⟩
  rw [show hb1.X + (f k).1 - 10 = hb1.X - 10 + (f k).1 by omega, show hb1.Y + (f k).2 - 10 = hb1.Y - 10 + (f k).2 by omega]
theorem bxD_root {d : Doc} (h : Right d) {R : List Int} (hA : ApartR d R) {f : Int → Int × Int} (hD : Right (docM d R f)) {k : Int} (hk : k ∈ R) (hb : (-1000000000 ≤ (f k).1 ∧ (f k).1 ≤ 1000000000) ∧ -1000000000 ≤ (f k).2 ∧ (f k).2 ≤ 1000000000) : bxD (docM d R f) k = shB (f k) (bxD d k) := by
 obtain ⟨j, hj, rfl⟩ := hA.isIn k hk
 obtain ⟨m, _, hm⟩ := h.deep _ (List.getElem_mem hj)
 exact bxD_shift h hA hD hk hb 9 m j hj hm (by omega) (by rw [Int.toNat_natCast]; simp [subB])
end Go.DB
