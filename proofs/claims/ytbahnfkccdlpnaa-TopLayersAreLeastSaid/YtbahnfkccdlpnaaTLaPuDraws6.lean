/-
  Draw: the whole of it.
-/
import Derived.Test.YtbahnfkccdlpnaaTLaPuDraws5
set_option linter.unusedSimpArgs false
set_option linter.unusedVariables false
namespace Go.DB
open Go Go.RowKit

def sizeOut (p : Point) : Bool := (!decide (1 ≤ p.X ∧ p.X ≤ 1000)) || (!decide (1 ≤ p.Y ∧ p.Y ≤ 1000))
def gapOut (g : Int) : Bool := !decide (0 ≤ g ∧ g ≤ 1000)
def drawErr (sizes : List Point) (l : List Link) (gapx gapy : Int) : Int :=
  if sizes.length = 0 then 2 else if graphErr (sizes.length : Int) l = 0 then (if (sizes.any sizeOut || gapOut gapx || gapOut gapy) = true then 3 else 0) else graphErr (sizes.length : Int) l

theorem sizeOut_eq {p : Point} : ((((decide (p.X < 1)) || (decide (1000 < p.X))) || (decide (p.Y < 1))) || (decide (1000 < p.Y))) = sizeOut p := by
  unfold sizeOut
  rw [Bool.eq_iff_iff]
  simp
  omega
theorem gapOut_eq {gapx gapy : Int} : ((((decide (gapx < 0)) || (decide (1000 < gapx))) || (decide (gapy < 0))) || (decide (1000 < gapy))) = (false || gapOut gapx || gapOut gapy) := by
  unfold gapOut
  rw [Bool.eq_iff_iff]
  simp
  omega
theorem left_eq {o : List Point} {y : Int} (h1 : 0 < o.length) (hle : o.length ≤ 60) : ∃ m, rfor (o.length : Int) (layer_Draw_L7 (y, o)) (gx o 0).X = some m ∧ (∀ k : Int, 0 ≤ k → k < o.length → m ≤ (gx o k).X) ∧ ∃ k : Int, 0 ≤ k ∧ k < o.length ∧ (gx o k).X = m := by
  obtain ⟨m, m1, m2, m3⟩ := rfor_inv (n := (o.length : Int)) (step := layer_Draw_L7 (y, o)) (s0 := (gx o 0).X) (fun i m => (∀ k : Int, 0 ≤ k → k < i → m ≤ (gx o k).X) ∧ ∃ k : Int, 0 ≤ k ∧ k < o.length ∧ (gx o k).X = m) (by omega) ⟨fun k k0 k1 => by omega, 0, by omega, by omega, rfl⟩ (fun i m hi hI => by
    obtain ⟨i1, i2⟩ := hI
    unfold layer_Draw_L7
    rw [need_of ⟨by omega, hi⟩, bnd_eq]
    refine ⟨_, rfl, fun k k0 k1 => ?_, ?_⟩
    · by_cases c : k = (i : Int)
      · subst c; simp only; omega
      · have := i1 k k0 (by push_cast at k1; omega); simp only; omega
    · obtain ⟨k, k0, k1, k2⟩ := i2
      simp only
      rcases Int.lt_or_le (gx o (i : Int)).X m with c | c
      · exact ⟨i, by omega, hi, by omega⟩
      · exact ⟨k, k0, k1, by omega⟩)
  exact ⟨m, m1, fun k k0 k1 => m2 k k0 (by simpa using k1), m3⟩
theorem gx_setP {s : List Point} {i : Int} (hi : inR s i) {v : Point} {k : Int} (k0 : 0 ≤ k) : gx (s.set i.toNat v) k = if k = i then v else gx s k := by
  obtain ⟨h0, h1⟩ := hi
  unfold gx
  rw [List.getElem?_set]
  by_cases h : k = i
  · subst h
    have : k.toNat < s.length := by omega
    simp [this]
  · have : ¬ i.toNat = k.toNat := by omega
    simp [this, h]
theorem shift_eq {o : List Point} {m : Int} (hle : o.length ≤ 60) (hb : ∀ k : Int, 0 ≤ k → k < o.length → -1000000 ≤ (gx o k).X ∧ (gx o k).X ≤ 1000000) (hm : -1000000 ≤ m ∧ m ≤ 1000000) :
    ∃ o', rfor (o.length : Int) (layer_Draw_L8 m) o = some o' ∧ o'.length = o.length ∧ ∀ k : Int, 0 ≤ k → k < o.length → gx o' k = ⟨(gx o k).X - m, (gx o k).Y⟩ := by
  obtain ⟨o', o1, o2, o3, o4⟩ := rfor_inv (n := (o.length : Int)) (step := layer_Draw_L8 m) (s0 := o) (fun i s => s.length = o.length ∧ (∀ k : Int, 0 ≤ k → k < i → gx s k = ⟨(gx o k).X - m, (gx o k).Y⟩) ∧ ∀ k : Int, i ≤ k → gx s k = gx o k) (by omega) ⟨rfl, fun k k0 k1 => by omega, fun k _ => rfl⟩ (fun i s hi hI => by
    obtain ⟨i1, i2, i3⟩ := hI
    have hin : inR s (i : Int) := ⟨by omega, by omega⟩
    have hbi := hb (i : Int) (by omega) hi
    unfold layer_Draw_L8
    rw [need_of hin, i3 (i : Int) (Int.le_refl _), Wk (by omega) (by omega), bnd_eq, need_of hin]
    refine ⟨_, rfl, by simp [i1], fun k k0 k1 => ?_, fun k k1 => ?_⟩
    · rw [gx_setP hin k0]
      by_cases c : k = (i : Int)
      · rw [if_pos c, c]
      · rw [if_neg c]; exact i2 k k0 (by push_cast at k1; omega)
    · rw [gx_setP hin (by omega), if_neg (by push_cast at k1; omega)]
      exact i3 k (by push_cast at k1; omega))
  exact ⟨o', o1, o2, fun k k0 k1 => o3 k k0 (by simpa using k1)⟩

/-- Nodes that are drawn. -/
structure Drawn (n : Nat) (sizes : List Point) (r : List Int) (gapx gapy R : Int) (out : List Point) : Prop where
  len : out.length = n
  top : 0 ≤ R ∧ R ≤ 60 ∧ ∀ k : Int, 0 ≤ k → k < n → gx r k ≤ R
  full : ∀ t : Int, 0 ≤ t → t ≤ R → rowF r n t ≠ []
  at_ : ∀ k : Int, 0 ≤ k → k < n → (gx out k).Y = yF sizes r n gapy (gx r k).toNat
  xB : ∀ k : Int, 0 ≤ k → k < n → 0 ≤ (gx out k).X ∧ (gx out k).X ≤ 2000000
  zero : ∃ k : Int, 0 ≤ k ∧ k < n ∧ (gx out k).X = 0
  gap : ∀ j k : Int, 0 ≤ j → j < n → 0 ≤ k → k < n → j ≠ k → gx r j = gx r k → (gx out j).X + (gx sizes j).X + gapx ≤ (gx out k).X ∨ (gx out k).X + (gx sizes k).X + gapx ≤ (gx out j).X

/-- All that is known of a drawing. -/
structure DrawAll (n : Nat) (sizes : List Point) (l m : List Link) (t c r f : List Int) (gapx gapy R : Int) (out : List Point) : Prop where
  turned : layer_turned (n : Int) l = some t
  tlen : t.length ≤ 200
  tnd : t.Nodup
  tin : ∀ j ∈ t, inR l j
  mlen : m.length = l.length
  mgx : ∀ j, inR l j → gx m j = if j ∈ t then flip (gx l j) else gx l j
  okl : OKl n m
  lab : Lab n m c
  con : Con m (gx c)
  ranks : layer_ranks (n : Int) m = some r
  rok : RanksOK n m c r f
  din : DrawIn n sizes m r gapx gapy
  drawn : Drawn n sizes r gapx gapy R out
  fall : ∃ T : Int → Nat, ∀ j, inR m j → T (gx m j).To < T (gx m j).From

theorem drawErr_zero {sizes : List Point} {l : List Link} {gapx gapy : Int} (h : drawErr sizes l gapx gapy = 0) : sizes.length ≠ 0 ∧ graphErr (sizes.length : Int) l = 0 ∧ sizes.any sizeOut = false ∧ (0 ≤ gapx ∧ gapx ≤ 1000) ∧ 0 ≤ gapy ∧ gapy ≤ 1000 := by
  unfold drawErr at h
  by_cases c : sizes.length = 0
  · rw [if_pos c] at h; omega
  · rw [if_neg c] at h
    by_cases d : graphErr (sizes.length : Int) l = 0
    · rw [if_pos d] at h
      by_cases e : (sizes.any sizeOut || gapOut gapx || gapOut gapy) = true
      · rw [if_pos e] at h; omega
      · rw [Bool.not_eq_true, Bool.or_eq_false_iff, Bool.or_eq_false_iff] at e
        obtain ⟨⟨e1, e2⟩, e3⟩ := e
        unfold gapOut at e2 e3
        simp at e2 e3
        exact ⟨c, d, e1, by omega, by omega⟩
    · rw [if_neg d] at h; exact absurd h d

theorem Draw_err {sizes : List Point} {l : List Link} {gapx gapy : Int} : layer_Draw sizes l gapx gapy = if drawErr sizes l gapx gapy = 0 then layer_Draw sizes l gapx gapy else some ([], drawErr sizes l gapx gapy) := by
  by_cases h : drawErr sizes l gapx gapy = 0
  · rw [if_pos h]
  · rw [if_neg h]
    unfold drawErr at h ⊢
    unfold layer_Draw
    by_cases c : sizes.length = 0
    · rw [if_pos c, decide_eq_true (p := (sizes.length : Int) = 0) (by omega), cond_true]
    · rw [if_neg c] at h ⊢
      rw [decide_eq_false (p := (sizes.length : Int) = 0) (by omega), cond_false, bnd_eq, layer_Check_eq, Option.bind_some]
      by_cases d : graphErr (sizes.length : Int) l = 0
      · rw [if_pos d] at h ⊢
        obtain ⟨_, n2, _, _⟩ := graphErr_zero d
        rw [decide_eq_true d, Bool.not_true, cond_false, rforE_any sizeOut (Res.ab (([] : List Point), 3)) (by omega) (fun i hi => by
          unfold layer_Draw_L1
          rw [need_of hi, bnd_eq]
          rw [sizeOut_eq]
          cases sizeOut (gx sizes i) <;> rfl)]
        by_cases e : sizes.any sizeOut = true
        · rw [if_pos e, bindR_ab, e, Bool.true_or, Bool.true_or, if_pos rfl]
        · rw [if_neg e, bindR_nx]
          have e' : sizes.any sizeOut = false := by simpa using e
          rw [e'] at h ⊢
          rw [gapOut_eq]
          cases hb : (false || gapOut gapx || gapOut gapy) with
          | true => rw [cond_true, if_pos rfl]
          | false => rw [hb] at h; simp at h
      · rw [if_neg d, decide_eq_false d]; rfl

theorem Draw_ok {sizes : List Point} {l : List Link} {gapx gapy : Int} (h : drawErr sizes l gapx gapy = 0) : ∃ out m t c r f R, layer_Draw sizes l gapx gapy = some (out, 0) ∧ DrawAll sizes.length sizes l m t c r f gapx gapy R out := by
  obtain ⟨hz, hg, hso, hgx, hgy⟩ := drawErr_zero h
  obtain ⟨n1, n2, hll, hall⟩ := graphErr_zero hg
  have hn : 1 ≤ sizes.length ∧ sizes.length ≤ 60 := by omega
  have hl : OKl sizes.length l := ⟨hll, fun j hj => by
    have := hall _ (gx_mem hj)
    exact ⟨⟨this.1, this.2.1⟩, ⟨this.2.2.1, this.2.2.2.1⟩, this.2.2.2.2⟩⟩
  unfold layer_Draw
  rw [decide_eq_false (p := (sizes.length : Int) = 0) (by omega), cond_false, bnd_eq, layer_Check_eq, Option.bind_some, decide_eq_true hg, Bool.not_true, cond_false,
    rforE_any sizeOut (Res.ab (([] : List Point), 3)) (by omega) (fun i hi => by
      unfold layer_Draw_L1
      rw [need_of hi, bnd_eq]
      rw [sizeOut_eq]
      cases sizeOut (gx sizes i) <;> rfl), hso, if_neg (by simp), bindR_nx]
  have hgo : (false || gapOut gapx || gapOut gapy) = false := by unfold gapOut; simp; omega
  rw [gapOut_eq, hgo, cond_false, Clone_Link_eq (by omega), Option.bind_some]
  obtain ⟨t0, T, h1, h2, h3, h4, h5⟩ := turned_eq hn hl
  have hp : (sortI t0).Perm t0 := List.mergeSort_perm _ _
  have hlen : (sortI t0).length ≤ 200 := by
    rw [hp.length_eq]
    exact nodup_few 200 _ h2 (fun j hj => by have := h3 j hj; exact ⟨this.1, by have := this.2; omega⟩)
  have hnd : (sortI t0).Nodup := hp.nodup_iff.2 h2
  have htin : ∀ j ∈ sortI t0, inR l j := fun j hj => h3 j (hp.mem_iff.1 hj)
  obtain ⟨m, k1, k2, k3⟩ := flips_eq (l := l) (t := sortI t0) hll hlen hnd htin
  have hm : ∀ j, inR m j → inR l j := fun j hj => ⟨hj.1, by rw [← k2]; exact hj.2⟩
  have hl2 : OKl sizes.length m := ⟨by omega, fun j hj => by
    obtain ⟨a, b, d⟩ := hl.2 j (hm j hj)
    rw [k3 j (hm j hj)]
    by_cases c : j ∈ sortI t0
    · rw [if_pos c]; exact ⟨b, a, fun e => d e.symm⟩
    · rw [if_neg c]; exact ⟨a, b, d⟩⟩
  have hT : ∀ j, inR m j → T (gx m j).To < T (gx m j).From := fun j hj => by
    obtain ⟨o1, o2⟩ := h4 j (hm j hj)
    rw [k3 j (hm j hj)]
    by_cases c : j ∈ sortI t0
    · rw [if_pos c]; exact o2 (hp.mem_iff.1 c)
    · rw [if_neg c]; exact o1 (fun h => c (hp.mem_iff.2 h))
  obtain ⟨c, _, hc, hf⟩ := ref_pieces_eq hn hl2
  obtain ⟨r, fs, r1, hr⟩ := ranks_eq hn hl2 hT hc hf
  have hrl := hr.len
  rw [h1, Option.bind_some, k1, Option.bind_some, r1, Option.bind_some]
  obtain ⟨R, R1, R2, R3⟩ := Max_eqD (out := r) (by omega) (by omega)
  obtain ⟨v, hv, rfl⟩ := mem_gx R2
  have hRb := hr.bd v hv.1 (by have := hv.2; omega)
  have hRm : ∀ k : Int, 0 ≤ k → k < sizes.length → gx r k ≤ gx r v := fun k k0 k2 => R3 _ (gx_mem ⟨k0, by omega⟩)
  rw [R1, Option.bind_some, Wk (n := gx r v + 1) (by omega) (by omega), bnd_eq, need_of ⟨by omega, by omega, by omega⟩, bnd_eq]
  obtain ⟨rows, q1, q2, q3⟩ := rows_eq (r := r) (n := sizes.length) (R := gx r v) (by omega) hrl (fun k k0 k2 => ⟨(hr.bd k k0 k2).1, hRm k k0 k2⟩) hRb
  have hml : m.length ≤ 200 := by omega
  rw [q1, Option.bind_some, Clone_Link_eq (by omega), Option.bind_some, DeleteFunc_Link_eq m (fun x0 => layer_Draw_1 x0 r) (fun x => !decide (gx r x.To = W (gx r x.From + 1))) (by omega) (fun x hx => by
    obtain ⟨j, hj, rfl⟩ := mem_gx hx
    obtain ⟨a, b, d⟩ := hl2.2 _ hj
    unfold layer_Draw_1
    rw [need_of ⟨b.1, by omega⟩, need_of ⟨a.1, by omega⟩]), Option.bind_some]
  have hRO : RowsOK rows := ⟨by omega, fun k k0 k2 => by
    rw [q3 k k0 (by omega)]
    exact ⟨Nat.le_trans rowF_few hn.2, rowF_nodup⟩⟩
  obtain ⟨rows', z, z1, z2⟩ := sweep_some (l := m.filter (fun x => !(!decide (gx r x.To = W (gx r x.From + 1))))) hRO (Nat.le_trans (List.length_filter_le _ _) hml)
  rw [z1, Option.bind_some, need_of ⟨by omega, by omega, by omega⟩, bnd_eq]
  have hD : DrawIn sizes.length sizes m r gapx gapy := ⟨hn, rfl, fun k k0 k2 => by
    have hall2 := List.any_eq_false.1 hso _ (gx_mem (l := sizes) (k := k) ⟨k0, k2⟩)
    unfold sizeOut at hall2
    simp at hall2
    omega, hgx, hgy, hl2, hrl, hr.bd, hr.kept⟩
  have hfull : ∀ t : Int, 0 ≤ t → t ≤ gx r v → rowF r sizes.length t ≠ [] := fun t t0 t1 => by
    obtain ⟨u, u0, u1, u2⟩ := hr.full hl2 hc hv.1 (by have := hv.2; omega) t0 t1
    exact List.ne_nil_of_mem (mem_rowF.2 ⟨⟨u0, u1⟩, u2⟩)
  have hz2 := z2.1
  obtain ⟨s, s1, s2⟩ := rfor_inv (n := (rows'.length : Int)) (step := layer_Draw_L4 r (rows', z) m gapx gapy sizes) (s0 := ((0 : Int), List.replicate (sizes.length : Int).toNat (⟨(0 : Int), (0 : Int)⟩ : Point))) (fun i s => Pl sizes.length sizes r gapx gapy i s.1 s.2) (by omega)
    ⟨by simp, rfl, by simp, fun k k0 k2 k3 => by have := hr.bd k k0 k2; omega, fun k k0 k2 k3 => by have := hr.bd k k0 k2; omega, fun j k j0 j1 k0 k2 _ _ k3 => by have := hr.bd j j0 j1; omega⟩
    (fun i s hi hI => Pl.step hD (by omega) hi (by
      have := z2.2 (i : Int) (by omega) (by omega)
      rw [q3 (i : Int) (by omega) (by omega)] at this
      exact this) (hfull _ (by omega) (by omega)) hI)
  simp only [Int.toNat_natCast] at s2
  have s2l := s2.len
  have hlt : ∀ k : Int, 0 ≤ k → k < sizes.length → gx r k < (rows'.length : Int) := fun k k0 k2 => by have := hRm k k0 k2; omega
  have hcb := cntF_bd (r := r) (n := sizes.length) (y := (rows'.length : Int))
  have hXb : ∀ k : Int, 0 ≤ k → k < sizes.length → -1000000 ≤ (gx s.2 k).X ∧ (gx s.2 k).X ≤ 1000000 := fun k k0 k2 => by
    have := s2.xB k k0 k2 (hlt k k0 k2); omega
  obtain ⟨M, M1, M2, kz, M3, M4, M5⟩ := left_eq (o := s.2) (y := s.1) (by omega) (by omega)
  obtain ⟨o, o1, o2, o3⟩ := shift_eq (o := s.2) (m := M) (by omega) (fun k k0 k2 => hXb k k0 (by omega)) (by rw [← M5]; exact hXb kz M3 (by omega))
  rw [s1, Option.bind_some, need_of ⟨by omega, by omega⟩, bnd_eq]
  show ∃ out m t c r f R, (Option.bind (rfor (s.2.length : Int) (layer_Draw_L7 (s.1, s.2)) (gx s.2 0).X) fun j_81 => Option.bind (rfor (s.2.length : Int) (layer_Draw_L8 j_81) s.2) fun j_87 => some (j_87, (0 : Int))) = some (out, 0) ∧ _
  rw [M1, Option.bind_some, o1, Option.bind_some]
  refine ⟨o, m, sortI t0, c, r, fs, gx r v, rfl, h1, hlen, hnd, htin, k2, k3, hl2, hc, hf, r1, hr, hD, ⟨by omega, ⟨hRb.1, hRb.2, hRm⟩, hfull, fun k k0 k2 => ?_, fun k k0 k2 => ?_, ⟨kz, M3, by omega, ?_⟩, fun j k j0 j1 k0 k2 hjk hrr => ?_⟩, T, hT⟩
  · rw [o3 k k0 (by omega)]
    exact s2.at_ k k0 k2 (hlt k k0 k2)
  · rw [o3 k k0 (by omega)]
    have := hXb k k0 k2
    have := M2 k k0 (by omega)
    have := hXb kz M3 (by omega)
    simp only
    omega
  · rw [o3 kz M3 M4]
    simp only
    omega
  · rw [o3 k k0 (by omega), o3 j j0 (by omega)]
    have := s2.gap j k j0 j1 k0 k2 hjk hrr (hlt j j0 j1)
    simp only
    omega
end Go.DB
