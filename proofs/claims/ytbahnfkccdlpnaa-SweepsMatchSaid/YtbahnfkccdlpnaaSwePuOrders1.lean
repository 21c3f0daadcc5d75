/-
  Rows, their places, and pairs of rows; how many links cross.
-/
import Derived.Test.YtbahnfkccdlpnaaSwePuOrders0
import Derived.Test.YtbahnfkccdlpnaaSwePuRef
set_option linter.unusedSimpArgs false
set_option linter.unusedVariables false
namespace Go.DB
open Go Go.RowKit

/-- A loop that looks for the first error, and carries what is told. -/
theorem rforE_errO {σ O : Type} {n : Nat} {step : Int → σ → Option (Res σ O)} {fin : σ → O} (S : Nat → σ) (err : Nat → Int) (mk : Int → O) (hn : (n : Int) ≤ 9223372036854775807)
    (hf : ∀ i : Nat, i < n → step i (S i) = some (if err i = 0 then .nx (S (i + 1)) else .ab (mk (err i)))) :
    rforE (n : Int) step fin (S 0) = some (if firstErr ((List.range n).map err) = 0 then fin (S n) else mk (firstErr ((List.range n).map err))) := by
  rw [rforE_eq hn]
  have key : ∀ (k i : Nat), i + k = n → rgoE step fin k (i : Int) (S i) = some (if firstErr ((List.range' i k).map err) = 0 then fin (S n) else mk (firstErr ((List.range' i k).map err))) := by
    intro k
    induction k with
    | zero => intro i hi; obtain rfl : i = n := by omega
              simp [rgoE]
    | succ k ih =>
      intro i hi
      rw [rgoE, hf i (by omega), List.range'_succ, List.map_cons, firstErr_cons]
      by_cases h : err i = 0
      · simp only [h, if_true]
        have := ih (i + 1) (by omega)
        simpa using this
      · simp [h]
  have := key n 0 (by omega)
  rw [List.range_eq_range']
  simpa using this

def knI (l : List Int) : GMap Int Bool := ⟨fun x => if x ∈ l then some true else none⟩
theorem knI_set {l : List Int} {x : Int} : (knI l).set x true = knI (l ++ [x]) := by
  unfold GMap.set knI
  congr 1
  funext y
  by_cases h : y = x
  · subst h; simp
  · by_cases h2 : y ∈ l <;> simp [h, h2]
theorem knI_getD {l : List Int} {x : Int} : (knI l).getD x false = decide (x ∈ l) := by
  unfold GMap.getD knI
  by_cases h : x ∈ l <;> simp [h]
/-- What is wrong at a place of a row. -/
def rowE (row : List Int) (i : Nat) : Int := if gx row (i : Int) < 0 ∨ 60 ≤ gx row (i : Int) then 3 else if gx row (i : Int) ∈ row.take i then 6 else 0
def rowErr (row : List Int) : Int := if 60 < row.length then 4 else firstErr ((List.range row.length).map (rowE row))
theorem checkRow_eq (row : List Int) : layer_checkRow row = some (rowErr row) := by
  unfold layer_checkRow rowErr
  by_cases c : 60 < row.length
  · rw [if_pos c, decide_eq_true (by omega)]; rfl
  · rw [if_neg c, decide_eq_false (by omega), cond_false, bnd_eq]
    have e0 : (GMap.nil : GMap Int Bool) = knI (row.take 0) := by unfold GMap.nil knI; simp
    rw [e0, rforE_errO (fun i => knI (row.take i)) (rowE row) (fun e => Res.ab e) (by omega) (fun i hi => by
      unfold layer_checkRow_L1 rowE
      rw [need_of ⟨by omega, by omega⟩, bnd_eq, knI_getD, knI_set]
      have ht : row.take (i + 1) = row.take i ++ [gx row (i : Int)] := by rw [gx_nat hi, List.take_succ_eq_append_getElem hi]
      rw [← ht]
      by_cases c1 : gx row (i : Int) < 0 ∨ 60 ≤ gx row (i : Int)
      · have : (decide (gx row (i : Int) < 0) || decide (60 ≤ gx row (i : Int))) = true := by simpa using c1
        simp [this, c1]
      · have : (decide (gx row (i : Int) < 0) || decide (60 ≤ gx row (i : Int))) = false := by simp; omega
        rw [this, cond_false, if_neg c1]
        by_cases c2 : gx row (i : Int) ∈ row.take i <;> simp [c2])]
    by_cases h : firstErr ((List.range row.length).map (rowE row)) = 0
    · rw [if_pos h, bindR_nx, h]
    · rw [if_neg h, bindR_ab]
theorem RowError_eq (row : List Int) : ref_RowError row = some (rowErr row) := by
  unfold ref_RowError rowErr
  by_cases c : 60 < row.length
  · rw [if_pos c, decide_eq_true (by omega)]; rfl
  · rw [if_neg c, decide_eq_false (by omega), cond_false]
    rw [rforE_errO (fun _ => ()) (rowE row) (fun e => Res.ab e) (by omega) (fun i hi => by
      unfold ref_RowError_L1 rowE
      rw [need_of ⟨by omega, by omega⟩, bnd_eq, In_eq, Option.bind_some, When_eq, Option.bind_some, need_of ⟨by omega, by omega, by omega⟩]
      have hseg : seg row 0 (i : Int) = row.take i := by simp [seg]
      rw [hseg, Contains_int_eq _ _ (by rw [List.length_take]; omega), Option.bind_some, When_eq, Option.bind_some, First_eq (by simp), Option.bind_some]
      simp only [firstErr_cons, firstErr_nil]
      by_cases c1 : gx row (i : Int) < 0 ∨ 60 ≤ gx row (i : Int)
      · have : decide (0 ≤ gx row (i : Int) ∧ gx row (i : Int) ≤ 59) = false := by simp; omega
        simp [this, c1]
      · have : decide (0 ≤ gx row (i : Int) ∧ gx row (i : Int) ≤ 59) = true := by simp; omega
        rw [this, if_neg c1]
        by_cases c2 : gx row (i : Int) ∈ row.take i <;> simp [c2])]
    by_cases h : firstErr ((List.range row.length).map (rowE row)) = 0
    · rw [if_pos h, bindR_nx, h]
    · rw [if_neg h, bindR_ab]
theorem rowErr_zero {row : List Int} (h : rowErr row = 0) : row.length ≤ 60 ∧ row.Nodup ∧ ∀ x ∈ row, 0 ≤ x ∧ x < 60 := by
  unfold rowErr at h
  by_cases c : 60 < row.length
  · rw [if_pos c] at h; omega
  · rw [if_neg c, firstErr_zero] at h
    have hz : ∀ i, i < row.length → rowE row i = 0 := fun i hi => h _ (List.mem_map.2 ⟨i, List.mem_range.2 hi, rfl⟩)
    have hr : ∀ (i : Nat) (hi : i < row.length), (0 ≤ row[i] ∧ row[i] < 60) ∧ row[i] ∉ row.take i := fun i hi => by
      have := hz i hi
      unfold rowE at this
      rw [gx_nat hi] at this
      by_cases c1 : row[i] < 0 ∨ 60 ≤ row[i]
      · rw [if_pos c1] at this; omega
      · rw [if_neg c1] at this
        by_cases c2 : row[i] ∈ row.take i
        · rw [if_pos c2] at this; omega
        · exact ⟨by omega, c2⟩
    refine ⟨by omega, ?_, fun x hx => ?_⟩
    · unfold List.Nodup
      rw [List.pairwise_iff_getElem]
      intro i j hi hj hij e
      refine (hr j hj).2 ?_
      rw [← e]
      exact List.mem_take_iff_getElem.2 ⟨i, by omega, rfl⟩
    · obtain ⟨i, hi, rfl⟩ := List.getElem_of_mem hx
      exact (hr i hi).1

/-- The places of a row. -/
theorem places_eq {row : List Int} (hl : row.length ≤ 1000000) : ∃ M, layer_places row = some M ∧ (∀ x, M.has x = decide (x ∈ row)) ∧ (row.Nodup → ∀ x ∈ row, M.getD x 0 = (ps row x : Int)) := by
  unfold layer_places
  rw [bnd_eq]
  obtain ⟨M, h1, h2, h3⟩ := rfor_inv (n := (row.length : Int)) (step := layer_places_L1 row) (s0 := (GMap.nil : GMap Int Int))
    (fun i M => (∀ x, (M.f x).isSome = decide (x ∈ row.take i)) ∧ (row.Nodup → ∀ (j : Nat) (hj : j < row.length), j < i → M.f row[j] = some (j : Int))) (by omega) ⟨fun x => by simp [GMap.nil], fun _ j hj h => by omega⟩ (fun i M hi hI => by
      have hi' : i < row.length := by omega
      obtain ⟨g1, g2⟩ := hI
      unfold layer_places_L1
      rw [need_of ⟨by omega, by omega⟩, gx_nat hi']
      refine ⟨_, rfl, fun x => ?_, fun hn j hj hji => ?_⟩
      · show (if x = row[i] then some (i : Int) else M.f x).isSome = _
        rw [List.take_succ_eq_append_getElem hi']
        by_cases e : x = row[i]
        · rw [if_pos e]
          exact (decide_eq_true (List.mem_append_right _ (List.mem_singleton.2 e))).symm
        · rw [if_neg e, g1]
          exact decide_eq_decide.2 ⟨fun h => List.mem_append_left _ h, fun h => (List.mem_append.1 h).elim id (fun h => absurd (List.mem_singleton.1 h) e)⟩
      · show (if row[j] = row[i] then some (i : Int) else M.f row[j]) = _
        by_cases e : j = i
        · subst e; simp
        · have : ¬ row[j] = row[i] := fun h => by
            rcases Nat.lt_or_gt_of_ne e with c | c
            · exact List.pairwise_iff_getElem.1 hn _ _ hj hi' c h
            · omega
          rw [if_neg this]
          exact g2 hn j hj (by omega))
  rw [h1, Option.bind_some]
  simp only [Int.toNat_natCast, List.take_length] at h2 h3
  refine ⟨M, rfl, fun x => h2 x, fun hn x hx => ?_⟩
  have hp := ps_lt hx
  have := h3 hn _ hp hp
  rw [ps_get hp] at this
  unfold GMap.getD
  rw [this]; rfl

/-! How many links cross. -/
theorem pairs_loop {l : List Link} {step1 : Int → Int → Option Int} {f : Link → Link → Int} (hl : l.length ≤ 200) (hf : ∀ x y, f x y = 0 ∨ f x y = 1) (step2 : Link → List Link → Int → Int → Option Int)
    (h1 : ∀ (i : Nat) (hi : i < l.length) s, step1 i s = rfor ((l.take i).length : Int) (step2 l[i] (l.take i)) s) (h2 : ∀ x ∈ l, ∀ (v : List Link) (j : Int) s, (∀ y ∈ v, y ∈ l) → inR v j → 0 ≤ s → s ≤ 100000 → step2 x v j s = some (s + f x (gx v j))) :
    rfor (l.length : Int) step1 0 = some (prs f l) := by
  have hls : ∀ (x : Link) (m : List Link), 0 ≤ ls (f x) m ∧ ls (f x) m ≤ m.length := fun x m => by
    induction m with
    | nil => exact ⟨Int.le_refl _, Int.le_refl _⟩
    | cons y m ih =>
      have := hf x y
      have e : ls (f x) (y :: m) = f x y + ls (f x) m := rfl
      rw [e, List.length_cons]; push_cast
      rcases this with h | h <;> omega
  obtain ⟨s, e1, e2, e3⟩ := rfor_inv (n := (l.length : Int)) (step := step1) (s0 := 0) (fun i s => s = prs f (l.take i) ∧ 0 ≤ s ∧ s ≤ i * 200) (by omega) ⟨rfl, by omega, by simp⟩ (fun i s hi hI => by
    obtain ⟨a1, a2, a3⟩ := hI
    have hi' : i < l.length := by omega
    rw [h1 i hi']
    obtain ⟨s', b1, b2⟩ := rfor_inv (n := ((l.take i).length : Int)) (step := step2 l[i] (l.take i)) (s0 := s) (fun j s' => s' = s + ls (f l[i]) ((l.take i).take j)) (by simp; omega) (by simp [ls]) (fun j s' hj hs' => by
      have hj' : j < (l.take i).length := by omega
      have hb := hls l[i] ((l.take i).take j)
      have hlen : ((l.take i).take j).length ≤ 200 := by simp; omega
      subst hs'
      refine ⟨_, h2 _ (List.getElem_mem hi') (l.take i) j _ (fun y hy => List.mem_of_mem_take hy) ⟨by omega, by omega⟩ (by omega) (by omega), ?_⟩
      rw [gx_nat hj', List.take_succ_eq_append_getElem hj', ls_append]
      have : ls (f l[i]) [(l.take i)[j]] = f l[i] (l.take i)[j] + 0 := rfl
      omega)
    refine ⟨s', b1, ?_, ?_, ?_⟩
    · rw [b2, a1, List.take_succ_eq_append_getElem hi', prs_snoc, Int.toNat_natCast, List.take_length]
    · have := hls l[i] ((l.take i).take ((l.take i).length : Int).toNat)
      rw [b2]; omega
    · have := hls l[i] ((l.take i).take ((l.take i).length : Int).toNat)
      have hlen : ((l.take i).take ((l.take i).length : Int).toNat).length ≤ 200 := by simp; omega
      rw [b2]; push_cast; omega)
  rw [e1, e2]; simp
/-- More to the right in the upper row. -/
def qU (upper : List Int) (x y : Link) : Prop := ps upper y.From < ps upper x.From
instance (upper : List Int) (x y : Link) : Decidable (qU upper x y) := by unfold qU; infer_instance
def crsF (upper O : List Int) (x y : Link) : Int := if ((ps upper x.From : Int) - (ps upper y.From : Int)) * ((ps O x.To : Int) - (ps O y.To : Int)) < 0 then 1 else 0
theorem crs_val {upper O : List Int} {l : List Link} (hn : O.Nodup) (hO : ∀ x ∈ l, x.To ∈ O) : prs (crsF upper O) l = crV (Bv l (qU upper) (·.To)) O := by
  rw [crV_pairs, prs_all (g := fun x y => if qU upper x y then pairI O x.To y.To else 0) (fun x => by rw [if_neg (by unfold qU; omega)]) (fun x hx y hy => by
    show (if ((ps upper x.From : Int) - (ps upper y.From : Int)) * ((ps O x.To : Int) - (ps O y.To : Int)) < 0 then (1 : Int) else 0) = _
    rw [prod_neg, pairI_lt hn (hO x hx) (hO y hy), pairI_lt hn (hO y hy) (hO x hx)]
    congr 1
    · by_cases a : ps upper y.From < ps upper x.From
      · rw [if_pos (show (ps upper y.From : Int) < ps upper x.From by omega), if_pos (show qU upper x y from a)]
        by_cases b : ps O x.To < ps O y.To
        · rw [if_pos (show (ps O x.To : Int) < ps O y.To by omega), if_pos b]
        · rw [if_neg (show ¬ (ps O x.To : Int) < ps O y.To by omega), if_neg b]
      · rw [if_neg (show ¬ (ps upper y.From : Int) < ps upper x.From by omega), if_neg (show ¬ qU upper x y from a)]
    · by_cases a : ps upper x.From < ps upper y.From
      · rw [if_pos (show (ps upper x.From : Int) < ps upper y.From by omega), if_pos (show qU upper y x from a)]
        by_cases b : ps O y.To < ps O x.To
        · rw [if_pos (show (ps O y.To : Int) < ps O x.To by omega), if_pos b]
        · rw [if_neg (show ¬ (ps O y.To : Int) < ps O x.To by omega), if_neg b]
      · rw [if_neg (show ¬ (ps upper x.From : Int) < ps upper y.From by omega), if_neg (show ¬ qU upper y x from a)])]
theorem crsF_01 (upper O : List Int) (x y : Link) : crsF upper O x y = 0 ∨ crsF upper O x y = 1 := by unfold crsF; split <;> simp
theorem crossings_eq {upper O : List Int} {l : List Link} (hu : upper.length ≤ 60) (hol : O.length ≤ 60) (hun : upper.Nodup) (hn : O.Nodup) (hl : l.length ≤ 200) (hk : ∀ x ∈ l, x.From ∈ upper ∧ x.To ∈ O) :
    layer_crossings upper O l = some (crV (Bv l (qU upper) (·.To)) O) ∧ ref_CrossingsOf upper O l = some (crV (Bv l (qU upper) (·.To)) O) := by
  rw [← crs_val hn (fun x hx => (hk x hx).2)]
  constructor
  · unfold layer_crossings
    obtain ⟨U, hU, _, hUg⟩ := places_eq (row := upper) (by omega)
    obtain ⟨V, hV, _, hVg⟩ := places_eq (row := O) (by omega)
    rw [hU, Option.bind_some, hV, Option.bind_some]
    rw [pairs_loop (f := crsF upper O) hl (crsF_01 upper O) (fun x v => layer_crossings_L2 x v U V) (fun i hi s => by
      unfold layer_crossings_L1
      have hseg : seg l 0 (i : Int) = l.take i := by simp [seg]
      rw [need_of ⟨by omega, by omega⟩, bnd_eq, need_of ⟨by omega, by omega, by omega⟩, bnd_eq, hseg, gx_nat hi]) (fun x hx v j s hv hj s0 s1 => by
      unfold layer_crossings_L2
      have hy := hv _ (gx_mem hj)
      have p1 := ps_lt (hk x hx).1
      have p2 := ps_lt (hk _ hy).1
      have p3 := ps_lt (hk x hx).2
      have p4 := ps_lt (hk _ hy).2
      rw [need_of hj, bnd_eq, hUg hun _ (hk x hx).1, hUg hun _ (hk _ hy).1, hVg hn _ (hk x hx).2, hVg hn _ (hk _ hy).2, Wk (n := (ps upper x.From : Int) - _) (by omega) (by omega), Wk (n := (ps O x.To : Int) - _) (by omega) (by omega)]
      unfold crsF
      have hb : -10000 ≤ ((ps upper x.From : Int) - (ps upper (gx v j).From : Int)) * ((ps O x.To : Int) - (ps O (gx v j).To : Int)) ∧ ((ps upper x.From : Int) - (ps upper (gx v j).From : Int)) * ((ps O x.To : Int) - (ps O (gx v j).To : Int)) ≤ 10000 := by
        have a1 : -60 ≤ (ps upper x.From : Int) - (ps upper (gx v j).From : Int) ∧ (ps upper x.From : Int) - (ps upper (gx v j).From : Int) ≤ 60 := by omega
        have a2 : -60 ≤ (ps O x.To : Int) - (ps O (gx v j).To : Int) ∧ (ps O x.To : Int) - (ps O (gx v j).To : Int) ≤ 60 := by omega
        generalize (ps upper x.From : Int) - (ps upper (gx v j).From : Int) = a at *
        generalize (ps O x.To : Int) - (ps O (gx v j).To : Int) = b at *
        have h := Int.natAbs_mul a b
        have h1 : a.natAbs * b.natAbs ≤ 60 * 60 := Nat.mul_le_mul (by omega) (by omega)
        omega
      rw [Wk (n := _ * _) (by omega) (by omega)]
      by_cases c : ((ps upper x.From : Int) - (ps upper (gx v j).From : Int)) * ((ps O x.To : Int) - (ps O (gx v j).To : Int)) < 0
      · rw [decide_eq_true c, cond_true, bnd_eq, Wk (by omega) (by omega), if_pos c]
      · rw [decide_eq_false c, cond_false, if_neg c, Int.add_zero])]
    rfl
  · unfold ref_CrossingsOf
    rw [pairs_loop (f := crsF upper O) hl (crsF_01 upper O) (fun x v => ref_CrossingsOf_L2 x v O upper) (fun i hi s => by
      unfold ref_CrossingsOf_L1
      have hseg : seg l 0 (i : Int) = l.take i := by simp [seg]
      rw [need_of ⟨by omega, by omega⟩, bnd_eq, need_of ⟨by omega, by omega, by omega⟩, bnd_eq, hseg, gx_nat hi]) (fun x hx v j s hv hj s0 s1 => by
      unfold ref_CrossingsOf_L2
      have hy := hv _ (gx_mem hj)
      have hI : ∀ (R : List Int) (z : Int), R.length ≤ 60 → z ∈ R → slices_Index_int R z = some (ps R z : Int) := fun R z hR hz => by
        rw [Index_int_eq R z (by omega)]
        have : R.findIdx? (fun y => decide (z = y)) = some (ps R z) := List.findIdx?_eq_some_of_exists ⟨z, hz, by simp⟩
        rw [this]
      have p1 := ps_lt (hk x hx).1
      have p2 := ps_lt (hk _ hy).1
      have p3 := ps_lt (hk x hx).2
      have p4 := ps_lt (hk _ hy).2
      rw [need_of hj, bnd_eq, hI upper _ hu (hk x hx).1, Option.bind_some, hI upper _ hu (hk _ hy).1, Option.bind_some, hI O _ hol (hk x hx).2, Option.bind_some, hI O _ hol (hk _ hy).2, Option.bind_some, Wk (n := (ps upper x.From : Int) - _) (by omega) (by omega), Wk (n := (ps O x.To : Int) - _) (by omega) (by omega), Sign_eq, Option.bind_some, Sign_eq, Option.bind_some]
      unfold crsF
      generalize (ps upper x.From : Int) - (ps upper (gx v j).From : Int) = a at *
      generalize (ps O x.To : Int) - (ps O (gx v j).To : Int) = b at *
      have hsg : ∀ n : Int, (n < 0 ∧ min (max n (-1)) 1 = -1) ∨ (n = 0 ∧ min (max n (-1)) 1 = 0) ∨ (0 < n ∧ min (max n (-1)) 1 = 1) := fun n => by omega
      rcases hsg a with ⟨a1, a2⟩ | ⟨a1, a2⟩ | ⟨a1, a2⟩ <;> rcases hsg b with ⟨b1, b2⟩ | ⟨b1, b2⟩ | ⟨b1, b2⟩ <;> rw [a2, b2]
      · have := Int.mul_pos_of_neg_of_neg a1 b1
        rw [if_neg (by omega)]; simp [Wk]
      · subst b1; simp [Wk]
      · have := Int.mul_neg_of_neg_of_pos a1 b1
        rw [if_pos this, show (-1 : Int) * 1 = -1 from rfl, Wk (n := -1) (by omega) (by omega), decide_eq_true (p := (-1 : Int) < 0) (by omega), cond_true, bnd_eq, Wk (by omega) (by omega)]
      · subst a1; simp [Wk]
      · subst a1; simp [Wk]
      · subst a1; simp [Wk]
      · have := Int.mul_neg_of_pos_of_neg a1 b1
        rw [if_pos this, show (1 : Int) * -1 = -1 from rfl, Wk (n := -1) (by omega) (by omega), decide_eq_true (p := (-1 : Int) < 0) (by omega), cond_true, bnd_eq, Wk (by omega) (by omega)]
      · subst b1; simp [Wk]
      · have := Int.mul_pos a1 b1
        rw [if_neg (by omega)]; simp [Wk])]
    rfl
end Go.DB
