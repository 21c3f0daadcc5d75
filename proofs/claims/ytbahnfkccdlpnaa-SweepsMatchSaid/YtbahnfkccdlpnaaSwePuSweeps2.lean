/-
  SweepsMatch: what the reference sorts; both sort alike.
-/
import Derived.Test.YtbahnfkccdlpnaaSwePuSweeps1
set_option linter.unusedSimpArgs false
set_option linter.unusedVariables false
namespace Go.DB
open Go Go.RowKit
variable {dr : Dir}

theorem Index_ps {other : List Int} (ho : other.length ≤ 60) (x : Int) : slices_Index_int other x = some (if x ∈ other then (ps other x : Int) else -1) := by
  rw [Index_int_eq other x (by omega)]
  by_cases c : x ∈ other
  · have : other.findIdx? (fun y => decide (x = y)) = some (ps other x) := List.findIdx?_eq_some_of_exists ⟨x, c, by simp⟩
    rw [this, if_pos c]
  · have : other.findIdx? (fun y => decide (x = y)) = none := List.findIdx?_eq_none_iff.2 fun y hy => decide_eq_false fun e => c (e ▸ hy)
    rw [this, if_neg c]
/-- The mean of a node, as the reference has it. -/
def refM (dr : Dir) (row other : List Int) (l : List Link) (n : Int) : Ref_mean := ⟨n, (meanOf dr row other l n).sum, (meanOf dr row other l n).many⟩
def mltR (a b : Ref_mean) : Bool := decide (a.num * b.den < b.num * a.den)
/-- Which row lies beside which. -/
def Beside (dr : Dir) (i o : Int) : Prop := (dr = Dir.down ∧ o = i - 1) ∨ (dr = Dir.up ∧ o = i + 1)
theorem inner_eq {rows : List (List Int)} {l : List Link} {i o n : Int} (hb : Beside dr i o) (ho : inR rows o) (hol : (gx rows o).length ≤ 60) (hl : l.length ≤ 200) :
    rfor (l.length : Int) (ref_SweepOf_3_L2 i n rows l o) (0, 0) = some (msum dr (gx rows o) l n) := by
  obtain ⟨s, s1, s2⟩ := rfor_inv (n := (l.length : Int)) (step := ref_SweepOf_3_L2 i n rows l o) (s0 := ((0 : Int), (0 : Int))) (fun k s => s = msum dr (gx rows o) (l.take k) n) (by omega) (by rw [List.take_zero]; rfl) (fun k s hk hs => by
    have hkl : k < l.length := by omega
    have hne : o ≠ i := by rcases hb with ⟨_, h⟩ | ⟨_, h⟩ <;> omega
    have hbd := msum_bd (dr := dr) hol n (l.take k)
    have hlt : (l.take k).length ≤ 200 := by simp; omega
    rw [List.take_succ_eq_append_getElem hkl, msum_snoc, ← hs]
    rw [← hs] at hbd
    unfold ref_SweepOf_3_L2
    rw [need_of ⟨by omega, by omega⟩, bnd_eq, gx_nat hkl]
    have hj : (Option.bind (α := Int) (bif (decide (l[k].To = n)) && (decide (o < i)) then (need (inR rows o) <| need (o ≠ i) <| need (inR rows o) <| Option.bind (slices_Index_int (gx rows o) l[k].From) fun far1 => some far1)
        else (bif (decide (l[k].From = n)) && (decide (i < o)) then (need (inR rows o) <| need (o ≠ i) <| need (inR rows o) <| Option.bind (slices_Index_int (gx rows o) l[k].To) fun far2 => some far2) else some (-1))) fun j => (some j : Option Int)) =
        some (if dr.key l[k] = n ∧ dr.far l[k] ∈ gx rows o then (ps (gx rows o) (dr.far l[k]) : Int) else -1) := by
      rcases hb with ⟨rfl, h⟩ | ⟨rfl, h⟩
      · rw [decide_eq_true (p := o < i) (by omega), decide_eq_false (p := i < o) (by omega), Bool.and_true, Bool.and_false, cond_false]
        by_cases c : l[k].To = n
        · rw [decide_eq_true c, cond_true, need_of ho, need_of hne, need_of ho, Index_ps hol, Option.bind_some, Option.bind_some]
          by_cases d : l[k].From ∈ gx rows o
          · rw [if_pos d, if_pos (show Dir.down.key l[k] = n ∧ Dir.down.far l[k] ∈ gx rows o from ⟨c, d⟩)]; rfl
          · rw [if_neg d, if_neg (fun e : Dir.down.key l[k] = n ∧ Dir.down.far l[k] ∈ gx rows o => d e.2)]
        · rw [decide_eq_false c, cond_false, Option.bind_some, if_neg (fun e : Dir.down.key l[k] = n ∧ Dir.down.far l[k] ∈ gx rows o => c e.1)]
      · rw [decide_eq_false (p := o < i) (by omega), decide_eq_true (p := i < o) (by omega), Bool.and_true, Bool.and_false, cond_false]
        by_cases c : l[k].From = n
        · rw [decide_eq_true c, cond_true, need_of ho, need_of hne, need_of ho, Index_ps hol, Option.bind_some, Option.bind_some]
          by_cases d : l[k].To ∈ gx rows o
          · rw [if_pos d, if_pos (show Dir.up.key l[k] = n ∧ Dir.up.far l[k] ∈ gx rows o from ⟨c, d⟩)]; rfl
          · rw [if_neg d, if_neg (fun e : Dir.up.key l[k] = n ∧ Dir.up.far l[k] ∈ gx rows o => d e.2)]
        · rw [decide_eq_false c, cond_false, Option.bind_some, if_neg (fun e : Dir.up.key l[k] = n ∧ Dir.up.far l[k] ∈ gx rows o => c e.1)]
    obtain ⟨j, j1, j2⟩ := Option.bind_eq_some_iff.1 hj
    rw [j1, Option.bind_some, Option.some.inj j2]
    unfold lstep
    by_cases c : dr.key l[k] = n ∧ dr.far l[k] ∈ gx rows o
    · have hp := ps_lt c.2
      rw [if_pos c, if_pos c, decide_eq_true (by omega), cond_true, bnd_eq, bnd_eq, Wk (by omega) (by omega), Wk (by omega) (by omega)]
      exact ⟨_, rfl, rfl⟩
    · rw [if_neg c, if_neg c, decide_eq_false (by omega), cond_false]
      exact ⟨_, rfl, rfl⟩)
  rw [s1, s2, Int.toNat_natCast, List.take_length]
theorem means_eq {rows : List (List Int)} {l : List Link} {i o : Int} (hb : Beside dr i o) (hi : inR rows i) (ho : inR rows o) (hil : (gx rows i).length ≤ 60) (hin : (gx rows i).Nodup) (hol : (gx rows o).length ≤ 60) (hl : l.length ≤ 200) :
    rfor ((gx rows i).length : Int) (ref_SweepOf_3_L1 (gx rows i) i rows l o) [] = some ((gx rows i).map (refM dr (gx rows i) (gx rows o) l)) := by
  have := rfor_inv (n := ((gx rows i).length : Int)) (step := ref_SweepOf_3_L1 (gx rows i) i rows l o) (s0 := ([] : List Ref_mean)) (fun k s => s = ((gx rows i).take k).map (refM dr (gx rows i) (gx rows o) l)) (by omega) (by simp) (fun k s hk hs => by
    have hkl : k < (gx rows i).length := by omega
    have hbd := msum_bd (dr := dr) hol (gx rows i)[k] l
    have hsl : s.length = k := by rw [hs]; simp; omega
    unfold ref_SweepOf_3_L1
    rw [need_of ⟨by omega, by omega⟩, bnd_eq, bnd_eq, gx_nat hkl, inner_eq hb ho hol hl, Option.bind_some]
    have hv : (bif decide (0 < (msum dr (gx rows o) l (gx rows i)[k]).2) then some ({ { (⟨(gx rows i)[k], (k : Int), 1⟩ : Ref_mean) with num := (msum dr (gx rows o) l (gx rows i)[k]).1 } with den := (msum dr (gx rows o) l (gx rows i)[k]).2 } : Ref_mean)
        else some (⟨(gx rows i)[k], (k : Int), 1⟩ : Ref_mean)) = some (refM dr (gx rows i) (gx rows o) l (gx rows i)[k]) := by
      unfold refM meanOf
      by_cases c : (msum dr (gx rows o) l (gx rows i)[k]).2 = 0
      · rw [decide_eq_false (by omega), cond_false, if_pos c, ps_at hin hkl]
      · rw [decide_eq_true (by omega), cond_true, if_neg c]
    rw [hv, Option.bind_some, need_of (by rw [room_iff]; simp; omega)]
    refine ⟨_, rfl, ?_⟩
    rw [List.take_succ_eq_append_getElem hkl, List.map_append, hs]; rfl)
  obtain ⟨s, s1, s2⟩ := this
  rw [s1, s2, Int.toNat_natCast, List.take_length]
theorem swo_ref {row other : List Int} {l : List Link} (hr : row.length ≤ 60) (ho : other.length ≤ 60) (hl : l.length ≤ 200) :
    Swo (fun m : Ref_mean => ∃ n ∈ row, m = refM dr row other l n) mltR ref_SweepOf_3_1 := by
  have hbd : ∀ n ∈ row, 0 ≤ (refM dr row other l n).num ∧ (refM dr row other l n).num ≤ 12000 ∧ 1 ≤ (refM dr row other l n).den ∧ (refM dr row other l n).den ≤ 200 := fun n hn => meanOf_bd hr ho hl hn
  refine ⟨fun x y hx hy => ?_, fun x y hx hy h => ?_, fun x y z hx hy hz h1 h2 => ?_⟩
  · obtain ⟨a, ha, rfl⟩ := hx
    obtain ⟨b, hb, rfl⟩ := hy
    have h1 := hbd a ha
    have h2 := hbd b hb
    have p : ∀ u v : Int, 0 ≤ u → u ≤ 12000 → 1 ≤ v → v ≤ 200 → 0 ≤ u * v ∧ u * v ≤ 12000 * 200 := fun u v a b c d => ⟨Int.mul_nonneg a (by omega), Int.mul_le_mul b d (by omega) (by omega)⟩
    have q1 := p _ _ h1.1 h1.2.1 h2.2.2.1 h2.2.2.2
    have q2 := p _ _ h2.1 h2.2.1 h1.2.2.1 h1.2.2.2
    refine ⟨_, by
      unfold ref_SweepOf_3_1
      rw [Wk (by omega) (by omega), Wk (by omega) (by omega), Compare_eqD, Option.bind_some], ?_⟩
    unfold mltR
    generalize (refM dr row other l a).num * (refM dr row other l b).den = u at *
    generalize (refM dr row other l b).num * (refM dr row other l a).den = v at *
    by_cases c : u < v
    · simp [c]
    · rw [if_neg c, decide_eq_false c]
      split <;> simp
  · unfold mltR at *
    have := of_decide_eq_true h
    exact decide_eq_false (by omega)
  · obtain ⟨a, ha, rfl⟩ := hx
    obtain ⟨b, hb, rfl⟩ := hy
    obtain ⟨c, hc, rfl⟩ := hz
    have q1 := hbd a ha
    have q2 := hbd b hb
    have q3 := hbd c hc
    unfold mltR at *
    have h1 := of_decide_eq_false h1
    have h2 := of_decide_eq_false h2
    refine decide_eq_false fun h3 => ?_
    generalize (refM dr row other l a).num = sx at *
    generalize (refM dr row other l b).num = sy at *
    generalize (refM dr row other l c).num = sz at *
    generalize (refM dr row other l a).den = mx at *
    generalize (refM dr row other l b).den = my at *
    generalize (refM dr row other l c).den = mz at *
    have a := Int.mul_le_mul_of_nonneg_right (Int.not_lt.1 h1) (show 0 ≤ mz by omega)
    have b := Int.mul_le_mul_of_nonneg_right (Int.not_lt.1 h2) (show 0 ≤ mx by omega)
    have e1 : sz * mx * my = sz * my * mx := Int.mul_right_comm _ _ _
    have e2 : sy * mz * mx = sy * mx * mz := Int.mul_right_comm _ _ _
    have e3 : sx * my * mz = sx * mz * my := Int.mul_right_comm _ _ _
    have cc : sz * mx * my ≤ sx * mz * my := by rw [e1, ← e3]; rw [e2] at b; exact Int.le_trans b a
    have := Int.le_of_mul_le_mul_right cc (show 0 < my by omega)
    omega
/-- Both sort alike. -/
theorem sort_both {rows : List (List Int)} {l : List Link} {i o : Int} {ends : Link → Option (Int × Int)} (hb : Beside dr i o) (hi : inR rows i) (ho : inR rows o) (hil : (gx rows i).length ≤ 60) (hin : (gx rows i).Nodup) (hol : (gx rows o).length ≤ 60) (hon : (gx rows o).Nodup)
    (hl : l.length ≤ 200) (he : ∀ x, ends x = some (dr.key x, dr.far x)) :
    ∃ out, layer_sorted (gx rows i) (gx rows o) l ends = some out ∧ ref_SweepOf_3 i o rows l = some (rows.set i.toNat out) ∧ out.Perm (gx rows i) := by
  obtain ⟨out, o1, o2⟩ := sorted_is (dr := dr) hil hin hol hon hl he
  refine ⟨out, o1, ?_, o2.perm⟩
  obtain ⟨m, m1, m2⟩ := Stbmean.stable_eq (swo_ref (dr := dr) hil hol hl) (D := (gx rows i).map (refM dr (gx rows i) (gx rows o) l)) (fun x hx => by
    obtain ⟨n, hn, rfl⟩ := List.mem_map.1 hx; exact ⟨n, hn, rfl⟩) (by simp; omega)
  have hback : ∀ x ∈ m, x = refM dr (gx rows i) (gx rows o) l x.node := fun x hx => by
    obtain ⟨n, hn, rfl⟩ := List.mem_map.1 (m1.mem.1 hx); rfl
  have hnode : m.map (·.node) = out := by
    refine Sd.one (fun x y => ps (gx rows i) x < ps (gx rows i) y) (fun x y h => by omega) (L := gx rows i) (lt := mltO (meanOf dr (gx rows i) (gx rows o) l)) ?_ ?_ o2
    · unfold kept2
      refine List.pairwise_iff_getElem.2 fun a b ha hb' hab => .inl ?_
      show ps (gx rows i) (gx rows i)[a] < ps (gx rows i) (gx rows i)[b]
      rw [ps_at hin ha, ps_at hin hb']; exact hab
    · have hmm : ((gx rows i).map (refM dr (gx rows i) (gx rows o) l)).map (·.node) = gx rows i := by
        rw [List.map_map]; exact List.map_id' _
      refine ⟨?_, ?_, fun tb htb => ?_⟩
      · have := m1.perm.map (·.node)
        rwa [hmm] at this
      · unfold srt
        rw [List.pairwise_map]
        refine List.Pairwise.imp_of_mem (fun {a b} ha hb' h => ?_) m1.srtd
        rw [hback a ha, hback b hb'] at h
        exact h
      · have hk : kept2 mltR (fun a b => tb a.node b.node) ((gx rows i).map (refM dr (gx rows i) (gx rows o) l)) := by
          unfold kept2 at *
          rw [List.pairwise_map]
          exact htb.imp (fun h => h)
        have h2 := m1.kept _ hk
        unfold kept2 at *
        rw [List.pairwise_map]
        refine List.Pairwise.imp_of_mem (fun {a b} ha hb' h => ?_) h2
        rw [hback a ha, hback b hb'] at h
        exact h
  have hml : m.length = (gx rows i).length := by rw [m1.len]; simp
  unfold ref_SweepOf_3
  rw [need_of hi, need_of hi, bnd_eq, means_eq hb hi ho hil hin hol hl, Option.bind_some, bnd_eq, m2, Option.bind_some, set_gx hi]
  have hi0 : i.toNat < rows.length := by obtain ⟨h1, h2⟩ := hi; omega
  obtain ⟨s, s1, s2⟩ := rfor_inv (n := (m.length : Int)) (step := ref_SweepOf_3_L3 i m) (s0 := rows) (fun k s => s = rows.set i.toNat ((m.take k).map (·.node) ++ (gx rows i).drop k)) (by omega) (by
    rw [List.take_zero, List.map_nil, List.nil_append, List.drop_zero, set_gx hi]) (fun k s hk hs => by
    have hkm : k < m.length := by omega
    have hsi : inR s i := by rw [hs]; obtain ⟨h1, h2⟩ := hi; exact ⟨h1, by simpa using h2⟩
    have hgi : gx s i = (m.take k).map (·.node) ++ (gx rows i).drop k := by
      rw [hs, gx_setL hi hi.1, if_pos rfl]
    have hlen : (gx s i).length = (gx rows i).length := by rw [hgi]; simp; omega
    unfold ref_SweepOf_3_L3
    rw [need_of ⟨by omega, by omega⟩, bnd_eq, need_of hsi, need_of hsi, need_of ⟨by omega, by rw [hlen]; omega⟩, gx_nat hkm]
    refine ⟨_, rfl, ?_⟩
    rw [hgi, hs, List.set_set, Int.toNat_natCast]
    congr 1
    refine List.ext_getElem (by simp; omega) fun t h1 h2 => ?_
    rw [List.getElem_set]
    by_cases c : k = t
    · subst c
      rw [if_pos rfl, List.getElem_append_left (by simp; omega)]
      simp
    · rw [if_neg c]
      by_cases d : t < k
      · rw [List.getElem_append_left (by simp; omega), List.getElem_append_left (by simp; omega)]
        simp
      · rw [List.getElem_append_right (by simp; omega), List.getElem_append_right (by simp; omega)]
        simp
        congr 1
        omega)
  rw [s1, Option.bind_some, s2, Int.toNat_natCast, List.take_length, hnode, List.drop_eq_nil_of_le (by omega), List.append_nil]
end Go.DB
