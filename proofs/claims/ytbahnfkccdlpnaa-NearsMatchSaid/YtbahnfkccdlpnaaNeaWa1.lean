/-
  The walks: what a function computes is what its plain function says (printed by a program of one's own).
-/
import Derived.Test.YtbahnfkccdlpnaaNeaFa
set_option maxRecDepth 100000
set_option linter.unusedSimpArgs false
set_option linter.unusedVariables false
namespace Go.Proofs.Ytbahnfkccdlpnaa
open Go Go.DB Go.RowKit

theorem slices_Compact_int_ok {l : List Int} {r : List Int} {s : Value} (h : slices_Compact_int l = some r) : FSpecO Try.prog 51 [isV s] [(s, rowV 3 l)] (anyV) [none, some (rowV 3 r)] := by
  obtain ⟨hl, h⟩ := need_some h
  obtain rfl := some_eq h
  exact compactI_spec compactI_lay rfl fnok51 hl

theorem slices_Sort_int_ok {l : List Int} {r : List Int} {s : Value} (h : slices_Sort_int l = some r) : FSpecO Try.prog 67 [isV s] [(s, rowV 3 l)] (anyV) [some (rowV 3 r)] := by
  obtain ⟨hl, h⟩ := need_some h
  obtain rfl := some_eq h
  exact sortI_spec sortI_lay rfl fnok67 hl

attribute [local go_sem] Oper.semAt_some
open Go.Shelf in
set_option maxRecDepth 100000 in
set_option maxHeartbeats 2000000 in
theorem vals1_in (F : Fence) (n : Nat) (h7 : F.fn 95) (hro : F.round = none) (hn : 1 ≤ n) (l Bs n₀ b off len cap : Nat) (zs : List Int) (hreach : len * 8 ≤ 140737488351232) (hb : b < n₀) (J Jx : List Int → World → Prop)
    (hY : ∀ pre x W, J pre W → pre.length < len → YieldAt F (n - 1) Try.prog l #[.int .i64 x] W fun e W' =>
      (e = .returned (.bool true) ∧ J (pre ++ [x]) W' ∧ Below n₀ W W') ∨ (e = .returned (.bool false) ∧ Jx (pre ++ [x]) W'))
    (W : World) (hBs : W.cell? ⟨Bs, 0, none⟩ = some (.slice (some ⟨b, off, none⟩) len cap)) (hc : ∀ j, j < len → W.cell? ⟨b, off + j, none⟩ = some (.int .i64 (zs[j]?.getD 0))) (h0 : J [] W) :
    CallsIn F n Try.prog 95 #[.func (.yield l) #[] #[], .pointer (some ⟨Bs, 0, none⟩)] W fun e W' => (∃ v, e = .returned v) ∧
      ((∃ ys, ys = uptoI zs len ∧ J ys W') ∨ (∃ pre, (∃ k, k ≤ len ∧ pre = uptoI zs k) ∧ Jx pre W')) := by
  refine callsIn_of_wp Try.func95 rfl h7 ?_ hro
  simp only [Try.ntmps95, List.size_toArray, List.length_cons, List.length_nil, Nat.reduceAdd, Nat.reduceSub, Array.replicate_succ, Array.replicate_zero, List.push_toArray, List.append_toArray, List.nil_append, List.cons_append]
  gi_wp2
  gi_loopw [7] (fun i wr => ∃ k : Nat, k ≤ len ∧ i = .int .i64 k ∧ J (uptoI zs k) wr ∧ Below n₀ W wr)
    (fun i _ => len - (intOf i).toNat)
  case atStart => exact ⟨0, Nat.zero_le _, rfl, h0, Below.refl _ _⟩
  case round =>
    obtain ⟨k, hk, rfl, hJs, hnx⟩ := hrel
    have hcx : k < len → wr.cell? ⟨b, off + k, none⟩ = some (.int .i64 (zs[k]?.getD 0)) := fun h => (hnx.cell (p := ⟨b, off + k, none⟩) hb).trans (hc k h)
    by_cases hlt : k < len
    · obtain ⟨fn, tmps, assign, body, hy, hR⟩ := hY _ (zs[k]?.getD 0) wr hJs (by rw [uptoI_length]; exact hlt)
      have hcx' := hcx hlt
      gi_wp2
      refine hR.mono ?_
      rintro e W3 (⟨rfl, hJ3, hk3⟩ | ⟨rfl, hJx3⟩)
      · gi_wp2
        go_roundw
        case rel => exact ⟨k + 1, by omega, by simp, by rw [uptoI_succ]; exact hJ3, hnx.trans hk3⟩
        case measure => simp [intOf]; omega
      · gi_wp2
        refine bodyPost_ret (results_none rfl _ _ _) rfl ?_
        exact ⟨⟨_, rfl⟩, .inr ⟨_, ⟨k + 1, by omega, (uptoI_succ _ _).symm⟩, hJx3⟩⟩
    · obtain rfl : k = len := by omega
      gi_wp2
      go_end0
      exact ⟨⟨_, rfl⟩, .inl ⟨_, rfl, hJs⟩⟩
open Go.Shelf in
set_option maxRecDepth 100000 in
set_option maxHeartbeats 1000000 in
theorem vals1_nil_in (F : Fence) (n : Nat) (h7 : F.fn 95) (hro : F.round = none) (l Bs cap : Nat) (a : Option Addr) (J : List Int → World → Prop) (W : World) (hBs : W.cell? ⟨Bs, 0, none⟩ = some (.slice a 0 cap)) (h0 : J [] W) :
    CallsIn F n Try.prog 95 #[.func (.yield l) #[] #[], .pointer (some ⟨Bs, 0, none⟩)] W fun e W' => (∃ v, e = .returned v) ∧ J [] W' := by
  refine callsIn_of_wp Try.func95 rfl h7 ?_ hro
  simp only [Try.ntmps95, List.size_toArray, List.length_cons, List.length_nil, Nat.reduceAdd, Nat.reduceSub, Array.replicate_succ, Array.replicate_zero, List.push_toArray, List.append_toArray, List.nil_append, List.cons_append]
  gi_wp2
  gi_loopw [7] (fun i wr => i = .int .i64 0 ∧ J [] wr) (fun _ _ => 0)
  case atStart => exact ⟨rfl, h0⟩
  case round =>
    obtain ⟨rfl, hJs⟩ := hrel
    gi_wp2
    go_end0
    exact ⟨⟨_, rfl⟩, hJs⟩
theorem vals_stops (F : Fence) (n : Nat) (h7 : F.fn 95) (hro : F.round = none) (hn : 1 ≤ n) (Bs n₀ : Nat) (sv : Value) (zs : List Int) (hreach : zs.length * 8 ≤ 140737488351232) (w : World) (hBs : Bs < w.heap.size) (hn₀ : n₀ ≤ w.heap.size)
    (hc : w.cell? ⟨Bs, 0, none⟩ = some sv) (hI : IntsAt n₀ w sv zs) :
    SeqStopsK F n Try.prog 95 #[.pointer (some ⟨Bs, 0, none⟩)] (fun x : Int => #[Value.int .i64 x]) (Below n₀) (fun ys => ys = zs) (fun pre => True) zs.length w := fun l J Jx W hW _ _ hY h0 => by
  have hc' := (hW.cell (p := ⟨Bs, 0, none⟩) hBs).trans hc
  rcases hI.below (hW.mono hn₀) with ⟨a, cap, rfl, rfl⟩ | ⟨b, off, cap, rfl, hb, hcs⟩
  · exact (vals1_nil_in F n h7 hro l Bs cap a J W hc' h0).mono fun e W' ⟨he, hj⟩ => ⟨he, .inl ⟨_, rfl, hj⟩⟩
  · refine (vals1_in F n h7 hro hn l Bs n₀ b off zs.length cap zs hreach hb J Jx hY W hc' hcs h0).mono ?_
    rintro e W' ⟨he, ⟨ys, rfl, hj⟩ | ⟨pre, ⟨k, hk, rfl⟩, hj⟩⟩
    · exact ⟨he, .inl ⟨_, uptoI_all zs, hj⟩⟩
    · exact ⟨he, .inr ⟨_, trivial, hj⟩⟩
open Go.Shelf in
set_option maxHeartbeats 1000000 in
theorem vals_in (F : Fence) (n : Nat) (h5 : F.fn 53) (hro : F.round = none) (a : Option Addr) (len cap : Nat) (w : World) :
    CallsIn F n Try.prog 53 #[.slice a len cap] w fun e w' => e = .returned (.func (.func 95) #[] #[.pointer (some ⟨w.heap.size, 0, none⟩)]) ∧ w' = w.alloc (.cells #[.slice a len cap] 32) := by
  refine callsIn_of_wp Try.func53 rfl h5 ?_ hro
  simp only [Try.ntmps53, List.size_toArray, List.length_cons, List.length_nil, Nat.reduceAdd, Nat.reduceSub, Array.replicate_succ, Array.replicate_zero, List.push_toArray, List.append_toArray, List.nil_append, List.cons_append]
  gi_wp2
  go_ret
  exact ⟨rfl, rfl⟩
theorem seqInfo : (Try.prog.info? 3).map (fun i => (i.zero, i.size, i.bytes)) = some (some (.int .i64 0), 1, 8) := by kernel_rfl
open Go.Shelf Go.Maps in
set_option maxRecDepth 100000 in
set_option maxHeartbeats 2000000 in
theorem appSeq_in (F : Fence) (n : Nat) (h3 : F.fn 114) (h5 : F.fn 95) (hro : F.round = none) (hn : 3 ≤ n) (Bs : Nat) (sv : Value) (xs : List Int) (hlen : xs.length ≤ maxLen) (hbytes : xs.length * 8 ≤ 140737488351232) (w : World) (hBs : Bs < w.heap.size) (hc : w.cell? ⟨Bs, 0, none⟩ = some sv) (hI : IntsAt w.heap.size w sv xs) :
    CallsIn F n Try.prog 114 #[.slice none 0 0, .func (.func 95) #[] #[.pointer (some ⟨Bs, 0, none⟩)]] w fun e W' => ∃ v, e = .returned v ∧ W'.ownsRow w.heap.size 3 1 v xs.length (xs.map (Value.int .i64)) ∧ (v = .slice none 0 0 ↔ xs = []) ∧ Below w.heap.size w W' := by
  have h1 : 1 ≤ n := by omega
  obtain ⟨i0, hi, hz0, hz1, hz2⟩ := info_parts seqInfo
  refine callsIn_of_wp_marks Try.func114 rfl h3 ?_ hro
  simp only [Try.ntmps114, List.size_toArray, List.length_cons, List.length_nil, Nat.reduceAdd, Nat.reduceSub, Array.replicate_succ, Array.replicate_zero, List.push_toArray, List.append_toArray, List.nil_append, List.cons_append]
  gi_wp2
  have bO := Boxed.new w 32 (.slice none 0 0)
  have hB0 : Below w.heap.size w (w.alloc (.cells #[.slice none 0 0] 32)) := (Below.refl _ w).alloc (Nat.le_refl _) _
  refine wpIn_rangeFunc_ownG hro h1 (gf := 95) (lb := #[.pointer (some ⟨Bs, 0, none⟩)]) rfl h5 (enters_of Try.func95 (by kernel_rfl) rfl)
    (vals_stops F (n - 1) h5 hro (by omega) Bs w.heap.size sv xs hbytes _ (by simp; omega) (by simp) ((hB0.cell (p := ⟨Bs, 0, none⟩) hBs).trans hc) (hI.below hB0)) belowK_t (belowK_b (by simp)) (Below.refl _ _) (fun _ => rfl)
    (fun pre W => (∃ v, Boxed W w.heap.size 32 v ∧ W.ownsRow w.heap.size 3 1 v pre.length (pre.map (Value.int .i64)) ∧ (v = .slice none 0 0 ↔ pre = [])) ∧ Below w.heap.size w W)
    (fun _ _ _ => False)
    (OwnFrom.and (Own.from (holdsRow_own w.heap.size w.heap.size 32 3 1 (fun pre : List Int => pre.length) (fun pre => pre.map (Value.int .i64)) (fun pre v => v = .slice none 0 0 ↔ pre = [])) _) (ownFrom_below (Nat.le_refl _) (by simp)))
    (fun _ _ _ _ _ hs _ _ => hs)
    ⟨⟨_, bO, World.ownsRow_nil _ _ _ _, by simp⟩, hB0⟩
    (fun x => { tmps := #[.slice none 0 0, .func (.func 95) #[] #[.pointer (some ⟨Bs, 0, none⟩)], .pointer (some ⟨w.heap.size, 0, none⟩), undef, .slice none 0 0, .int .i64 x, .func (.func 95) #[] #[.pointer (some ⟨Bs, 0, none⟩)], .int .i64 x, undef, undef, undef, undef, undef], defers := [] }) ?assign ?body ?done ?stop
  case assign =>
    intro l x W K hK
    gi_wp2
    exact hK
  case body =>
    rintro l pre x W ⟨⟨v, hv, hrow, hnil⟩, hB⟩ hlt
    have hc := hv.cell
    gi_wp2_with (gi_at_builtin; refine wpListIn_append_own _ rfl _ _ 32 rfl w.heap.size 3 i0 (.int .i64 0) 1 8 Try.underlying32 hi hz0 hz1 hz2 rfl (by decide) _ _ _ rfl (hrow.alloc _) ⟨W.heap.size, 0, none⟩ 1 1 [.int .i64 x] rfl rfl (cell_one_new _ _ _) (by simp [Value.oneCell']) (by omega) (by omega) (by have := hB.size; simp; omega) ?_; intro v' w1 hown' hgrow _; obtain ⟨g', cap', rfl⟩ := ownsRow_succ hown'; obtain ⟨hv1, hv2, hr2, hk2, hb2⟩ := hv.appended (by decide) hrow hB.size (Nat.le_refl _) hown' hgrow; have hc1 := hv1.cell; have hf1 := hv1.frozen)
    exact ⟨hk2.from _, hb2, ⟨_, hv2, by simpa using hr2, by simp⟩, hB.trans hb2⟩
  case done =>
    rintro D ys W hD rfl ⟨⟨v, hv, hrow, hnil⟩, hB⟩ hK
    have hc := hv.cell
    gi_wp2
    refine ⟨by simp, .inl ⟨_, _, rfl, run_takeDeferred hK, ?_⟩⟩
    exact ⟨_, results_tmp rfl _ _ _, v, rfl, ownsRow_putObj hrow _ hK rfl, hnil, hB.trans (belowK_b (w := w) (Nat.le_refl _) W D _ _ (by simp at hD; omega) hK rfl rfl)⟩
  case stop =>
    rintro D c pre W _ _ h _
    exact h.elim
open Go.Shelf Go.Maps in
set_option maxHeartbeats 1000000 in
theorem collect_in (F : Fence) (n : Nat) (h2 : F.fn 94) (h3 : F.fn 114) (h5 : F.fn 95) (hro : F.round = none) (hn : 4 ≤ n) (Bs : Nat) (sv : Value) (xs : List Int) (hlen : xs.length ≤ maxLen) (hbytes : xs.length * 8 ≤ 140737488351232) (w : World) (hBs : Bs < w.heap.size) (hc : w.cell? ⟨Bs, 0, none⟩ = some sv) (hI : IntsAt w.heap.size w sv xs) :
    CallsIn F n Try.prog 94 #[.func (.func 95) #[] #[.pointer (some ⟨Bs, 0, none⟩)]] w fun e W' => ∃ v, e = .returned v ∧ W'.ownsRow w.heap.size 3 1 v xs.length (xs.map (Value.int .i64)) ∧ (v = .slice none 0 0 ↔ xs = []) ∧ Below w.heap.size w W' := by
  have hn1 : 1 ≤ n := by omega
  refine callsIn_of_wp Try.func94 rfl h2 ?_ hro
  simp only [Try.ntmps94, List.size_toArray, List.length_cons, List.length_nil, Nat.reduceAdd, Nat.reduceSub, Array.replicate_succ, Array.replicate_zero, List.push_toArray, List.append_toArray, List.nil_append, List.cons_append]
  gi_wp2_with (gi_at_call 114; refine (appSeq_in F (n - 1) h3 h5 hro (by omega) Bs sv xs hlen hbytes w hBs hc hI).mono ?_; rintro e w' ⟨v, rfl, hrow, hnil, hb⟩)
  go_ret
  exact ⟨v, rfl, hrow, hnil, hb⟩
open Go.Shelf Go.Maps Go.Sort in
set_option maxRecDepth 100000 in
set_option maxHeartbeats 2000000 in
theorem sorted_in (F : Fence) (n : Nat) (h1 : F.fn 52) (h2 : F.fn 94) (h3 : F.fn 114) (h5 : F.fn 95) (h9 : F.fn 67) (hF : ∀ (R : Ending → World → Prop) args w, Calls Try.prog 67 args w R → CallsIn F (n - 1) Try.prog 67 args w R) (hro : F.round = none) (hn : 5 ≤ n) (Bs : Nat) (sv : Value) (xs : List Int) (hlen : xs.length ≤ maxLen) (hbytes : xs.length * 8 ≤ 140737488351232) (w : World) (hBs : Bs < w.heap.size) (hc : w.cell? ⟨Bs, 0, none⟩ = some sv) (hI : IntsAt w.heap.size w sv xs) :
    CallsIn F n Try.prog 52 #[.func (.func 95) #[] #[.pointer (some ⟨Bs, 0, none⟩)]] w fun e W' => ∃ v, e = .returned v ∧ W'.ownsRow w.heap.size 3 1 v xs.length ((sortI xs).map (Value.int .i64)) ∧ Below w.heap.size w W' := by
  have hn1 : 1 ≤ n := by omega
  refine callsIn_of_wp Try.func52 rfl h1 ?_ hro
  simp only [Try.ntmps52, List.size_toArray, List.length_cons, List.length_nil, Nat.reduceAdd, Nat.reduceSub, Array.replicate_succ, Array.replicate_zero, List.push_toArray, List.append_toArray, List.nil_append, List.cons_append]
  gi_wp2_with (gi_at_call 94; refine (collect_in F (n - 1) h2 h3 h5 hro (by omega) Bs sv xs hlen hbytes w hBs hc hI).mono ?_; rintro e W ⟨v, rfl, hrow, hnil, hb⟩)
  rcases hrow.2 with ⟨rfl, hz⟩ | ⟨gb, cap, cur, rfl, hbase, hgb, r1, r2, r3, r4⟩
  · have hss : xs = [] := List.eq_nil_of_length_eq_zero hz
    subst hss
    gi_wp2_with (gi_at_call 67; refine (hF _ _ _ (Proofs.AnyM.slices_Sort_int_none sortI_lay none 0 W)).mono ?_; rintro e w' ⟨rfl, rfl⟩)
    go_ret
    exact ⟨.slice none 0 0, rfl, by simpa [sortI] using hrow, hb⟩
  · have hH : Holds (Value.int .i64) W gb 0 xs.toArray := Proofs.holds_of_block_i hgb (by simpa using r4)
    have hgl : gb < W.heap.size := (Array.getElem?_eq_some_iff.1 hgb).1
    have hsz : xs.length < 4611686018427387904 := by omega
    have cS := hF _ _ _ (Proofs.AnyM.slices_Sort_int sortI_lay gb 0 cap xs W hH hgl hsz)
    gi_wp2_with (gi_at_call 67; refine cS.mono ?_; rintro e w' ⟨rfl, nn, os, rfl⟩)
    go_ret
    exact ⟨_, rfl, Proofs.ownsRow_sorted_i (by simp) hbase hgb r1 r2 r3, hb.grown (Proofs.grownBy_sorted_i _) hb.size (fun j hj => by cases hj; exact hbase)⟩

theorem slices_Values_int_ok {l : List Int} {r : SeqI} (h : slices_Values_int l = some r) : FSpec Try.prog 53 [rep l] (rep r) := by
  obtain rfl := some_eq h
  refine ⟨fnok53, fun M w vs hM ha => ?_⟩
  match vs, ha with
  | [v], ⟨hv, _⟩ =>
    obtain ⟨a, cap, rfl, h1, h2, h3⟩ := rep_list.1 hv
    refine Calls.mono (callsIn_wide.1 (vals_in Fence.wide 3 trivial rfl a l.length cap w)) ?_
    rintro e w' ⟨rfl, rfl⟩
    have hx : Ext w (w.alloc (.cells #[.slice a l.length cap] 32)) := Ext.alloc _ _
    refine ⟨hx, _, rfl, [_], ⟨_, rfl, w.heap.size, rfl, fun hm => ?_, ?_, _, (Boxed.new w 32 (.slice a l.length cap)).cell, (rep l).law M M _ _ _ hx.keeps (fun k h => .inl h) hv⟩, rfl⟩
    · have := hM.lt _ hm; omega
    · simp

theorem slices_Sorted_int_ok {x : SeqI} {r : List Int} (h : slices_Sorted_int x = some r) : FSpecO Try.prog 52 [rep x] [] (anyV) [some (rowV 3 r)] := by
  obtain ⟨hn, h⟩ := need_some h
  obtain rfl := some_eq h
  refine ⟨fnok52, fun M D w vs hM ha hO => ?_⟩
  match vs, ha with
  | [v], ⟨⟨cs, ⟨u, hcs, b, hu, hbM, hb, sv, hc, hr⟩, hv⟩, _⟩ =>
    subst hcs; subst hu; subst hv
    obtain ⟨hI, hin⟩ := IntsAt.of hr
    refine Calls.mono (callsIn_wide.1 (sorted_in Fence.wide 9 trivial trivial trivial trivial trivial (fun _ _ _ h => callsIn_wide.2 h) rfl (by omega) b sv x.l (by unfold maxLen; omega) (by omega) w hb hc hI)) ?_
    rintro e w' ⟨v, rfl, hrow, hbl⟩
    have hlen : (sortI x.l).length = x.l.length := by simp [sortI]
    rw [← hlen] at hrow
    obtain ⟨M', D', k1, k2, k3, k4, k5, k6⟩ := row_of_owns hM hbl (fun y hy => hin y (by simpa [sortI] using hy)) hrow
    refine ⟨v, M', D', rfl, k1 _, fun k h => .inl (k3 k h), k2, k4, trivial, ?_, ?_⟩
    · intro i c hc
      match i, hc with
      | 0, hc =>
        simp only [List.getElem?_cons_zero, Option.some.injEq] at hc
        subst hc
        exact ⟨k5, fun k hk => .inr (k6 k hk)⟩
    · intro i j c c' hi hj hne
      match i, j, hi, hj with
      | 0, 0, _, _ => omega

theorem layer_near_ok {want1 : (List Int)} {size1 : (List Int)} {gap1 : Int} {r : (List Int)}  (h : layer_near want1 size1 gap1 = some r) : FSpec Try.prog 68 [rep want1, rep size1, rep gap1] (rep r) := by
  unfold layer_near at h
  refine FSpec.intro (n := 139) fnok68 Try.func68 rfl Try.ntmps68 rfl (fun F => ?_)
  refine .seq ?_
  refine .region [] mixed (by kernel_rfl) ?_
  refine .cons (.assign .none (.const (x := ([] : (List Int))) (fun M w => ⟨_, ⟨none, 0, rfl, Nat.le_refl _, by decide, rfl⟩, rfl⟩))) rfl ?_
  refine .nil ?_
  refine .then ?_
  refine .seq ?_
  refine .region [] mixed (by kernel_rfl) ?_
  refine .cons (.move .none (.s rfl)) rfl ?_
  refine .cons (.len .none sl32 (.s rfl)) rfl ?_
  obtain ⟨n1, hv1, h⟩ := bnd_some h
  refine .cons (.re hv1 (.assign .none (.s rfl))) rfl ?_
  refine .nil ?_
  refine .then ?_
  refine .seq ?_
  refine .region [([], []), ([], [24]), ([24], [8, 24])] mixed (by kernel_rfl) ?_
  refine .consA (.move .none (.s rfl)) rfl ?_
  obtain ⟨hn2, h⟩ := need_some h
  refine .consW (.makeSlice rk32 zo3 rfl (.s rfl) (.s rfl) hn2) rfl rfl ?_
  refine .consW (.passRow rfl (.tmp rfl)) rfl rfl ?_
  refine .nil ?_
  refine .then ?_
  obtain ⟨offset1, hv3, h⟩ := bnd_some h
  refine .reB (t := 8) rfl (congrArg (rowV 3) hv3) ?_
  refine .nameRow (t := 8) (g := 5001) rfl rfl rfl (fun s5001 => ?_)
  refine .seq ?_
  refine .seq ?_
  refine .region [] mixed (by kernel_rfl) ?_
  refine .cons (.assign .none (.int (by decide))) rfl ?_
  refine .nil ?_
  refine .then ?_
  obtain ⟨j_4, h, hK4⟩ := bind_some h
  refine .thenJ (ι := (List Int)) (fun j_4 => []) (fun j_4 => [(5001, some (CPred.at s5001 (rowV 3 j_4)))]) (fun s => j_4 = s) (.cons (t := 0) rfl (.cons (t := 7) rfl (.cons (t := 8) rfl Sub.nil))) SubB.nil ?_ (fun j_4' hj4 => ?_)
  · skip
    refine .block ?_
    refine .loopL h (fun s5_ => [(9, ⟨True, rep s5_.1⟩)]) (fun s5_ => [(5001, some (CPred.at s5001 (rowV 3 s5_.2)))]) (.cons (t := 9) rfl Sub.nil) (.cons (t := 5001) rfl SubB.nil) (.cons (t := 0) rfl (.cons (t := 1) rfl (.cons (t := 2) rfl (.cons (t := 7) rfl (.cons (t := 8) rfl Sub.nil))))) SubB.nil (fun s5_ o_5 h hD5 => ?_)
    unfold layer_near_L1 at h
    refine .seq ?_
    refine .seq ?_
    refine .region [] mixed (by kernel_rfl) ?_
    refine .cons (.move .none (.s rfl)) rfl ?_
    refine .cons (.move .none (.s rfl)) rfl ?_
    refine .cons (.lt .none (.s rfl) (.s rfl)) rfl ?_
    refine .nil ?_
    refine .then ?_
    refine .cond (t := 27) rfl trivial (fun hb6 => ?_) (fun hb6 => ?_)
    · replace h := bif_t h hb6
      refine .skip ?_
      refine .then ?_
      refine .seq ?_
      refine .block ?_
      refine .region [([], []), ([], []), ([], []), ([], []), ([], []), ([5001], []), ([5001], []), ([], []), ([], []), ([], []), ([], []), ([], []), ([], []), ([], []), ([], []), ([5001], []), ([5001], [5001])] mixed (by kernel_rfl) ?_
      refine .consA (.move .none (.s rfl)) rfl ?_
      refine .consA (.move .none (.s rfl)) rfl ?_
      refine .consA (.move .none (.s rfl)) rfl ?_
      refine .consA (.move .none (.s rfl)) rfl ?_
      refine .consA (.subW .none (.s rfl) (.int (by decide))) rfl ?_
      obtain ⟨hn7, h⟩ := need_some h
      refine .consA (.indexAddrO (k := 5001) .none sl32 ty3 (.s rfl) rfl (.s rfl) (fun _ => hn7)) rfl ?_
      refine .consA (.loadElem0 (k := 5001) .none ty3 (.s rfl) rfl (fun _ => hn7)) rfl ?_
      refine .consA (.move .none (.s rfl)) rfl ?_
      refine .consA (.move .none (.s rfl)) rfl ?_
      refine .consA (.subW .none (.s rfl) (.int (by decide))) rfl ?_
      obtain ⟨hn8, h⟩ := need_some h
      refine .consA (.indexAddr .none sl32 ty3 (.s rfl) (.s rfl) (fun _ => hn8)) rfl ?_
      refine .consA (.load .none ty3 (.s rfl)) rfl ?_
      refine .consA (.addW .none (.s rfl) (.s rfl)) rfl ?_
      refine .consA (.move .none (.s rfl)) rfl ?_
      obtain ⟨v1, hv9, h⟩ := bnd_some h
      refine .consA (.re hv9 (.addW .none (.s rfl) (.s rfl))) rfl ?_
      obtain ⟨hn10, h⟩ := need_some h
      refine .consA (.indexAddrO (k := 5001) .none sl32 ty3 (.s rfl) rfl (.s rfl) (fun _ => hn10)) rfl ?_
      refine .consN (.storeElem0 (k := 5001) ty3 (.s rfl) rfl (.s rfl) hn10) rfl ?_
      refine .nil ?_
      refine .blkNormal ?_
      refine .then ?_
      obtain ⟨offset2, hv11, h⟩ := bnd_some h
      refine .reB (t := 5001) rfl (congrArg (fun y => CPred.at s5001 (rowV 3 y)) hv11) ?_
      refine .region [] mixed (by kernel_rfl) ?_
      refine .cons (.move .none (.s rfl)) rfl ?_
      refine .cons (.addW .none (.s rfl) (.int (by decide))) rfl ?_
      obtain ⟨i1, hv12, h⟩ := bnd_some h
      refine .cons (.re hv12 (.assign .none (.s rfl))) rfl ?_
      refine .nil ?_
      exact Ends.againL (some_eq h) (.cons (t := 9) rfl (.cons (t := 0) rfl (.cons (t := 1) rfl (.cons (t := 2) rfl (.cons (t := 7) rfl (.cons (t := 8) rfl Sub.nil)))))) (.cons (t := 5001) rfl SubB.nil)
    · replace h := bif_f h hb6
      refine .exit ?_
      refine .thenExit ?_
      refine .thenExit ?_
      refine .blkExit ?_
      replace h := hD5 _ (some_eq h)
      exact Ends.join _ (some_eq h) (.cons (t := 0) rfl (.cons (t := 7) rfl (.cons (t := 8) rfl Sub.nil))) (.cons (t := 5001) rfl SubB.nil)
  · subst hj4; have h := hK4; clear hK4
    refine .freezeRow (g := 5001) (ts := [8]) rfl (.cons (t := 8) rfl trivial .nil) SubB.nil rfl ?_
    refine .seq ?_
    refine .region [([], []), ([], [47]), ([47], [10, 47])] mixed (by kernel_rfl) ?_
    refine .consA (.move .none (.s rfl)) rfl ?_
    obtain ⟨hn13, h⟩ := need_some h
    refine .consW (.makeSlice rk32 zo3 rfl (.s rfl) (.s rfl) hn13) rfl rfl ?_
    refine .consW (.passRow rfl (.tmp rfl)) rfl rfl ?_
    refine .nil ?_
    refine .then ?_
    obtain ⟨level1, hv14, h⟩ := bnd_some h
    refine .reB (t := 10) rfl (congrArg (rowV 3) hv14) ?_
    refine .nameRow (t := 10) (g := 5002) rfl rfl rfl (fun s5002 => ?_)
    refine .seq ?_
    refine .seq ?_
    refine .region [([], []), ([5002], []), ([], [])] mixed (by kernel_rfl) ?_
    refine .consA (.move .none (.s rfl)) rfl ?_
    refine .consA (.lenO (k := 5002) sl32 (.told (.s rfl) rfl)) rfl ?_
    refine .consA (.move .none (.int (by decide))) rfl ?_
    refine .nil ?_
    refine .then ?_
    obtain ⟨j_15, h, hK15⟩ := bind_some h
    refine .thenJ (ι := (List Int)) (fun j_15 => []) (fun j_15 => [(5002, some (CPred.at s5002 (rowV 3 j_15)))]) (fun s => j_15 = s) (.cons (t := 7) rfl (.cons (t := 8) rfl (.cons (t := 10) rfl Sub.nil))) SubB.nil ?_ (fun j_15' hj15 => ?_)
    · skip
      refine .block ?_
      refine .rforL h (fun p16_ => [(50, ⟨True, rep p16_.1⟩)]) (fun p16_ => [(5002, some (CPred.at s5002 (rowV 3 p16_.2)))]) (.cons (t := 50) rfl Sub.nil) (.cons (t := 5002) rfl SubB.nil) (.cons (t := 0) rfl (.cons (t := 7) rfl (.cons (t := 8) rfl (.cons (t := 10) rfl (.cons (t := 49) rfl Sub.nil))))) SubB.nil (fun p16_ o_16 h hD16 => ?_)
      refine .seq ?_
      refine .region [] mixed (by kernel_rfl) ?_
      refine .cons (.lt .none (.s rfl) (.s rfl)) rfl ?_
      refine .nil ?_
      refine .then ?_
      refine .seq ?_
      refine .cond (t := 51) rfl trivial (fun hb17 => ?_) (fun hb17 => ?_)
      · replace h := bif_t h hb17
        refine .skip ?_
        refine .then ?_
        refine .seq ?_
        obtain ⟨j_18, h, hK18⟩ := bind_some h
        unfold layer_near_L2 at h
        refine .thenJ (ι := (List Int)) (fun j_18 => []) (fun j_18 => [(5002, some (CPred.at s5002 (rowV 3 j_18)))]) (fun s => j_18 = s) (.cons (t := 0) rfl (.cons (t := 7) rfl (.cons (t := 8) rfl (.cons (t := 10) rfl (.cons (t := 49) rfl (.cons (t := 50) rfl Sub.nil)))))) SubB.nil ?_ (fun j_18' hj18 => ?_)
        · skip
          refine .block ?_
          refine .seq ?_
          refine .region [] mixed (by kernel_rfl) ?_
          refine .cons (.move .none (.s rfl)) rfl ?_
          refine .cons (.assign .none (.s rfl)) rfl ?_
          refine .nil ?_
          refine .then ?_
          refine .region [([], []), ([], []), ([], []), ([], []), ([], []), ([], []), ([], []), ([], []), ([], []), ([], []), ([], []), ([5002], []), ([5002], [5002])] mixed (by kernel_rfl) ?_
          refine .consA (.move .none (.s rfl)) rfl ?_
          refine .consA (.move .none (.s rfl)) rfl ?_
          refine .consA (.move .none (.s rfl)) rfl ?_
          refine .consA (.move .none (.s rfl)) rfl ?_
          obtain ⟨hn19, h⟩ := need_some h
          refine .consA (.indexAddr .none sl32 ty3 (.s rfl) (.s rfl) (fun _ => hn19)) rfl ?_
          refine .consA (.load .none ty3 (.s rfl)) rfl ?_
          refine .consA (.move .none (.s rfl)) rfl ?_
          refine .consA (.move .none (.s rfl)) rfl ?_
          obtain ⟨hn20, h⟩ := need_some h
          refine .consA (.indexAddr .none sl32 ty3 (.s rfl) (.s rfl) (fun _ => hn20)) rfl ?_
          refine .consA (.load .none ty3 (.s rfl)) rfl ?_
          obtain ⟨v2, hv21, h⟩ := bnd_some h
          refine .consA (.re hv21 (.subW .none (.s rfl) (.s rfl))) rfl ?_
          obtain ⟨hn22, h⟩ := need_some h
          refine .consA (.indexAddrO (k := 5002) .none sl32 ty3 (.s rfl) rfl (.s rfl) (fun _ => hn22)) rfl ?_
          refine .consN (.storeElem0 (k := 5002) ty3 (.s rfl) rfl (.s rfl) hn22) rfl ?_
          refine .nil ?_
          refine .blkNormal ?_
          exact Ends.join _ (some_eq h) (.cons (t := 0) rfl (.cons (t := 7) rfl (.cons (t := 8) rfl (.cons (t := 10) rfl (.cons (t := 49) rfl (.cons (t := 50) rfl Sub.nil)))))) (.cons (t := 5002) rfl SubB.nil)
        · subst hj18; have h := hK18; clear hK18
          refine .region [] mixed (by kernel_rfl) ?_
          refine .cons (.addW .none (.s rfl) (.int (by decide))) rfl ?_
          refine .cons (.move .none (.s rfl)) rfl ?_
          refine .nil ?_
          exact Ends.againL (some_eq h) (.cons (t := 50) rfl (.cons (t := 0) rfl (.cons (t := 7) rfl (.cons (t := 8) rfl (.cons (t := 10) rfl (.cons (t := 49) rfl Sub.nil)))))) (.cons (t := 5002) rfl SubB.nil)
      · replace h := bif_f h hb17
        refine .exit ?_
        refine .thenExit ?_
        refine .thenExit ?_
        refine .blkExit ?_
        replace h := hD16 _ (some_eq h)
        exact Ends.join _ (some_eq h) (.cons (t := 7) rfl (.cons (t := 8) rfl (.cons (t := 10) rfl Sub.nil))) (.cons (t := 5002) rfl SubB.nil)
    · subst hj15; have h := hK15; clear hK15
      refine .freezeRow (g := 5002) (ts := [10]) rfl (.cons (t := 10) rfl trivial .nil) SubB.nil rfl ?_
      refine .seq ?_
      refine .region [([], []), ([], []), ([], [68]), ([68], [68]), ([], [])] mixed (by kernel_rfl) ?_
      refine .consA (.move .none (.s rfl)) rfl ?_
      obtain ⟨r1, hv23, h⟩ := bind_some h
      refine .consA (.call .none (slices_Values_int_ok hv23) (.cons (.s rfl) .nil)) rfl ?_
      obtain ⟨r2, hv24, h⟩ := bind_some h
      refine .consW (.callO [] (slices_Sorted_int_ok hv24) (.cons (.s rfl) .nil) .nil rfl (by decide) (by decide) (by intro d h; cases h; decide)) rfl rfl ?_
      obtain ⟨values1, hv25, h⟩ := bind_some h
      refine .consW (.tell (t := 68) rfl row_one rfl (by decide) (fun _ => StepOK.callO [68] ((slices_Compact_int_ok hv25).frzO1) (.cons (.s rfl) .nil) (.cons (k := 68) rfl .nil) rfl (by decide) (by decide) (by intro d h; cases h; decide))) rfl rfl ?_
      refine .consA (.assign .none (.s rfl)) rfl ?_
      refine .nil ?_
      refine .then ?_
      refine .seq ?_
      refine .region [([], []), ([], [71]), ([71], [13, 71])] mixed (by kernel_rfl) ?_
      refine .consA (.move .none (.s rfl)) rfl ?_
      obtain ⟨hn26, h⟩ := need_some h
      refine .consW (.makeSlice rk32 zo3 rfl (.s rfl) (.s rfl) hn26) rfl rfl ?_
      refine .consW (.passRow rfl (.tmp rfl)) rfl rfl ?_
      refine .nil ?_
      refine .then ?_
      obtain ⟨out1, hv27, h⟩ := bnd_some h
      refine .reB (t := 13) rfl (congrArg (rowV 3) hv27) ?_
      refine .nameRow (t := 13) (g := 5003) rfl rfl rfl (fun s5003 => ?_)
      refine .seq ?_
      refine .seq ?_
      refine .region [([], []), ([5003], []), ([], [])] mixed (by kernel_rfl) ?_
      refine .consA (.move .none (.s rfl)) rfl ?_
      refine .consA (.lenO (k := 5003) sl32 (.told (.s rfl) rfl)) rfl ?_
      refine .consA (.move .none (.int (by decide))) rfl ?_
      refine .nil ?_
      refine .then ?_
      obtain ⟨j_28, h, hK28⟩ := bind_some h
      refine .thenJ (ι := (List Int)) (fun j_28 => []) (fun j_28 => [(5003, some (CPred.at s5003 (rowV 3 j_28)))]) (fun s => j_28 = s) (.cons (t := 7) rfl (.cons (t := 8) rfl (.cons (t := 10) rfl (.cons (t := 12) rfl (.cons (t := 13) rfl Sub.nil))))) SubB.nil ?_ (fun j_28' hj28 => ?_)
      · skip
        refine .block ?_
        refine .rforL h (fun p29_ => [(74, ⟨True, rep p29_.1⟩)]) (fun p29_ => [(5003, some (CPred.at s5003 (rowV 3 p29_.2)))]) (.cons (t := 74) rfl Sub.nil) (.cons (t := 5003) rfl SubB.nil) (.cons (t := 7) rfl (.cons (t := 8) rfl (.cons (t := 10) rfl (.cons (t := 12) rfl (.cons (t := 13) rfl (.cons (t := 73) rfl Sub.nil)))))) SubB.nil (fun p29_ o_29 h hD29 => ?_)
        refine .seq ?_
        refine .region [] mixed (by kernel_rfl) ?_
        refine .cons (.lt .none (.s rfl) (.s rfl)) rfl ?_
        refine .nil ?_
        refine .then ?_
        refine .seq ?_
        refine .cond (t := 75) rfl trivial (fun hb30 => ?_) (fun hb30 => ?_)
        · replace h := bif_t h hb30
          refine .skip ?_
          refine .then ?_
          refine .seq ?_
          obtain ⟨j_31, h, hK31⟩ := bind_some h
          unfold layer_near_L3 at h
          refine .thenJ (ι := (List Int)) (fun j_31 => []) (fun j_31 => [(5003, some (CPred.at s5003 (rowV 3 j_31)))]) (fun s => j_31 = s) (.cons (t := 7) rfl (.cons (t := 8) rfl (.cons (t := 10) rfl (.cons (t := 12) rfl (.cons (t := 13) rfl (.cons (t := 73) rfl (.cons (t := 74) rfl Sub.nil))))))) SubB.nil ?_ (fun j_31' hj31 => ?_)
          · skip
            refine .block ?_
            refine .seq ?_
            refine .region [] mixed (by kernel_rfl) ?_
            refine .cons (.move .none (.s rfl)) rfl ?_
            refine .cons (.assign .none (.s rfl)) rfl ?_
            refine .nil ?_
            refine .then ?_
            refine .region [([], []), ([], []), ([], []), ([], []), ([], []), ([], []), ([], []), ([], []), ([], []), ([], []), ([5003], []), ([5003], [5003])] mixed (by kernel_rfl) ?_
            refine .consA (.move .none (.s rfl)) rfl ?_
            refine .consA (.move .none (.s rfl)) rfl ?_
            refine .consA (.move .none (.s rfl)) rfl ?_
            obtain ⟨hn32, h⟩ := need_some h
            refine .consA (.indexAddr .none sl32 ty3 (.s rfl) (.int (by decide)) (fun _ => hn32)) rfl ?_
            refine .consA (.load .none ty3 (.s rfl)) rfl ?_
            refine .consA (.move .none (.s rfl)) rfl ?_
            refine .consA (.move .none (.s rfl)) rfl ?_
            obtain ⟨hn33, h⟩ := need_some h
            refine .consA (.indexAddr .none sl32 ty3 (.s rfl) (.s rfl) (fun _ => hn33)) rfl ?_
            refine .consA (.load .none ty3 (.s rfl)) rfl ?_
            obtain ⟨v3, hv34, h⟩ := bnd_some h
            refine .consA (.re hv34 (.addW .none (.s rfl) (.s rfl))) rfl ?_
            obtain ⟨hn35, h⟩ := need_some h
            refine .consA (.indexAddrO (k := 5003) .none sl32 ty3 (.s rfl) rfl (.s rfl) (fun _ => hn35)) rfl ?_
            refine .consN (.storeElem0 (k := 5003) ty3 (.s rfl) rfl (.s rfl) hn35) rfl ?_
            refine .nil ?_
            refine .blkNormal ?_
            exact Ends.join _ (some_eq h) (.cons (t := 7) rfl (.cons (t := 8) rfl (.cons (t := 10) rfl (.cons (t := 12) rfl (.cons (t := 13) rfl (.cons (t := 73) rfl (.cons (t := 74) rfl Sub.nil))))))) (.cons (t := 5003) rfl SubB.nil)
          · subst hj31; have h := hK31; clear hK31
            refine .region [] mixed (by kernel_rfl) ?_
            refine .cons (.addW .none (.s rfl) (.int (by decide))) rfl ?_
            refine .cons (.move .none (.s rfl)) rfl ?_
            refine .nil ?_
            exact Ends.againL (some_eq h) (.cons (t := 74) rfl (.cons (t := 7) rfl (.cons (t := 8) rfl (.cons (t := 10) rfl (.cons (t := 12) rfl (.cons (t := 13) rfl (.cons (t := 73) rfl Sub.nil))))))) (.cons (t := 5003) rfl SubB.nil)
        · replace h := bif_f h hb30
          refine .exit ?_
          refine .thenExit ?_
          refine .thenExit ?_
          refine .blkExit ?_
          replace h := hD29 _ (some_eq h)
          exact Ends.join _ (some_eq h) (.cons (t := 7) rfl (.cons (t := 8) rfl (.cons (t := 10) rfl (.cons (t := 12) rfl (.cons (t := 13) rfl Sub.nil))))) (.cons (t := 5003) rfl SubB.nil)
      · subst hj28; have h := hK28; clear hK28
        refine .seq ?_
        refine .seq ?_
        refine .region [] mixed (by kernel_rfl) ?_
        refine .cons (.assign .none (.int (by decide))) rfl ?_
        refine .nil ?_
        refine .then ?_
        obtain ⟨j_36, h, hK36⟩ := bind_some h
        refine .thenJ (ι := (List Int)) (fun j_36 => []) (fun j_36 => [(5003, some (CPred.at s5003 (rowV 3 j_36)))]) (fun s => j_36 = s) (.cons (t := 13) rfl Sub.nil) SubB.nil ?_ (fun j_36' hj36 => ?_)
        · skip
          refine .block ?_
          refine .loopL h (fun s37_ => [(15, ⟨True, rep s37_.1⟩)]) (fun s37_ => [(5003, some (CPred.at s5003 (rowV 3 s37_.2)))]) (.cons (t := 15) rfl Sub.nil) (.cons (t := 5003) rfl SubB.nil) (.cons (t := 7) rfl (.cons (t := 8) rfl (.cons (t := 10) rfl (.cons (t := 12) rfl (.cons (t := 13) rfl Sub.nil))))) SubB.nil (fun s37_ o_37 h hD37 => ?_)
          unfold layer_near_L4 at h
          refine .seq ?_
          refine .seq ?_
          refine .region [] mixed (by kernel_rfl) ?_
          refine .cons (.move .none (.s rfl)) rfl ?_
          refine .cons (.move .none (.s rfl)) rfl ?_
          refine .cons (.len .none sl32 (.s rfl)) rfl ?_
          refine .cons (.lt .none (.s rfl) (.s rfl)) rfl ?_
          refine .nil ?_
          refine .then ?_
          refine .cond (t := 92) rfl trivial (fun hb38 => ?_) (fun hb38 => ?_)
          · replace h := bif_t h hb38
            refine .skip ?_
            refine .then ?_
            refine .seq ?_
            obtain ⟨j_39, h, hK39⟩ := bind_some h
            refine .thenJ (ι := (List Int)) (fun j_39 => []) (fun j_39 => [(5003, some (CPred.at s5003 (rowV 3 j_39)))]) (fun s => j_39 = s) (.cons (t := 7) rfl (.cons (t := 8) rfl (.cons (t := 10) rfl (.cons (t := 12) rfl (.cons (t := 13) rfl (.cons (t := 15) rfl Sub.nil)))))) SubB.nil ?_ (fun j_39' hj39 => ?_)
            · skip
              refine .block ?_
              refine .seq ?_
              refine .region [] mixed (by kernel_rfl) ?_
              refine .cons (.move .none (.s rfl)) rfl ?_
              refine .cons (.assign .none (.s rfl)) rfl ?_
              refine .cons (.assign .none (.int (by decide))) rfl ?_
              refine .cons (.assign .none (.int (by decide))) rfl ?_
              refine .nil ?_
              refine .then ?_
              refine .seq ?_
              refine .seq ?_
              refine .region [] mixed (by kernel_rfl) ?_
              refine .cons (.move .none (.s rfl)) rfl ?_
              refine .cons (.subW .none (.s rfl) (.int (by decide))) rfl ?_
              obtain ⟨i2, hv40, h⟩ := bnd_some h
              refine .cons (.re hv40 (.assign .none (.s rfl))) rfl ?_
              refine .nil ?_
              refine .then ?_
              obtain ⟨j_41, h, hK41⟩ := bind_some h
              refine .thenJ (ι := Int) (fun j_41 => [(16, ⟨True, rep j_41⟩)]) (fun j_41 => []) (fun s => j_41 = s) (.cons (t := 7) rfl (.cons (t := 8) rfl (.cons (t := 10) rfl (.cons (t := 12) rfl (.cons (t := 13) rfl (.cons (t := 15) rfl Sub.nil)))))) (.cons (t := 5003) rfl SubB.nil) ?_ (fun j_41' hj41 => ?_)
              · skip
                refine .block ?_
                refine .loopL h (fun s42_ => [(16, ⟨True, rep s42_.1⟩), (17, ⟨True, rep s42_.2.1⟩), (18, ⟨True, rep s42_.2.2.1⟩), (19, ⟨True, rep s42_.2.2.2⟩)]) (fun s42_ => []) (.cons (t := 16) rfl (.cons (t := 17) rfl (.cons (t := 18) rfl (.cons (t := 19) rfl Sub.nil)))) SubB.nil (.cons (t := 7) rfl (.cons (t := 8) rfl (.cons (t := 10) rfl (.cons (t := 12) rfl (.cons (t := 13) rfl (.cons (t := 15) rfl Sub.nil)))))) (.cons (t := 5003) rfl SubB.nil) (fun s42_ o_42 h hD42 => ?_)
                unfold layer_near_L5 at h
                refine .seq ?_
                refine .seq ?_
                refine .region [] mixed (by kernel_rfl) ?_
                refine .cons (.move .none (.s rfl)) rfl ?_
                refine .cons (.ge .none (.s rfl) (.int (by decide))) rfl ?_
                refine .nil ?_
                refine .then ?_
                refine .cond (t := 99) rfl trivial (fun hb43 => ?_) (fun hb43 => ?_)
                · replace h := bif_t h hb43
                  refine .skip ?_
                  refine .then ?_
                  refine .seq ?_
                  obtain ⟨j_44, h, hK44⟩ := bind_some h
                  refine .thenJ (ι := (Int × Int × Int)) (fun j_44 => [(16, ⟨True, rep j_44.1⟩), (17, ⟨True, rep j_44.2.1⟩), (18, ⟨True, rep j_44.2.2⟩)]) (fun j_44 => []) (fun s => j_44 = s) (.cons (t := 7) rfl (.cons (t := 8) rfl (.cons (t := 10) rfl (.cons (t := 12) rfl (.cons (t := 13) rfl (.cons (t := 15) rfl (.cons (t := 19) rfl Sub.nil))))))) (.cons (t := 5003) rfl SubB.nil) ?_ (fun j_44' hj44 => ?_)
                  · skip
                    refine .block ?_
                    refine .seq ?_
                    refine .seq ?_
                    refine .region [] mixed (by kernel_rfl) ?_
                    refine .cons (.move .none (.s rfl)) rfl ?_
                    refine .cons (.move .none (.s rfl)) rfl ?_
                    obtain ⟨hn45, h⟩ := need_some h
                    refine .cons (.indexAddr .none sl32 ty3 (.s rfl) (.s rfl) (fun _ => hn45)) rfl ?_
                    refine .cons (.load .none ty3 (.s rfl)) rfl ?_
                    refine .cons (.move .none (.s rfl)) rfl ?_
                    refine .cons (.move .none (.s rfl)) rfl ?_
                    obtain ⟨hn46, h⟩ := need_some h
                    refine .cons (.indexAddr .none sl32 ty3 (.s rfl) (.s rfl) (fun _ => hn46)) rfl ?_
                    refine .cons (.load .none ty3 (.s rfl)) rfl ?_
                    refine .cons (.lt .none (.s rfl) (.s rfl)) rfl ?_
                    refine .nil ?_
                    refine .then ?_
                    obtain ⟨j_47, h, hK47⟩ := bind_some h
                    refine .thenJ (ι := Int) (fun j_47 => [(18, ⟨True, rep j_47⟩)]) (fun j_47 => []) (fun s => j_47 = s) (.cons (t := 7) rfl (.cons (t := 8) rfl (.cons (t := 10) rfl (.cons (t := 12) rfl (.cons (t := 13) rfl (.cons (t := 15) rfl (.cons (t := 16) rfl (.cons (t := 17) rfl (.cons (t := 19) rfl Sub.nil))))))))) (.cons (t := 5003) rfl SubB.nil) ?_ (fun j_47' hj47 => ?_)
                    · skip
                      refine .cond (t := 110) rfl trivial (fun hb48 => ?_) (fun hb48 => ?_)
                      · replace h := bif_t h hb48
                        refine .region [] mixed (by kernel_rfl) ?_
                        refine .cons (.move .none (.s rfl)) rfl ?_
                        refine .cons (.addW .none (.s rfl) (.int (by decide))) rfl ?_
                        obtain ⟨sum1, hv49, h⟩ := bnd_some h
                        refine .cons (.re hv49 (.assign .none (.s rfl))) rfl ?_
                        refine .nil ?_
                        exact Ends.join _ (some_eq h) (.cons (t := 18) rfl (.cons (t := 7) rfl (.cons (t := 8) rfl (.cons (t := 10) rfl (.cons (t := 12) rfl (.cons (t := 13) rfl (.cons (t := 15) rfl (.cons (t := 16) rfl (.cons (t := 17) rfl (.cons (t := 19) rfl Sub.nil)))))))))) (.cons (t := 5003) rfl SubB.nil)
                      · replace h := bif_f h hb48
                        refine .region [] mixed (by kernel_rfl) ?_
                        refine .cons (.move .none (.s rfl)) rfl ?_
                        refine .cons (.subW .none (.s rfl) (.int (by decide))) rfl ?_
                        obtain ⟨sum2, hv50, h⟩ := bnd_some h
                        refine .cons (.re hv50 (.assign .none (.s rfl))) rfl ?_
                        refine .nil ?_
                        exact Ends.join _ (some_eq h) (.cons (t := 18) rfl (.cons (t := 7) rfl (.cons (t := 8) rfl (.cons (t := 10) rfl (.cons (t := 12) rfl (.cons (t := 13) rfl (.cons (t := 15) rfl (.cons (t := 16) rfl (.cons (t := 17) rfl (.cons (t := 19) rfl Sub.nil)))))))))) (.cons (t := 5003) rfl SubB.nil)
                    · subst hj47; have h := hK47; clear hK47
                      refine .seq ?_
                      refine .region [] mixed (by kernel_rfl) ?_
                      refine .cons (.move .none (.s rfl)) rfl ?_
                      refine .cons (.move .none (.s rfl)) rfl ?_
                      refine .cons (.lt .none (.s rfl) (.s rfl)) rfl ?_
                      refine .nil ?_
                      refine .then ?_
                      refine .cond (t := 117) rfl trivial (fun hb51 => ?_) (fun hb51 => ?_)
                      · replace h := bif_t h hb51
                        refine .region [] mixed (by kernel_rfl) ?_
                        refine .cons (.move .none (.s rfl)) rfl ?_
                        refine .cons (.move .none (.s rfl)) rfl ?_
                        refine .cons (.assign .none (.s rfl)) rfl ?_
                        refine .cons (.assign .none (.s rfl)) rfl ?_
                        refine .nil ?_
                        refine .blkNormal ?_
                        exact Ends.join _ (some_eq h) (.cons (t := 16) rfl (.cons (t := 17) rfl (.cons (t := 18) rfl (.cons (t := 7) rfl (.cons (t := 8) rfl (.cons (t := 10) rfl (.cons (t := 12) rfl (.cons (t := 13) rfl (.cons (t := 15) rfl (.cons (t := 19) rfl Sub.nil)))))))))) (.cons (t := 5003) rfl SubB.nil)
                      · replace h := bif_f h hb51
                        refine .skip ?_
                        refine .blkNormal ?_
                        exact Ends.join _ (some_eq h) (.cons (t := 16) rfl (.cons (t := 17) rfl (.cons (t := 18) rfl (.cons (t := 7) rfl (.cons (t := 8) rfl (.cons (t := 10) rfl (.cons (t := 12) rfl (.cons (t := 13) rfl (.cons (t := 15) rfl (.cons (t := 19) rfl Sub.nil)))))))))) (.cons (t := 5003) rfl SubB.nil)
                  · subst hj44; have h := hK44; clear hK44
                    refine .region [] mixed (by kernel_rfl) ?_
                    refine .cons (.move .none (.s rfl)) rfl ?_
                    refine .cons (.subW .none (.s rfl) (.int (by decide))) rfl ?_
                    obtain ⟨i3, hv52, h⟩ := bnd_some h
                    refine .cons (.re hv52 (.assign .none (.s rfl))) rfl ?_
                    refine .nil ?_
                    exact Ends.againL (some_eq h) (.cons (t := 16) rfl (.cons (t := 17) rfl (.cons (t := 18) rfl (.cons (t := 19) rfl (.cons (t := 7) rfl (.cons (t := 8) rfl (.cons (t := 10) rfl (.cons (t := 12) rfl (.cons (t := 13) rfl (.cons (t := 15) rfl Sub.nil)))))))))) (.cons (t := 5003) rfl SubB.nil)
                · replace h := bif_f h hb43
                  refine .exit ?_
                  refine .thenExit ?_
                  refine .thenExit ?_
                  refine .blkExit ?_
                  replace h := hD42 _ (some_eq h)
                  exact Ends.join _ (some_eq h) (.cons (t := 16) rfl (.cons (t := 7) rfl (.cons (t := 8) rfl (.cons (t := 10) rfl (.cons (t := 12) rfl (.cons (t := 13) rfl (.cons (t := 15) rfl Sub.nil))))))) (.cons (t := 5003) rfl SubB.nil)
              · subst hj41; have h := hK41; clear hK41
                refine .seq ?_
                refine .region [] mixed (by kernel_rfl) ?_
                refine .cons (.move .none (.s rfl)) rfl ?_
                refine .cons (.assign .none (.s rfl)) rfl ?_
                refine .nil ?_
                refine .then ?_
                refine .block ?_
                refine .loopL h (fun s53_ => [(20, ⟨True, rep s53_.1⟩)]) (fun s53_ => [(5003, some (CPred.at s5003 (rowV 3 s53_.2)))]) (.cons (t := 20) rfl Sub.nil) (.cons (t := 5003) rfl SubB.nil) (.cons (t := 7) rfl (.cons (t := 8) rfl (.cons (t := 10) rfl (.cons (t := 12) rfl (.cons (t := 13) rfl (.cons (t := 15) rfl Sub.nil)))))) SubB.nil (fun s53_ o_53 h hD53 => ?_)
                unfold layer_near_L6 at h
                refine .seq ?_
                refine .seq ?_
                refine .region [] mixed (by kernel_rfl) ?_
                refine .cons (.move .none (.s rfl)) rfl ?_
                refine .cons (.move .none (.s rfl)) rfl ?_
                refine .cons (.lt .none (.s rfl) (.s rfl)) rfl ?_
                refine .nil ?_
                refine .then ?_
                refine .cond (t := 123) rfl trivial (fun hb54 => ?_) (fun hb54 => ?_)
                · replace h := bif_t h hb54
                  refine .skip ?_
                  refine .then ?_
                  refine .seq ?_
                  refine .block ?_
                  refine .region [([], []), ([], []), ([], []), ([], []), ([], []), ([], []), ([], []), ([], []), ([], []), ([], []), ([], []), ([5003], []), ([5003], [5003])] mixed (by kernel_rfl) ?_
                  refine .consA (.move .none (.s rfl)) rfl ?_
                  refine .consA (.move .none (.s rfl)) rfl ?_
                  refine .consA (.move .none (.s rfl)) rfl ?_
                  refine .consA (.move .none (.s rfl)) rfl ?_
                  obtain ⟨hn55, h⟩ := need_some h
                  refine .consA (.indexAddr .none sl32 ty3 (.s rfl) (.s rfl) (fun _ => hn55)) rfl ?_
                  refine .consA (.load .none ty3 (.s rfl)) rfl ?_
                  refine .consA (.move .none (.s rfl)) rfl ?_
                  refine .consA (.move .none (.s rfl)) rfl ?_
                  obtain ⟨hn56, h⟩ := need_some h
                  refine .consA (.indexAddr .none sl32 ty3 (.s rfl) (.s rfl) (fun _ => hn56)) rfl ?_
                  refine .consA (.load .none ty3 (.s rfl)) rfl ?_
                  obtain ⟨v4, hv57, h⟩ := bnd_some h
                  refine .consA (.re hv57 (.addW .none (.s rfl) (.s rfl))) rfl ?_
                  obtain ⟨hn58, h⟩ := need_some h
                  refine .consA (.indexAddrO (k := 5003) .none sl32 ty3 (.s rfl) rfl (.s rfl) (fun _ => hn58)) rfl ?_
                  refine .consN (.storeElem0 (k := 5003) ty3 (.s rfl) rfl (.s rfl) hn58) rfl ?_
                  refine .nil ?_
                  refine .blkNormal ?_
                  refine .then ?_
                  obtain ⟨out2, hv59, h⟩ := bnd_some h
                  refine .reB (t := 5003) rfl (congrArg (fun y => CPred.at s5003 (rowV 3 y)) hv59) ?_
                  refine .region [] mixed (by kernel_rfl) ?_
                  refine .cons (.move .none (.s rfl)) rfl ?_
                  refine .cons (.addW .none (.s rfl) (.int (by decide))) rfl ?_
                  obtain ⟨i4, hv60, h⟩ := bnd_some h
                  refine .cons (.re hv60 (.assign .none (.s rfl))) rfl ?_
                  refine .nil ?_
                  exact Ends.againL (some_eq h) (.cons (t := 20) rfl (.cons (t := 7) rfl (.cons (t := 8) rfl (.cons (t := 10) rfl (.cons (t := 12) rfl (.cons (t := 13) rfl (.cons (t := 15) rfl Sub.nil))))))) (.cons (t := 5003) rfl SubB.nil)
                · replace h := bif_f h hb54
                  refine .exit ?_
                  refine .thenExit ?_
                  refine .thenExit ?_
                  refine .blkExit ?_
                  refine .blkNormal ?_
                  replace h := hD53 _ (some_eq h)
                  exact Ends.join _ (some_eq h) (.cons (t := 7) rfl (.cons (t := 8) rfl (.cons (t := 10) rfl (.cons (t := 12) rfl (.cons (t := 13) rfl (.cons (t := 15) rfl Sub.nil)))))) (.cons (t := 5003) rfl SubB.nil)
            · subst hj39; have h := hK39; clear hK39
              refine .region [] mixed (by kernel_rfl) ?_
              refine .cons (.move .none (.s rfl)) rfl ?_
              refine .cons (.addW .none (.s rfl) (.int (by decide))) rfl ?_
              obtain ⟨k1, hv61, h⟩ := bnd_some h
              refine .cons (.re hv61 (.assign .none (.s rfl))) rfl ?_
              refine .nil ?_
              exact Ends.againL (some_eq h) (.cons (t := 15) rfl (.cons (t := 7) rfl (.cons (t := 8) rfl (.cons (t := 10) rfl (.cons (t := 12) rfl (.cons (t := 13) rfl Sub.nil)))))) (.cons (t := 5003) rfl SubB.nil)
          · replace h := bif_f h hb38
            refine .exit ?_
            refine .thenExit ?_
            refine .thenExit ?_
            refine .blkExit ?_
            replace h := hD37 _ (some_eq h)
            exact Ends.join _ (some_eq h) (.cons (t := 13) rfl Sub.nil) (.cons (t := 5003) rfl SubB.nil)
        · subst hj36; have h := hK36; clear hK36
          refine .freezeRow (g := 5003) (ts := [13]) rfl (.cons (t := 13) rfl trivial .nil) SubB.nil rfl ?_
          refine .seq ?_
          refine .region [] mixed (by kernel_rfl) ?_
          refine .cons (.move .none (.s rfl)) rfl ?_
          refine .cons (.assign .none (.s rfl)) rfl ?_
          refine .nil ?_
          refine .then ?_
          refine .ret ?_
          obtain rfl := some_eq h
          exact Ends.ret1 (.inl rfl) Try.results68 (ResOK.tmp rfl trivial Imp.refl)

theorem layer_Near_ok {want1 : (List Int)} {size1 : (List Int)} {gap1 : Int} {r : ((List Int) × Int)}  (h : layer_Near want1 size1 gap1 = some r) : FSpec Try.prog 24 [rep want1, rep size1, rep gap1] (tup [rep r.1, rep r.2]) := by
  unfold layer_Near at h
  refine FSpec.intro (n := 66) fnok24 Try.func24 rfl Try.ntmps24 rfl (fun F => ?_)
  refine .seq ?_
  refine .region [] mixed (by kernel_rfl) ?_
  refine .cons (.assign .none (.const (x := ([] : (List Int))) (fun M w => ⟨_, ⟨none, 0, rfl, Nat.le_refl _, by decide, rfl⟩, rfl⟩))) rfl ?_
  refine .cons (.assign .none (.int (by decide))) rfl ?_
  refine .nil ?_
  refine .then ?_
  refine .seq ?_
  refine .block ?_
  refine .seq ?_
  refine .region [] mixed (by kernel_rfl) ?_
  refine .cons (.move .none (.s rfl)) rfl ?_
  refine .cons (.len .none sl32 (.s rfl)) rfl ?_
  refine .cons (.gt .none (.s rfl) (.int (by decide))) rfl ?_
  refine .cons (.move .none (.s rfl)) rfl ?_
  refine .cons (.move (.at rfl rfl) (.s rfl)) rfl ?_
  refine .cons (.len (.at rfl rfl) sl32 (.tmp rfl id)) rfl ?_
  refine .cons (.gt (.at rfl rfl) (.tmp rfl id) (.int (by decide))) rfl ?_
  refine .cons (.pickOr .none (.s rfl) (.tmp rfl id)) rfl ?_
  refine .cons (.assign .none (.s rfl)) rfl ?_
  refine .nil ?_
  refine .then ?_
  refine .cond (t := 12) rfl trivial (fun hb1 => ?_) (fun hb1 => ?_)
  · replace h := bif_t h hb1
    refine .seq ?_
    refine .region [] mixed (by kernel_rfl) ?_
    refine .cons (.assign .none (.const (x := ([] : (List Int))) (fun M w => ⟨_, ⟨none, 0, rfl, Nat.le_refl _, by decide, rfl⟩, rfl⟩))) rfl ?_
    refine .cons (.assign .none (.int (by decide))) rfl ?_
    refine .nil ?_
    refine .then ?_
    refine .ret ?_
    refine .blkRet ?_
    refine .thenRet ?_
    obtain rfl := some_eq h
    exact Ends.ret2 (.inl rfl) Try.results24 (ResOK.tmp rfl trivial Imp.refl) (ResOK.tmp rfl trivial Imp.refl)
  · replace h := bif_f h hb1
    refine .seq ?_
    refine .region [] mixed (by kernel_rfl) ?_
    refine .cons (.move .none (.s rfl)) rfl ?_
    refine .cons (.len .none sl32 (.s rfl)) rfl ?_
    refine .cons (.move .none (.s rfl)) rfl ?_
    refine .cons (.len .none sl32 (.s rfl)) rfl ?_
    refine .cons (.neI .none (.s rfl) (.s rfl)) rfl ?_
    refine .cons (.assign .none (.s rfl)) rfl ?_
    refine .nil ?_
    refine .then ?_
    refine .cond (t := 21) rfl trivial (fun hb2 => ?_) (fun hb2 => ?_)
    · replace h := bif_t h hb2
      refine .seq ?_
      refine .region [] mixed (by kernel_rfl) ?_
      refine .cons (.assign .none (.const (x := ([] : (List Int))) (fun M w => ⟨_, ⟨none, 0, rfl, Nat.le_refl _, by decide, rfl⟩, rfl⟩))) rfl ?_
      refine .cons (.assign .none (.int (by decide))) rfl ?_
      refine .nil ?_
      refine .then ?_
      refine .ret ?_
      refine .blkRet ?_
      refine .thenRet ?_
      obtain rfl := some_eq h
      exact Ends.ret2 (.inl rfl) Try.results24 (ResOK.tmp rfl trivial Imp.refl) (ResOK.tmp rfl trivial Imp.refl)
    · replace h := bif_f h hb2
      refine .skip ?_
      refine .blkNormal ?_
      refine .then ?_
      refine .seq ?_
      refine .seq ?_
      refine .region [] mixed (by kernel_rfl) ?_
      refine .cons (.move .none (.s rfl)) rfl ?_
      refine .cons (.len .none sl32 (.s rfl)) rfl ?_
      refine .cons (.move .none (.int (by decide))) rfl ?_
      refine .nil ?_
      refine .then ?_
      obtain ⟨o_3, h, hK3⟩ := bindR_some h
      refine .thenJ (ι := Unit) (fun j_3 => []) (fun j_3 => []) (fun s => o_3 = Res.nx s) (.cons (t := 0) rfl (.cons (t := 1) rfl (.cons (t := 2) rfl Sub.nil))) SubB.nil ?_ (fun j_3 hj3 => ?_)
      · skip
        refine .block ?_
        refine .rforEL h (fun p4_ => [(29, ⟨True, rep p4_.1⟩)]) (fun p4_ => []) (.cons (t := 29) rfl Sub.nil) SubB.nil (.cons (t := 0) rfl (.cons (t := 1) rfl (.cons (t := 2) rfl (.cons (t := 27) rfl (.cons (t := 28) rfl Sub.nil))))) SubB.nil (fun p4_ o_4 h hD4 => ?_)
        refine .seq ?_
        refine .region [] mixed (by kernel_rfl) ?_
        refine .cons (.lt .none (.s rfl) (.s rfl)) rfl ?_
        refine .nil ?_
        refine .then ?_
        refine .seq ?_
        refine .cond (t := 30) rfl trivial (fun hb5 => ?_) (fun hb5 => ?_)
        · replace h := bif_t h hb5
          refine .skip ?_
          refine .then ?_
          refine .seq ?_
          obtain ⟨o_6, h, hK6⟩ := bindD_some h
          unfold layer_Near_L1 at h
          refine .thenJ (ι := Unit) (fun j_6 => []) (fun j_6 => []) (fun s => o_6 = Res.nx s) (.cons (t := 0) rfl (.cons (t := 1) rfl (.cons (t := 2) rfl (.cons (t := 27) rfl (.cons (t := 28) rfl (.cons (t := 29) rfl Sub.nil)))))) SubB.nil ?_ (fun j_6 hj6 => ?_)
          · skip
            refine .block ?_
            refine .seq ?_
            refine .region [] mixed (by kernel_rfl) ?_
            obtain ⟨hn7, h⟩ := need_some h
            refine .cons (.indexAddr .none sl32 ty3 (.s rfl) (.s rfl) (fun _ => hn7)) rfl ?_
            refine .cons (.load .none ty3 (.s rfl)) rfl ?_
            obtain ⟨n1, hv8, h⟩ := bnd_some h
            refine .cons (.re hv8 (.assign .none (.s rfl))) rfl ?_
            refine .nil ?_
            refine .then ?_
            refine .seq ?_
            refine .region [] mixed (by kernel_rfl) ?_
            refine .cons (.move .none (.s rfl)) rfl ?_
            refine .cons (.lt .none (.s rfl) (.int (by decide))) rfl ?_
            refine .cons (.move .none (.s rfl)) rfl ?_
            refine .cons (.move (.at rfl rfl) (.s rfl)) rfl ?_
            refine .cons (.gt (.at rfl rfl) (.tmp rfl id) (.int (by decide))) rfl ?_
            refine .cons (.pickOr .none (.s rfl) (.tmp rfl id)) rfl ?_
            refine .nil ?_
            refine .then ?_
            refine .cond (t := 38) rfl trivial (fun hb9 => ?_) (fun hb9 => ?_)
            · replace h := bif_t h hb9
              refine .seq ?_
              refine .region [] mixed (by kernel_rfl) ?_
              refine .cons (.assign .none (.const (x := ([] : (List Int))) (fun M w => ⟨_, ⟨none, 0, rfl, Nat.le_refl _, by decide, rfl⟩, rfl⟩))) rfl ?_
              refine .cons (.assign .none (.int (by decide))) rfl ?_
              refine .nil ?_
              refine .then ?_
              refine .ret ?_
              refine .blkRet ?_
              refine .thenRet ?_
              refine .thenRet ?_
              refine .blkRet ?_
              refine .thenRet ?_
              replace h := resd_ab hK6 (some_eq h)
              replace h := hD4 _ (some_eq h)
              replace h := resb_ab hK3 (some_eq h)
              obtain rfl := some_eq h
              exact Ends.ret2 (.inl rfl) Try.results24 (ResOK.tmp rfl trivial Imp.refl) (ResOK.tmp rfl trivial Imp.refl)
            · replace h := bif_f h hb9
              refine .skip ?_
              refine .blkNormal ?_
              exact Ends.join _ (some_eq h) (.cons (t := 0) rfl (.cons (t := 1) rfl (.cons (t := 2) rfl (.cons (t := 27) rfl (.cons (t := 28) rfl (.cons (t := 29) rfl Sub.nil)))))) SubB.nil
          · have h := resd_nx hK6 hj6
            refine .region [] mixed (by kernel_rfl) ?_
            refine .cons (.addW .none (.s rfl) (.int (by decide))) rfl ?_
            refine .cons (.move .none (.s rfl)) rfl ?_
            refine .nil ?_
            exact Ends.againL (some_eq h) (.cons (t := 29) rfl (.cons (t := 0) rfl (.cons (t := 1) rfl (.cons (t := 2) rfl (.cons (t := 27) rfl (.cons (t := 28) rfl Sub.nil)))))) SubB.nil
        · replace h := bif_f h hb5
          refine .exit ?_
          refine .thenExit ?_
          refine .thenExit ?_
          refine .blkExit ?_
          replace h := hD4 _ (some_eq h)
          exact Ends.join _ (some_eq h) (.cons (t := 0) rfl (.cons (t := 1) rfl (.cons (t := 2) rfl Sub.nil))) SubB.nil
      · have h := resb_nx hK3 hj3
        refine .seq ?_
        refine .seq ?_
        refine .region [] mixed (by kernel_rfl) ?_
        refine .cons (.move .none (.s rfl)) rfl ?_
        refine .cons (.len .none sl32 (.s rfl)) rfl ?_
        refine .cons (.move .none (.int (by decide))) rfl ?_
        refine .nil ?_
        refine .then ?_
        obtain ⟨o_10, h, hK10⟩ := bindR_some h
        refine .thenJ (ι := Unit) (fun j_10 => []) (fun j_10 => []) (fun s => o_10 = Res.nx s) (.cons (t := 0) rfl (.cons (t := 1) rfl (.cons (t := 2) rfl Sub.nil))) SubB.nil ?_ (fun j_10 hj10 => ?_)
        · skip
          refine .block ?_
          refine .rforEL h (fun p11_ => [(42, ⟨True, rep p11_.1⟩)]) (fun p11_ => []) (.cons (t := 42) rfl Sub.nil) SubB.nil (.cons (t := 0) rfl (.cons (t := 1) rfl (.cons (t := 2) rfl (.cons (t := 40) rfl (.cons (t := 41) rfl Sub.nil))))) SubB.nil (fun p11_ o_11 h hD11 => ?_)
          refine .seq ?_
          refine .region [] mixed (by kernel_rfl) ?_
          refine .cons (.lt .none (.s rfl) (.s rfl)) rfl ?_
          refine .nil ?_
          refine .then ?_
          refine .seq ?_
          refine .cond (t := 43) rfl trivial (fun hb12 => ?_) (fun hb12 => ?_)
          · replace h := bif_t h hb12
            refine .skip ?_
            refine .then ?_
            refine .seq ?_
            obtain ⟨o_13, h, hK13⟩ := bindD_some h
            unfold layer_Near_L2 at h
            refine .thenJ (ι := Unit) (fun j_13 => []) (fun j_13 => []) (fun s => o_13 = Res.nx s) (.cons (t := 0) rfl (.cons (t := 1) rfl (.cons (t := 2) rfl (.cons (t := 40) rfl (.cons (t := 41) rfl (.cons (t := 42) rfl Sub.nil)))))) SubB.nil ?_ (fun j_13 hj13 => ?_)
            · skip
              refine .block ?_
              refine .seq ?_
              refine .region [] mixed (by kernel_rfl) ?_
              obtain ⟨hn14, h⟩ := need_some h
              refine .cons (.indexAddr .none sl32 ty3 (.s rfl) (.s rfl) (fun _ => hn14)) rfl ?_
              refine .cons (.load .none ty3 (.s rfl)) rfl ?_
              obtain ⟨n2, hv15, h⟩ := bnd_some h
              refine .cons (.re hv15 (.assign .none (.s rfl))) rfl ?_
              refine .nil ?_
              refine .then ?_
              refine .seq ?_
              refine .region [] mixed (by kernel_rfl) ?_
              refine .cons (.move .none (.s rfl)) rfl ?_
              refine .cons (.lt .none (.s rfl) (.int (by decide))) rfl ?_
              refine .cons (.move .none (.s rfl)) rfl ?_
              refine .cons (.move (.at rfl rfl) (.s rfl)) rfl ?_
              refine .cons (.gt (.at rfl rfl) (.tmp rfl id) (.int (by decide))) rfl ?_
              refine .cons (.pickOr .none (.s rfl) (.tmp rfl id)) rfl ?_
              refine .nil ?_
              refine .then ?_
              refine .cond (t := 51) rfl trivial (fun hb16 => ?_) (fun hb16 => ?_)
              · replace h := bif_t h hb16
                refine .seq ?_
                refine .region [] mixed (by kernel_rfl) ?_
                refine .cons (.assign .none (.const (x := ([] : (List Int))) (fun M w => ⟨_, ⟨none, 0, rfl, Nat.le_refl _, by decide, rfl⟩, rfl⟩))) rfl ?_
                refine .cons (.assign .none (.int (by decide))) rfl ?_
                refine .nil ?_
                refine .then ?_
                refine .ret ?_
                refine .blkRet ?_
                refine .thenRet ?_
                refine .thenRet ?_
                refine .blkRet ?_
                refine .thenRet ?_
                replace h := resd_ab hK13 (some_eq h)
                replace h := hD11 _ (some_eq h)
                replace h := resb_ab hK10 (some_eq h)
                obtain rfl := some_eq h
                exact Ends.ret2 (.inl rfl) Try.results24 (ResOK.tmp rfl trivial Imp.refl) (ResOK.tmp rfl trivial Imp.refl)
              · replace h := bif_f h hb16
                refine .skip ?_
                refine .blkNormal ?_
                exact Ends.join _ (some_eq h) (.cons (t := 0) rfl (.cons (t := 1) rfl (.cons (t := 2) rfl (.cons (t := 40) rfl (.cons (t := 41) rfl (.cons (t := 42) rfl Sub.nil)))))) SubB.nil
            · have h := resd_nx hK13 hj13
              refine .region [] mixed (by kernel_rfl) ?_
              refine .cons (.addW .none (.s rfl) (.int (by decide))) rfl ?_
              refine .cons (.move .none (.s rfl)) rfl ?_
              refine .nil ?_
              exact Ends.againL (some_eq h) (.cons (t := 42) rfl (.cons (t := 0) rfl (.cons (t := 1) rfl (.cons (t := 2) rfl (.cons (t := 40) rfl (.cons (t := 41) rfl Sub.nil)))))) SubB.nil
          · replace h := bif_f h hb12
            refine .exit ?_
            refine .thenExit ?_
            refine .thenExit ?_
            refine .blkExit ?_
            replace h := hD11 _ (some_eq h)
            exact Ends.join _ (some_eq h) (.cons (t := 0) rfl (.cons (t := 1) rfl (.cons (t := 2) rfl Sub.nil))) SubB.nil
        · have h := resb_nx hK10 hj10
          refine .seq ?_
          refine .seq ?_
          refine .region [] mixed (by kernel_rfl) ?_
          refine .cons (.move .none (.s rfl)) rfl ?_
          refine .cons (.lt .none (.s rfl) (.int (by decide))) rfl ?_
          refine .cons (.move .none (.s rfl)) rfl ?_
          refine .cons (.move (.at rfl rfl) (.s rfl)) rfl ?_
          refine .cons (.gt (.at rfl rfl) (.tmp rfl id) (.int (by decide))) rfl ?_
          refine .cons (.pickOr .none (.s rfl) (.tmp rfl id)) rfl ?_
          refine .nil ?_
          refine .then ?_
          refine .cond (t := 58) rfl trivial (fun hb17 => ?_) (fun hb17 => ?_)
          · replace h := bif_t h hb17
            refine .seq ?_
            refine .region [] mixed (by kernel_rfl) ?_
            refine .cons (.assign .none (.const (x := ([] : (List Int))) (fun M w => ⟨_, ⟨none, 0, rfl, Nat.le_refl _, by decide, rfl⟩, rfl⟩))) rfl ?_
            refine .cons (.assign .none (.int (by decide))) rfl ?_
            refine .nil ?_
            refine .then ?_
            refine .ret ?_
            refine .thenRet ?_
            obtain rfl := some_eq h
            exact Ends.ret2 (.inl rfl) Try.results24 (ResOK.tmp rfl trivial Imp.refl) (ResOK.tmp rfl trivial Imp.refl)
          · replace h := bif_f h hb17
            refine .skip ?_
            refine .then ?_
            refine .seq ?_
            refine .seq ?_
            refine .region [] mixed (by kernel_rfl) ?_
            refine .cons (.move .none (.s rfl)) rfl ?_
            refine .cons (.len .none sl32 (.s rfl)) rfl ?_
            refine .cons (.eqI .none (.s rfl) (.int (by decide))) rfl ?_
            refine .nil ?_
            refine .then ?_
            refine .cond (t := 61) rfl trivial (fun hb18 => ?_) (fun hb18 => ?_)
            · replace h := bif_t h hb18
              refine .seq ?_
              refine .region [] mixed (by kernel_rfl) ?_
              refine .cons (.assign .none (.const (x := ([] : (List Int))) (fun M w => ⟨_, ⟨none, 0, rfl, Nat.le_refl _, by decide, rfl⟩, rfl⟩))) rfl ?_
              refine .cons (.assign .none (.int (by decide))) rfl ?_
              refine .nil ?_
              refine .then ?_
              refine .ret ?_
              refine .thenRet ?_
              obtain rfl := some_eq h
              exact Ends.ret2 (.inl rfl) Try.results24 (ResOK.tmp rfl trivial Imp.refl) (ResOK.tmp rfl trivial Imp.refl)
            · replace h := bif_f h hb18
              refine .skip ?_
              refine .then ?_
              refine .seq ?_
              refine .region [] mixed (by kernel_rfl) ?_
              refine .cons (.move .none (.s rfl)) rfl ?_
              refine .cons (.move .none (.s rfl)) rfl ?_
              refine .cons (.move .none (.s rfl)) rfl ?_
              obtain ⟨r1, hv19, h⟩ := bind_some h
              refine .cons (.call .none (layer_near_ok hv19) (.cons (.s rfl) (.cons (.s rfl) (.cons (.s rfl) .nil)))) rfl ?_
              refine .cons (.assign .none (.s rfl)) rfl ?_
              refine .cons (.assign .none (.int (by decide))) rfl ?_
              refine .nil ?_
              refine .then ?_
              refine .ret ?_
              obtain rfl := some_eq h
              exact Ends.ret2 (.inl rfl) Try.results24 (ResOK.tmp rfl trivial Imp.refl) (ResOK.tmp rfl trivial Imp.refl)

theorem ref_When_ok {is1 : Bool} {e1 : Int} {r : Int}  (h : ref_When is1 e1 = some r) : FSpec Try.prog 45 [rep is1, rep e1] (rep r) := by
  unfold ref_When at h
  refine FSpec.intro (n := 7) fnok45 Try.func45 rfl Try.ntmps45 rfl (fun F => ?_)
  refine .seq ?_
  refine .region [] mixed (by kernel_rfl) ?_
  refine .cons (.assign .none (.int (by decide))) rfl ?_
  refine .nil ?_
  refine .then ?_
  refine .seq ?_
  refine .seq ?_
  refine .region [] mixed (by kernel_rfl) ?_
  refine .cons (.move .none (.s rfl)) rfl ?_
  refine .nil ?_
  refine .then ?_
  refine .cond (t := 5) rfl trivial (fun hb1 => ?_) (fun hb1 => ?_)
  · replace h := bif_t h hb1
    refine .seq ?_
    refine .region [] mixed (by kernel_rfl) ?_
    refine .cons (.move .none (.s rfl)) rfl ?_
    refine .cons (.assign .none (.s rfl)) rfl ?_
    refine .nil ?_
    refine .then ?_
    refine .ret ?_
    refine .thenRet ?_
    obtain rfl := some_eq h
    exact Ends.ret1 (.inl rfl) Try.results45 (ResOK.tmp rfl trivial Imp.refl)
  · replace h := bif_f h hb1
    refine .skip ?_
    refine .then ?_
    refine .seq ?_
    refine .region [] mixed (by kernel_rfl) ?_
    refine .cons (.assign .none (.int (by decide))) rfl ?_
    refine .nil ?_
    refine .then ?_
    refine .ret ?_
    obtain rfl := some_eq h
    exact Ends.ret1 (.inl rfl) Try.results45 (ResOK.tmp rfl trivial Imp.refl)

theorem ref_First_ok {l1 : (List Int)} {r : Int}  (h : ref_First l1 = some r) : FSpec Try.prog 44 [rep l1] (rep r) := by
  unfold ref_First at h
  refine FSpec.intro (n := 15) fnok44 Try.func44 rfl Try.ntmps44 rfl (fun F => ?_)
  refine .seq ?_
  refine .region [] mixed (by kernel_rfl) ?_
  refine .cons (.assign .none (.int (by decide))) rfl ?_
  refine .nil ?_
  refine .then ?_
  refine .seq ?_
  refine .seq ?_
  refine .region [] mixed (by kernel_rfl) ?_
  refine .cons (.move .none (.s rfl)) rfl ?_
  refine .cons (.len .none sl109 (.s rfl)) rfl ?_
  refine .cons (.move .none (.int (by decide))) rfl ?_
  refine .nil ?_
  refine .then ?_
  obtain ⟨o_1, h, hK1⟩ := bindR_some h
  refine .thenJ (ι := Unit) (fun j_1 => []) (fun j_1 => []) (fun s => o_1 = Res.nx s) Sub.nil SubB.nil ?_ (fun j_1 hj1 => ?_)
  · skip
    refine .block ?_
    refine .rforEL h (fun p2_ => [(7, ⟨True, rep p2_.1⟩)]) (fun p2_ => []) (.cons (t := 7) rfl Sub.nil) SubB.nil (.cons (t := 5) rfl (.cons (t := 6) rfl Sub.nil)) SubB.nil (fun p2_ o_2 h hD2 => ?_)
    refine .seq ?_
    refine .region [] mixed (by kernel_rfl) ?_
    refine .cons (.lt .none (.s rfl) (.s rfl)) rfl ?_
    refine .nil ?_
    refine .then ?_
    refine .seq ?_
    refine .cond (t := 8) rfl trivial (fun hb3 => ?_) (fun hb3 => ?_)
    · replace h := bif_t h hb3
      refine .skip ?_
      refine .then ?_
      refine .seq ?_
      obtain ⟨o_4, h, hK4⟩ := bindD_some h
      unfold ref_First_L1 at h
      refine .thenJ (ι := Unit) (fun j_4 => []) (fun j_4 => []) (fun s => o_4 = Res.nx s) (.cons (t := 5) rfl (.cons (t := 6) rfl (.cons (t := 7) rfl Sub.nil))) SubB.nil ?_ (fun j_4 hj4 => ?_)
      · skip
        refine .block ?_
        refine .seq ?_
        refine .region [] mixed (by kernel_rfl) ?_
        obtain ⟨hn5, h⟩ := need_some h
        refine .cons (.indexAddr .none sl109 ty24 (.s rfl) (.s rfl) (fun _ => hn5)) rfl ?_
        refine .cons (.load .none ty24 (.s rfl)) rfl ?_
        obtain ⟨e1, hv6, h⟩ := bnd_some h
        refine .cons (.re hv6 (.assign .none (.s rfl))) rfl ?_
        refine .nil ?_
        refine .then ?_
        refine .seq ?_
        refine .region [] mixed (by kernel_rfl) ?_
        refine .cons (.move .none (.s rfl)) rfl ?_
        refine .cons (.neI .none (.s rfl) (.int (by decide))) rfl ?_
        refine .nil ?_
        refine .then ?_
        refine .cond (t := 12) rfl trivial (fun hb7 => ?_) (fun hb7 => ?_)
        · replace h := bif_t h hb7
          refine .seq ?_
          refine .region [] mixed (by kernel_rfl) ?_
          refine .cons (.move .none (.s rfl)) rfl ?_
          refine .cons (.assign .none (.s rfl)) rfl ?_
          refine .nil ?_
          refine .then ?_
          refine .ret ?_
          refine .blkRet ?_
          refine .thenRet ?_
          refine .thenRet ?_
          refine .blkRet ?_
          refine .thenRet ?_
          replace h := resd_ab hK4 (some_eq h)
          replace h := hD2 _ (some_eq h)
          replace h := resb_ab hK1 (some_eq h)
          obtain rfl := some_eq h
          exact Ends.ret1 (.inl rfl) Try.results44 (ResOK.tmp rfl trivial Imp.refl)
        · replace h := bif_f h hb7
          refine .skip ?_
          refine .blkNormal ?_
          exact Ends.join _ (some_eq h) (.cons (t := 5) rfl (.cons (t := 6) rfl (.cons (t := 7) rfl Sub.nil))) SubB.nil
      · have h := resd_nx hK4 hj4
        refine .region [] mixed (by kernel_rfl) ?_
        refine .cons (.addW .none (.s rfl) (.int (by decide))) rfl ?_
        refine .cons (.move .none (.s rfl)) rfl ?_
        refine .nil ?_
        exact Ends.againL (some_eq h) (.cons (t := 7) rfl (.cons (t := 5) rfl (.cons (t := 6) rfl Sub.nil))) SubB.nil
    · replace h := bif_f h hb3
      refine .exit ?_
      refine .thenExit ?_
      refine .thenExit ?_
      refine .blkExit ?_
      replace h := hD2 _ (some_eq h)
      exact Ends.join _ (some_eq h) Sub.nil SubB.nil
  · have h := resb_nx hK1 hj1
    refine .seq ?_
    refine .region [] mixed (by kernel_rfl) ?_
    refine .cons (.assign .none (.int (by decide))) rfl ?_
    refine .nil ?_
    refine .then ?_
    refine .ret ?_
    obtain rfl := some_eq h
    exact Ends.ret1 (.inl rfl) Try.results44 (ResOK.tmp rfl trivial Imp.refl)

theorem slices_IndexFunc_int_ok {s1 : (List Int)} {f1 : (Int → Option Bool)} {r : Int}  (h : slices_IndexFunc_int s1 f1 = some r) : FSpec Try.prog 72 [rep s1, fn1 Try.prog (rep (α := Bool)) f1] (rep r) := by
  unfold slices_IndexFunc_int at h
  refine FSpec.intro (n := 19) fnok72 Try.func72 rfl Try.ntmps72 rfl (fun F => ?_)
  refine .seq ?_
  refine .region [] mixed (by kernel_rfl) ?_
  refine .cons (.assign .none (.int (by decide))) rfl ?_
  refine .nil ?_
  refine .then ?_
  refine .seq ?_
  refine .seq ?_
  refine .region [] mixed (by kernel_rfl) ?_
  refine .cons (.move .none (.s rfl)) rfl ?_
  refine .cons (.len .none sl32 (.s rfl)) rfl ?_
  refine .cons (.move .none (.int (by decide))) rfl ?_
  refine .nil ?_
  refine .then ?_
  obtain ⟨o_1, h, hK1⟩ := bindR_some h
  refine .thenJ (ι := Unit) (fun j_1 => []) (fun j_1 => []) (fun s => o_1 = Res.nx s) Sub.nil SubB.nil ?_ (fun j_1 hj1 => ?_)
  · skip
    refine .block ?_
    refine .rforEL h (fun p2_ => [(8, ⟨True, rep p2_.1⟩)]) (fun p2_ => []) (.cons (t := 8) rfl Sub.nil) SubB.nil (.cons (t := 0) rfl (.cons (t := 1) rfl (.cons (t := 7) rfl Sub.nil))) SubB.nil (fun p2_ o_2 h hD2 => ?_)
    refine .seq ?_
    refine .region [] mixed (by kernel_rfl) ?_
    refine .cons (.lt .none (.s rfl) (.s rfl)) rfl ?_
    refine .nil ?_
    refine .then ?_
    refine .seq ?_
    refine .cond (t := 9) rfl trivial (fun hb3 => ?_) (fun hb3 => ?_)
    · replace h := bif_t h hb3
      refine .skip ?_
      refine .then ?_
      refine .seq ?_
      obtain ⟨o_4, h, hK4⟩ := bindD_some h
      unfold slices_IndexFunc_int_L1 at h
      refine .thenJ (ι := Unit) (fun j_4 => []) (fun j_4 => []) (fun s => o_4 = Res.nx s) (.cons (t := 0) rfl (.cons (t := 1) rfl (.cons (t := 7) rfl (.cons (t := 8) rfl Sub.nil)))) SubB.nil ?_ (fun j_4 hj4 => ?_)
      · skip
        refine .block ?_
        refine .seq ?_
        refine .region [] mixed (by kernel_rfl) ?_
        refine .cons (.move .none (.s rfl)) rfl ?_
        refine .cons (.assign .none (.s rfl)) rfl ?_
        refine .nil ?_
        refine .then ?_
        refine .seq ?_
        refine .region [] mixed (by kernel_rfl) ?_
        refine .cons (.move .none (.s rfl)) rfl ?_
        refine .cons (.move .none (.s rfl)) rfl ?_
        refine .cons (.move .none (.s rfl)) rfl ?_
        obtain ⟨hn5, h⟩ := need_some h
        refine .cons (.indexAddr .none sl32 ty3 (.s rfl) (.s rfl) (fun _ => hn5)) rfl ?_
        refine .cons (.load .none ty3 (.s rfl)) rfl ?_
        obtain ⟨r1, hv6, h⟩ := bind_some h
        refine .cons (.callV (gx s1 p2_.1, r1) .none (.s rfl) (fun _ => hv6) (.cons (.s rfl) .nil)) rfl ?_
        refine .nil ?_
        refine .then ?_
        refine .cond (t := 16) rfl trivial (fun hb7 => ?_) (fun hb7 => ?_)
        · replace h := bif_t h hb7
          refine .seq ?_
          refine .region [] mixed (by kernel_rfl) ?_
          refine .cons (.move .none (.s rfl)) rfl ?_
          refine .cons (.assign .none (.s rfl)) rfl ?_
          refine .nil ?_
          refine .then ?_
          refine .ret ?_
          refine .blkRet ?_
          refine .thenRet ?_
          refine .thenRet ?_
          refine .blkRet ?_
          refine .thenRet ?_
          replace h := resd_ab hK4 (some_eq h)
          replace h := hD2 _ (some_eq h)
          replace h := resb_ab hK1 (some_eq h)
          obtain rfl := some_eq h
          exact Ends.ret1 (.inl rfl) Try.results72 (ResOK.tmp rfl trivial Imp.refl)
        · replace h := bif_f h hb7
          refine .skip ?_
          refine .blkNormal ?_
          exact Ends.join _ (some_eq h) (.cons (t := 0) rfl (.cons (t := 1) rfl (.cons (t := 7) rfl (.cons (t := 8) rfl Sub.nil)))) SubB.nil
      · have h := resd_nx hK4 hj4
        refine .region [] mixed (by kernel_rfl) ?_
        refine .cons (.addW .none (.s rfl) (.int (by decide))) rfl ?_
        refine .cons (.move .none (.s rfl)) rfl ?_
        refine .nil ?_
        exact Ends.againL (some_eq h) (.cons (t := 8) rfl (.cons (t := 0) rfl (.cons (t := 1) rfl (.cons (t := 7) rfl Sub.nil)))) SubB.nil
    · replace h := bif_f h hb3
      refine .exit ?_
      refine .thenExit ?_
      refine .thenExit ?_
      refine .blkExit ?_
      replace h := hD2 _ (some_eq h)
      exact Ends.join _ (some_eq h) Sub.nil SubB.nil
  · have h := resb_nx hK1 hj1
    refine .seq ?_
    refine .region [] mixed (by kernel_rfl) ?_
    refine .cons (.assign .none (.int (by decide))) rfl ?_
    refine .nil ?_
    refine .then ?_
    refine .ret ?_
    obtain rfl := some_eq h
    exact Ends.ret1 (.inl rfl) Try.results72 (ResOK.tmp rfl trivial Imp.refl)

theorem slices_ContainsFunc_int_ok {s1 : (List Int)} {f1 : (Int → Option Bool)} {r : Bool}  (h : slices_ContainsFunc_int s1 f1 = some r) : FSpec Try.prog 29 [rep s1, fn1 Try.prog (rep (α := Bool)) f1] (rep r) := by
  unfold slices_ContainsFunc_int at h
  refine FSpec.intro (n := 9) fnok29 Try.func29 rfl Try.ntmps29 rfl (fun F => ?_)
  refine .seq ?_
  refine .region [] mixed (by kernel_rfl) ?_
  refine .cons (.assign .none .bool) rfl ?_
  refine .nil ?_
  refine .then ?_
  refine .seq ?_
  refine .region [] mixed (by kernel_rfl) ?_
  refine .cons (.move .none (.s rfl)) rfl ?_
  refine .cons (.move .none (.s rfl)) rfl ?_
  obtain ⟨r1, hv1, h⟩ := bind_some h
  refine .cons (.call .none (slices_IndexFunc_int_ok hv1) (.cons (.s rfl) (.cons (.s rfl) .nil))) rfl ?_
  refine .cons (.ge .none (.s rfl) (.int (by decide))) rfl ?_
  refine .cons (.assign .none (.s rfl)) rfl ?_
  refine .nil ?_
  refine .then ?_
  refine .ret ?_
  obtain rfl := some_eq h
  exact Ends.ret1 (.inl rfl) Try.results29 (ResOK.tmp rfl trivial Imp.refl)

theorem ref_In_ok {n1 : Int} {low1 : Int} {high1 : Int} {r : Bool}  (h : ref_In n1 low1 high1 = some r) : FSpec Try.prog 28 [rep n1, rep low1, rep high1] (rep r) := by
  unfold ref_In at h
  refine FSpec.intro (n := 15) fnok28 Try.func28 rfl Try.ntmps28 rfl (fun F => ?_)
  refine .seq ?_
  refine .region [] mixed (by kernel_rfl) ?_
  refine .cons (.assign .none .bool) rfl ?_
  refine .nil ?_
  refine .then ?_
  refine .seq ?_
  refine .region [] mixed (by kernel_rfl) ?_
  refine .cons (.move .none (.s rfl)) rfl ?_
  refine .cons (.move .none (.s rfl)) rfl ?_
  refine .cons (.ge .none (.s rfl) (.s rfl)) rfl ?_
  refine .cons (.move .none (.s rfl)) rfl ?_
  refine .cons (.move (.at rfl rfl) (.s rfl)) rfl ?_
  refine .cons (.move (.at rfl rfl) (.s rfl)) rfl ?_
  refine .cons (.le (.at rfl rfl) (.tmp rfl id) (.tmp rfl id)) rfl ?_
  refine .cons (.pickAnd .none (.s rfl) (.tmp rfl id)) rfl ?_
  refine .cons (.assign .none (.s rfl)) rfl ?_
  refine .nil ?_
  refine .then ?_
  refine .ret ?_
  obtain rfl := some_eq h
  exact Ends.ret1 (.inl rfl) Try.results28 (ResOK.tmp rfl trivial Imp.refl)

theorem ref_NearError_1_ok {n1 : Int} {r : Bool}  (h : ref_NearError_1 n1 = some r) : FSpec Try.prog 69 [rep n1] (rep r) := by
  unfold ref_NearError_1 at h
  refine FSpec.intro (n := 6) fnok69 Try.func69 rfl Try.ntmps69 rfl (fun F => ?_)
  refine .seq ?_
  refine .region [] mixed (by kernel_rfl) ?_
  refine .cons (.assign .none .bool) rfl ?_
  refine .nil ?_
  refine .then ?_
  refine .seq ?_
  refine .region [] mixed (by kernel_rfl) ?_
  refine .cons (.move .none (.s rfl)) rfl ?_
  obtain ⟨r1, hv1, h⟩ := bind_some h
  refine .cons (.call .none (ref_In_ok hv1) (.cons (.s rfl) (.cons (.int (by decide)) (.cons (.int (by decide)) .nil)))) rfl ?_
  refine .cons (.not .none (.s rfl)) rfl ?_
  refine .cons (.assign .none (.s rfl)) rfl ?_
  refine .nil ?_
  refine .then ?_
  refine .ret ?_
  obtain rfl := some_eq h
  exact Ends.ret1 (.inl rfl) Try.results69 (ResOK.tmp rfl trivial Imp.refl)

theorem ref_NearError_2_ok {n1 : Int} {r : Bool}  (h : ref_NearError_2 n1 = some r) : FSpec Try.prog 70 [rep n1] (rep r) := by
  unfold ref_NearError_2 at h
  refine FSpec.intro (n := 6) fnok70 Try.func70 rfl Try.ntmps70 rfl (fun F => ?_)
  refine .seq ?_
  refine .region [] mixed (by kernel_rfl) ?_
  refine .cons (.assign .none .bool) rfl ?_
  refine .nil ?_
  refine .then ?_
  refine .seq ?_
  refine .region [] mixed (by kernel_rfl) ?_
  refine .cons (.move .none (.s rfl)) rfl ?_
  obtain ⟨r1, hv1, h⟩ := bind_some h
  refine .cons (.call .none (ref_In_ok hv1) (.cons (.s rfl) (.cons (.int (by decide)) (.cons (.int (by decide)) .nil)))) rfl ?_
  refine .cons (.not .none (.s rfl)) rfl ?_
  refine .cons (.assign .none (.s rfl)) rfl ?_
  refine .nil ?_
  refine .then ?_
  refine .ret ?_
  obtain rfl := some_eq h
  exact Ends.ret1 (.inl rfl) Try.results70 (ResOK.tmp rfl trivial Imp.refl)

theorem ref_NearError_ok {want1 : (List Int)} {size1 : (List Int)} {gap1 : Int} {r : Int}  (h : ref_NearError want1 size1 gap1 = some r) : FSpec Try.prog 25 [rep want1, rep size1, rep gap1] (rep r) := by
  unfold ref_NearError at h
  refine FSpec.intro (n := 42) fnok25 Try.func25 rfl Try.ntmps25 rfl (fun F => ?_)
  refine .seq ?_
  refine .region [] mixed (by kernel_rfl) ?_
  refine .cons (.assign .none (.int (by decide))) rfl ?_
  refine .nil ?_
  refine .then ?_
  refine .seq ?_
  refine .seq ?_
  refine .region [] mixed (by kernel_rfl) ?_
  refine .cons (.move .none (.s rfl)) rfl ?_
  refine .cons (.len .none sl32 (.s rfl)) rfl ?_
  refine .cons (.gt .none (.s rfl) (.int (by decide))) rfl ?_
  refine .cons (.move .none (.s rfl)) rfl ?_
  refine .cons (.move (.at rfl rfl) (.s rfl)) rfl ?_
  refine .cons (.len (.at rfl rfl) sl32 (.tmp rfl id)) rfl ?_
  refine .cons (.gt (.at rfl rfl) (.tmp rfl id) (.int (by decide))) rfl ?_
  refine .cons (.pickOr .none (.s rfl) (.tmp rfl id)) rfl ?_
  obtain ⟨r1, hv1, h⟩ := bind_some h
  refine .cons (.call .none (ref_When_ok hv1) (.cons (.s rfl) (.cons (.int (by decide)) .nil))) rfl ?_
  refine .cons (.move .none (.s rfl)) rfl ?_
  refine .cons (.len .none sl32 (.s rfl)) rfl ?_
  refine .cons (.move .none (.s rfl)) rfl ?_
  refine .cons (.len .none sl32 (.s rfl)) rfl ?_
  refine .cons (.neI .none (.s rfl) (.s rfl)) rfl ?_
  obtain ⟨r2, hv2, h⟩ := bind_some h
  refine .cons (.call .none (ref_When_ok hv2) (.cons (.s rfl) (.cons (.int (by decide)) .nil))) rfl ?_
  refine .cons (.buildSlice (xs := [_, _]) .none sl109 ty24 hz24 (.cons (.s rfl) (.cons (.s rfl) .nil)) rfl (by decide)) rfl ?_
  obtain ⟨e1, hv3, h⟩ := bind_some h
  refine .cons (.call .none (ref_First_ok hv3) (.cons (.s rfl) .nil)) rfl ?_
  refine .cons (.assign .none (.s rfl)) rfl ?_
  refine .nil ?_
  refine .then ?_
  refine .seq ?_
  refine .region [] mixed (by kernel_rfl) ?_
  refine .cons (.move .none (.s rfl)) rfl ?_
  refine .cons (.neI .none (.s rfl) (.int (by decide))) rfl ?_
  refine .nil ?_
  refine .then ?_
  refine .cond (t := 27) rfl trivial (fun hb4 => ?_) (fun hb4 => ?_)
  · replace h := bif_t h hb4
    refine .seq ?_
    refine .region [] mixed (by kernel_rfl) ?_
    refine .cons (.move .none (.s rfl)) rfl ?_
    refine .cons (.assign .none (.s rfl)) rfl ?_
    refine .nil ?_
    refine .then ?_
    refine .ret ?_
    refine .thenRet ?_
    obtain rfl := some_eq h
    exact Ends.ret1 (.inl rfl) Try.results25 (ResOK.tmp rfl trivial Imp.refl)
  · replace h := bif_f h hb4
    refine .skip ?_
    refine .then ?_
    refine .seq ?_
    refine .region [] mixed (by kernel_rfl) ?_
    refine .cons (.move .none (.s rfl)) rfl ?_
    obtain ⟨r3, hv5, h⟩ := bind_some h
    refine .cons (.call .none (slices_ContainsFunc_int_ok hv5) (.cons (.s rfl) (.cons (Opd.func (ι := Int × Bool) (pre := fun i => ref_NearError_1 i.1 = some i.2) (Ss := fun i => [rep i.1]) (S := fun i => rep i.2) fnok69 (fun i h => ref_NearError_1_ok h)) .nil))) rfl ?_
    refine .cons (.move .none (.s rfl)) rfl ?_
    refine .cons (.move (.at rfl rfl) (.s rfl)) rfl ?_
    obtain ⟨r4, hv6, h⟩ := bind_some h
    refine .cons (.callIf (.at rfl rfl) fnok29 (fun hg => slices_ContainsFunc_int_ok ((fun hg => gd_some hv6 ((notT hg.2))) hg)) (.cons (.tmp rfl id) (.cons (Opd.func (ι := Int × Bool) (pre := fun i => ref_NearError_2 i.1 = some i.2) (Ss := fun i => [rep i.1]) (S := fun i => rep i.2) fnok70 (fun i h => ref_NearError_2_ok h)) .nil)) (fun h => h)) rfl ?_
    refine .cons (.pickOr .none (.s rfl) (.tmp rfl id)) rfl ?_
    refine .cons (.assign .none (.s rfl)) rfl ?_
    refine .nil ?_
    refine .then ?_
    refine .seq ?_
    refine .region [] mixed (by kernel_rfl) ?_
    refine .cons (.move .none (.s rfl)) rfl ?_
    refine .cons (.move .none (.s rfl)) rfl ?_
    refine .cons (.move (.at rfl rfl) (.s rfl)) rfl ?_
    obtain ⟨r5, hv7, h⟩ := bind_some h
    refine .cons (.callIf (.at rfl rfl) fnok28 (fun hg => ref_In_ok ((fun hg => gd_some hv7 ((notT hg.2))) hg)) (.cons (.tmp rfl id) (.cons (.int (by decide)) (.cons (.int (by decide)) .nil))) (fun h => h)) rfl ?_
    refine .cons (.not (.at rfl rfl) (.tmp rfl id)) rfl ?_
    refine .cons (.pickOr .none (.s rfl) (.tmp rfl id)) rfl ?_
    obtain ⟨r6, hv8, h⟩ := bind_some h
    refine .cons (.call .none (ref_When_ok hv8) (.cons (.s rfl) (.cons (.int (by decide)) .nil))) rfl ?_
    refine .cons (.assign .none (.s rfl)) rfl ?_
    refine .nil ?_
    refine .then ?_
    refine .ret ?_
    obtain rfl := some_eq h
    exact Ends.ret1 (.inl rfl) Try.results25 (ResOK.tmp rfl trivial Imp.refl)

theorem layer_Check_1_ok {k1 : Int} {c0_1 : Int} {r : Bool}  (h : layer_Check_1 k1 c0_1 = some r) : FSpec Try.prog 65 [rep k1, ref c0_1] (rep r) := by
  unfold layer_Check_1 at h
  refine FSpec.intro (n := 11) fnok65 Try.func65 rfl Try.ntmps65 rfl (fun F => ?_)
  refine .seq ?_
  refine .region [] mixed (by kernel_rfl) ?_
  refine .cons (.assign .none .bool) rfl ?_
  refine .nil ?_
  refine .then ?_
  refine .seq ?_
  refine .region [] mixed (by kernel_rfl) ?_
  refine .cons (.move .none (.s rfl)) rfl ?_
  refine .cons (.ge .none (.s rfl) (.int (by decide))) rfl ?_
  refine .cons (.move .none (.s rfl)) rfl ?_
  refine .cons (.move (.at rfl rfl) (.s rfl)) rfl ?_
  refine .cons (.load (.at rfl rfl) ty3 (.s rfl)) rfl ?_
  refine .cons (.lt (.at rfl rfl) (.tmp rfl id) (.tmp rfl id)) rfl ?_
  refine .cons (.pickAnd .none (.s rfl) (.tmp rfl id)) rfl ?_
  refine .cons (.assign .none (.s rfl)) rfl ?_
  refine .nil ?_
  refine .then ?_
  refine .ret ?_
  obtain rfl := some_eq h
  exact Ends.ret1 (.inl rfl) Try.results65 (ResOK.tmp rfl trivial Imp.refl)

theorem layer_Check_ok {n1 : Int} {l1 : (List Link)} {r : Int}  (h : layer_Check n1 l1 = some r) : FSpec Try.prog 19 [rep n1, rep l1] (rep r) := by
  unfold layer_Check at h
  refine FSpec.intro (n := 44) fnok19 Try.func19 rfl Try.ntmps19 rfl (fun F => ?_)
  refine .seq ?_
  refine .region [] mixed (by kernel_rfl) ?_
  refine .cons (.box .none (.s rfl)) rfl ?_
  refine .cons (.assign .none (.int (by decide))) rfl ?_
  refine .nil ?_
  refine .then ?_
  refine .seq ?_
  refine .block ?_
  refine .seq ?_
  refine .region [] mixed (by kernel_rfl) ?_
  refine .cons (.load .none ty3 (.s rfl)) rfl ?_
  refine .cons (.lt .none (.s rfl) (.int (by decide))) rfl ?_
  refine .cons (.move .none (.s rfl)) rfl ?_
  refine .cons (.load (.at rfl rfl) ty3 (.s rfl)) rfl ?_
  refine .cons (.gt (.at rfl rfl) (.tmp rfl id) (.int (by decide))) rfl ?_
  refine .cons (.pickOr .none (.s rfl) (.tmp rfl id)) rfl ?_
  refine .cons (.assign .none (.s rfl)) rfl ?_
  refine .nil ?_
  refine .then ?_
  refine .cond (t := 8) rfl trivial (fun hb1 => ?_) (fun hb1 => ?_)
  · replace h := bif_t h hb1
    refine .seq ?_
    refine .region [] mixed (by kernel_rfl) ?_
    refine .cons (.assign .none (.int (by decide))) rfl ?_
    refine .nil ?_
    refine .then ?_
    refine .ret ?_
    refine .blkRet ?_
    refine .thenRet ?_
    obtain rfl := some_eq h
    exact Ends.ret1 (.inl rfl) Try.results19 (ResOK.tmp rfl trivial Imp.refl)
  · replace h := bif_f h hb1
    refine .seq ?_
    refine .region [] mixed (by kernel_rfl) ?_
    refine .cons (.move .none (.s rfl)) rfl ?_
    refine .cons (.len .none sl23 (.s rfl)) rfl ?_
    refine .cons (.gt .none (.s rfl) (.int (by decide))) rfl ?_
    refine .cons (.assign .none (.s rfl)) rfl ?_
    refine .nil ?_
    refine .then ?_
    refine .cond (t := 15) rfl trivial (fun hb2 => ?_) (fun hb2 => ?_)
    · replace h := bif_t h hb2
      refine .seq ?_
      refine .region [] mixed (by kernel_rfl) ?_
      refine .cons (.assign .none (.int (by decide))) rfl ?_
      refine .nil ?_
      refine .then ?_
      refine .ret ?_
      refine .blkRet ?_
      refine .thenRet ?_
      obtain rfl := some_eq h
      exact Ends.ret1 (.inl rfl) Try.results19 (ResOK.tmp rfl trivial Imp.refl)
    · replace h := bif_f h hb2
      refine .skip ?_
      refine .blkNormal ?_
      refine .then ?_
      refine .seq ?_
      refine .region [] mixed (by kernel_rfl) ?_
      refine .cons (.makeFunc (ι := Int × Bool) (pre := fun i => (fun x0 => layer_Check_1 x0 n1) i.1 = some i.2) (Ss := fun i => [rep i.1]) (S := fun i => rep i.2) .none fnok65 (fun i h => layer_Check_1_ok h) (.cons (.s rfl) .nil)) rfl ?_
      refine .cons (.assign .none (.s rfl)) rfl ?_
      refine .nil ?_
      refine .then ?_
      refine .seq ?_
      refine .seq ?_
      refine .region [] mixed (by kernel_rfl) ?_
      refine .cons (.move .none (.s rfl)) rfl ?_
      refine .cons (.len .none sl23 (.s rfl)) rfl ?_
      refine .cons (.move .none (.int (by decide))) rfl ?_
      refine .nil ?_
      refine .then ?_
      obtain ⟨o_3, h, hK3⟩ := bindR_some h
      refine .thenJ (ι := Unit) (fun j_3 => []) (fun j_3 => []) (fun s => o_3 = Res.nx s) Sub.nil SubB.nil ?_ (fun j_3 hj3 => ?_)
      · skip
        refine .block ?_
        refine .rforEL h (fun p4_ => [(22, ⟨True, rep p4_.1⟩)]) (fun p4_ => []) (.cons (t := 22) rfl Sub.nil) SubB.nil (.cons (t := 2) rfl (.cons (t := 5) rfl (.cons (t := 20) rfl (.cons (t := 21) rfl Sub.nil)))) SubB.nil (fun p4_ o_4 h hD4 => ?_)
        refine .seq ?_
        refine .region [] mixed (by kernel_rfl) ?_
        refine .cons (.lt .none (.s rfl) (.s rfl)) rfl ?_
        refine .nil ?_
        refine .then ?_
        refine .seq ?_
        refine .cond (t := 23) rfl trivial (fun hb5 => ?_) (fun hb5 => ?_)
        · replace h := bif_t h hb5
          refine .skip ?_
          refine .then ?_
          refine .seq ?_
          obtain ⟨o_6, h, hK6⟩ := bindD_some h
          unfold layer_Check_L1 at h
          refine .thenJ (ι := Unit) (fun j_6 => []) (fun j_6 => []) (fun s => o_6 = Res.nx s) (.cons (t := 2) rfl (.cons (t := 5) rfl (.cons (t := 20) rfl (.cons (t := 21) rfl (.cons (t := 22) rfl Sub.nil))))) SubB.nil ?_ (fun j_6 hj6 => ?_)
          · skip
            refine .block ?_
            refine .seq ?_
            refine .region [([], []), ([], []), ([], [7]), ([7], [7])] mixed (by kernel_rfl) ?_
            obtain ⟨hn7, h⟩ := need_some h
            refine .consA (.indexAddr .none sl23 ty79 (.s rfl) (.s rfl) (fun _ => hn7)) rfl ?_
            obtain ⟨v1, hv8, h⟩ := bnd_some h
            refine .consA (.re hv8 (.load .none ty79 (.s rfl))) rfl ?_
            refine .consW (.alloc zo79 rfl) rfl rfl ?_
            refine .consN (.store ty79 rfl rfl (.s rfl)) rfl ?_
            refine .nil ?_
            refine .then ?_
            refine .freeze (t := 7) rfl rfl SubB.nil rfl ?_
            refine .seq ?_
            refine .seq ?_
            refine .region [] mixed (by kernel_rfl) ?_
            refine .cons (.move .none (.s rfl)) rfl ?_
            refine .cons (.fieldAddr .none fd79_0 hfd79_0 (.s rfl)) rfl ?_
            refine .cons (.load .none ty3 (.s rfl)) rfl ?_
            obtain ⟨r1, hv9, h⟩ := bind_some h
            refine .cons (.callV (v1.From, r1) .none (.s rfl) (fun _ => hv9) (.cons (.s rfl) .nil)) rfl ?_
            refine .cons (.not .none (.s rfl)) rfl ?_
            refine .cons (.move .none (.s rfl)) rfl ?_
            refine .cons (.move (.at rfl rfl) (.s rfl)) rfl ?_
            refine .cons (.fieldAddr (.at rfl rfl) fd79_1 hfd79_1 (.s rfl)) rfl ?_
            refine .cons (.load (.at rfl rfl) ty3 (.tmp rfl id)) rfl ?_
            obtain ⟨r2, hv10, h⟩ := bind_some h
            refine .cons (.callV (v1.To, r2) (.at rfl rfl) (.tmp rfl id) (fun hg => gd_some hv10 ((notT hg.2))) (.cons (.tmp rfl id) .nil)) rfl ?_
            refine .cons (.not (.at rfl rfl) (.tmp rfl id)) rfl ?_
            refine .cons (.pickOr .none (.s rfl) (.tmp rfl id)) rfl ?_
            refine .nil ?_
            refine .then ?_
            refine .cond (t := 37) rfl trivial (fun hb11 => ?_) (fun hb11 => ?_)
            · replace h := bif_t h hb11
              refine .seq ?_
              refine .region [] mixed (by kernel_rfl) ?_
              refine .cons (.assign .none (.int (by decide))) rfl ?_
              refine .nil ?_
              refine .then ?_
              refine .ret ?_
              refine .thenRet ?_
              refine .blkRet ?_
              refine .thenRet ?_
              refine .thenRet ?_
              refine .blkRet ?_
              refine .thenRet ?_
              replace h := resd_ab hK6 (some_eq h)
              replace h := hD4 _ (some_eq h)
              replace h := resb_ab hK3 (some_eq h)
              obtain rfl := some_eq h
              exact Ends.ret1 (.inl rfl) Try.results19 (ResOK.tmp rfl trivial Imp.refl)
            · replace h := bif_f h hb11
              refine .skip ?_
              refine .then ?_
              refine .seq ?_
              refine .region [] mixed (by kernel_rfl) ?_
              refine .cons (.fieldAddr .none fd79_0 hfd79_0 (.s rfl)) rfl ?_
              refine .cons (.load .none ty3 (.s rfl)) rfl ?_
              refine .cons (.fieldAddr .none fd79_1 hfd79_1 (.s rfl)) rfl ?_
              refine .cons (.load .none ty3 (.s rfl)) rfl ?_
              refine .cons (.eqI .none (.s rfl) (.s rfl)) rfl ?_
              refine .nil ?_
              refine .then ?_
              refine .cond (t := 42) rfl trivial (fun hb12 => ?_) (fun hb12 => ?_)
              · replace h := bif_t h hb12
                refine .seq ?_
                refine .region [] mixed (by kernel_rfl) ?_
                refine .cons (.assign .none (.int (by decide))) rfl ?_
                refine .nil ?_
                refine .then ?_
                refine .ret ?_
                refine .blkRet ?_
                refine .thenRet ?_
                refine .thenRet ?_
                refine .blkRet ?_
                refine .thenRet ?_
                replace h := resd_ab hK6 (some_eq h)
                replace h := hD4 _ (some_eq h)
                replace h := resb_ab hK3 (some_eq h)
                obtain rfl := some_eq h
                exact Ends.ret1 (.inl rfl) Try.results19 (ResOK.tmp rfl trivial Imp.refl)
              · replace h := bif_f h hb12
                refine .skip ?_
                refine .blkNormal ?_
                exact Ends.join _ (some_eq h) (.cons (t := 2) rfl (.cons (t := 5) rfl (.cons (t := 20) rfl (.cons (t := 21) rfl (.cons (t := 22) rfl Sub.nil))))) SubB.nil
          · have h := resd_nx hK6 hj6
            refine .region [] mixed (by kernel_rfl) ?_
            refine .cons (.addW .none (.s rfl) (.int (by decide))) rfl ?_
            refine .cons (.move .none (.s rfl)) rfl ?_
            refine .nil ?_
            exact Ends.againL (some_eq h) (.cons (t := 22) rfl (.cons (t := 2) rfl (.cons (t := 5) rfl (.cons (t := 20) rfl (.cons (t := 21) rfl Sub.nil))))) SubB.nil
        · replace h := bif_f h hb5
          refine .exit ?_
          refine .thenExit ?_
          refine .thenExit ?_
          refine .blkExit ?_
          replace h := hD4 _ (some_eq h)
          exact Ends.join _ (some_eq h) Sub.nil SubB.nil
      · have h := resb_nx hK3 hj3
        refine .seq ?_
        refine .region [] mixed (by kernel_rfl) ?_
        refine .cons (.assign .none (.int (by decide))) rfl ?_
        refine .nil ?_
        refine .then ?_
        refine .ret ?_
        obtain rfl := some_eq h
        exact Ends.ret1 (.inl rfl) Try.results19 (ResOK.tmp rfl trivial Imp.refl)

theorem law_layers_ok  {r : Bool}  (h : law_layers  = some r) : FSpec Try.prog 12 [] (rep r) := by
  unfold law_layers at h
  refine FSpec.intro (n := 7) fnok12 Try.func12 rfl Try.ntmps12 rfl (fun F => ?_)
  refine .seq ?_
  refine .region [] mixed (by kernel_rfl) ?_
  refine .cons (.assign .none .bool) rfl ?_
  refine .nil ?_
  refine .then ?_
  refine .seq ?_
  refine .region [] mixed (by kernel_rfl) ?_
  obtain ⟨r1, hv1, h⟩ := bind_some h
  refine .cons (.call .none (layer_Check_ok hv1) (.cons (.int (by decide)) (.cons (.const (x := ([] : (List Link))) (fun M w => ⟨_, ⟨none, 0, rfl, Nat.le_refl _, by decide, rfl⟩, rfl⟩)) .nil))) rfl ?_
  refine .cons (.eqI .none (.s rfl) (.int (by decide))) rfl ?_
  refine .cons (.move .none (.s rfl)) rfl ?_
  obtain ⟨r2, hv2, h⟩ := bind_some h
  refine .cons (.callIf (.at rfl rfl) fnok19 (fun hg => layer_Check_ok ((fun hg => gd_some hv2 (hg.2)) hg)) (.cons (.int (by decide)) (.cons (.const (x := ([] : (List Link))) (fun M w => ⟨_, ⟨none, 0, rfl, Nat.le_refl _, by decide, rfl⟩, rfl⟩)) .nil)) (fun h => h)) rfl ?_
  refine .cons (.eqI (.at rfl rfl) (.tmp rfl id) (.int (by decide))) rfl ?_
  refine .cons (.pickAnd .none (.s rfl) (.tmp rfl id)) rfl ?_
  refine .cons (.assign .none (.s rfl)) rfl ?_
  refine .nil ?_
  refine .then ?_
  refine .ret ?_
  obtain rfl := some_eq h
  exact Ends.ret1 (.inl rfl) Try.results12 (ResOK.tmp rfl trivial Imp.refl)

theorem ref_Abs_ok {n1 : Int} {r : Int}  (h : ref_Abs n1 = some r) : FSpec Try.prog 71 [rep n1] (rep r) := by
  unfold ref_Abs at h
  refine FSpec.intro (n := 7) fnok71 Try.func71 rfl Try.ntmps71 rfl (fun F => ?_)
  refine .seq ?_
  refine .region [] mixed (by kernel_rfl) ?_
  refine .cons (.assign .none (.int (by decide))) rfl ?_
  refine .nil ?_
  refine .then ?_
  refine .seq ?_
  refine .region [] mixed (by kernel_rfl) ?_
  refine .cons (.move .none (.s rfl)) rfl ?_
  refine .cons (.move .none (.s rfl)) rfl ?_
  refine .cons (.negW .none (.s rfl)) rfl ?_
  refine .cons (.max2 .none (.s rfl) (.s rfl)) rfl ?_
  refine .cons (.assign .none (.s rfl)) rfl ?_
  refine .nil ?_
  refine .then ?_
  refine .ret ?_
  obtain rfl := some_eq h
  exact Ends.ret1 (.inl rfl) Try.results71 (ResOK.tmp rfl trivial Imp.refl)

theorem ref_NearOf_ok {want1 : (List Int)} {size1 : (List Int)} {gap1 : Int} {r : (List Int)}  (h : ref_NearOf want1 size1 gap1 = some r) : FSpec Try.prog 26 [rep want1, rep size1, rep gap1] (rep r) := by
  unfold ref_NearOf at h
  refine FSpec.intro (n := 194) fnok26 Try.func26 rfl Try.ntmps26 rfl (fun F => ?_)
  refine .seq ?_
  refine .region [] mixed (by kernel_rfl) ?_
  refine .cons (.assign .none (.const (x := ([] : (List Int))) (fun M w => ⟨_, ⟨none, 0, rfl, Nat.le_refl _, by decide, rfl⟩, rfl⟩))) rfl ?_
  refine .nil ?_
  refine .then ?_
  refine .seq ?_
  refine .region [] mixed (by kernel_rfl) ?_
  refine .cons (.move .none (.s rfl)) rfl ?_
  refine .cons (.len .none sl32 (.s rfl)) rfl ?_
  obtain ⟨n1, hv1, h⟩ := bnd_some h
  refine .cons (.re hv1 (.assign .none (.s rfl))) rfl ?_
  refine .nil ?_
  refine .then ?_
  refine .seq ?_
  refine .region [([], []), ([], [23]), ([23], [8, 23])] mixed (by kernel_rfl) ?_
  refine .consA (.move .none (.s rfl)) rfl ?_
  obtain ⟨hn2, h⟩ := need_some h
  refine .consW (.makeSlice rk32 zo3 rfl (.s rfl) (.s rfl) hn2) rfl rfl ?_
  refine .consW (.passRow rfl (.tmp rfl)) rfl rfl ?_
  refine .nil ?_
  refine .then ?_
  obtain ⟨off1, hv3, h⟩ := bnd_some h
  refine .reB (t := 8) rfl (congrArg (rowV 3) hv3) ?_
  refine .nameRow (t := 8) (g := 5001) rfl rfl rfl (fun s5001 => ?_)
  refine .seq ?_
  refine .seq ?_
  refine .region [] mixed (by kernel_rfl) ?_
  refine .cons (.assign .none (.int (by decide))) rfl ?_
  refine .nil ?_
  refine .then ?_
  obtain ⟨j_4, h, hK4⟩ := bind_some h
  refine .thenJ (ι := (List Int)) (fun j_4 => []) (fun j_4 => [(5001, some (CPred.at s5001 (rowV 3 j_4)))]) (fun s => j_4 = s) (.cons (t := 0) rfl (.cons (t := 7) rfl (.cons (t := 8) rfl Sub.nil))) SubB.nil ?_ (fun j_4' hj4 => ?_)
  · skip
    refine .block ?_
    refine .loopL h (fun s5_ => [(9, ⟨True, rep s5_.1⟩)]) (fun s5_ => [(5001, some (CPred.at s5001 (rowV 3 s5_.2)))]) (.cons (t := 9) rfl Sub.nil) (.cons (t := 5001) rfl SubB.nil) (.cons (t := 0) rfl (.cons (t := 1) rfl (.cons (t := 2) rfl (.cons (t := 7) rfl (.cons (t := 8) rfl Sub.nil))))) SubB.nil (fun s5_ o_5 h hD5 => ?_)
    unfold ref_NearOf_L1 at h
    refine .seq ?_
    refine .seq ?_
    refine .region [] mixed (by kernel_rfl) ?_
    refine .cons (.move .none (.s rfl)) rfl ?_
    refine .cons (.move .none (.s rfl)) rfl ?_
    refine .cons (.lt .none (.s rfl) (.s rfl)) rfl ?_
    refine .nil ?_
    refine .then ?_
    refine .cond (t := 26) rfl trivial (fun hb6 => ?_) (fun hb6 => ?_)
    · replace h := bif_t h hb6
      refine .skip ?_
      refine .then ?_
      refine .seq ?_
      refine .block ?_
      refine .region [([], []), ([], []), ([], []), ([], []), ([], []), ([5001], []), ([5001], []), ([], []), ([], []), ([], []), ([], []), ([], []), ([], []), ([], []), ([], []), ([5001], []), ([5001], [5001])] mixed (by kernel_rfl) ?_
      refine .consA (.move .none (.s rfl)) rfl ?_
      refine .consA (.move .none (.s rfl)) rfl ?_
      refine .consA (.move .none (.s rfl)) rfl ?_
      refine .consA (.move .none (.s rfl)) rfl ?_
      refine .consA (.subW .none (.s rfl) (.int (by decide))) rfl ?_
      obtain ⟨hn7, h⟩ := need_some h
      refine .consA (.indexAddrO (k := 5001) .none sl32 ty3 (.s rfl) rfl (.s rfl) (fun _ => hn7)) rfl ?_
      refine .consA (.loadElem0 (k := 5001) .none ty3 (.s rfl) rfl (fun _ => hn7)) rfl ?_
      refine .consA (.move .none (.s rfl)) rfl ?_
      refine .consA (.move .none (.s rfl)) rfl ?_
      refine .consA (.subW .none (.s rfl) (.int (by decide))) rfl ?_
      obtain ⟨hn8, h⟩ := need_some h
      refine .consA (.indexAddr .none sl32 ty3 (.s rfl) (.s rfl) (fun _ => hn8)) rfl ?_
      refine .consA (.load .none ty3 (.s rfl)) rfl ?_
      refine .consA (.addW .none (.s rfl) (.s rfl)) rfl ?_
      refine .consA (.move .none (.s rfl)) rfl ?_
      obtain ⟨v1, hv9, h⟩ := bnd_some h
      refine .consA (.re hv9 (.addW .none (.s rfl) (.s rfl))) rfl ?_
      obtain ⟨hn10, h⟩ := need_some h
      refine .consA (.indexAddrO (k := 5001) .none sl32 ty3 (.s rfl) rfl (.s rfl) (fun _ => hn10)) rfl ?_
      refine .consN (.storeElem0 (k := 5001) ty3 (.s rfl) rfl (.s rfl) hn10) rfl ?_
      refine .nil ?_
      refine .blkNormal ?_
      refine .then ?_
      obtain ⟨off2, hv11, h⟩ := bnd_some h
      refine .reB (t := 5001) rfl (congrArg (fun y => CPred.at s5001 (rowV 3 y)) hv11) ?_
      refine .region [] mixed (by kernel_rfl) ?_
      refine .cons (.move .none (.s rfl)) rfl ?_
      refine .cons (.addW .none (.s rfl) (.int (by decide))) rfl ?_
      obtain ⟨i1, hv12, h⟩ := bnd_some h
      refine .cons (.re hv12 (.assign .none (.s rfl))) rfl ?_
      refine .nil ?_
      exact Ends.againL (some_eq h) (.cons (t := 9) rfl (.cons (t := 0) rfl (.cons (t := 1) rfl (.cons (t := 2) rfl (.cons (t := 7) rfl (.cons (t := 8) rfl Sub.nil)))))) (.cons (t := 5001) rfl SubB.nil)
    · replace h := bif_f h hb6
      refine .exit ?_
      refine .thenExit ?_
      refine .thenExit ?_
      refine .blkExit ?_
      replace h := hD5 _ (some_eq h)
      exact Ends.join _ (some_eq h) (.cons (t := 0) rfl (.cons (t := 7) rfl (.cons (t := 8) rfl Sub.nil))) (.cons (t := 5001) rfl SubB.nil)
  · subst hj4; have h := hK4; clear hK4
    refine .freezeRow (g := 5001) (ts := [8]) rfl (.cons (t := 8) rfl trivial .nil) SubB.nil rfl ?_
    refine .seq ?_
    refine .region [([], [10])] mixed (by kernel_rfl) ?_
    refine .consW (.nilRow (T := 3) (α := Int) rfl) rfl rfl ?_
    refine .nil ?_
    refine .then ?_
    refine .nameRow (t := 10) (g := 5002) rfl rfl rfl (fun s5002 => ?_)
    refine .seq ?_
    refine .seq ?_
    refine .region [] mixed (by kernel_rfl) ?_
    refine .cons (.move .none (.s rfl)) rfl ?_
    refine .cons (.move .none (.int (by decide))) rfl ?_
    refine .nil ?_
    refine .then ?_
    obtain ⟨j_13, h, hK13⟩ := bind_some h
    refine .thenJ (ι := (List Int)) (fun j_13 => []) (fun j_13 => [(10, some (rowV 3 j_13))]) (fun s => j_13 = s) (.cons (t := 0) rfl (.cons (t := 7) rfl (.cons (t := 8) rfl Sub.nil))) SubB.nil ?_ (fun j_13' hj13 => ?_)
    · skip
      refine .block ?_
      refine .anon (t := 10) (g := 5002) rfl rfl trivial rfl ?_
      refine .rforL h (fun p14_ => [(46, ⟨True, rep p14_.1⟩)]) (fun p14_ => [(10, some (rowV 3 p14_.2))]) (.cons (t := 46) rfl Sub.nil) (.cons (t := 10) rfl SubB.nil) (.cons (t := 0) rfl (.cons (t := 7) rfl (.cons (t := 8) rfl (.cons (t := 45) rfl Sub.nil)))) SubB.nil (fun p14_ o_14 h hD14 => ?_)
      refine .nameRow (t := 10) (g := 5003) rfl rfl rfl (fun s5003 => ?_)
      refine .seq ?_
      refine .region [] mixed (by kernel_rfl) ?_
      refine .cons (.lt .none (.s rfl) (.s rfl)) rfl ?_
      refine .nil ?_
      refine .then ?_
      refine .seq ?_
      refine .cond (t := 47) rfl trivial (fun hb15 => ?_) (fun hb15 => ?_)
      · replace h := bif_t h hb15
        refine .skip ?_
        refine .then ?_
        refine .seq ?_
        obtain ⟨j_16, h, hK16⟩ := bind_some h
        unfold ref_NearOf_L2 at h
        refine .thenJ (ι := (List Int)) (fun j_16 => []) (fun j_16 => [(10, some (rowV 3 j_16))]) (fun s => j_16 = s) (.cons (t := 0) rfl (.cons (t := 7) rfl (.cons (t := 8) rfl (.cons (t := 45) rfl (.cons (t := 46) rfl Sub.nil))))) SubB.nil ?_ (fun j_16' hj16 => ?_)
        · skip
          refine .block ?_
          refine .seq ?_
          refine .region [] mixed (by kernel_rfl) ?_
          refine .cons (.move .none (.s rfl)) rfl ?_
          refine .cons (.assign .none (.s rfl)) rfl ?_
          refine .nil ?_
          refine .then ?_
          refine .region [([], []), ([], []), ([], []), ([], []), ([], []), ([], []), ([], []), ([], []), ([], []), ([], []), ([], []), ([5003], [60, 5003]), ([60], [10, 60])] mixed (by kernel_rfl) ?_
          refine .consA (.move .none (.s rfl)) rfl ?_
          refine .consA (.move .none (.s rfl)) rfl ?_
          refine .consA (.move .none (.s rfl)) rfl ?_
          obtain ⟨hn17, h⟩ := need_some h
          refine .consA (.indexAddr .none sl32 ty3 (.s rfl) (.s rfl) (fun _ => hn17)) rfl ?_
          refine .consA (.load .none ty3 (.s rfl)) rfl ?_
          refine .consA (.move .none (.s rfl)) rfl ?_
          refine .consA (.move .none (.s rfl)) rfl ?_
          obtain ⟨hn18, h⟩ := need_some h
          refine .consA (.indexAddr .none sl32 ty3 (.s rfl) (.s rfl) (fun _ => hn18)) rfl ?_
          refine .consA (.load .none ty3 (.s rfl)) rfl ?_
          refine .consA (.subW .none (.s rfl) (.s rfl)) rfl ?_
          refine .consA (.buildSlice (xs := [_]) .none sl32 ty3 hz3 (.cons (.s rfl) .nil) rfl (by decide)) rfl ?_
          obtain ⟨hn19, h⟩ := need_some h
          refine .consW (.append (k := 5003) rk32 rfl (.told (.s rfl) rfl) (.s rfl) hn19) rfl rfl ?_
          refine .consWD (.passRow rfl (.tmp rfl)) rfl rfl ?_
          refine .nil ?_
          refine .blkNormal ?_
          exact Ends.join _ (some_eq h) (.cons (t := 0) rfl (.cons (t := 7) rfl (.cons (t := 8) rfl (.cons (t := 45) rfl (.cons (t := 46) rfl Sub.nil))))) (.cons (t := 10) rfl SubB.nil)
        · subst hj16; have h := hK16; clear hK16
          refine .nameRow (t := 10) (g := 5004) rfl rfl rfl (fun s5004 => ?_)
          refine .region [] mixed (by kernel_rfl) ?_
          refine .cons (.addW .none (.s rfl) (.int (by decide))) rfl ?_
          refine .cons (.move .none (.s rfl)) rfl ?_
          refine .nil ?_
          refine .anon (t := 10) (g := 5004) rfl rfl trivial rfl ?_
          exact Ends.againL (some_eq h) (.cons (t := 46) rfl (.cons (t := 0) rfl (.cons (t := 7) rfl (.cons (t := 8) rfl (.cons (t := 45) rfl Sub.nil))))) (.cons (t := 10) rfl SubB.nil)
      · replace h := bif_f h hb15
        refine .exit ?_
        refine .thenExit ?_
        refine .thenExit ?_
        refine .blkExit ?_
        refine .anon (t := 10) (g := 5003) rfl rfl trivial rfl ?_
        replace h := hD14 _ (some_eq h)
        exact Ends.join _ (some_eq h) (.cons (t := 0) rfl (.cons (t := 7) rfl (.cons (t := 8) rfl Sub.nil))) (.cons (t := 10) rfl SubB.nil)
    · subst hj13; have h := hK13; clear hK13
      refine .freezeRowA (t := 10) rfl rfl SubB.nil rfl ?_
      refine .seq ?_
      refine .region [([], []), ([], []), ([], [64]), ([64], [64]), ([], [])] mixed (by kernel_rfl) ?_
      refine .consA (.move .none (.s rfl)) rfl ?_
      obtain ⟨r1, hv20, h⟩ := bind_some h
      refine .consA (.call .none (slices_Values_int_ok hv20) (.cons (.s rfl) .nil)) rfl ?_
      obtain ⟨r2, hv21, h⟩ := bind_some h
      refine .consW (.callO [] (slices_Sorted_int_ok hv21) (.cons (.s rfl) .nil) .nil rfl (by decide) (by decide) (by intro d h; cases h; decide)) rfl rfl ?_
      obtain ⟨values1, hv22, h⟩ := bind_some h
      refine .consW (.tell (t := 64) rfl row_one rfl (by decide) (fun _ => StepOK.callO [64] ((slices_Compact_int_ok hv22).frzO1) (.cons (.s rfl) .nil) (.cons (k := 64) rfl .nil) rfl (by decide) (by decide) (by intro d h; cases h; decide))) rfl rfl ?_
      refine .consA (.assign .none (.s rfl)) rfl ?_
      refine .nil ?_
      refine .then ?_
      refine .seq ?_
      refine .region [([], []), ([], []), ([], [68]), ([68], [12, 68])] mixed (by kernel_rfl) ?_
      refine .consA (.move .none (.s rfl)) rfl ?_
      obtain ⟨v2, hv23, h⟩ := bnd_some h
      refine .consA (.re hv23 (.addW .none (.s rfl) (.int (by decide)))) rfl ?_
      obtain ⟨hn24, h⟩ := need_some h
      refine .consW (.post1 (.makeSlice rkraw22 zraw32 rfl (.s rfl) (.s rfl) hn24) (fun M D v w h => rowD_nils (E2 := 3) (mk := mkR) (sub := subR) (a := ([] : (List Int))) rfl rfl h)) rfl rfl ?_
      refine .consW (.passRow rfl (.tmp rfl)) rfl rfl ?_
      refine .nil ?_
      refine .then ?_
      obtain ⟨least1, hv25, h⟩ := bnd_some h
      refine .reB (t := 12) rfl (congrArg (rowD 32 3 mkR subR []) hv25) ?_
      refine .nameC (t := 12) (g := 5005) oneRowD rfl rfl rfl (fun s5005 => ?_)
      refine .seq ?_
      refine .seq ?_
      refine .region [([], []), ([5005], []), ([], [])] mixed (by kernel_rfl) ?_
      refine .consA (.move .none (.s rfl)) rfl ?_
      refine .consA (.lenD (k := 5005) sl22 (.s rfl) rfl) rfl ?_
      refine .consA (.move .none (.int (by decide))) rfl ?_
      refine .nil ?_
      refine .then ?_
      obtain ⟨j_26, h, hK26⟩ := bind_some h
      refine .thenJ (ι := (List (List Int))) (fun j_26 => []) (fun j_26 => [(5005, some (CPred.at s5005 (rowD 32 3 mkR subR [] j_26)))]) (fun s => j_26 = s) (.cons (t := 0) rfl (.cons (t := 7) rfl (.cons (t := 8) rfl (.cons (t := 10) rfl (.cons (t := 12) rfl Sub.nil))))) SubB.nil ?_ (fun j_26' hj26 => ?_)
      · skip
        refine .block ?_
        refine .rforL h (fun p27_ => [(71, ⟨True, rep p27_.1⟩)]) (fun p27_ => [(5005, some (CPred.at s5005 (rowD 32 3 mkR subR [] p27_.2)))]) (.cons (t := 71) rfl Sub.nil) (.cons (t := 5005) rfl SubB.nil) (.cons (t := 0) rfl (.cons (t := 7) rfl (.cons (t := 8) rfl (.cons (t := 10) rfl (.cons (t := 12) rfl (.cons (t := 70) rfl Sub.nil)))))) SubB.nil (fun p27_ o_27 h hD27 => ?_)
        refine .seq ?_
        refine .region [] mixed (by kernel_rfl) ?_
        refine .cons (.lt .none (.s rfl) (.s rfl)) rfl ?_
        refine .nil ?_
        refine .then ?_
        refine .seq ?_
        refine .cond (t := 72) rfl trivial (fun hb28 => ?_) (fun hb28 => ?_)
        · replace h := bif_t h hb28
          refine .skip ?_
          refine .then ?_
          refine .seq ?_
          obtain ⟨j_29, h, hK29⟩ := bind_some h
          unfold ref_NearOf_L3 at h
          refine .thenJ (ι := (List (List Int))) (fun j_29 => []) (fun j_29 => [(5005, some (CPred.at s5005 (rowD 32 3 mkR subR [] j_29)))]) (fun s => j_29 = s) (.cons (t := 0) rfl (.cons (t := 7) rfl (.cons (t := 8) rfl (.cons (t := 10) rfl (.cons (t := 12) rfl (.cons (t := 70) rfl (.cons (t := 71) rfl Sub.nil))))))) SubB.nil ?_ (fun j_29' hj29 => ?_)
          · skip
            refine .block ?_
            refine .seq ?_
            refine .region [] mixed (by kernel_rfl) ?_
            refine .cons (.move .none (.s rfl)) rfl ?_
            refine .cons (.assign .none (.s rfl)) rfl ?_
            refine .nil ?_
            refine .then ?_
            refine .region [([], []), ([], []), ([], []), ([], []), ([], []), ([], [79]), ([5005], []), ([5005, 79], [5005, 79])] mixed (by kernel_rfl) ?_
            refine .consA (.move .none (.s rfl)) rfl ?_
            refine .consA (.move .none (.s rfl)) rfl ?_
            refine .consA (.move .none (.s rfl)) rfl ?_
            refine .consA (.len .none sl32 (.s rfl)) rfl ?_
            obtain ⟨v3, hv30, h⟩ := bnd_some h
            refine .consA (.re hv30 (.addW .none (.s rfl) (.int (by decide)))) rfl ?_
            obtain ⟨hn31, h⟩ := need_some h
            refine .consW (.makeSlice rk32 zo3 rfl (.s rfl) (.s rfl) hn31) rfl rfl ?_
            obtain ⟨hn32, h⟩ := need_some h
            refine .consA (.indexAddrD (k := 5005) sl22 tr32 (.s rfl) rfl (.s rfl) hn32) rfl ?_
            refine .consN (.storeElemD (k := 5005) (t := 79) (set := fun _ z => z) (hs' := []) (List.replicate v3.toNat (0 : Int)) ty32 (.s rfl) rfl .self rfl hn32 rfl (by simp) (by simp) (fun _ _ => rfl) rfl) rfl ?_
            refine .nil ?_
            refine .blkNormal ?_
            exact Ends.join _ (some_eq h) (.cons (t := 0) rfl (.cons (t := 7) rfl (.cons (t := 8) rfl (.cons (t := 10) rfl (.cons (t := 12) rfl (.cons (t := 70) rfl (.cons (t := 71) rfl Sub.nil))))))) (.cons (t := 5005) rfl SubB.nil)
          · subst hj29; have h := hK29; clear hK29
            refine .region [] mixed (by kernel_rfl) ?_
            refine .cons (.addW .none (.s rfl) (.int (by decide))) rfl ?_
            refine .cons (.move .none (.s rfl)) rfl ?_
            refine .nil ?_
            exact Ends.againL (some_eq h) (.cons (t := 71) rfl (.cons (t := 0) rfl (.cons (t := 7) rfl (.cons (t := 8) rfl (.cons (t := 10) rfl (.cons (t := 12) rfl (.cons (t := 70) rfl Sub.nil))))))) (.cons (t := 5005) rfl SubB.nil)
        · replace h := bif_f h hb28
          refine .exit ?_
          refine .thenExit ?_
          refine .thenExit ?_
          refine .blkExit ?_
          replace h := hD27 _ (some_eq h)
          exact Ends.join _ (some_eq h) (.cons (t := 0) rfl (.cons (t := 7) rfl (.cons (t := 8) rfl (.cons (t := 10) rfl (.cons (t := 12) rfl Sub.nil))))) (.cons (t := 5005) rfl SubB.nil)
      · subst hj26; have h := hK26; clear hK26
        refine .seq ?_
        refine .seq ?_
        refine .region [] mixed (by kernel_rfl) ?_
        refine .cons (.move .none (.s rfl)) rfl ?_
        refine .cons (.subW .none (.s rfl) (.int (by decide))) rfl ?_
        obtain ⟨i2, hv33, h⟩ := bnd_some h
        refine .cons (.re hv33 (.assign .none (.s rfl))) rfl ?_
        refine .nil ?_
        refine .then ?_
        obtain ⟨j_34, h, hK34⟩ := bind_some h
        refine .thenJ (ι := (List (List Int))) (fun j_34 => []) (fun j_34 => [(5005, some (CPred.at s5005 (rowD 32 3 mkR subR [] j_34)))]) (fun s => j_34 = s) (.cons (t := 0) rfl (.cons (t := 7) rfl (.cons (t := 8) rfl (.cons (t := 10) rfl (.cons (t := 12) rfl Sub.nil))))) SubB.nil ?_ (fun j_34' hj34 => ?_)
        · skip
          refine .block ?_
          refine .loopL h (fun s35_ => [(14, ⟨True, rep s35_.1⟩)]) (fun s35_ => [(5005, some (CPred.at s5005 (rowD 32 3 mkR subR [] s35_.2)))]) (.cons (t := 14) rfl Sub.nil) (.cons (t := 5005) rfl SubB.nil) (.cons (t := 0) rfl (.cons (t := 7) rfl (.cons (t := 8) rfl (.cons (t := 10) rfl (.cons (t := 12) rfl Sub.nil))))) SubB.nil (fun s35_ o_35 h hD35 => ?_)
          unfold ref_NearOf_L4 at h
          refine .seq ?_
          refine .seq ?_
          refine .region [] mixed (by kernel_rfl) ?_
          refine .cons (.move .none (.s rfl)) rfl ?_
          refine .cons (.ge .none (.s rfl) (.int (by decide))) rfl ?_
          refine .nil ?_
          refine .then ?_
          refine .cond (t := 85) rfl trivial (fun hb36 => ?_) (fun hb36 => ?_)
          · replace h := bif_t h hb36
            refine .skip ?_
            refine .then ?_
            refine .seq ?_
            obtain ⟨j_37, h, hK37⟩ := bind_some h
            refine .thenJ (ι := (List (List Int))) (fun j_37 => []) (fun j_37 => [(5005, some (CPred.at s5005 (rowD 32 3 mkR subR [] j_37)))]) (fun s => j_37 = s) (.cons (t := 0) rfl (.cons (t := 7) rfl (.cons (t := 8) rfl (.cons (t := 10) rfl (.cons (t := 12) rfl (.cons (t := 14) rfl Sub.nil)))))) SubB.nil ?_ (fun j_37' hj37 => ?_)
            · skip
              refine .block ?_
              refine .seq ?_
              obtain ⟨hn38, h⟩ := need_some h
              refine .openD (k := 5005) (g := 5006) (i := s35_.1) rfl rfl hn38 noHole (fun s5006 => ?_)
              refine .region [([], []), ([], []), ([5005], []), ([5005], []), ([], []), ([], []), ([5006], []), ([5006], [5006])] mixed (by kernel_rfl) ?_
              refine .consA (.move .none (.s rfl)) rfl ?_
              refine .consA (.move .none (.s rfl)) rfl ?_
              obtain ⟨hn39, h⟩ := need_some h
              refine .consA (.indexAddrD (k := 5005) sl22 tr32 (.s rfl) rfl (.s rfl) hn39) rfl ?_
              refine .consA (.loadElemD (k := 5005) (proj := fun x => x) (y := (⟨s5006⟩ : Raw)) (z := s5006) tr32 (.s rfl) rfl .id hn39 (by simp) rfl) rfl ?_
              refine .consA (.move .none (.s rfl)) rfl ?_
              refine .consA (.len .none sl32 (.s rfl)) rfl ?_
              obtain ⟨hn40, h⟩ := need_some h
              refine .consA (.indexAddrO (k := 5006) .none sl32 ty3 (.s rfl) rfl (.s rfl) (fun _ => hn40)) rfl ?_
              refine .consN (.storeElem0 (k := 5006) ty3 (.s rfl) rfl (.int (by decide)) hn40) rfl ?_
              refine .nil ?_
              refine .then ?_
              refine .closeD (k := 5005) (g := 5006) ((gx s35_.2 s35_.1).set (values1.length : Int).toNat 1152921504606846976) rfl rfl rfl hn38 noHole (fun _ => rfl) rfl ?_
              obtain ⟨least2, hv41, h⟩ := bnd_some h
              refine .reB (t := 5005) rfl (congrArg (fun y => CPred.at s5005 (rowD 32 3 mkR subR [] y)) hv41) ?_
              refine .seq ?_
              refine .region [] mixed (by kernel_rfl) ?_
              refine .cons (.move .none (.s rfl)) rfl ?_
              refine .cons (.len .none sl32 (.s rfl)) rfl ?_
              refine .cons (.subW .none (.s rfl) (.int (by decide))) rfl ?_
              obtain ⟨k1, hv42, h⟩ := bnd_some h
              refine .cons (.re hv42 (.assign .none (.s rfl))) rfl ?_
              refine .nil ?_
              refine .then ?_
              refine .block ?_
              refine .loopL h (fun s43_ => [(15, ⟨True, rep s43_.1⟩)]) (fun s43_ => [(5005, some (CPred.at s5005 (rowD 32 3 mkR subR [] s43_.2)))]) (.cons (t := 15) rfl Sub.nil) (.cons (t := 5005) rfl SubB.nil) (.cons (t := 0) rfl (.cons (t := 7) rfl (.cons (t := 8) rfl (.cons (t := 10) rfl (.cons (t := 12) rfl (.cons (t := 14) rfl Sub.nil)))))) SubB.nil (fun s43_ o_43 h hD43 => ?_)
              unfold ref_NearOf_L5 at h
              refine .seq ?_
              refine .seq ?_
              refine .region [] mixed (by kernel_rfl) ?_
              refine .cons (.move .none (.s rfl)) rfl ?_
              refine .cons (.ge .none (.s rfl) (.int (by decide))) rfl ?_
              refine .nil ?_
              refine .then ?_
              refine .cond (t := 99) rfl trivial (fun hb44 => ?_) (fun hb44 => ?_)
              · replace h := bif_t h hb44
                refine .skip ?_
                refine .then ?_
                refine .seq ?_
                refine .block ?_
                obtain ⟨hn45, h⟩ := need_some h
                refine .openD (k := 5005) (g := 5007) (i := s35_.1) rfl rfl hn45 noHole (fun s5007 => ?_)
                obtain ⟨hn46, h⟩ := need_some h
                obtain ⟨hn47, h⟩ := need_some h
                refine .openD (k := 5005) (g := 5008) (i := W (s35_.1 + 1)) rfl rfl hn46 (allHoles (nat_ne hn46.1 hn45.1 hn47) noHole) (fun s5008 => ?_)
                refine .region [([], []), ([], []), ([5005], []), ([5005], []), ([], []), ([], []), ([], []), ([5005], []), ([5005], []), ([], []), ([], []), ([5007], []), ([5007], []), ([], []), ([], []), ([], []), ([], []), ([], []), ([], []), ([], []), ([], []), ([], []), ([], []), ([], []), ([], []), ([], []), ([], []), ([], []), ([], []), ([], []), ([], []), ([5005], []), ([5005], []), ([], []), ([5008], []), ([5008], []), ([], []), ([], []), ([5007], []), ([5007], [5007])] mixed (by kernel_rfl) ?_
                refine .consA (.move .none (.s rfl)) rfl ?_
                refine .consA (.move .none (.s rfl)) rfl ?_
                obtain ⟨hn48, h⟩ := need_some h
                refine .consA (.indexAddrD (k := 5005) sl22 tr32 (.s rfl) rfl (.s rfl) hn48) rfl ?_
                refine .consA (.loadElemD (k := 5005) (proj := fun x => x) (y := (⟨s5007⟩ : Raw)) (z := s5007) tr32 (.s rfl) rfl .id hn48 (by simp) rfl) rfl ?_
                refine .consA (.move .none (.s rfl)) rfl ?_
                refine .consA (.move .none (.s rfl)) rfl ?_
                refine .consA (.move .none (.s rfl)) rfl ?_
                obtain ⟨hn49, h⟩ := need_some h
                refine .consA (.indexAddrD (k := 5005) sl22 tr32 (.s rfl) rfl (.s rfl) hn49) rfl ?_
                refine .consA (.loadElemD (k := 5005) (proj := fun x => x) (y := (⟨s5007⟩ : Raw)) (z := s5007) tr32 (.s rfl) rfl .id hn49 (by simp) rfl) rfl ?_
                refine .consA (.move .none (.s rfl)) rfl ?_
                refine .consA (.addW .none (.s rfl) (.int (by decide))) rfl ?_
                obtain ⟨hn50, h⟩ := need_some h
                refine .consA (.indexAddrO (k := 5007) .none sl32 ty3 (.s rfl) rfl (.s rfl) (fun _ => hn50)) rfl ?_
                refine .consA (.loadElem0 (k := 5007) .none ty3 (.s rfl) rfl (fun _ => hn50)) rfl ?_
                refine .consA (.move .none (.s rfl)) rfl ?_
                refine .consA (.move .none (.s rfl)) rfl ?_
                obtain ⟨hn51, h⟩ := need_some h
                refine .consA (.indexAddr .none sl32 ty3 (.s rfl) (.s rfl) (fun _ => hn51)) rfl ?_
                refine .consA (.load .none ty3 (.s rfl)) rfl ?_
                refine .consA (.move .none (.s rfl)) rfl ?_
                refine .consA (.move .none (.s rfl)) rfl ?_
                obtain ⟨hn52, h⟩ := need_some h
                refine .consA (.indexAddr .none sl32 ty3 (.s rfl) (.s rfl) (fun _ => hn52)) rfl ?_
                refine .consA (.load .none ty3 (.s rfl)) rfl ?_
                refine .consA (.addW .none (.s rfl) (.s rfl)) rfl ?_
                refine .consA (.move .none (.s rfl)) rfl ?_
                refine .consA (.move .none (.s rfl)) rfl ?_
                obtain ⟨hn53, h⟩ := need_some h
                refine .consA (.indexAddr .none sl32 ty3 (.s rfl) (.s rfl) (fun _ => hn53)) rfl ?_
                refine .consA (.load .none ty3 (.s rfl)) rfl ?_
                refine .consA (.subW .none (.s rfl) (.s rfl)) rfl ?_
                obtain ⟨r3, hv54, h⟩ := bind_some h
                refine .consA (.call .none (ref_Abs_ok hv54) (.cons (.s rfl) .nil)) rfl ?_
                refine .consA (.move .none (.s rfl)) rfl ?_
                refine .consA (.move .none (.s rfl)) rfl ?_
                refine .consA (.addW .none (.s rfl) (.int (by decide))) rfl ?_
                obtain ⟨hn55, h⟩ := need_some h
                refine .consA (.indexAddrD (k := 5005) sl22 tr32 (.s rfl) rfl (.s rfl) hn55) rfl ?_
                refine .consA (.loadElemD (k := 5005) (proj := fun x => x) (y := (⟨s5008⟩ : Raw)) (z := s5008) tr32 (.s rfl) rfl .id hn55 (by simp) rfl) rfl ?_
                refine .consA (.move .none (.s rfl)) rfl ?_
                obtain ⟨hn56, h⟩ := need_some h
                refine .consA (.indexAddrO (k := 5008) .none sl32 ty3 (.s rfl) rfl (.s rfl) (fun _ => hn56)) rfl ?_
                refine .consA (.loadElem0 (k := 5008) .none ty3 (.s rfl) rfl (fun _ => hn56)) rfl ?_
                refine .consA (.addW .none (.s rfl) (.s rfl)) rfl ?_
                obtain ⟨v4, hv57, h⟩ := bnd_some h
                refine .consA (.re hv57 (.min2 .none (.s rfl) (.s rfl))) rfl ?_
                obtain ⟨hn58, h⟩ := need_some h
                refine .consA (.indexAddrO (k := 5007) .none sl32 ty3 (.s rfl) rfl (.s rfl) (fun _ => hn58)) rfl ?_
                refine .consN (.storeElem0 (k := 5007) ty3 (.s rfl) rfl (.s rfl) hn58) rfl ?_
                refine .nil ?_
                refine .blkNormal ?_
                refine .then ?_
                refine .closeD0 (k := 5005) (g := 5008) rfl rfl rfl hn46 (allHoles (nat_ne hn46.1 hn45.1 hn47) noHole) ?_
                refine .closeD (k := 5005) (g := 5007) ((gx s43_.2 s35_.1).set s43_.1.toNat v4) rfl rfl rfl hn45 noHole (fun _ => rfl) rfl ?_
                obtain ⟨least3, hv59, h⟩ := bnd_some h
                refine .reB (t := 5005) rfl (congrArg (fun y => CPred.at s5005 (rowD 32 3 mkR subR [] y)) hv59) ?_
                refine .region [] mixed (by kernel_rfl) ?_
                refine .cons (.move .none (.s rfl)) rfl ?_
                refine .cons (.subW .none (.s rfl) (.int (by decide))) rfl ?_
                obtain ⟨k2, hv60, h⟩ := bnd_some h
                refine .cons (.re hv60 (.assign .none (.s rfl))) rfl ?_
                refine .nil ?_
                exact Ends.againL (some_eq h) (.cons (t := 15) rfl (.cons (t := 0) rfl (.cons (t := 7) rfl (.cons (t := 8) rfl (.cons (t := 10) rfl (.cons (t := 12) rfl (.cons (t := 14) rfl Sub.nil))))))) (.cons (t := 5005) rfl SubB.nil)
              · replace h := bif_f h hb44
                refine .exit ?_
                refine .thenExit ?_
                refine .thenExit ?_
                refine .blkExit ?_
                refine .blkNormal ?_
                replace h := hD43 _ (some_eq h)
                exact Ends.join _ (some_eq h) (.cons (t := 0) rfl (.cons (t := 7) rfl (.cons (t := 8) rfl (.cons (t := 10) rfl (.cons (t := 12) rfl (.cons (t := 14) rfl Sub.nil)))))) (.cons (t := 5005) rfl SubB.nil)
            · subst hj37; have h := hK37; clear hK37
              refine .region [] mixed (by kernel_rfl) ?_
              refine .cons (.move .none (.s rfl)) rfl ?_
              refine .cons (.subW .none (.s rfl) (.int (by decide))) rfl ?_
              obtain ⟨i3, hv61, h⟩ := bnd_some h
              refine .cons (.re hv61 (.assign .none (.s rfl))) rfl ?_
              refine .nil ?_
              exact Ends.againL (some_eq h) (.cons (t := 14) rfl (.cons (t := 0) rfl (.cons (t := 7) rfl (.cons (t := 8) rfl (.cons (t := 10) rfl (.cons (t := 12) rfl Sub.nil)))))) (.cons (t := 5005) rfl SubB.nil)
          · replace h := bif_f h hb36
            refine .exit ?_
            refine .thenExit ?_
            refine .thenExit ?_
            refine .blkExit ?_
            replace h := hD35 _ (some_eq h)
            exact Ends.join _ (some_eq h) (.cons (t := 0) rfl (.cons (t := 7) rfl (.cons (t := 8) rfl (.cons (t := 10) rfl (.cons (t := 12) rfl Sub.nil))))) (.cons (t := 5005) rfl SubB.nil)
        · subst hj34; have h := hK34; clear hK34
          refine .freezeAt (g := 5005) (S := rep j_34) (ts := [12]) rfl (.cons (t := 12) rfl trivial .nil) SubB.nil rfl (fun M D w h hms => rowR_rep h hms) ?_
          refine .seq ?_
          refine .region [([], [16])] mixed (by kernel_rfl) ?_
          refine .consW (.nilRow (T := 3) (α := Int) rfl) rfl rfl ?_
          refine .nil ?_
          refine .then ?_
          refine .nameRow (t := 16) (g := 5009) rfl rfl rfl (fun s5009 => ?_)
          refine .seq ?_
          refine .region [] mixed (by kernel_rfl) ?_
          refine .cons (.assign .none (.int (by decide))) rfl ?_
          refine .nil ?_
          refine .then ?_
          refine .seq ?_
          refine .seq ?_
          refine .region [] mixed (by kernel_rfl) ?_
          refine .cons (.move .none (.s rfl)) rfl ?_
          refine .cons (.move .none (.int (by decide))) rfl ?_
          refine .nil ?_
          refine .then ?_
          obtain ⟨j_62, h, hK62⟩ := bind_some h
          refine .thenJ (ι := ((List Int) × Int)) (fun j_62 => [(17, ⟨True, rep j_62.2⟩)]) (fun j_62 => [(16, some (rowV 3 j_62.1))]) (fun s => j_62 = s) Sub.nil SubB.nil ?_ (fun j_62' hj62 => ?_)
          · skip
            refine .block ?_
            refine .anon (t := 16) (g := 5009) rfl rfl trivial rfl ?_
            refine .rforL h (fun p63_ => [(142, ⟨True, rep p63_.1⟩), (17, ⟨True, rep p63_.2.2⟩)]) (fun p63_ => [(16, some (rowV 3 p63_.2.1))]) (.cons (t := 142) rfl (.cons (t := 17) rfl Sub.nil)) (.cons (t := 16) rfl SubB.nil) (.cons (t := 0) rfl (.cons (t := 8) rfl (.cons (t := 10) rfl (.cons (t := 12) rfl (.cons (t := 141) rfl Sub.nil))))) SubB.nil (fun p63_ o_63 h hD63 => ?_)
            refine .nameRow (t := 16) (g := 5010) rfl rfl rfl (fun s5010 => ?_)
            refine .seq ?_
            refine .region [] mixed (by kernel_rfl) ?_
            refine .cons (.lt .none (.s rfl) (.s rfl)) rfl ?_
            refine .nil ?_
            refine .then ?_
            refine .seq ?_
            refine .cond (t := 143) rfl trivial (fun hb64 => ?_) (fun hb64 => ?_)
            · replace h := bif_t h hb64
              refine .skip ?_
              refine .then ?_
              refine .seq ?_
              obtain ⟨j_65, h, hK65⟩ := bind_some h
              unfold ref_NearOf_L6 at h
              refine .thenJ (ι := ((List Int) × Int)) (fun j_65 => [(17, ⟨True, rep j_65.2⟩)]) (fun j_65 => [(16, some (rowV 3 j_65.1))]) (fun s => j_65 = s) (.cons (t := 0) rfl (.cons (t := 8) rfl (.cons (t := 10) rfl (.cons (t := 12) rfl (.cons (t := 141) rfl (.cons (t := 142) rfl Sub.nil)))))) SubB.nil ?_ (fun j_65' hj65 => ?_)
              · skip
                refine .block ?_
                refine .seq ?_
                refine .region [] mixed (by kernel_rfl) ?_
                refine .cons (.move .none (.s rfl)) rfl ?_
                refine .cons (.assign .none (.s rfl)) rfl ?_
                refine .nil ?_
                refine .then ?_
                refine .seq ?_
                refine .seq ?_
                refine .region [] mixed (by kernel_rfl) ?_
                refine .cons (.move .none (.s rfl)) rfl ?_
                refine .cons (.move .none (.s rfl)) rfl ?_
                obtain ⟨hn66, h⟩ := need_some h
                refine .cons (.indexAddr .none sl22 ty32 (.s rfl) (.s rfl) (fun _ => hn66)) rfl ?_
                refine .cons (.load .none ty32 (.s rfl)) rfl ?_
                refine .cons (.move .none (.s rfl)) rfl ?_
                obtain ⟨hn67, h⟩ := need_some h
                refine .cons (.indexAddr .none sl32 ty3 (.s rfl) (.s rfl) (fun _ => hn67)) rfl ?_
                refine .cons (.load .none ty3 (.s rfl)) rfl ?_
                refine .cons (.assign .none (.s rfl)) rfl ?_
                refine .nil ?_
                refine .then ?_
                obtain ⟨j_68, h, hK68⟩ := bind_some h
                refine .thenJ (ι := Int) (fun j_68 => [(17, ⟨True, rep j_68⟩)]) (fun j_68 => []) (fun s => j_68 = s) (.cons (t := 0) rfl (.cons (t := 8) rfl (.cons (t := 10) rfl (.cons (t := 12) rfl (.cons (t := 16) rfl (.cons (t := 18) rfl (.cons (t := 141) rfl (.cons (t := 142) rfl Sub.nil)))))))) (.cons (t := 5010) rfl SubB.nil) ?_ (fun j_68' hj68 => ?_)
                · skip
                  refine .block ?_
                  refine .loopL h (fun s69_ => [(17, ⟨True, rep s69_⟩)]) (fun s69_ => []) (.cons (t := 17) rfl Sub.nil) SubB.nil (.cons (t := 0) rfl (.cons (t := 8) rfl (.cons (t := 10) rfl (.cons (t := 12) rfl (.cons (t := 16) rfl (.cons (t := 18) rfl (.cons (t := 19) rfl (.cons (t := 141) rfl (.cons (t := 142) rfl Sub.nil))))))))) (.cons (t := 5010) rfl SubB.nil) (fun s69_ o_69 h hD69 => ?_)
                  unfold ref_NearOf_L7 at h
                  refine .seq ?_
                  refine .seq ?_
                  refine .region [] mixed (by kernel_rfl) ?_
                  refine .cons (.move .none (.s rfl)) rfl ?_
                  refine .cons (.move .none (.s rfl)) rfl ?_
                  obtain ⟨hn70, h⟩ := need_some h
                  refine .cons (.indexAddr .none sl32 ty3 (.s rfl) (.s rfl) (fun _ => hn70)) rfl ?_
                  refine .cons (.load .none ty3 (.s rfl)) rfl ?_
                  refine .cons (.move .none (.s rfl)) rfl ?_
                  refine .cons (.move .none (.s rfl)) rfl ?_
                  obtain ⟨hn71, h⟩ := need_some h
                  refine .cons (.indexAddr .none sl32 ty3 (.s rfl) (.s rfl) (fun _ => hn71)) rfl ?_
                  refine .cons (.load .none ty3 (.s rfl)) rfl ?_
                  refine .cons (.addW .none (.s rfl) (.s rfl)) rfl ?_
                  refine .cons (.move .none (.s rfl)) rfl ?_
                  refine .cons (.move .none (.s rfl)) rfl ?_
                  obtain ⟨hn72, h⟩ := need_some h
                  refine .cons (.indexAddr .none sl32 ty3 (.s rfl) (.s rfl) (fun _ => hn72)) rfl ?_
                  refine .cons (.load .none ty3 (.s rfl)) rfl ?_
                  refine .cons (.subW .none (.s rfl) (.s rfl)) rfl ?_
                  obtain ⟨r4, hv73, h⟩ := bind_some h
                  refine .cons (.call .none (ref_Abs_ok hv73) (.cons (.s rfl) .nil)) rfl ?_
                  refine .cons (.move .none (.s rfl)) rfl ?_
                  refine .cons (.move .none (.s rfl)) rfl ?_
                  refine .cons (.addW .none (.s rfl) (.int (by decide))) rfl ?_
                  obtain ⟨hn74, h⟩ := need_some h
                  refine .cons (.indexAddr .none sl22 ty32 (.s rfl) (.s rfl) (fun _ => hn74)) rfl ?_
                  refine .cons (.load .none ty32 (.s rfl)) rfl ?_
                  refine .cons (.move .none (.s rfl)) rfl ?_
                  obtain ⟨hn75, h⟩ := need_some h
                  refine .cons (.indexAddr .none sl32 ty3 (.s rfl) (.s rfl) (fun _ => hn75)) rfl ?_
                  refine .cons (.load .none ty3 (.s rfl)) rfl ?_
                  refine .cons (.addW .none (.s rfl) (.s rfl)) rfl ?_
                  refine .cons (.move .none (.s rfl)) rfl ?_
                  refine .cons (.neI .none (.s rfl) (.s rfl)) rfl ?_
                  refine .nil ?_
                  refine .then ?_
                  refine .cond (t := 177) rfl trivial (fun hb76 => ?_) (fun hb76 => ?_)
                  · replace h := bif_t h hb76
                    refine .skip ?_
                    refine .then ?_
                    refine .block ?_
                    refine .region [] mixed (by kernel_rfl) ?_
                    refine .cons (.move .none (.s rfl)) rfl ?_
                    refine .cons (.addW .none (.s rfl) (.int (by decide))) rfl ?_
                    obtain ⟨k3, hv77, h⟩ := bnd_some h
                    refine .cons (.re hv77 (.assign .none (.s rfl))) rfl ?_
                    refine .nil ?_
                    refine .blkNormal ?_
                    exact Ends.againL (some_eq h) (.cons (t := 17) rfl (.cons (t := 0) rfl (.cons (t := 8) rfl (.cons (t := 10) rfl (.cons (t := 12) rfl (.cons (t := 16) rfl (.cons (t := 18) rfl (.cons (t := 19) rfl (.cons (t := 141) rfl (.cons (t := 142) rfl Sub.nil)))))))))) (.cons (t := 5010) rfl SubB.nil)
                  · replace h := bif_f h hb76
                    refine .exit ?_
                    refine .thenExit ?_
                    refine .thenExit ?_
                    refine .blkExit ?_
                    replace h := hD69 _ (some_eq h)
                    exact Ends.join _ (some_eq h) (.cons (t := 17) rfl (.cons (t := 0) rfl (.cons (t := 8) rfl (.cons (t := 10) rfl (.cons (t := 12) rfl (.cons (t := 16) rfl (.cons (t := 18) rfl (.cons (t := 141) rfl (.cons (t := 142) rfl Sub.nil))))))))) (.cons (t := 5010) rfl SubB.nil)
                · subst hj68; have h := hK68; clear hK68
                  refine .region [([], []), ([], []), ([], []), ([], []), ([], []), ([], []), ([], []), ([], []), ([], []), ([], []), ([], []), ([5010], [191, 5010]), ([191], [16, 191])] mixed (by kernel_rfl) ?_
                  refine .consA (.move .none (.s rfl)) rfl ?_
                  refine .consA (.move .none (.s rfl)) rfl ?_
                  refine .consA (.move .none (.s rfl)) rfl ?_
                  obtain ⟨hn78, h⟩ := need_some h
                  refine .consA (.indexAddr .none sl32 ty3 (.s rfl) (.s rfl) (fun _ => hn78)) rfl ?_
                  refine .consA (.load .none ty3 (.s rfl)) rfl ?_
                  refine .consA (.move .none (.s rfl)) rfl ?_
                  refine .consA (.move .none (.s rfl)) rfl ?_
                  obtain ⟨hn79, h⟩ := need_some h
                  refine .consA (.indexAddr .none sl32 ty3 (.s rfl) (.s rfl) (fun _ => hn79)) rfl ?_
                  refine .consA (.load .none ty3 (.s rfl)) rfl ?_
                  refine .consA (.addW .none (.s rfl) (.s rfl)) rfl ?_
                  refine .consA (.buildSlice (xs := [_]) .none sl32 ty3 hz3 (.cons (.s rfl) .nil) rfl (by decide)) rfl ?_
                  obtain ⟨hn80, h⟩ := need_some h
                  refine .consW (.append (k := 5010) rk32 rfl (.told (.s rfl) rfl) (.s rfl) hn80) rfl rfl ?_
                  refine .consW (.passRow rfl (.tmp rfl)) rfl rfl ?_
                  refine .nil ?_
                  refine .blkNormal ?_
                  exact Ends.join _ (some_eq h) (.cons (t := 17) rfl (.cons (t := 0) rfl (.cons (t := 8) rfl (.cons (t := 10) rfl (.cons (t := 12) rfl (.cons (t := 141) rfl (.cons (t := 142) rfl Sub.nil))))))) (.cons (t := 16) rfl SubB.nil)
              · subst hj65; have h := hK65; clear hK65
                refine .nameRow (t := 16) (g := 5011) rfl rfl rfl (fun s5011 => ?_)
                refine .region [] mixed (by kernel_rfl) ?_
                refine .cons (.addW .none (.s rfl) (.int (by decide))) rfl ?_
                refine .cons (.move .none (.s rfl)) rfl ?_
                refine .nil ?_
                refine .anon (t := 16) (g := 5011) rfl rfl trivial rfl ?_
                exact Ends.againL (some_eq h) (.cons (t := 142) rfl (.cons (t := 17) rfl (.cons (t := 0) rfl (.cons (t := 8) rfl (.cons (t := 10) rfl (.cons (t := 12) rfl (.cons (t := 141) rfl Sub.nil))))))) (.cons (t := 16) rfl SubB.nil)
            · replace h := bif_f h hb64
              refine .exit ?_
              refine .thenExit ?_
              refine .thenExit ?_
              refine .blkExit ?_
              refine .anon (t := 16) (g := 5010) rfl rfl trivial rfl ?_
              replace h := hD63 _ (some_eq h)
              exact Ends.join _ (some_eq h) (.cons (t := 17) rfl Sub.nil) (.cons (t := 16) rfl SubB.nil)
          · subst hj62; have h := hK62; clear hK62
            refine .freezeRowA (t := 16) rfl rfl SubB.nil rfl ?_
            refine .seq ?_
            refine .region [] mixed (by kernel_rfl) ?_
            refine .cons (.move .none (.s rfl)) rfl ?_
            refine .cons (.assign .none (.s rfl)) rfl ?_
            refine .nil ?_
            refine .then ?_
            refine .ret ?_
            obtain rfl := some_eq h
            exact Ends.ret1 (.inl rfl) Try.results26 (ResOK.tmp rfl trivial Imp.refl)

theorem slices_Equal_int_ok {s1_1 : (List Int)} {s2_1 : (List Int)} {r : Bool}  (h : slices_Equal_int s1_1 s2_1 = some r) : FSpec Try.prog 16 [rep s1_1, rep s2_1] (rep r) := by
  unfold slices_Equal_int at h
  refine FSpec.intro (n := 26) fnok16 Try.func16 rfl Try.ntmps16 rfl (fun F => ?_)
  refine .seq ?_
  refine .region [] mixed (by kernel_rfl) ?_
  refine .cons (.assign .none .bool) rfl ?_
  refine .nil ?_
  refine .then ?_
  refine .seq ?_
  refine .seq ?_
  refine .region [] mixed (by kernel_rfl) ?_
  refine .cons (.move .none (.s rfl)) rfl ?_
  refine .cons (.len .none sl32 (.s rfl)) rfl ?_
  refine .cons (.move .none (.s rfl)) rfl ?_
  refine .cons (.len .none sl32 (.s rfl)) rfl ?_
  refine .cons (.neI .none (.s rfl) (.s rfl)) rfl ?_
  refine .nil ?_
  refine .then ?_
  refine .cond (t := 10) rfl trivial (fun hb1 => ?_) (fun hb1 => ?_)
  · replace h := bif_t h hb1
    refine .seq ?_
    refine .region [] mixed (by kernel_rfl) ?_
    refine .cons (.assign .none .bool) rfl ?_
    refine .nil ?_
    refine .then ?_
    refine .ret ?_
    refine .thenRet ?_
    obtain rfl := some_eq h
    exact Ends.ret1 (.inl rfl) Try.results16 (ResOK.tmp rfl trivial Imp.refl)
  · replace h := bif_f h hb1
    refine .skip ?_
    refine .then ?_
    refine .seq ?_
    refine .seq ?_
    refine .region [] mixed (by kernel_rfl) ?_
    refine .cons (.move .none (.s rfl)) rfl ?_
    refine .cons (.len .none sl32 (.s rfl)) rfl ?_
    refine .cons (.move .none (.int (by decide))) rfl ?_
    refine .nil ?_
    refine .then ?_
    obtain ⟨o_2, h, hK2⟩ := bindR_some h
    refine .thenJ (ι := Unit) (fun j_2 => []) (fun j_2 => []) (fun s => o_2 = Res.nx s) Sub.nil SubB.nil ?_ (fun j_2 hj2 => ?_)
    · skip
      refine .block ?_
      refine .rforEL h (fun p3_ => [(13, ⟨True, rep p3_.1⟩)]) (fun p3_ => []) (.cons (t := 13) rfl Sub.nil) SubB.nil (.cons (t := 0) rfl (.cons (t := 1) rfl (.cons (t := 12) rfl Sub.nil))) SubB.nil (fun p3_ o_3 h hD3 => ?_)
      refine .seq ?_
      refine .region [] mixed (by kernel_rfl) ?_
      refine .cons (.lt .none (.s rfl) (.s rfl)) rfl ?_
      refine .nil ?_
      refine .then ?_
      refine .seq ?_
      refine .cond (t := 14) rfl trivial (fun hb4 => ?_) (fun hb4 => ?_)
      · replace h := bif_t h hb4
        refine .skip ?_
        refine .then ?_
        refine .seq ?_
        obtain ⟨o_5, h, hK5⟩ := bindD_some h
        unfold slices_Equal_int_L1 at h
        refine .thenJ (ι := Unit) (fun j_5 => []) (fun j_5 => []) (fun s => o_5 = Res.nx s) (.cons (t := 0) rfl (.cons (t := 1) rfl (.cons (t := 12) rfl (.cons (t := 13) rfl Sub.nil)))) SubB.nil ?_ (fun j_5 hj5 => ?_)
        · skip
          refine .block ?_
          refine .seq ?_
          refine .region [] mixed (by kernel_rfl) ?_
          refine .cons (.move .none (.s rfl)) rfl ?_
          refine .cons (.assign .none (.s rfl)) rfl ?_
          refine .nil ?_
          refine .then ?_
          refine .seq ?_
          refine .region [] mixed (by kernel_rfl) ?_
          refine .cons (.move .none (.s rfl)) rfl ?_
          refine .cons (.move .none (.s rfl)) rfl ?_
          obtain ⟨hn6, h⟩ := need_some h
          refine .cons (.indexAddr .none sl32 ty3 (.s rfl) (.s rfl) (fun _ => hn6)) rfl ?_
          refine .cons (.load .none ty3 (.s rfl)) rfl ?_
          refine .cons (.move .none (.s rfl)) rfl ?_
          refine .cons (.move .none (.s rfl)) rfl ?_
          obtain ⟨hn7, h⟩ := need_some h
          refine .cons (.indexAddr .none sl32 ty3 (.s rfl) (.s rfl) (fun _ => hn7)) rfl ?_
          refine .cons (.load .none ty3 (.s rfl)) rfl ?_
          refine .cons (.neI .none (.s rfl) (.s rfl)) rfl ?_
          refine .nil ?_
          refine .then ?_
          refine .cond (t := 24) rfl trivial (fun hb8 => ?_) (fun hb8 => ?_)
          · replace h := bif_t h hb8
            refine .seq ?_
            refine .region [] mixed (by kernel_rfl) ?_
            refine .cons (.assign .none .bool) rfl ?_
            refine .nil ?_
            refine .then ?_
            refine .ret ?_
            refine .blkRet ?_
            refine .thenRet ?_
            refine .thenRet ?_
            refine .blkRet ?_
            refine .thenRet ?_
            replace h := resd_ab hK5 (some_eq h)
            replace h := hD3 _ (some_eq h)
            replace h := resb_ab hK2 (some_eq h)
            obtain rfl := some_eq h
            exact Ends.ret1 (.inl rfl) Try.results16 (ResOK.tmp rfl trivial Imp.refl)
          · replace h := bif_f h hb8
            refine .skip ?_
            refine .blkNormal ?_
            exact Ends.join _ (some_eq h) (.cons (t := 0) rfl (.cons (t := 1) rfl (.cons (t := 12) rfl (.cons (t := 13) rfl Sub.nil)))) SubB.nil
        · have h := resd_nx hK5 hj5
          refine .region [] mixed (by kernel_rfl) ?_
          refine .cons (.addW .none (.s rfl) (.int (by decide))) rfl ?_
          refine .cons (.move .none (.s rfl)) rfl ?_
          refine .nil ?_
          exact Ends.againL (some_eq h) (.cons (t := 13) rfl (.cons (t := 0) rfl (.cons (t := 1) rfl (.cons (t := 12) rfl Sub.nil)))) SubB.nil
      · replace h := bif_f h hb4
        refine .exit ?_
        refine .thenExit ?_
        refine .thenExit ?_
        refine .blkExit ?_
        replace h := hD3 _ (some_eq h)
        exact Ends.join _ (some_eq h) Sub.nil SubB.nil
    · have h := resb_nx hK2 hj2
      refine .seq ?_
      refine .region [] mixed (by kernel_rfl) ?_
      refine .cons (.assign .none .bool) rfl ?_
      refine .nil ?_
      refine .then ?_
      refine .ret ?_
      obtain rfl := some_eq h
      exact Ends.ret1 (.inl rfl) Try.results16 (ResOK.tmp rfl trivial Imp.refl)

theorem slices_Clone_int_ok {s1 : (List Int)} {r : (List Int)}  (h : slices_Clone_int s1 = some r) : FSpecO Try.prog 27 [rep s1] [] (anyV) [some (rowV 3 r)] := by
  unfold slices_Clone_int at h
  refine FSpecO.intro (n := 8) fnok27 Try.func27 rfl Try.ntmps27 rfl (fun F => ?_)
  refine .seq ?_
  refine .region [] mixed (by kernel_rfl) ?_
  refine .cons (.assign .none (.const (x := ([] : (List Int))) (fun M w => ⟨_, ⟨none, 0, rfl, Nat.le_refl _, by decide, rfl⟩, rfl⟩))) rfl ?_
  refine .nil ?_
  refine .then ?_
  refine .seq ?_
  refine .seq ?_
  refine .region [] mixed (by kernel_rfl) ?_
  refine .cons (.move .none (.s rfl)) rfl ?_
  refine .cons (.eqNil .none sl32 (.s rfl)) rfl ?_
  refine .nil ?_
  refine .then ?_
  refine .condNil (t := 4) rfl trivial (fun hb1 => ?_) ?_
  · replace h := nilc_t h hb1
    refine .seq ?_
    refine .region [([], [2])] mixed (by kernel_rfl) ?_
    refine .consW (.nilRow (T := 3) (α := Int) rfl) rfl rfl ?_
    refine .nil ?_
    refine .then ?_
    refine .nameRow (t := 2) (g := 5001) rfl rfl rfl (fun s5001 => ?_)
    refine .ret ?_
    refine .thenRet ?_
    refine .anon (t := 2) (g := 5001) rfl rfl trivial rfl ?_
    obtain rfl := some_eq h
    exact Ends.ret1O (.inl rfl) [2] Try.results27 (by decide) (.res rfl rfl) (ResOK.tmp rfl trivial (fun _ _ _ _ => trivial))
  · replace h := nilc_f h
    refine .skip ?_
    refine .then ?_
    refine .seq ?_
    refine .region [([], [5]), ([], []), ([5], [7, 5]), ([7], [2, 7])] mixed (by kernel_rfl) ?_
    refine .consW (.buildSliceO (xs := []) rfl sl32 ty3 hz3 .nil rfl (by decide)) rfl rfl ?_
    refine .consA (.move .none (.s rfl)) rfl ?_
    obtain ⟨hn2, h⟩ := need_some h
    refine .consW (.append (k := 5) rk32 rfl (.tmp rfl) (.s rfl) hn2) rfl rfl ?_
    refine .consW (.passRow rfl (.tmp rfl)) rfl rfl ?_
    refine .nil ?_
    refine .then ?_
    obtain ⟨v1, hv3, h⟩ := bnd_some h
    refine .reB (t := 2) rfl (congrArg (rowV 3) hv3) ?_
    refine .nameRow (t := 2) (g := 5002) rfl rfl rfl (fun s5002 => ?_)
    refine .ret ?_
    refine .anon (t := 2) (g := 5002) rfl rfl trivial rfl ?_
    obtain rfl := some_eq h
    exact Ends.ret1O (.inl rfl) [2] Try.results27 (by decide) (.res rfl rfl) (ResOK.tmp rfl trivial (fun _ _ _ _ => trivial))

theorem slices_Index_int_ok {s1 : (List Int)} {v1 : Int} {r : Int}  (h : slices_Index_int s1 v1 = some r) : FSpec Try.prog 31 [rep s1, rep v1] (rep r) := by
  unfold slices_Index_int at h
  refine FSpec.intro (n := 19) fnok31 Try.func31 rfl Try.ntmps31 rfl (fun F => ?_)
  refine .seq ?_
  refine .region [] mixed (by kernel_rfl) ?_
  refine .cons (.assign .none (.int (by decide))) rfl ?_
  refine .nil ?_
  refine .then ?_
  refine .seq ?_
  refine .seq ?_
  refine .region [] mixed (by kernel_rfl) ?_
  refine .cons (.move .none (.s rfl)) rfl ?_
  refine .cons (.len .none sl32 (.s rfl)) rfl ?_
  refine .cons (.move .none (.int (by decide))) rfl ?_
  refine .nil ?_
  refine .then ?_
  obtain ⟨o_1, h, hK1⟩ := bindR_some h
  refine .thenJ (ι := Unit) (fun j_1 => []) (fun j_1 => []) (fun s => o_1 = Res.nx s) Sub.nil SubB.nil ?_ (fun j_1 hj1 => ?_)
  · skip
    refine .block ?_
    refine .rforEL h (fun p2_ => [(8, ⟨True, rep p2_.1⟩)]) (fun p2_ => []) (.cons (t := 8) rfl Sub.nil) SubB.nil (.cons (t := 0) rfl (.cons (t := 1) rfl (.cons (t := 7) rfl Sub.nil))) SubB.nil (fun p2_ o_2 h hD2 => ?_)
    refine .seq ?_
    refine .region [] mixed (by kernel_rfl) ?_
    refine .cons (.lt .none (.s rfl) (.s rfl)) rfl ?_
    refine .nil ?_
    refine .then ?_
    refine .seq ?_
    refine .cond (t := 9) rfl trivial (fun hb3 => ?_) (fun hb3 => ?_)
    · replace h := bif_t h hb3
      refine .skip ?_
      refine .then ?_
      refine .seq ?_
      obtain ⟨o_4, h, hK4⟩ := bindD_some h
      unfold slices_Index_int_L1 at h
      refine .thenJ (ι := Unit) (fun j_4 => []) (fun j_4 => []) (fun s => o_4 = Res.nx s) (.cons (t := 0) rfl (.cons (t := 1) rfl (.cons (t := 7) rfl (.cons (t := 8) rfl Sub.nil)))) SubB.nil ?_ (fun j_4 hj4 => ?_)
      · skip
        refine .block ?_
        refine .seq ?_
        refine .region [] mixed (by kernel_rfl) ?_
        refine .cons (.move .none (.s rfl)) rfl ?_
        refine .cons (.assign .none (.s rfl)) rfl ?_
        refine .nil ?_
        refine .then ?_
        refine .seq ?_
        refine .region [] mixed (by kernel_rfl) ?_
        refine .cons (.move .none (.s rfl)) rfl ?_
        refine .cons (.move .none (.s rfl)) rfl ?_
        refine .cons (.move .none (.s rfl)) rfl ?_
        obtain ⟨hn5, h⟩ := need_some h
        refine .cons (.indexAddr .none sl32 ty3 (.s rfl) (.s rfl) (fun _ => hn5)) rfl ?_
        refine .cons (.load .none ty3 (.s rfl)) rfl ?_
        refine .cons (.eqI .none (.s rfl) (.s rfl)) rfl ?_
        refine .nil ?_
        refine .then ?_
        refine .cond (t := 16) rfl trivial (fun hb6 => ?_) (fun hb6 => ?_)
        · replace h := bif_t h hb6
          refine .seq ?_
          refine .region [] mixed (by kernel_rfl) ?_
          refine .cons (.move .none (.s rfl)) rfl ?_
          refine .cons (.assign .none (.s rfl)) rfl ?_
          refine .nil ?_
          refine .then ?_
          refine .ret ?_
          refine .blkRet ?_
          refine .thenRet ?_
          refine .thenRet ?_
          refine .blkRet ?_
          refine .thenRet ?_
          replace h := resd_ab hK4 (some_eq h)
          replace h := hD2 _ (some_eq h)
          replace h := resb_ab hK1 (some_eq h)
          obtain rfl := some_eq h
          exact Ends.ret1 (.inl rfl) Try.results31 (ResOK.tmp rfl trivial Imp.refl)
        · replace h := bif_f h hb6
          refine .skip ?_
          refine .blkNormal ?_
          exact Ends.join _ (some_eq h) (.cons (t := 0) rfl (.cons (t := 1) rfl (.cons (t := 7) rfl (.cons (t := 8) rfl Sub.nil)))) SubB.nil
      · have h := resd_nx hK4 hj4
        refine .region [] mixed (by kernel_rfl) ?_
        refine .cons (.addW .none (.s rfl) (.int (by decide))) rfl ?_
        refine .cons (.move .none (.s rfl)) rfl ?_
        refine .nil ?_
        exact Ends.againL (some_eq h) (.cons (t := 8) rfl (.cons (t := 0) rfl (.cons (t := 1) rfl (.cons (t := 7) rfl Sub.nil)))) SubB.nil
    · replace h := bif_f h hb3
      refine .exit ?_
      refine .thenExit ?_
      refine .thenExit ?_
      refine .blkExit ?_
      replace h := hD2 _ (some_eq h)
      exact Ends.join _ (some_eq h) Sub.nil SubB.nil
  · have h := resb_nx hK1 hj1
    refine .seq ?_
    refine .region [] mixed (by kernel_rfl) ?_
    refine .cons (.assign .none (.int (by decide))) rfl ?_
    refine .nil ?_
    refine .then ?_
    refine .ret ?_
    obtain rfl := some_eq h
    exact Ends.ret1 (.inl rfl) Try.results31 (ResOK.tmp rfl trivial Imp.refl)

theorem law_NearsMatch_1_ok {n1 : Int} {c0_1 : (List Int)} {c1_1 : (List Int)} {c2_1 : Int} {r : Bool}  (h : law_NearsMatch_1 n1 c0_1 c1_1 c2_1 = some r) : FSpec Try.prog 30 [rep n1, ref c0_1, ref c1_1, ref c2_1] (rep r) := by
  unfold law_NearsMatch_1 at h
  refine FSpec.intro (n := 18) fnok30 Try.func30 rfl Try.ntmps30 rfl (fun F => ?_)
  refine .seq ?_
  refine .region [] mixed (by kernel_rfl) ?_
  refine .cons (.assign .none .bool) rfl ?_
  refine .nil ?_
  refine .then ?_
  refine .seq ?_
  refine .region [] mixed (by kernel_rfl) ?_
  refine .cons (.load .none ty32 (.s rfl)) rfl ?_
  refine .cons (.move .none (.s rfl)) rfl ?_
  obtain ⟨k1, hv1, h⟩ := bind_some h
  refine .cons (.call .none (slices_Index_int_ok hv1) (.cons (.s rfl) (.cons (.s rfl) .nil))) rfl ?_
  refine .cons (.assign .none (.s rfl)) rfl ?_
  refine .nil ?_
  refine .then ?_
  refine .seq ?_
  refine .region [] mixed (by kernel_rfl) ?_
  refine .cons (.load .none ty32 (.s rfl)) rfl ?_
  refine .cons (.move .none (.s rfl)) rfl ?_
  obtain ⟨hn2, h⟩ := need_some h
  refine .cons (.indexAddr .none sl32 ty3 (.s rfl) (.s rfl) (fun _ => hn2)) rfl ?_
  refine .cons (.load .none ty3 (.s rfl)) rfl ?_
  refine .cons (.move .none (.s rfl)) rfl ?_
  refine .cons (.load .none ty3 (.s rfl)) rfl ?_
  refine .cons (.addW .none (.s rfl) (.s rfl)) rfl ?_
  refine .cons (.neI .none (.s rfl) (.s rfl)) rfl ?_
  refine .cons (.assign .none (.s rfl)) rfl ?_
  refine .nil ?_
  refine .then ?_
  refine .ret ?_
  obtain rfl := some_eq h
  exact Ends.ret1 (.inl rfl) Try.results30 (ResOK.tmp rfl trivial Imp.refl)

theorem ref_Sum_ok {want1 : (List Int)} {at1 : (List Int)} {r : Int}  (h : ref_Sum want1 at1 = some r) : FSpec Try.prog 32 [rep want1, rep at1] (rep r) := by
  unfold ref_Sum at h
  refine FSpec.intro (n := 26) fnok32 Try.func32 rfl Try.ntmps32 rfl (fun F => ?_)
  refine .seq ?_
  refine .region [] mixed (by kernel_rfl) ?_
  refine .cons (.assign .none (.int (by decide))) rfl ?_
  refine .nil ?_
  refine .then ?_
  refine .seq ?_
  refine .region [] mixed (by kernel_rfl) ?_
  refine .cons (.assign .none (.int (by decide))) rfl ?_
  refine .nil ?_
  refine .then ?_
  refine .seq ?_
  refine .seq ?_
  refine .region [] mixed (by kernel_rfl) ?_
  refine .cons (.move .none (.s rfl)) rfl ?_
  refine .cons (.len .none sl32 (.s rfl)) rfl ?_
  refine .cons (.move .none (.int (by decide))) rfl ?_
  refine .nil ?_
  refine .then ?_
  obtain ⟨j_1, h, hK1⟩ := bind_some h
  refine .thenJ (ι := Int) (fun j_1 => [(5, ⟨True, rep j_1⟩)]) (fun j_1 => []) (fun s => j_1 = s) Sub.nil SubB.nil ?_ (fun j_1' hj1 => ?_)
  · skip
    refine .block ?_
    refine .rforL h (fun p2_ => [(9, ⟨True, rep p2_.1⟩), (5, ⟨True, rep p2_.2⟩)]) (fun p2_ => []) (.cons (t := 9) rfl (.cons (t := 5) rfl Sub.nil)) SubB.nil (.cons (t := 0) rfl (.cons (t := 1) rfl (.cons (t := 8) rfl Sub.nil))) SubB.nil (fun p2_ o_2 h hD2 => ?_)
    refine .seq ?_
    refine .region [] mixed (by kernel_rfl) ?_
    refine .cons (.lt .none (.s rfl) (.s rfl)) rfl ?_
    refine .nil ?_
    refine .then ?_
    refine .seq ?_
    refine .cond (t := 10) rfl trivial (fun hb3 => ?_) (fun hb3 => ?_)
    · replace h := bif_t h hb3
      refine .skip ?_
      refine .then ?_
      refine .seq ?_
      obtain ⟨j_4, h, hK4⟩ := bind_some h
      unfold ref_Sum_L1 at h
      refine .thenJ (ι := Int) (fun j_4 => [(5, ⟨True, rep j_4⟩)]) (fun j_4 => []) (fun s => j_4 = s) (.cons (t := 0) rfl (.cons (t := 1) rfl (.cons (t := 8) rfl (.cons (t := 9) rfl Sub.nil)))) SubB.nil ?_ (fun j_4' hj4 => ?_)
      · skip
        refine .block ?_
        refine .seq ?_
        refine .region [] mixed (by kernel_rfl) ?_
        refine .cons (.move .none (.s rfl)) rfl ?_
        refine .cons (.assign .none (.s rfl)) rfl ?_
        refine .nil ?_
        refine .then ?_
        refine .region [] mixed (by kernel_rfl) ?_
        refine .cons (.move .none (.s rfl)) rfl ?_
        refine .cons (.move .none (.s rfl)) rfl ?_
        refine .cons (.move .none (.s rfl)) rfl ?_
        obtain ⟨hn5, h⟩ := need_some h
        refine .cons (.indexAddr .none sl32 ty3 (.s rfl) (.s rfl) (fun _ => hn5)) rfl ?_
        refine .cons (.load .none ty3 (.s rfl)) rfl ?_
        refine .cons (.move .none (.s rfl)) rfl ?_
        refine .cons (.move .none (.s rfl)) rfl ?_
        obtain ⟨hn6, h⟩ := need_some h
        refine .cons (.indexAddr .none sl32 ty3 (.s rfl) (.s rfl) (fun _ => hn6)) rfl ?_
        refine .cons (.load .none ty3 (.s rfl)) rfl ?_
        refine .cons (.subW .none (.s rfl) (.s rfl)) rfl ?_
        obtain ⟨r1, hv7, h⟩ := bind_some h
        refine .cons (.call .none (ref_Abs_ok hv7) (.cons (.s rfl) .nil)) rfl ?_
        refine .cons (.addW .none (.s rfl) (.s rfl)) rfl ?_
        obtain ⟨n1, hv8, h⟩ := bnd_some h
        refine .cons (.re hv8 (.assign .none (.s rfl))) rfl ?_
        refine .nil ?_
        refine .blkNormal ?_
        exact Ends.join _ (some_eq h) (.cons (t := 5) rfl (.cons (t := 0) rfl (.cons (t := 1) rfl (.cons (t := 8) rfl (.cons (t := 9) rfl Sub.nil))))) SubB.nil
      · subst hj4; have h := hK4; clear hK4
        refine .region [] mixed (by kernel_rfl) ?_
        refine .cons (.addW .none (.s rfl) (.int (by decide))) rfl ?_
        refine .cons (.move .none (.s rfl)) rfl ?_
        refine .nil ?_
        exact Ends.againL (some_eq h) (.cons (t := 9) rfl (.cons (t := 5) rfl (.cons (t := 0) rfl (.cons (t := 1) rfl (.cons (t := 8) rfl Sub.nil))))) SubB.nil
    · replace h := bif_f h hb3
      refine .exit ?_
      refine .thenExit ?_
      refine .thenExit ?_
      refine .blkExit ?_
      replace h := hD2 _ (some_eq h)
      exact Ends.join _ (some_eq h) (.cons (t := 5) rfl Sub.nil) SubB.nil
  · subst hj1; have h := hK1; clear hK1
    refine .seq ?_
    refine .region [] mixed (by kernel_rfl) ?_
    refine .cons (.move .none (.s rfl)) rfl ?_
    refine .cons (.assign .none (.s rfl)) rfl ?_
    refine .nil ?_
    refine .then ?_
    refine .ret ?_
    obtain rfl := some_eq h
    exact Ends.ret1 (.inl rfl) Try.results32 (ResOK.tmp rfl trivial Imp.refl)


end Go.Proofs.Ytbahnfkccdlpnaa
