/-
  The walks: what a function computes is what its plain function says (printed by a program of one's own).
-/
import Derived.Test.YtbahnfkccdlpnaaOrdFa
set_option maxRecDepth 100000
set_option linter.unusedSimpArgs false
set_option linter.unusedVariables false
namespace Go.Proofs.Ytbahnfkccdlpnaa
open Go Go.DB Go.RowKit

theorem slices_Sort_int_ok {l : List Int} {r : List Int} {s : Value} (h : slices_Sort_int l = some r) : FSpecO Try.prog 67 [isV s] [(s, rowV 3 l)] (anyV) [some (rowV 3 r)] := by
  obtain ⟨hl, h⟩ := need_some h
  obtain rfl := some_eq h
  exact sortI_spec sortI_lay rfl fnok67 hl

attribute [local go_sem] Oper.semAt_some
open Go.Shelf in
set_option maxRecDepth 100000 in
set_option maxHeartbeats 2000000 in
theorem vals1_in (F : Fence) (n : Nat) (h7 : F.fn 95) (hro : F.round = none) (hn : 1 ≤ n) (l Bs n₀ b off len cap : Nat) (zs : List Int) (hreach : len * 8 ≤ 140737488351232) (hb : b < n₀) (J Jx : List Int → World → Prop)
    (hY : ∀ pre x W, J pre W → pre.length < len → YieldAt F (n - 1) Try.prog l #[.int .i64 x] W fun e W' =>
      (e = .returned (.bool true) ∧ J (pre ++ [x]) W' ∧ Below n₀ W W') ∨ (e = .returned (.bool false) ∧ Jx (pre ++ [x]) W'))
    (W : World) (hBs : W.cell? ⟨Bs, 0, none⟩ = some (.slice (some ⟨b, off, none⟩) len cap)) (hc : ∀ j, j < len → W.cell? ⟨b, off + j, none⟩ = some (.int .i64 (zs[j]?.getD 0))) (h0 : J [] W) :
    CallsIn F n Try.prog 95 #[.func (.yield l) #[] #[], .pointer (some ⟨Bs, 0, none⟩)] W fun e W' => (∃ v, e = .returned v) ∧
      ((∃ ys, ys = uptoI zs len ∧ J ys W') ∨ (∃ pre, (∃ k, k ≤ len ∧ pre = uptoI zs k) ∧ Jx pre W')) := by
  refine callsIn_of_wp Try.func95 rfl h7 ?_ hro
  simp only [Try.ntmps95, List.size_toArray, List.length_cons, List.length_nil, Nat.reduceAdd, Nat.reduceSub, Array.replicate_succ, Array.replicate_zero, List.push_toArray, List.append_toArray, List.nil_append, List.cons_append]
  gi_wp2
  gi_loopw [7] (fun i wr => ∃ k : Nat, k ≤ len ∧ i = .int .i64 k ∧ J (uptoI zs k) wr ∧ Below n₀ W wr)
    (fun i _ => len - (intOf i).toNat)
  case atStart => exact ⟨0, Nat.zero_le _, rfl, h0, Below.refl _ _⟩
  case round =>
    obtain ⟨k, hk, rfl, hJs, hnx⟩ := hrel
    have hcx : k < len → wr.cell? ⟨b, off + k, none⟩ = some (.int .i64 (zs[k]?.getD 0)) := fun h => (hnx.cell (p := ⟨b, off + k, none⟩) hb).trans (hc k h)
    by_cases hlt : k < len
    · obtain ⟨fn, tmps, assign, body, hy, hR⟩ := hY _ (zs[k]?.getD 0) wr hJs (by rw [uptoI_length]; exact hlt)
      have hcx' := hcx hlt
      gi_wp2
      refine hR.mono ?_
      rintro e W3 (⟨rfl, hJ3, hk3⟩ | ⟨rfl, hJx3⟩)
      · gi_wp2
        go_roundw
        case rel => exact ⟨k + 1, by omega, by simp, by rw [uptoI_succ]; exact hJ3, hnx.trans hk3⟩
        case measure => simp [intOf]; omega
      · gi_wp2
        refine bodyPost_ret (results_none rfl _ _ _) rfl ?_
        exact ⟨⟨_, rfl⟩, .inr ⟨_, ⟨k + 1, by omega, (uptoI_succ _ _).symm⟩, hJx3⟩⟩
    · obtain rfl : k = len := by omega
      gi_wp2
      go_end0
      exact ⟨⟨_, rfl⟩, .inl ⟨_, rfl, hJs⟩⟩
open Go.Shelf in
set_option maxRecDepth 100000 in
set_option maxHeartbeats 1000000 in
theorem vals1_nil_in (F : Fence) (n : Nat) (h7 : F.fn 95) (hro : F.round = none) (l Bs cap : Nat) (a : Option Addr) (J : List Int → World → Prop) (W : World) (hBs : W.cell? ⟨Bs, 0, none⟩ = some (.slice a 0 cap)) (h0 : J [] W) :
    CallsIn F n Try.prog 95 #[.func (.yield l) #[] #[], .pointer (some ⟨Bs, 0, none⟩)] W fun e W' => (∃ v, e = .returned v) ∧ J [] W' := by
  refine callsIn_of_wp Try.func95 rfl h7 ?_ hro
  simp only [Try.ntmps95, List.size_toArray, List.length_cons, List.length_nil, Nat.reduceAdd, Nat.reduceSub, Array.replicate_succ, Array.replicate_zero, List.push_toArray, List.append_toArray, List.nil_append, List.cons_append]
  gi_wp2
  gi_loopw [7] (fun i wr => i = .int .i64 0 ∧ J [] wr) (fun _ _ => 0)
  case atStart => exact ⟨rfl, h0⟩
  case round =>
    obtain ⟨rfl, hJs⟩ := hrel
    gi_wp2
    go_end0
    exact ⟨⟨_, rfl⟩, hJs⟩
theorem vals_stops (F : Fence) (n : Nat) (h7 : F.fn 95) (hro : F.round = none) (hn : 1 ≤ n) (Bs n₀ : Nat) (sv : Value) (zs : List Int) (hreach : zs.length * 8 ≤ 140737488351232) (w : World) (hBs : Bs < w.heap.size) (hn₀ : n₀ ≤ w.heap.size)
    (hc : w.cell? ⟨Bs, 0, none⟩ = some sv) (hI : IntsAt n₀ w sv zs) :
    SeqStopsK F n Try.prog 95 #[.pointer (some ⟨Bs, 0, none⟩)] (fun x : Int => #[Value.int .i64 x]) (Below n₀) (fun ys => ys = zs) (fun pre => True) zs.length w := fun l J Jx W hW _ _ hY h0 => by
  have hc' := (hW.cell (p := ⟨Bs, 0, none⟩) hBs).trans hc
  rcases hI.below (hW.mono hn₀) with ⟨a, cap, rfl, rfl⟩ | ⟨b, off, cap, rfl, hb, hcs⟩
  · exact (vals1_nil_in F n h7 hro l Bs cap a J W hc' h0).mono fun e W' ⟨he, hj⟩ => ⟨he, .inl ⟨_, rfl, hj⟩⟩
  · refine (vals1_in F n h7 hro hn l Bs n₀ b off zs.length cap zs hreach hb J Jx hY W hc' hcs h0).mono ?_
    rintro e W' ⟨he, ⟨ys, rfl, hj⟩ | ⟨pre, ⟨k, hk, rfl⟩, hj⟩⟩
    · exact ⟨he, .inl ⟨_, uptoI_all zs, hj⟩⟩
    · exact ⟨he, .inr ⟨_, trivial, hj⟩⟩
open Go.Shelf in
set_option maxHeartbeats 1000000 in
theorem vals_in (F : Fence) (n : Nat) (h5 : F.fn 53) (hro : F.round = none) (a : Option Addr) (len cap : Nat) (w : World) :
    CallsIn F n Try.prog 53 #[.slice a len cap] w fun e w' => e = .returned (.func (.func 95) #[] #[.pointer (some ⟨w.heap.size, 0, none⟩)]) ∧ w' = w.alloc (.cells #[.slice a len cap] 32) := by
  refine callsIn_of_wp Try.func53 rfl h5 ?_ hro
  simp only [Try.ntmps53, List.size_toArray, List.length_cons, List.length_nil, Nat.reduceAdd, Nat.reduceSub, Array.replicate_succ, Array.replicate_zero, List.push_toArray, List.append_toArray, List.nil_append, List.cons_append]
  gi_wp2
  go_ret
  exact ⟨rfl, rfl⟩
theorem seqInfo : (Try.prog.info? 3).map (fun i => (i.zero, i.size, i.bytes)) = some (some (.int .i64 0), 1, 8) := by kernel_rfl
open Go.Shelf Go.Maps in
set_option maxRecDepth 100000 in
set_option maxHeartbeats 2000000 in
theorem appSeq_in (F : Fence) (n : Nat) (h3 : F.fn 114) (h5 : F.fn 95) (hro : F.round = none) (hn : 3 ≤ n) (Bs : Nat) (sv : Value) (xs : List Int) (hlen : xs.length ≤ maxLen) (hbytes : xs.length * 8 ≤ 140737488351232) (w : World) (hBs : Bs < w.heap.size) (hc : w.cell? ⟨Bs, 0, none⟩ = some sv) (hI : IntsAt w.heap.size w sv xs) :
    CallsIn F n Try.prog 114 #[.slice none 0 0, .func (.func 95) #[] #[.pointer (some ⟨Bs, 0, none⟩)]] w fun e W' => ∃ v, e = .returned v ∧ W'.ownsRow w.heap.size 3 1 v xs.length (xs.map (Value.int .i64)) ∧ (v = .slice none 0 0 ↔ xs = []) ∧ Below w.heap.size w W' := by
  have h1 : 1 ≤ n := by omega
  obtain ⟨i0, hi, hz0, hz1, hz2⟩ := info_parts seqInfo
  refine callsIn_of_wp_marks Try.func114 rfl h3 ?_ hro
  simp only [Try.ntmps114, List.size_toArray, List.length_cons, List.length_nil, Nat.reduceAdd, Nat.reduceSub, Array.replicate_succ, Array.replicate_zero, List.push_toArray, List.append_toArray, List.nil_append, List.cons_append]
  gi_wp2
  have bO := Boxed.new w 32 (.slice none 0 0)
  have hB0 : Below w.heap.size w (w.alloc (.cells #[.slice none 0 0] 32)) := (Below.refl _ w).alloc (Nat.le_refl _) _
  refine wpIn_rangeFunc_ownG hro h1 (gf := 95) (lb := #[.pointer (some ⟨Bs, 0, none⟩)]) rfl h5 (enters_of Try.func95 (by kernel_rfl) rfl)
    (vals_stops F (n - 1) h5 hro (by omega) Bs w.heap.size sv xs hbytes _ (by simp; omega) (by simp) ((hB0.cell (p := ⟨Bs, 0, none⟩) hBs).trans hc) (hI.below hB0)) belowK_t (belowK_b (by simp)) (Below.refl _ _) (fun _ => rfl)
    (fun pre W => (∃ v, Boxed W w.heap.size 32 v ∧ W.ownsRow w.heap.size 3 1 v pre.length (pre.map (Value.int .i64)) ∧ (v = .slice none 0 0 ↔ pre = [])) ∧ Below w.heap.size w W)
    (fun _ _ _ => False)
    (OwnFrom.and (Own.from (holdsRow_own w.heap.size w.heap.size 32 3 1 (fun pre : List Int => pre.length) (fun pre => pre.map (Value.int .i64)) (fun pre v => v = .slice none 0 0 ↔ pre = [])) _) (ownFrom_below (Nat.le_refl _) (by simp)))
    (fun _ _ _ _ _ hs _ _ => hs)
    ⟨⟨_, bO, World.ownsRow_nil _ _ _ _, by simp⟩, hB0⟩
    (fun x => { tmps := #[.slice none 0 0, .func (.func 95) #[] #[.pointer (some ⟨Bs, 0, none⟩)], .pointer (some ⟨w.heap.size, 0, none⟩), undef, .slice none 0 0, .int .i64 x, .func (.func 95) #[] #[.pointer (some ⟨Bs, 0, none⟩)], .int .i64 x, undef, undef, undef, undef, undef], defers := [] }) ?assign ?body ?done ?stop
  case assign =>
    intro l x W K hK
    gi_wp2
    exact hK
  case body =>
    rintro l pre x W ⟨⟨v, hv, hrow, hnil⟩, hB⟩ hlt
    have hc := hv.cell
    gi_wp2_with (gi_at_builtin; refine wpListIn_append_own _ rfl _ _ 32 rfl w.heap.size 3 i0 (.int .i64 0) 1 8 Try.underlying32 hi hz0 hz1 hz2 rfl (by decide) _ _ _ rfl (hrow.alloc _) ⟨W.heap.size, 0, none⟩ 1 1 [.int .i64 x] rfl rfl (cell_one_new _ _ _) (by simp [Value.oneCell']) (by omega) (by omega) (by have := hB.size; simp; omega) ?_; intro v' w1 hown' hgrow _; obtain ⟨g', cap', rfl⟩ := ownsRow_succ hown'; obtain ⟨hv1, hv2, hr2, hk2, hb2⟩ := hv.appended (by decide) hrow hB.size (Nat.le_refl _) hown' hgrow; have hc1 := hv1.cell; have hf1 := hv1.frozen)
    exact ⟨hk2.from _, hb2, ⟨_, hv2, by simpa using hr2, by simp⟩, hB.trans hb2⟩
  case done =>
    rintro D ys W hD rfl ⟨⟨v, hv, hrow, hnil⟩, hB⟩ hK
    have hc := hv.cell
    gi_wp2
    refine ⟨by simp, .inl ⟨_, _, rfl, run_takeDeferred hK, ?_⟩⟩
    exact ⟨_, results_tmp rfl _ _ _, v, rfl, ownsRow_putObj hrow _ hK rfl, hnil, hB.trans (belowK_b (w := w) (Nat.le_refl _) W D _ _ (by simp at hD; omega) hK rfl rfl)⟩
  case stop =>
    rintro D c pre W _ _ h _
    exact h.elim
open Go.Shelf Go.Maps in
set_option maxHeartbeats 1000000 in
theorem collect_in (F : Fence) (n : Nat) (h2 : F.fn 94) (h3 : F.fn 114) (h5 : F.fn 95) (hro : F.round = none) (hn : 4 ≤ n) (Bs : Nat) (sv : Value) (xs : List Int) (hlen : xs.length ≤ maxLen) (hbytes : xs.length * 8 ≤ 140737488351232) (w : World) (hBs : Bs < w.heap.size) (hc : w.cell? ⟨Bs, 0, none⟩ = some sv) (hI : IntsAt w.heap.size w sv xs) :
    CallsIn F n Try.prog 94 #[.func (.func 95) #[] #[.pointer (some ⟨Bs, 0, none⟩)]] w fun e W' => ∃ v, e = .returned v ∧ W'.ownsRow w.heap.size 3 1 v xs.length (xs.map (Value.int .i64)) ∧ (v = .slice none 0 0 ↔ xs = []) ∧ Below w.heap.size w W' := by
  have hn1 : 1 ≤ n := by omega
  refine callsIn_of_wp Try.func94 rfl h2 ?_ hro
  simp only [Try.ntmps94, List.size_toArray, List.length_cons, List.length_nil, Nat.reduceAdd, Nat.reduceSub, Array.replicate_succ, Array.replicate_zero, List.push_toArray, List.append_toArray, List.nil_append, List.cons_append]
  gi_wp2_with (gi_at_call 114; refine (appSeq_in F (n - 1) h3 h5 hro (by omega) Bs sv xs hlen hbytes w hBs hc hI).mono ?_; rintro e w' ⟨v, rfl, hrow, hnil, hb⟩)
  go_ret
  exact ⟨v, rfl, hrow, hnil, hb⟩
open Go.Shelf Go.Maps Go.Sort in
set_option maxRecDepth 100000 in
set_option maxHeartbeats 2000000 in
theorem sorted_in (F : Fence) (n : Nat) (h1 : F.fn 52) (h2 : F.fn 94) (h3 : F.fn 114) (h5 : F.fn 95) (h9 : F.fn 67) (hF : ∀ (R : Ending → World → Prop) args w, Calls Try.prog 67 args w R → CallsIn F (n - 1) Try.prog 67 args w R) (hro : F.round = none) (hn : 5 ≤ n) (Bs : Nat) (sv : Value) (xs : List Int) (hlen : xs.length ≤ maxLen) (hbytes : xs.length * 8 ≤ 140737488351232) (w : World) (hBs : Bs < w.heap.size) (hc : w.cell? ⟨Bs, 0, none⟩ = some sv) (hI : IntsAt w.heap.size w sv xs) :
    CallsIn F n Try.prog 52 #[.func (.func 95) #[] #[.pointer (some ⟨Bs, 0, none⟩)]] w fun e W' => ∃ v, e = .returned v ∧ W'.ownsRow w.heap.size 3 1 v xs.length ((sortI xs).map (Value.int .i64)) ∧ Below w.heap.size w W' := by
  have hn1 : 1 ≤ n := by omega
  refine callsIn_of_wp Try.func52 rfl h1 ?_ hro
  simp only [Try.ntmps52, List.size_toArray, List.length_cons, List.length_nil, Nat.reduceAdd, Nat.reduceSub, Array.replicate_succ, Array.replicate_zero, List.push_toArray, List.append_toArray, List.nil_append, List.cons_append]
  gi_wp2_with (gi_at_call 94; refine (collect_in F (n - 1) h2 h3 h5 hro (by omega) Bs sv xs hlen hbytes w hBs hc hI).mono ?_; rintro e W ⟨v, rfl, hrow, hnil, hb⟩)
  rcases hrow.2 with ⟨rfl, hz⟩ | ⟨gb, cap, cur, rfl, hbase, hgb, r1, r2, r3, r4⟩
  · have hss : xs = [] := List.eq_nil_of_length_eq_zero hz
    subst hss
    gi_wp2_with (gi_at_call 67; refine (hF _ _ _ (Proofs.AnyM.slices_Sort_int_none sortI_lay none 0 W)).mono ?_; rintro e w' ⟨rfl, rfl⟩)
    go_ret
    exact ⟨.slice none 0 0, rfl, by simpa [sortI] using hrow, hb⟩
  · have hH : Holds (Value.int .i64) W gb 0 xs.toArray := Proofs.holds_of_block_i hgb (by simpa using r4)
    have hgl : gb < W.heap.size := (Array.getElem?_eq_some_iff.1 hgb).1
    have hsz : xs.length < 4611686018427387904 := by omega
    have cS := hF _ _ _ (Proofs.AnyM.slices_Sort_int sortI_lay gb 0 cap xs W hH hgl hsz)
    gi_wp2_with (gi_at_call 67; refine cS.mono ?_; rintro e w' ⟨rfl, nn, os, rfl⟩)
    go_ret
    exact ⟨_, rfl, Proofs.ownsRow_sorted_i (by simp) hbase hgb r1 r2 r3, hb.grown (Proofs.grownBy_sorted_i _) hb.size (fun j hj => by cases hj; exact hbase)⟩

theorem slices_Values_int_ok {l : List Int} {r : SeqI} (h : slices_Values_int l = some r) : FSpec Try.prog 53 [rep l] (rep r) := by
  obtain rfl := some_eq h
  refine ⟨fnok53, fun M w vs hM ha => ?_⟩
  match vs, ha with
  | [v], ⟨hv, _⟩ =>
    obtain ⟨a, cap, rfl, h1, h2, h3⟩ := rep_list.1 hv
    refine Calls.mono (callsIn_wide.1 (vals_in Fence.wide 3 trivial rfl a l.length cap w)) ?_
    rintro e w' ⟨rfl, rfl⟩
    have hx : Ext w (w.alloc (.cells #[.slice a l.length cap] 32)) := Ext.alloc _ _
    refine ⟨hx, _, rfl, [_], ⟨_, rfl, w.heap.size, rfl, fun hm => ?_, ?_, _, (Boxed.new w 32 (.slice a l.length cap)).cell, (rep l).law M M _ _ _ hx.keeps (fun k h => .inl h) hv⟩, rfl⟩
    · have := hM.lt _ hm; omega
    · simp

theorem slices_Sorted_int_ok {x : SeqI} {r : List Int} (h : slices_Sorted_int x = some r) : FSpecO Try.prog 52 [rep x] [] (anyV) [some (rowV 3 r)] := by
  obtain ⟨hn, h⟩ := need_some h
  obtain rfl := some_eq h
  refine ⟨fnok52, fun M D w vs hM ha hO => ?_⟩
  match vs, ha with
  | [v], ⟨⟨cs, ⟨u, hcs, b, hu, hbM, hb, sv, hc, hr⟩, hv⟩, _⟩ =>
    subst hcs; subst hu; subst hv
    obtain ⟨hI, hin⟩ := IntsAt.of hr
    refine Calls.mono (callsIn_wide.1 (sorted_in Fence.wide 9 trivial trivial trivial trivial trivial (fun _ _ _ h => callsIn_wide.2 h) rfl (by omega) b sv x.l (by unfold maxLen; omega) (by omega) w hb hc hI)) ?_
    rintro e w' ⟨v, rfl, hrow, hbl⟩
    have hlen : (sortI x.l).length = x.l.length := by simp [sortI]
    rw [← hlen] at hrow
    obtain ⟨M', D', k1, k2, k3, k4, k5, k6⟩ := row_of_owns hM hbl (fun y hy => hin y (by simpa [sortI] using hy)) hrow
    refine ⟨v, M', D', rfl, k1 _, fun k h => .inl (k3 k h), k2, k4, trivial, ?_, ?_⟩
    · intro i c hc
      match i, hc with
      | 0, hc =>
        simp only [List.getElem?_cons_zero, Option.some.injEq] at hc
        subst hc
        exact ⟨k5, fun k hk => .inr (k6 k hk)⟩
    · intro i j c c' hi hj hne
      match i, j, hi, hj with
      | 0, 0, _, _ => omega

theorem slices_Index_int_ok {s1 : (List Int)} {v1 : Int} {r : Int}  (h : slices_Index_int s1 v1 = some r) : FSpec Try.prog 31 [rep s1, rep v1] (rep r) := by
  unfold slices_Index_int at h
  refine FSpec.intro (n := 19) fnok31 Try.func31 rfl Try.ntmps31 rfl (fun F => ?_)
  refine .seq ?_
  refine .region [] mixed (by kernel_rfl) ?_
  refine .cons (.assign .none (.int (by decide))) rfl ?_
  refine .nil ?_
  refine .then ?_
  refine .seq ?_
  refine .seq ?_
  refine .region [] mixed (by kernel_rfl) ?_
  refine .cons (.move .none (.s rfl)) rfl ?_
  refine .cons (.len .none sl32 (.s rfl)) rfl ?_
  refine .cons (.move .none (.int (by decide))) rfl ?_
  refine .nil ?_
  refine .then ?_
  obtain ⟨o_1, h, hK1⟩ := bindR_some h
  refine .thenJ (ι := Unit) (fun j_1 => []) (fun j_1 => []) (fun s => o_1 = Res.nx s) Sub.nil SubB.nil ?_ (fun j_1 hj1 => ?_)
  · skip
    refine .block ?_
    refine .rforEL h (fun p2_ => [(8, ⟨True, rep p2_.1⟩)]) (fun p2_ => []) (.cons (t := 8) rfl Sub.nil) SubB.nil (.cons (t := 0) rfl (.cons (t := 1) rfl (.cons (t := 7) rfl Sub.nil))) SubB.nil (fun p2_ o_2 h hD2 => ?_)
    refine .seq ?_
    refine .region [] mixed (by kernel_rfl) ?_
    refine .cons (.lt .none (.s rfl) (.s rfl)) rfl ?_
    refine .nil ?_
    refine .then ?_
    refine .seq ?_
    refine .cond (t := 9) rfl trivial (fun hb3 => ?_) (fun hb3 => ?_)
    · replace h := bif_t h hb3
      refine .skip ?_
      refine .then ?_
      refine .seq ?_
      obtain ⟨o_4, h, hK4⟩ := bindD_some h
      unfold slices_Index_int_L1 at h
      refine .thenJ (ι := Unit) (fun j_4 => []) (fun j_4 => []) (fun s => o_4 = Res.nx s) (.cons (t := 0) rfl (.cons (t := 1) rfl (.cons (t := 7) rfl (.cons (t := 8) rfl Sub.nil)))) SubB.nil ?_ (fun j_4 hj4 => ?_)
      · skip
        refine .block ?_
        refine .seq ?_
        refine .region [] mixed (by kernel_rfl) ?_
        refine .cons (.move .none (.s rfl)) rfl ?_
        refine .cons (.assign .none (.s rfl)) rfl ?_
        refine .nil ?_
        refine .then ?_
        refine .seq ?_
        refine .region [] mixed (by kernel_rfl) ?_
        refine .cons (.move .none (.s rfl)) rfl ?_
        refine .cons (.move .none (.s rfl)) rfl ?_
        refine .cons (.move .none (.s rfl)) rfl ?_
        obtain ⟨hn5, h⟩ := need_some h
        refine .cons (.indexAddr .none sl32 ty3 (.s rfl) (.s rfl) (fun _ => hn5)) rfl ?_
        refine .cons (.load .none ty3 (.s rfl)) rfl ?_
        refine .cons (.eqI .none (.s rfl) (.s rfl)) rfl ?_
        refine .nil ?_
        refine .then ?_
        refine .cond (t := 16) rfl trivial (fun hb6 => ?_) (fun hb6 => ?_)
        · replace h := bif_t h hb6
          refine .seq ?_
          refine .region [] mixed (by kernel_rfl) ?_
          refine .cons (.move .none (.s rfl)) rfl ?_
          refine .cons (.assign .none (.s rfl)) rfl ?_
          refine .nil ?_
          refine .then ?_
          refine .ret ?_
          refine .blkRet ?_
          refine .thenRet ?_
          refine .thenRet ?_
          refine .blkRet ?_
          refine .thenRet ?_
          replace h := resd_ab hK4 (some_eq h)
          replace h := hD2 _ (some_eq h)
          replace h := resb_ab hK1 (some_eq h)
          obtain rfl := some_eq h
          exact Ends.ret1 (.inl rfl) Try.results31 (ResOK.tmp rfl trivial Imp.refl)
        · replace h := bif_f h hb6
          refine .skip ?_
          refine .blkNormal ?_
          exact Ends.join _ (some_eq h) (.cons (t := 0) rfl (.cons (t := 1) rfl (.cons (t := 7) rfl (.cons (t := 8) rfl Sub.nil)))) SubB.nil
      · have h := resd_nx hK4 hj4
        refine .region [] mixed (by kernel_rfl) ?_
        refine .cons (.addW .none (.s rfl) (.int (by decide))) rfl ?_
        refine .cons (.move .none (.s rfl)) rfl ?_
        refine .nil ?_
        exact Ends.againL (some_eq h) (.cons (t := 8) rfl (.cons (t := 0) rfl (.cons (t := 1) rfl (.cons (t := 7) rfl Sub.nil)))) SubB.nil
    · replace h := bif_f h hb3
      refine .exit ?_
      refine .thenExit ?_
      refine .thenExit ?_
      refine .blkExit ?_
      replace h := hD2 _ (some_eq h)
      exact Ends.join _ (some_eq h) Sub.nil SubB.nil
  · have h := resb_nx hK1 hj1
    refine .seq ?_
    refine .region [] mixed (by kernel_rfl) ?_
    refine .cons (.assign .none (.int (by decide))) rfl ?_
    refine .nil ?_
    refine .then ?_
    refine .ret ?_
    obtain rfl := some_eq h
    exact Ends.ret1 (.inl rfl) Try.results31 (ResOK.tmp rfl trivial Imp.refl)

theorem slices_Contains_int_ok {s1 : (List Int)} {v1 : Int} {r : Bool}  (h : slices_Contains_int s1 v1 = some r) : FSpec Try.prog 79 [rep s1, rep v1] (rep r) := by
  unfold slices_Contains_int at h
  refine FSpec.intro (n := 9) fnok79 Try.func79 rfl Try.ntmps79 rfl (fun F => ?_)
  refine .seq ?_
  refine .region [] mixed (by kernel_rfl) ?_
  refine .cons (.assign .none .bool) rfl ?_
  refine .nil ?_
  refine .then ?_
  refine .seq ?_
  refine .region [] mixed (by kernel_rfl) ?_
  refine .cons (.move .none (.s rfl)) rfl ?_
  refine .cons (.move .none (.s rfl)) rfl ?_
  obtain ⟨r1, hv1, h⟩ := bind_some h
  refine .cons (.call .none (slices_Index_int_ok hv1) (.cons (.s rfl) (.cons (.s rfl) .nil))) rfl ?_
  refine .cons (.ge .none (.s rfl) (.int (by decide))) rfl ?_
  refine .cons (.assign .none (.s rfl)) rfl ?_
  refine .nil ?_
  refine .then ?_
  refine .ret ?_
  obtain rfl := some_eq h
  exact Ends.ret1 (.inl rfl) Try.results79 (ResOK.tmp rfl trivial Imp.refl)

theorem ref_CrossError_1_ok {n1 : Int} {c0_1 : (List Int)} {r : Bool}  (h : ref_CrossError_1 n1 c0_1 = some r) : FSpec Try.prog 78 [rep n1, ref c0_1] (rep r) := by
  unfold ref_CrossError_1 at h
  refine FSpec.intro (n := 7) fnok78 Try.func78 rfl Try.ntmps78 rfl (fun F => ?_)
  refine .seq ?_
  refine .region [] mixed (by kernel_rfl) ?_
  refine .cons (.assign .none .bool) rfl ?_
  refine .nil ?_
  refine .then ?_
  refine .seq ?_
  refine .region [] mixed (by kernel_rfl) ?_
  refine .cons (.load .none ty32 (.s rfl)) rfl ?_
  refine .cons (.move .none (.s rfl)) rfl ?_
  obtain ⟨r1, hv1, h⟩ := bind_some h
  refine .cons (.call .none (slices_Contains_int_ok hv1) (.cons (.s rfl) (.cons (.s rfl) .nil))) rfl ?_
  refine .cons (.assign .none (.s rfl)) rfl ?_
  refine .nil ?_
  refine .then ?_
  refine .ret ?_
  obtain rfl := some_eq h
  exact Ends.ret1 (.inl rfl) Try.results78 (ResOK.tmp rfl trivial Imp.refl)

theorem slices_IndexFunc_int_ok {s1 : (List Int)} {f1 : (Int → Option Bool)} {r : Int}  (h : slices_IndexFunc_int s1 f1 = some r) : FSpec Try.prog 72 [rep s1, fn1 Try.prog (rep (α := Bool)) f1] (rep r) := by
  unfold slices_IndexFunc_int at h
  refine FSpec.intro (n := 19) fnok72 Try.func72 rfl Try.ntmps72 rfl (fun F => ?_)
  refine .seq ?_
  refine .region [] mixed (by kernel_rfl) ?_
  refine .cons (.assign .none (.int (by decide))) rfl ?_
  refine .nil ?_
  refine .then ?_
  refine .seq ?_
  refine .seq ?_
  refine .region [] mixed (by kernel_rfl) ?_
  refine .cons (.move .none (.s rfl)) rfl ?_
  refine .cons (.len .none sl32 (.s rfl)) rfl ?_
  refine .cons (.move .none (.int (by decide))) rfl ?_
  refine .nil ?_
  refine .then ?_
  obtain ⟨o_1, h, hK1⟩ := bindR_some h
  refine .thenJ (ι := Unit) (fun j_1 => []) (fun j_1 => []) (fun s => o_1 = Res.nx s) Sub.nil SubB.nil ?_ (fun j_1 hj1 => ?_)
  · skip
    refine .block ?_
    refine .rforEL h (fun p2_ => [(8, ⟨True, rep p2_.1⟩)]) (fun p2_ => []) (.cons (t := 8) rfl Sub.nil) SubB.nil (.cons (t := 0) rfl (.cons (t := 1) rfl (.cons (t := 7) rfl Sub.nil))) SubB.nil (fun p2_ o_2 h hD2 => ?_)
    refine .seq ?_
    refine .region [] mixed (by kernel_rfl) ?_
    refine .cons (.lt .none (.s rfl) (.s rfl)) rfl ?_
    refine .nil ?_
    refine .then ?_
    refine .seq ?_
    refine .cond (t := 9) rfl trivial (fun hb3 => ?_) (fun hb3 => ?_)
    · replace h := bif_t h hb3
      refine .skip ?_
      refine .then ?_
      refine .seq ?_
      obtain ⟨o_4, h, hK4⟩ := bindD_some h
      unfold slices_IndexFunc_int_L1 at h
      refine .thenJ (ι := Unit) (fun j_4 => []) (fun j_4 => []) (fun s => o_4 = Res.nx s) (.cons (t := 0) rfl (.cons (t := 1) rfl (.cons (t := 7) rfl (.cons (t := 8) rfl Sub.nil)))) SubB.nil ?_ (fun j_4 hj4 => ?_)
      · skip
        refine .block ?_
        refine .seq ?_
        refine .region [] mixed (by kernel_rfl) ?_
        refine .cons (.move .none (.s rfl)) rfl ?_
        refine .cons (.assign .none (.s rfl)) rfl ?_
        refine .nil ?_
        refine .then ?_
        refine .seq ?_
        refine .region [] mixed (by kernel_rfl) ?_
        refine .cons (.move .none (.s rfl)) rfl ?_
        refine .cons (.move .none (.s rfl)) rfl ?_
        refine .cons (.move .none (.s rfl)) rfl ?_
        obtain ⟨hn5, h⟩ := need_some h
        refine .cons (.indexAddr .none sl32 ty3 (.s rfl) (.s rfl) (fun _ => hn5)) rfl ?_
        refine .cons (.load .none ty3 (.s rfl)) rfl ?_
        obtain ⟨r1, hv6, h⟩ := bind_some h
        refine .cons (.callV (gx s1 p2_.1, r1) .none (.s rfl) (fun _ => hv6) (.cons (.s rfl) .nil)) rfl ?_
        refine .nil ?_
        refine .then ?_
        refine .cond (t := 16) rfl trivial (fun hb7 => ?_) (fun hb7 => ?_)
        · replace h := bif_t h hb7
          refine .seq ?_
          refine .region [] mixed (by kernel_rfl) ?_
          refine .cons (.move .none (.s rfl)) rfl ?_
          refine .cons (.assign .none (.s rfl)) rfl ?_
          refine .nil ?_
          refine .then ?_
          refine .ret ?_
          refine .blkRet ?_
          refine .thenRet ?_
          refine .thenRet ?_
          refine .blkRet ?_
          refine .thenRet ?_
          replace h := resd_ab hK4 (some_eq h)
          replace h := hD2 _ (some_eq h)
          replace h := resb_ab hK1 (some_eq h)
          obtain rfl := some_eq h
          exact Ends.ret1 (.inl rfl) Try.results72 (ResOK.tmp rfl trivial Imp.refl)
        · replace h := bif_f h hb7
          refine .skip ?_
          refine .blkNormal ?_
          exact Ends.join _ (some_eq h) (.cons (t := 0) rfl (.cons (t := 1) rfl (.cons (t := 7) rfl (.cons (t := 8) rfl Sub.nil)))) SubB.nil
      · have h := resd_nx hK4 hj4
        refine .region [] mixed (by kernel_rfl) ?_
        refine .cons (.addW .none (.s rfl) (.int (by decide))) rfl ?_
        refine .cons (.move .none (.s rfl)) rfl ?_
        refine .nil ?_
        exact Ends.againL (some_eq h) (.cons (t := 8) rfl (.cons (t := 0) rfl (.cons (t := 1) rfl (.cons (t := 7) rfl Sub.nil)))) SubB.nil
    · replace h := bif_f h hb3
      refine .exit ?_
      refine .thenExit ?_
      refine .thenExit ?_
      refine .blkExit ?_
      replace h := hD2 _ (some_eq h)
      exact Ends.join _ (some_eq h) Sub.nil SubB.nil
  · have h := resb_nx hK1 hj1
    refine .seq ?_
    refine .region [] mixed (by kernel_rfl) ?_
    refine .cons (.assign .none (.int (by decide))) rfl ?_
    refine .nil ?_
    refine .then ?_
    refine .ret ?_
    obtain rfl := some_eq h
    exact Ends.ret1 (.inl rfl) Try.results72 (ResOK.tmp rfl trivial Imp.refl)

theorem slices_ContainsFunc_int_ok {s1 : (List Int)} {f1 : (Int → Option Bool)} {r : Bool}  (h : slices_ContainsFunc_int s1 f1 = some r) : FSpec Try.prog 29 [rep s1, fn1 Try.prog (rep (α := Bool)) f1] (rep r) := by
  unfold slices_ContainsFunc_int at h
  refine FSpec.intro (n := 9) fnok29 Try.func29 rfl Try.ntmps29 rfl (fun F => ?_)
  refine .seq ?_
  refine .region [] mixed (by kernel_rfl) ?_
  refine .cons (.assign .none .bool) rfl ?_
  refine .nil ?_
  refine .then ?_
  refine .seq ?_
  refine .region [] mixed (by kernel_rfl) ?_
  refine .cons (.move .none (.s rfl)) rfl ?_
  refine .cons (.move .none (.s rfl)) rfl ?_
  obtain ⟨r1, hv1, h⟩ := bind_some h
  refine .cons (.call .none (slices_IndexFunc_int_ok hv1) (.cons (.s rfl) (.cons (.s rfl) .nil))) rfl ?_
  refine .cons (.ge .none (.s rfl) (.int (by decide))) rfl ?_
  refine .cons (.assign .none (.s rfl)) rfl ?_
  refine .nil ?_
  refine .then ?_
  refine .ret ?_
  obtain rfl := some_eq h
  exact Ends.ret1 (.inl rfl) Try.results29 (ResOK.tmp rfl trivial Imp.refl)

theorem ref_In_ok {n1 : Int} {low1 : Int} {high1 : Int} {r : Bool}  (h : ref_In n1 low1 high1 = some r) : FSpec Try.prog 28 [rep n1, rep low1, rep high1] (rep r) := by
  unfold ref_In at h
  refine FSpec.intro (n := 15) fnok28 Try.func28 rfl Try.ntmps28 rfl (fun F => ?_)
  refine .seq ?_
  refine .region [] mixed (by kernel_rfl) ?_
  refine .cons (.assign .none .bool) rfl ?_
  refine .nil ?_
  refine .then ?_
  refine .seq ?_
  refine .region [] mixed (by kernel_rfl) ?_
  refine .cons (.move .none (.s rfl)) rfl ?_
  refine .cons (.move .none (.s rfl)) rfl ?_
  refine .cons (.ge .none (.s rfl) (.s rfl)) rfl ?_
  refine .cons (.move .none (.s rfl)) rfl ?_
  refine .cons (.move (.at rfl rfl) (.s rfl)) rfl ?_
  refine .cons (.move (.at rfl rfl) (.s rfl)) rfl ?_
  refine .cons (.le (.at rfl rfl) (.tmp rfl id) (.tmp rfl id)) rfl ?_
  refine .cons (.pickAnd .none (.s rfl) (.tmp rfl id)) rfl ?_
  refine .cons (.assign .none (.s rfl)) rfl ?_
  refine .nil ?_
  refine .then ?_
  refine .ret ?_
  obtain rfl := some_eq h
  exact Ends.ret1 (.inl rfl) Try.results28 (ResOK.tmp rfl trivial Imp.refl)

theorem ref_When_ok {is1 : Bool} {e1 : Int} {r : Int}  (h : ref_When is1 e1 = some r) : FSpec Try.prog 45 [rep is1, rep e1] (rep r) := by
  unfold ref_When at h
  refine FSpec.intro (n := 7) fnok45 Try.func45 rfl Try.ntmps45 rfl (fun F => ?_)
  refine .seq ?_
  refine .region [] mixed (by kernel_rfl) ?_
  refine .cons (.assign .none (.int (by decide))) rfl ?_
  refine .nil ?_
  refine .then ?_
  refine .seq ?_
  refine .seq ?_
  refine .region [] mixed (by kernel_rfl) ?_
  refine .cons (.move .none (.s rfl)) rfl ?_
  refine .nil ?_
  refine .then ?_
  refine .cond (t := 5) rfl trivial (fun hb1 => ?_) (fun hb1 => ?_)
  · replace h := bif_t h hb1
    refine .seq ?_
    refine .region [] mixed (by kernel_rfl) ?_
    refine .cons (.move .none (.s rfl)) rfl ?_
    refine .cons (.assign .none (.s rfl)) rfl ?_
    refine .nil ?_
    refine .then ?_
    refine .ret ?_
    refine .thenRet ?_
    obtain rfl := some_eq h
    exact Ends.ret1 (.inl rfl) Try.results45 (ResOK.tmp rfl trivial Imp.refl)
  · replace h := bif_f h hb1
    refine .skip ?_
    refine .then ?_
    refine .seq ?_
    refine .region [] mixed (by kernel_rfl) ?_
    refine .cons (.assign .none (.int (by decide))) rfl ?_
    refine .nil ?_
    refine .then ?_
    refine .ret ?_
    obtain rfl := some_eq h
    exact Ends.ret1 (.inl rfl) Try.results45 (ResOK.tmp rfl trivial Imp.refl)

theorem ref_First_ok {l1 : (List Int)} {r : Int}  (h : ref_First l1 = some r) : FSpec Try.prog 44 [rep l1] (rep r) := by
  unfold ref_First at h
  refine FSpec.intro (n := 15) fnok44 Try.func44 rfl Try.ntmps44 rfl (fun F => ?_)
  refine .seq ?_
  refine .region [] mixed (by kernel_rfl) ?_
  refine .cons (.assign .none (.int (by decide))) rfl ?_
  refine .nil ?_
  refine .then ?_
  refine .seq ?_
  refine .seq ?_
  refine .region [] mixed (by kernel_rfl) ?_
  refine .cons (.move .none (.s rfl)) rfl ?_
  refine .cons (.len .none sl109 (.s rfl)) rfl ?_
  refine .cons (.move .none (.int (by decide))) rfl ?_
  refine .nil ?_
  refine .then ?_
  obtain ⟨o_1, h, hK1⟩ := bindR_some h
  refine .thenJ (ι := Unit) (fun j_1 => []) (fun j_1 => []) (fun s => o_1 = Res.nx s) Sub.nil SubB.nil ?_ (fun j_1 hj1 => ?_)
  · skip
    refine .block ?_
    refine .rforEL h (fun p2_ => [(7, ⟨True, rep p2_.1⟩)]) (fun p2_ => []) (.cons (t := 7) rfl Sub.nil) SubB.nil (.cons (t := 5) rfl (.cons (t := 6) rfl Sub.nil)) SubB.nil (fun p2_ o_2 h hD2 => ?_)
    refine .seq ?_
    refine .region [] mixed (by kernel_rfl) ?_
    refine .cons (.lt .none (.s rfl) (.s rfl)) rfl ?_
    refine .nil ?_
    refine .then ?_
    refine .seq ?_
    refine .cond (t := 8) rfl trivial (fun hb3 => ?_) (fun hb3 => ?_)
    · replace h := bif_t h hb3
      refine .skip ?_
      refine .then ?_
      refine .seq ?_
      obtain ⟨o_4, h, hK4⟩ := bindD_some h
      unfold ref_First_L1 at h
      refine .thenJ (ι := Unit) (fun j_4 => []) (fun j_4 => []) (fun s => o_4 = Res.nx s) (.cons (t := 5) rfl (.cons (t := 6) rfl (.cons (t := 7) rfl Sub.nil))) SubB.nil ?_ (fun j_4 hj4 => ?_)
      · skip
        refine .block ?_
        refine .seq ?_
        refine .region [] mixed (by kernel_rfl) ?_
        obtain ⟨hn5, h⟩ := need_some h
        refine .cons (.indexAddr .none sl109 ty24 (.s rfl) (.s rfl) (fun _ => hn5)) rfl ?_
        refine .cons (.load .none ty24 (.s rfl)) rfl ?_
        obtain ⟨e1, hv6, h⟩ := bnd_some h
        refine .cons (.re hv6 (.assign .none (.s rfl))) rfl ?_
        refine .nil ?_
        refine .then ?_
        refine .seq ?_
        refine .region [] mixed (by kernel_rfl) ?_
        refine .cons (.move .none (.s rfl)) rfl ?_
        refine .cons (.neI .none (.s rfl) (.int (by decide))) rfl ?_
        refine .nil ?_
        refine .then ?_
        refine .cond (t := 12) rfl trivial (fun hb7 => ?_) (fun hb7 => ?_)
        · replace h := bif_t h hb7
          refine .seq ?_
          refine .region [] mixed (by kernel_rfl) ?_
          refine .cons (.move .none (.s rfl)) rfl ?_
          refine .cons (.assign .none (.s rfl)) rfl ?_
          refine .nil ?_
          refine .then ?_
          refine .ret ?_
          refine .blkRet ?_
          refine .thenRet ?_
          refine .thenRet ?_
          refine .blkRet ?_
          refine .thenRet ?_
          replace h := resd_ab hK4 (some_eq h)
          replace h := hD2 _ (some_eq h)
          replace h := resb_ab hK1 (some_eq h)
          obtain rfl := some_eq h
          exact Ends.ret1 (.inl rfl) Try.results44 (ResOK.tmp rfl trivial Imp.refl)
        · replace h := bif_f h hb7
          refine .skip ?_
          refine .blkNormal ?_
          exact Ends.join _ (some_eq h) (.cons (t := 5) rfl (.cons (t := 6) rfl (.cons (t := 7) rfl Sub.nil))) SubB.nil
      · have h := resd_nx hK4 hj4
        refine .region [] mixed (by kernel_rfl) ?_
        refine .cons (.addW .none (.s rfl) (.int (by decide))) rfl ?_
        refine .cons (.move .none (.s rfl)) rfl ?_
        refine .nil ?_
        exact Ends.againL (some_eq h) (.cons (t := 7) rfl (.cons (t := 5) rfl (.cons (t := 6) rfl Sub.nil))) SubB.nil
    · replace h := bif_f h hb3
      refine .exit ?_
      refine .thenExit ?_
      refine .thenExit ?_
      refine .blkExit ?_
      replace h := hD2 _ (some_eq h)
      exact Ends.join _ (some_eq h) Sub.nil SubB.nil
  · have h := resb_nx hK1 hj1
    refine .seq ?_
    refine .region [] mixed (by kernel_rfl) ?_
    refine .cons (.assign .none (.int (by decide))) rfl ?_
    refine .nil ?_
    refine .then ?_
    refine .ret ?_
    obtain rfl := some_eq h
    exact Ends.ret1 (.inl rfl) Try.results44 (ResOK.tmp rfl trivial Imp.refl)

theorem ref_RowError_ok {row1 : (List Int)} {r : Int}  (h : ref_RowError row1 = some r) : FSpec Try.prog 56 [rep row1] (rep r) := by
  unfold ref_RowError at h
  refine FSpec.intro (n := 32) fnok56 Try.func56 rfl Try.ntmps56 rfl (fun F => ?_)
  refine .seq ?_
  refine .region [] mixed (by kernel_rfl) ?_
  refine .cons (.assign .none (.int (by decide))) rfl ?_
  refine .nil ?_
  refine .then ?_
  refine .seq ?_
  refine .seq ?_
  refine .region [] mixed (by kernel_rfl) ?_
  refine .cons (.move .none (.s rfl)) rfl ?_
  refine .cons (.len .none sl32 (.s rfl)) rfl ?_
  refine .cons (.gt .none (.s rfl) (.int (by decide))) rfl ?_
  refine .nil ?_
  refine .then ?_
  refine .cond (t := 8) rfl trivial (fun hb1 => ?_) (fun hb1 => ?_)
  · replace h := bif_t h hb1
    refine .seq ?_
    refine .region [] mixed (by kernel_rfl) ?_
    refine .cons (.assign .none (.int (by decide))) rfl ?_
    refine .nil ?_
    refine .then ?_
    refine .ret ?_
    refine .thenRet ?_
    obtain rfl := some_eq h
    exact Ends.ret1 (.inl rfl) Try.results56 (ResOK.tmp rfl trivial Imp.refl)
  · replace h := bif_f h hb1
    refine .skip ?_
    refine .then ?_
    refine .seq ?_
    refine .seq ?_
    refine .region [] mixed (by kernel_rfl) ?_
    refine .cons (.move .none (.s rfl)) rfl ?_
    refine .cons (.len .none sl32 (.s rfl)) rfl ?_
    refine .cons (.move .none (.int (by decide))) rfl ?_
    refine .nil ?_
    refine .then ?_
    obtain ⟨o_2, h, hK2⟩ := bindR_some h
    refine .thenJ (ι := Unit) (fun j_2 => []) (fun j_2 => []) (fun s => o_2 = Res.nx s) Sub.nil SubB.nil ?_ (fun j_2 hj2 => ?_)
    · skip
      refine .block ?_
      refine .rforEL h (fun p3_ => [(11, ⟨True, rep p3_.1⟩)]) (fun p3_ => []) (.cons (t := 11) rfl Sub.nil) SubB.nil (.cons (t := 0) rfl (.cons (t := 9) rfl (.cons (t := 10) rfl Sub.nil))) SubB.nil (fun p3_ o_3 h hD3 => ?_)
      refine .seq ?_
      refine .region [] mixed (by kernel_rfl) ?_
      refine .cons (.lt .none (.s rfl) (.s rfl)) rfl ?_
      refine .nil ?_
      refine .then ?_
      refine .seq ?_
      refine .cond (t := 12) rfl trivial (fun hb4 => ?_) (fun hb4 => ?_)
      · replace h := bif_t h hb4
        refine .skip ?_
        refine .then ?_
        refine .seq ?_
        obtain ⟨o_5, h, hK5⟩ := bindD_some h
        unfold ref_RowError_L1 at h
        refine .thenJ (ι := Unit) (fun j_5 => []) (fun j_5 => []) (fun s => o_5 = Res.nx s) (.cons (t := 0) rfl (.cons (t := 9) rfl (.cons (t := 10) rfl (.cons (t := 11) rfl Sub.nil)))) SubB.nil ?_ (fun j_5 hj5 => ?_)
        · skip
          refine .block ?_
          refine .seq ?_
          refine .region [] mixed (by kernel_rfl) ?_
          refine .cons (.move .none (.s rfl)) rfl ?_
          obtain ⟨hn6, h⟩ := need_some h
          refine .cons (.indexAddr .none sl32 ty3 (.s rfl) (.s rfl) (fun _ => hn6)) rfl ?_
          refine .cons (.load .none ty3 (.s rfl)) rfl ?_
          refine .cons (.assign .none (.s rfl)) rfl ?_
          obtain ⟨n1, hv7, h⟩ := bnd_some h
          refine .cons (.re hv7 (.assign .none (.s rfl))) rfl ?_
          refine .nil ?_
          refine .then ?_
          refine .seq ?_
          refine .region [] mixed (by kernel_rfl) ?_
          refine .cons (.move .none (.s rfl)) rfl ?_
          obtain ⟨r1, hv8, h⟩ := bind_some h
          refine .cons (.call .none (ref_In_ok hv8) (.cons (.s rfl) (.cons (.int (by decide)) (.cons (.int (by decide)) .nil)))) rfl ?_
          refine .cons (.not .none (.s rfl)) rfl ?_
          obtain ⟨r2, hv9, h⟩ := bind_some h
          refine .cons (.call .none (ref_When_ok hv9) (.cons (.s rfl) (.cons (.int (by decide)) .nil))) rfl ?_
          refine .cons (.move .none (.s rfl)) rfl ?_
          refine .cons (.move .none (.s rfl)) rfl ?_
          obtain ⟨hn10, h⟩ := need_some h
          refine .cons (.slice .none sl32 ty3 (.s rfl) rfl (.s rfl) (fun _ => hn10)) rfl ?_
          refine .cons (.move .none (.s rfl)) rfl ?_
          obtain ⟨r3, hv11, h⟩ := bind_some h
          refine .cons (.call .none (slices_Contains_int_ok hv11) (.cons (.s rfl) (.cons (.s rfl) .nil))) rfl ?_
          obtain ⟨r4, hv12, h⟩ := bind_some h
          refine .cons (.call .none (ref_When_ok hv12) (.cons (.s rfl) (.cons (.int (by decide)) .nil))) rfl ?_
          refine .cons (.buildSlice (xs := [_, _]) .none sl109 ty24 hz24 (.cons (.s rfl) (.cons (.s rfl) .nil)) rfl (by decide)) rfl ?_
          obtain ⟨e1, hv13, h⟩ := bind_some h
          refine .cons (.call .none (ref_First_ok hv13) (.cons (.s rfl) .nil)) rfl ?_
          refine .cons (.assign .none (.s rfl)) rfl ?_
          refine .nil ?_
          refine .then ?_
          refine .seq ?_
          refine .region [] mixed (by kernel_rfl) ?_
          refine .cons (.move .none (.s rfl)) rfl ?_
          refine .cons (.neI .none (.s rfl) (.int (by decide))) rfl ?_
          refine .nil ?_
          refine .then ?_
          refine .cond (t := 29) rfl trivial (fun hb14 => ?_) (fun hb14 => ?_)
          · replace h := bif_t h hb14
            refine .seq ?_
            refine .region [] mixed (by kernel_rfl) ?_
            refine .cons (.move .none (.s rfl)) rfl ?_
            refine .cons (.assign .none (.s rfl)) rfl ?_
            refine .nil ?_
            refine .then ?_
            refine .ret ?_
            refine .blkRet ?_
            refine .thenRet ?_
            refine .thenRet ?_
            refine .blkRet ?_
            refine .thenRet ?_
            replace h := resd_ab hK5 (some_eq h)
            replace h := hD3 _ (some_eq h)
            replace h := resb_ab hK2 (some_eq h)
            obtain rfl := some_eq h
            exact Ends.ret1 (.inl rfl) Try.results56 (ResOK.tmp rfl trivial Imp.refl)
          · replace h := bif_f h hb14
            refine .skip ?_
            refine .blkNormal ?_
            exact Ends.join _ (some_eq h) (.cons (t := 0) rfl (.cons (t := 9) rfl (.cons (t := 10) rfl (.cons (t := 11) rfl Sub.nil)))) SubB.nil
        · have h := resd_nx hK5 hj5
          refine .region [] mixed (by kernel_rfl) ?_
          refine .cons (.addW .none (.s rfl) (.int (by decide))) rfl ?_
          refine .cons (.move .none (.s rfl)) rfl ?_
          refine .nil ?_
          exact Ends.againL (some_eq h) (.cons (t := 11) rfl (.cons (t := 0) rfl (.cons (t := 9) rfl (.cons (t := 10) rfl Sub.nil)))) SubB.nil
      · replace h := bif_f h hb4
        refine .exit ?_
        refine .thenExit ?_
        refine .thenExit ?_
        refine .blkExit ?_
        replace h := hD3 _ (some_eq h)
        exact Ends.join _ (some_eq h) Sub.nil SubB.nil
    · have h := resb_nx hK2 hj2
      refine .seq ?_
      refine .region [] mixed (by kernel_rfl) ?_
      refine .cons (.assign .none (.int (by decide))) rfl ?_
      refine .nil ?_
      refine .then ?_
      refine .ret ?_
      obtain rfl := some_eq h
      exact Ends.ret1 (.inl rfl) Try.results56 (ResOK.tmp rfl trivial Imp.refl)

theorem ref_CrossError_ok {upper1 : (List Int)} {lower1 : (List Int)} {l1 : (List Link)} {r : Int}  (h : ref_CrossError upper1 lower1 l1 = some r) : FSpec Try.prog 38 [rep upper1, rep lower1, rep l1] (rep r) := by
  unfold ref_CrossError at h
  refine FSpec.intro (n := 48) fnok38 Try.func38 rfl Try.ntmps38 rfl (fun F => ?_)
  refine .seq ?_
  refine .region [] mixed (by kernel_rfl) ?_
  refine .cons (.box .none (.s rfl)) rfl ?_
  refine .cons (.assign .none (.int (by decide))) rfl ?_
  refine .nil ?_
  refine .then ?_
  refine .seq ?_
  refine .region [] mixed (by kernel_rfl) ?_
  refine .cons (.move .none (.s rfl)) rfl ?_
  refine .cons (.makeFunc (ι := Int × Bool) (pre := fun i => (fun x0 => ref_CrossError_1 x0 upper1) i.1 = some i.2) (Ss := fun i => [rep i.1]) (S := fun i => rep i.2) .none fnok78 (fun i h => ref_CrossError_1_ok h) (.cons (.s rfl) .nil)) rfl ?_
  obtain ⟨twice1, hv1, h⟩ := bind_some h
  refine .cons (.call .none (slices_ContainsFunc_int_ok hv1) (.cons (.s rfl) (.cons (.s rfl) .nil))) rfl ?_
  refine .cons (.assign .none (.s rfl)) rfl ?_
  refine .nil ?_
  refine .then ?_
  refine .seq ?_
  refine .seq ?_
  refine .region [] mixed (by kernel_rfl) ?_
  refine .cons (.load .none ty32 (.s rfl)) rfl ?_
  obtain ⟨r1, hv2, h⟩ := bind_some h
  refine .cons (.call .none (ref_RowError_ok hv2) (.cons (.s rfl) .nil)) rfl ?_
  refine .cons (.move .none (.s rfl)) rfl ?_
  obtain ⟨r2, hv3, h⟩ := bind_some h
  refine .cons (.call .none (ref_RowError_ok hv3) (.cons (.s rfl) .nil)) rfl ?_
  refine .cons (.move .none (.s rfl)) rfl ?_
  obtain ⟨r3, hv4, h⟩ := bind_some h
  refine .cons (.call .none (ref_When_ok hv4) (.cons (.s rfl) (.cons (.int (by decide)) .nil))) rfl ?_
  refine .cons (.move .none (.s rfl)) rfl ?_
  refine .cons (.len .none sl23 (.s rfl)) rfl ?_
  refine .cons (.gt .none (.s rfl) (.int (by decide))) rfl ?_
  obtain ⟨r4, hv5, h⟩ := bind_some h
  refine .cons (.call .none (ref_When_ok hv5) (.cons (.s rfl) (.cons (.int (by decide)) .nil))) rfl ?_
  refine .cons (.buildSlice (xs := [_, _, _, _]) .none sl109 ty24 hz24 (.cons (.s rfl) (.cons (.s rfl) (.cons (.s rfl) (.cons (.s rfl) .nil)))) rfl (by decide)) rfl ?_
  obtain ⟨e1, hv6, h⟩ := bind_some h
  refine .cons (.call .none (ref_First_ok hv6) (.cons (.s rfl) .nil)) rfl ?_
  refine .cons (.assign .none (.s rfl)) rfl ?_
  refine .nil ?_
  refine .then ?_
  refine .seq ?_
  refine .region [] mixed (by kernel_rfl) ?_
  refine .cons (.move .none (.s rfl)) rfl ?_
  refine .cons (.neI .none (.s rfl) (.int (by decide))) rfl ?_
  refine .nil ?_
  refine .then ?_
  refine .cond (t := 27) rfl trivial (fun hb7 => ?_) (fun hb7 => ?_)
  · replace h := bif_t h hb7
    refine .seq ?_
    refine .region [] mixed (by kernel_rfl) ?_
    refine .cons (.move .none (.s rfl)) rfl ?_
    refine .cons (.assign .none (.s rfl)) rfl ?_
    refine .nil ?_
    refine .then ?_
    refine .ret ?_
    refine .thenRet ?_
    obtain rfl := some_eq h
    exact Ends.ret1 (.inl rfl) Try.results38 (ResOK.tmp rfl trivial Imp.refl)
  · replace h := bif_f h hb7
    refine .skip ?_
    refine .then ?_
    refine .seq ?_
    refine .seq ?_
    refine .region [] mixed (by kernel_rfl) ?_
    refine .cons (.move .none (.s rfl)) rfl ?_
    refine .cons (.len .none sl23 (.s rfl)) rfl ?_
    refine .cons (.move .none (.int (by decide))) rfl ?_
    refine .nil ?_
    refine .then ?_
    obtain ⟨o_8, h, hK8⟩ := bindR_some h
    refine .thenJ (ι := Unit) (fun j_8 => []) (fun j_8 => []) (fun s => o_8 = Res.nx s) Sub.nil SubB.nil ?_ (fun j_8 hj8 => ?_)
    · skip
      refine .block ?_
      refine .rforEL h (fun p9_ => [(31, ⟨True, rep p9_.1⟩)]) (fun p9_ => []) (.cons (t := 31) rfl Sub.nil) SubB.nil (.cons (t := 1) rfl (.cons (t := 3) rfl (.cons (t := 29) rfl (.cons (t := 30) rfl Sub.nil)))) SubB.nil (fun p9_ o_9 h hD9 => ?_)
      refine .seq ?_
      refine .region [] mixed (by kernel_rfl) ?_
      refine .cons (.lt .none (.s rfl) (.s rfl)) rfl ?_
      refine .nil ?_
      refine .then ?_
      refine .seq ?_
      refine .cond (t := 32) rfl trivial (fun hb10 => ?_) (fun hb10 => ?_)
      · replace h := bif_t h hb10
        refine .skip ?_
        refine .then ?_
        refine .seq ?_
        obtain ⟨o_11, h, hK11⟩ := bindD_some h
        unfold ref_CrossError_L1 at h
        refine .thenJ (ι := Unit) (fun j_11 => []) (fun j_11 => []) (fun s => o_11 = Res.nx s) (.cons (t := 1) rfl (.cons (t := 3) rfl (.cons (t := 29) rfl (.cons (t := 30) rfl (.cons (t := 31) rfl Sub.nil))))) SubB.nil ?_ (fun j_11 hj11 => ?_)
        · skip
          refine .block ?_
          refine .seq ?_
          refine .region [([], []), ([], []), ([], [10]), ([10], [10])] mixed (by kernel_rfl) ?_
          obtain ⟨hn12, h⟩ := need_some h
          refine .consA (.indexAddr .none sl23 ty79 (.s rfl) (.s rfl) (fun _ => hn12)) rfl ?_
          obtain ⟨v1, hv13, h⟩ := bnd_some h
          refine .consA (.re hv13 (.load .none ty79 (.s rfl))) rfl ?_
          refine .consW (.alloc zo79 rfl) rfl rfl ?_
          refine .consN (.store ty79 rfl rfl (.s rfl)) rfl ?_
          refine .nil ?_
          refine .then ?_
          refine .freeze (t := 10) rfl rfl SubB.nil rfl ?_
          refine .seq ?_
          refine .region [] mixed (by kernel_rfl) ?_
          refine .cons (.load .none ty32 (.s rfl)) rfl ?_
          refine .cons (.fieldAddr .none fd79_0 hfd79_0 (.s rfl)) rfl ?_
          refine .cons (.load .none ty3 (.s rfl)) rfl ?_
          obtain ⟨r5, hv14, h⟩ := bind_some h
          refine .cons (.call .none (slices_Contains_int_ok hv14) (.cons (.s rfl) (.cons (.s rfl) .nil))) rfl ?_
          refine .cons (.not .none (.s rfl)) rfl ?_
          refine .cons (.move .none (.s rfl)) rfl ?_
          refine .cons (.move (.at rfl rfl) (.s rfl)) rfl ?_
          refine .cons (.fieldAddr (.at rfl rfl) fd79_1 hfd79_1 (.s rfl)) rfl ?_
          refine .cons (.load (.at rfl rfl) ty3 (.tmp rfl id)) rfl ?_
          obtain ⟨r6, hv15, h⟩ := bind_some h
          refine .cons (.callIf (.at rfl rfl) fnok79 (fun hg => slices_Contains_int_ok ((fun hg => gd_some hv15 ((notT hg.2))) hg)) (.cons (.tmp rfl id) (.cons (.tmp rfl id) .nil)) (fun h => h)) rfl ?_
          refine .cons (.not (.at rfl rfl) (.tmp rfl id)) rfl ?_
          refine .cons (.pickOr .none (.s rfl) (.tmp rfl id)) rfl ?_
          refine .nil ?_
          refine .then ?_
          refine .cond (t := 46) rfl trivial (fun hb16 => ?_) (fun hb16 => ?_)
          · replace h := bif_t h hb16
            refine .seq ?_
            refine .region [] mixed (by kernel_rfl) ?_
            refine .cons (.assign .none (.int (by decide))) rfl ?_
            refine .nil ?_
            refine .then ?_
            refine .ret ?_
            refine .blkRet ?_
            refine .thenRet ?_
            refine .thenRet ?_
            refine .blkRet ?_
            refine .thenRet ?_
            replace h := resd_ab hK11 (some_eq h)
            replace h := hD9 _ (some_eq h)
            replace h := resb_ab hK8 (some_eq h)
            obtain rfl := some_eq h
            exact Ends.ret1 (.inl rfl) Try.results38 (ResOK.tmp rfl trivial Imp.refl)
          · replace h := bif_f h hb16
            refine .skip ?_
            refine .blkNormal ?_
            exact Ends.join _ (some_eq h) (.cons (t := 1) rfl (.cons (t := 3) rfl (.cons (t := 29) rfl (.cons (t := 30) rfl (.cons (t := 31) rfl Sub.nil))))) SubB.nil
        · have h := resd_nx hK11 hj11
          refine .region [] mixed (by kernel_rfl) ?_
          refine .cons (.addW .none (.s rfl) (.int (by decide))) rfl ?_
          refine .cons (.move .none (.s rfl)) rfl ?_
          refine .nil ?_
          exact Ends.againL (some_eq h) (.cons (t := 31) rfl (.cons (t := 1) rfl (.cons (t := 3) rfl (.cons (t := 29) rfl (.cons (t := 30) rfl Sub.nil))))) SubB.nil
      · replace h := bif_f h hb10
        refine .exit ?_
        refine .thenExit ?_
        refine .thenExit ?_
        refine .blkExit ?_
        replace h := hD9 _ (some_eq h)
        exact Ends.join _ (some_eq h) Sub.nil SubB.nil
    · have h := resb_nx hK8 hj8
      refine .seq ?_
      refine .region [] mixed (by kernel_rfl) ?_
      refine .cons (.assign .none (.int (by decide))) rfl ?_
      refine .nil ?_
      refine .then ?_
      refine .ret ?_
      obtain rfl := some_eq h
      exact Ends.ret1 (.inl rfl) Try.results38 (ResOK.tmp rfl trivial Imp.refl)

theorem layer_checkRow_ok {row1 : (List Int)} {r : Int}  (h : layer_checkRow row1 = some r) : FSpec Try.prog 96 [rep row1] (rep r) := by
  unfold layer_checkRow at h
  refine FSpec.intro (n := 28) fnok96 Try.func96 rfl Try.ntmps96 rfl (fun F => ?_)
  refine .seq ?_
  refine .region [] mixed (by kernel_rfl) ?_
  refine .cons (.assign .none (.int (by decide))) rfl ?_
  refine .nil ?_
  refine .then ?_
  refine .seq ?_
  refine .seq ?_
  refine .region [] mixed (by kernel_rfl) ?_
  refine .cons (.move .none (.s rfl)) rfl ?_
  refine .cons (.len .none sl32 (.s rfl)) rfl ?_
  refine .cons (.gt .none (.s rfl) (.int (by decide))) rfl ?_
  refine .nil ?_
  refine .then ?_
  refine .cond (t := 8) rfl trivial (fun hb1 => ?_) (fun hb1 => ?_)
  · replace h := bif_t h hb1
    refine .seq ?_
    refine .region [] mixed (by kernel_rfl) ?_
    refine .cons (.assign .none (.int (by decide))) rfl ?_
    refine .nil ?_
    refine .then ?_
    refine .ret ?_
    refine .thenRet ?_
    obtain rfl := some_eq h
    exact Ends.ret1 (.inl rfl) Try.results96 (ResOK.tmp rfl trivial Imp.refl)
  · replace h := bif_f h hb1
    refine .skip ?_
    refine .then ?_
    refine .seq ?_
    refine .region [([], [9]), ([9], [3, 9])] mixed (by kernel_rfl) ?_
    refine .consW (.makeMap (K := Int) (V := Bool) rfl) rfl rfl ?_
    refine .consW (.passRow rfl (.tmp rfl)) rfl rfl ?_
    refine .nil ?_
    refine .then ?_
    obtain ⟨known1, hv2, h⟩ := bnd_some h
    refine .reB (t := 3) rfl (congrArg mapV hv2) ?_
    refine .nameMap (t := 3) (g := 5001) rfl rfl rfl (fun s5001 => ?_)
    refine .seq ?_
    refine .seq ?_
    refine .region [] mixed (by kernel_rfl) ?_
    refine .cons (.move .none (.s rfl)) rfl ?_
    refine .cons (.len .none sl32 (.s rfl)) rfl ?_
    refine .cons (.move .none (.int (by decide))) rfl ?_
    refine .nil ?_
    refine .then ?_
    obtain ⟨o_3, h, hK3⟩ := bindR_some h
    refine .thenJ (ι := (GMap Int Bool)) (fun j_3 => []) (fun j_3 => [(5001, some (CPred.at s5001 (mapV j_3)))]) (fun s => o_3 = Res.nx s) (.cons (t := 3) rfl Sub.nil) SubB.nil ?_ (fun j_3 hj3 => ?_)
    · skip
      refine .block ?_
      refine .rforEL h (fun p4_ => [(12, ⟨True, rep p4_.1⟩)]) (fun p4_ => [(5001, some (CPred.at s5001 (mapV p4_.2)))]) (.cons (t := 12) rfl Sub.nil) (.cons (t := 5001) rfl SubB.nil) (.cons (t := 3) rfl (.cons (t := 10) rfl (.cons (t := 11) rfl Sub.nil))) SubB.nil (fun p4_ o_4 h hD4 => ?_)
      refine .seq ?_
      refine .region [] mixed (by kernel_rfl) ?_
      refine .cons (.lt .none (.s rfl) (.s rfl)) rfl ?_
      refine .nil ?_
      refine .then ?_
      refine .seq ?_
      refine .cond (t := 13) rfl trivial (fun hb5 => ?_) (fun hb5 => ?_)
      · replace h := bif_t h hb5
        refine .skip ?_
        refine .then ?_
        refine .seq ?_
        obtain ⟨o_6, h, hK6⟩ := bindD_some h
        unfold layer_checkRow_L1 at h
        refine .thenJ (ι := (GMap Int Bool)) (fun j_6 => []) (fun j_6 => [(5001, some (CPred.at s5001 (mapV j_6)))]) (fun s => o_6 = Res.nx s) (.cons (t := 3) rfl (.cons (t := 10) rfl (.cons (t := 11) rfl (.cons (t := 12) rfl Sub.nil)))) SubB.nil ?_ (fun j_6 hj6 => ?_)
        · skip
          refine .block ?_
          refine .seq ?_
          refine .region [] mixed (by kernel_rfl) ?_
          obtain ⟨hn7, h⟩ := need_some h
          refine .cons (.indexAddr .none sl32 ty3 (.s rfl) (.s rfl) (fun _ => hn7)) rfl ?_
          refine .cons (.load .none ty3 (.s rfl)) rfl ?_
          obtain ⟨k1, hv8, h⟩ := bnd_some h
          refine .cons (.re hv8 (.assign .none (.s rfl))) rfl ?_
          refine .nil ?_
          refine .then ?_
          refine .seq ?_
          refine .seq ?_
          refine .region [] mixed (by kernel_rfl) ?_
          refine .cons (.move .none (.s rfl)) rfl ?_
          refine .cons (.lt .none (.s rfl) (.int (by decide))) rfl ?_
          refine .cons (.move .none (.s rfl)) rfl ?_
          refine .cons (.move (.at rfl rfl) (.s rfl)) rfl ?_
          refine .cons (.ge (.at rfl rfl) (.tmp rfl id) (.int (by decide))) rfl ?_
          refine .cons (.pickOr .none (.s rfl) (.tmp rfl id)) rfl ?_
          refine .nil ?_
          refine .then ?_
          refine .cond (t := 21) rfl trivial (fun hb9 => ?_) (fun hb9 => ?_)
          · replace h := bif_t h hb9
            refine .seq ?_
            refine .region [] mixed (by kernel_rfl) ?_
            refine .cons (.assign .none (.int (by decide))) rfl ?_
            refine .nil ?_
            refine .then ?_
            refine .ret ?_
            refine .thenRet ?_
            refine .blkRet ?_
            refine .thenRet ?_
            refine .thenRet ?_
            refine .blkRet ?_
            refine .thenRet ?_
            replace h := resd_ab hK6 (some_eq h)
            replace h := hD4 _ (some_eq h)
            replace h := resb_ab hK3 (some_eq h)
            obtain rfl := some_eq h
            exact Ends.ret1 (.inl rfl) Try.results96 (ResOK.tmp rfl trivial Imp.refl)
          · replace h := bif_f h hb9
            refine .skip ?_
            refine .then ?_
            refine .seq ?_
            refine .seq ?_
            refine .region [([], []), ([], []), ([5001], [])] mixed (by kernel_rfl) ?_
            refine .consA (.move .none (.s rfl)) rfl ?_
            refine .consA (.move .none (.s rfl)) rfl ?_
            refine .consA (.lookupO (q := 5001) .none mo133 zo4 ownMap_self (.told (.s rfl) rfl) (.s rfl)) rfl ?_
            refine .nil ?_
            refine .then ?_
            refine .cond (t := 24) rfl trivial (fun hb10 => ?_) (fun hb10 => ?_)
            · replace h := bif_t h hb10
              refine .seq ?_
              refine .region [] mixed (by kernel_rfl) ?_
              refine .cons (.assign .none (.int (by decide))) rfl ?_
              refine .nil ?_
              refine .then ?_
              refine .ret ?_
              refine .thenRet ?_
              refine .blkRet ?_
              refine .thenRet ?_
              refine .thenRet ?_
              refine .blkRet ?_
              refine .thenRet ?_
              replace h := resd_ab hK6 (some_eq h)
              replace h := hD4 _ (some_eq h)
              replace h := resb_ab hK3 (some_eq h)
              obtain rfl := some_eq h
              exact Ends.ret1 (.inl rfl) Try.results96 (ResOK.tmp rfl trivial Imp.refl)
            · replace h := bif_f h hb10
              refine .skip ?_
              refine .then ?_
              refine .region [([], []), ([], []), ([5001], [5001])] mixed (by kernel_rfl) ?_
              refine .consA (.move .none (.s rfl)) rfl ?_
              refine .consA (.move .none (.s rfl)) rfl ?_
              refine .consN (.mapUpdate (q := 5001) mo133 (.s rfl) rfl (.s rfl) .bool) rfl ?_
              refine .nil ?_
              refine .blkNormal ?_
              exact Ends.join _ (some_eq h) (.cons (t := 3) rfl (.cons (t := 10) rfl (.cons (t := 11) rfl (.cons (t := 12) rfl Sub.nil)))) (.cons (t := 5001) rfl SubB.nil)
        · have h := resd_nx hK6 hj6
          refine .region [] mixed (by kernel_rfl) ?_
          refine .cons (.addW .none (.s rfl) (.int (by decide))) rfl ?_
          refine .cons (.move .none (.s rfl)) rfl ?_
          refine .nil ?_
          exact Ends.againL (some_eq h) (.cons (t := 12) rfl (.cons (t := 3) rfl (.cons (t := 10) rfl (.cons (t := 11) rfl Sub.nil)))) (.cons (t := 5001) rfl SubB.nil)
      · replace h := bif_f h hb5
        refine .exit ?_
        refine .thenExit ?_
        refine .thenExit ?_
        refine .blkExit ?_
        replace h := hD4 _ (some_eq h)
        exact Ends.join _ (some_eq h) (.cons (t := 3) rfl Sub.nil) (.cons (t := 5001) rfl SubB.nil)
    · have h := resb_nx hK3 hj3
      refine .seq ?_
      refine .region [] mixed (by kernel_rfl) ?_
      refine .cons (.assign .none (.int (by decide))) rfl ?_
      refine .nil ?_
      refine .then ?_
      refine .ret ?_
      obtain rfl := some_eq h
      exact Ends.ret1 (.inl rfl) Try.results96 (ResOK.tmp rfl trivial Imp.refl)

theorem layer_places_ok {row1 : (List Int)} {r : (GMap Int Int)}  (h : layer_places row1 = some r) : FSpec Try.prog 83 [rep row1] (rep r) := by
  unfold layer_places at h
  refine FSpec.intro (n := 19) fnok83 Try.func83 rfl Try.ntmps83 rfl (fun F => ?_)
  refine .seq ?_
  refine .region [] mixed (by kernel_rfl) ?_
  refine .cons (.assign .none (.const (x := (GMap.nil : (GMap Int Int))) (fun M w => ⟨_, map_zero, rfl⟩))) rfl ?_
  refine .nil ?_
  refine .then ?_
  refine .seq ?_
  refine .region [([], [6]), ([6], [3, 6])] mixed (by kernel_rfl) ?_
  refine .consW (.makeMap (K := Int) (V := Int) rfl) rfl rfl ?_
  refine .consW (.passRow rfl (.tmp rfl)) rfl rfl ?_
  refine .nil ?_
  refine .then ?_
  obtain ⟨out1, hv1, h⟩ := bnd_some h
  refine .reB (t := 3) rfl (congrArg mapV hv1) ?_
  refine .nameMap (t := 3) (g := 5001) rfl rfl rfl (fun s5001 => ?_)
  refine .seq ?_
  refine .seq ?_
  refine .region [] mixed (by kernel_rfl) ?_
  refine .cons (.move .none (.s rfl)) rfl ?_
  refine .cons (.len .none sl32 (.s rfl)) rfl ?_
  refine .cons (.move .none (.int (by decide))) rfl ?_
  refine .nil ?_
  refine .then ?_
  obtain ⟨j_2, h, hK2⟩ := bind_some h
  refine .thenJ (ι := (GMap Int Int)) (fun j_2 => []) (fun j_2 => [(5001, some (CPred.at s5001 (mapV j_2)))]) (fun s => j_2 = s) (.cons (t := 3) rfl Sub.nil) SubB.nil ?_ (fun j_2' hj2 => ?_)
  · skip
    refine .block ?_
    refine .rforL h (fun p3_ => [(9, ⟨True, rep p3_.1⟩)]) (fun p3_ => [(5001, some (CPred.at s5001 (mapV p3_.2)))]) (.cons (t := 9) rfl Sub.nil) (.cons (t := 5001) rfl SubB.nil) (.cons (t := 3) rfl (.cons (t := 7) rfl (.cons (t := 8) rfl Sub.nil))) SubB.nil (fun p3_ o_3 h hD3 => ?_)
    refine .seq ?_
    refine .region [] mixed (by kernel_rfl) ?_
    refine .cons (.lt .none (.s rfl) (.s rfl)) rfl ?_
    refine .nil ?_
    refine .then ?_
    refine .seq ?_
    refine .cond (t := 10) rfl trivial (fun hb4 => ?_) (fun hb4 => ?_)
    · replace h := bif_t h hb4
      refine .skip ?_
      refine .then ?_
      refine .seq ?_
      obtain ⟨j_5, h, hK5⟩ := bind_some h
      unfold layer_places_L1 at h
      refine .thenJ (ι := (GMap Int Int)) (fun j_5 => []) (fun j_5 => [(5001, some (CPred.at s5001 (mapV j_5)))]) (fun s => j_5 = s) (.cons (t := 3) rfl (.cons (t := 7) rfl (.cons (t := 8) rfl (.cons (t := 9) rfl Sub.nil)))) SubB.nil ?_ (fun j_5' hj5 => ?_)
      · skip
        refine .block ?_
        refine .seq ?_
        refine .region [] mixed (by kernel_rfl) ?_
        refine .cons (.move .none (.s rfl)) rfl ?_
        obtain ⟨hn6, h⟩ := need_some h
        refine .cons (.indexAddr .none sl32 ty3 (.s rfl) (.s rfl) (fun _ => hn6)) rfl ?_
        refine .cons (.load .none ty3 (.s rfl)) rfl ?_
        refine .cons (.assign .none (.s rfl)) rfl ?_
        refine .cons (.assign .none (.s rfl)) rfl ?_
        refine .nil ?_
        refine .then ?_
        refine .region [([], []), ([], []), ([], []), ([5001], [5001])] mixed (by kernel_rfl) ?_
        refine .consA (.move .none (.s rfl)) rfl ?_
        refine .consA (.move .none (.s rfl)) rfl ?_
        refine .consA (.move .none (.s rfl)) rfl ?_
        refine .consN (.mapUpdate (q := 5001) mo88 (.s rfl) rfl (.s rfl) (.s rfl)) rfl ?_
        refine .nil ?_
        refine .blkNormal ?_
        exact Ends.join _ (some_eq h) (.cons (t := 3) rfl (.cons (t := 7) rfl (.cons (t := 8) rfl (.cons (t := 9) rfl Sub.nil)))) (.cons (t := 5001) rfl SubB.nil)
      · subst hj5; have h := hK5; clear hK5
        refine .region [] mixed (by kernel_rfl) ?_
        refine .cons (.addW .none (.s rfl) (.int (by decide))) rfl ?_
        refine .cons (.move .none (.s rfl)) rfl ?_
        refine .nil ?_
        exact Ends.againL (some_eq h) (.cons (t := 9) rfl (.cons (t := 3) rfl (.cons (t := 7) rfl (.cons (t := 8) rfl Sub.nil)))) (.cons (t := 5001) rfl SubB.nil)
    · replace h := bif_f h hb4
      refine .exit ?_
      refine .thenExit ?_
      refine .thenExit ?_
      refine .blkExit ?_
      replace h := hD3 _ (some_eq h)
      exact Ends.join _ (some_eq h) (.cons (t := 3) rfl Sub.nil) (.cons (t := 5001) rfl SubB.nil)
  · subst hj2; have h := hK2; clear hK2
    refine .freezeAt (g := 5001) (S := rep j_2) (ts := [3]) rfl (.cons (t := 3) rfl trivial .nil) SubB.nil rfl (fun M D w h hms => mapV_rep h hms) ?_
    refine .seq ?_
    refine .region [] mixed (by kernel_rfl) ?_
    refine .cons (.move .none (.s rfl)) rfl ?_
    refine .cons (.assign .none (.s rfl)) rfl ?_
    refine .nil ?_
    refine .then ?_
    refine .ret ?_
    obtain rfl := some_eq h
    exact Ends.ret1 (.inl rfl) Try.results83 (ResOK.tmp rfl trivial Imp.refl)

theorem layer_checkPair_ok {upper1 : (List Int)} {lower1 : (List Int)} {l1 : (List Link)} {r : Int}  (h : layer_checkPair upper1 lower1 l1 = some r) : FSpec Try.prog 80 [rep upper1, rep lower1, rep l1] (rep r) := by
  unfold layer_checkPair at h
  refine FSpec.intro (n := 84) fnok80 Try.func80 rfl Try.ntmps80 rfl (fun F => ?_)
  refine .seq ?_
  refine .region [] mixed (by kernel_rfl) ?_
  refine .cons (.assign .none (.int (by decide))) rfl ?_
  refine .nil ?_
  refine .then ?_
  refine .seq ?_
  refine .seq ?_
  refine .region [] mixed (by kernel_rfl) ?_
  refine .cons (.move .none (.s rfl)) rfl ?_
  refine .cons (.move .none (.s rfl)) rfl ?_
  obtain ⟨v1, hv1, h⟩ := bnd_some h
  refine .cons (.re hv1 (.buildSlice (xs := [_, _]) .none sl22 ty32 hz32 (.cons (.s rfl) (.cons (.s rfl) .nil)) rfl (by decide))) rfl ?_
  refine .cons (.len .none sl22 (.s rfl)) rfl ?_
  refine .cons (.move .none (.int (by decide))) rfl ?_
  refine .nil ?_
  refine .then ?_
  obtain ⟨o_2, h, hK2⟩ := bindR_some h
  refine .thenJ (ι := Unit) (fun j_2 => []) (fun j_2 => []) (fun s => o_2 = Res.nx s) (.cons (t := 0) rfl (.cons (t := 1) rfl (.cons (t := 2) rfl Sub.nil))) SubB.nil ?_ (fun j_2 hj2 => ?_)
  · skip
    refine .block ?_
    refine .rforEL h (fun p3_ => [(26, ⟨True, rep p3_.1⟩)]) (fun p3_ => []) (.cons (t := 26) rfl Sub.nil) SubB.nil (.cons (t := 0) rfl (.cons (t := 1) rfl (.cons (t := 2) rfl (.cons (t := 24) rfl (.cons (t := 25) rfl Sub.nil))))) SubB.nil (fun p3_ o_3 h hD3 => ?_)
    refine .seq ?_
    refine .region [] mixed (by kernel_rfl) ?_
    refine .cons (.lt .none (.s rfl) (.s rfl)) rfl ?_
    refine .nil ?_
    refine .then ?_
    refine .seq ?_
    refine .cond (t := 27) rfl trivial (fun hb4 => ?_) (fun hb4 => ?_)
    · replace h := bif_t h hb4
      refine .skip ?_
      refine .then ?_
      refine .seq ?_
      obtain ⟨o_5, h, hK5⟩ := bindD_some h
      unfold layer_checkPair_L1 at h
      refine .thenJ (ι := Unit) (fun j_5 => []) (fun j_5 => []) (fun s => o_5 = Res.nx s) (.cons (t := 0) rfl (.cons (t := 1) rfl (.cons (t := 2) rfl (.cons (t := 24) rfl (.cons (t := 25) rfl (.cons (t := 26) rfl Sub.nil)))))) SubB.nil ?_ (fun j_5 hj5 => ?_)
      · skip
        refine .block ?_
        refine .seq ?_
        refine .region [] mixed (by kernel_rfl) ?_
        obtain ⟨hn6, h⟩ := need_some h
        refine .cons (.indexAddr .none sl22 ty32 (.s rfl) (.s rfl) (fun _ => hn6)) rfl ?_
        refine .cons (.load .none ty32 (.s rfl)) rfl ?_
        refine .cons (.assign .none (.s rfl)) rfl ?_
        refine .nil ?_
        refine .then ?_
        refine .seq ?_
        refine .region [] mixed (by kernel_rfl) ?_
        refine .cons (.move .none (.s rfl)) rfl ?_
        obtain ⟨e1, hv7, h⟩ := bind_some h
        refine .cons (.call .none (layer_checkRow_ok hv7) (.cons (.s rfl) .nil)) rfl ?_
        refine .cons (.assign .none (.s rfl)) rfl ?_
        refine .nil ?_
        refine .then ?_
        refine .seq ?_
        refine .region [] mixed (by kernel_rfl) ?_
        refine .cons (.move .none (.s rfl)) rfl ?_
        refine .cons (.neI .none (.s rfl) (.int (by decide))) rfl ?_
        refine .nil ?_
        refine .then ?_
        refine .cond (t := 33) rfl trivial (fun hb8 => ?_) (fun hb8 => ?_)
        · replace h := bif_t h hb8
          refine .seq ?_
          refine .region [] mixed (by kernel_rfl) ?_
          refine .cons (.move .none (.s rfl)) rfl ?_
          refine .cons (.assign .none (.s rfl)) rfl ?_
          refine .nil ?_
          refine .then ?_
          refine .ret ?_
          refine .blkRet ?_
          refine .thenRet ?_
          refine .thenRet ?_
          refine .blkRet ?_
          refine .thenRet ?_
          replace h := resd_ab hK5 (some_eq h)
          replace h := hD3 _ (some_eq h)
          replace h := resb_ab hK2 (some_eq h)
          obtain rfl := some_eq h
          exact Ends.ret1 (.inl rfl) Try.results80 (ResOK.tmp rfl trivial Imp.refl)
        · replace h := bif_f h hb8
          refine .skip ?_
          refine .blkNormal ?_
          exact Ends.join _ (some_eq h) (.cons (t := 0) rfl (.cons (t := 1) rfl (.cons (t := 2) rfl (.cons (t := 24) rfl (.cons (t := 25) rfl (.cons (t := 26) rfl Sub.nil)))))) SubB.nil
      · have h := resd_nx hK5 hj5
        refine .region [] mixed (by kernel_rfl) ?_
        refine .cons (.addW .none (.s rfl) (.int (by decide))) rfl ?_
        refine .cons (.move .none (.s rfl)) rfl ?_
        refine .nil ?_
        exact Ends.againL (some_eq h) (.cons (t := 26) rfl (.cons (t := 0) rfl (.cons (t := 1) rfl (.cons (t := 2) rfl (.cons (t := 24) rfl (.cons (t := 25) rfl Sub.nil)))))) SubB.nil
    · replace h := bif_f h hb4
      refine .exit ?_
      refine .thenExit ?_
      refine .thenExit ?_
      refine .blkExit ?_
      replace h := hD3 _ (some_eq h)
      exact Ends.join _ (some_eq h) (.cons (t := 0) rfl (.cons (t := 1) rfl (.cons (t := 2) rfl Sub.nil))) SubB.nil
  · have h := resb_nx hK2 hj2
    refine .seq ?_
    refine .region [] mixed (by kernel_rfl) ?_
    refine .cons (.move .none (.s rfl)) rfl ?_
    obtain ⟨up1, hv9, h⟩ := bind_some h
    refine .cons (.call .none (layer_places_ok hv9) (.cons (.s rfl) .nil)) rfl ?_
    refine .cons (.move .none (.s rfl)) rfl ?_
    obtain ⟨low1, hv10, h⟩ := bind_some h
    refine .cons (.call .none (layer_places_ok hv10) (.cons (.s rfl) .nil)) rfl ?_
    refine .cons (.assign .none (.s rfl)) rfl ?_
    refine .cons (.assign .none (.s rfl)) rfl ?_
    refine .nil ?_
    refine .then ?_
    refine .seq ?_
    refine .seq ?_
    refine .region [] mixed (by kernel_rfl) ?_
    refine .cons (.move .none (.s rfl)) rfl ?_
    refine .cons (.len .none sl32 (.s rfl)) rfl ?_
    refine .cons (.move .none (.int (by decide))) rfl ?_
    refine .nil ?_
    refine .then ?_
    obtain ⟨o_11, h, hK11⟩ := bindR_some h
    refine .thenJ (ι := Unit) (fun j_11 => []) (fun j_11 => []) (fun s => o_11 = Res.nx s) (.cons (t := 2) rfl (.cons (t := 10) rfl (.cons (t := 11) rfl Sub.nil))) SubB.nil ?_ (fun j_11 hj11 => ?_)
    · skip
      refine .block ?_
      refine .rforEL h (fun p12_ => [(42, ⟨True, rep p12_.1⟩)]) (fun p12_ => []) (.cons (t := 42) rfl Sub.nil) SubB.nil (.cons (t := 2) rfl (.cons (t := 10) rfl (.cons (t := 11) rfl (.cons (t := 40) rfl (.cons (t := 41) rfl Sub.nil))))) SubB.nil (fun p12_ o_12 h hD12 => ?_)
      refine .seq ?_
      refine .region [] mixed (by kernel_rfl) ?_
      refine .cons (.lt .none (.s rfl) (.s rfl)) rfl ?_
      refine .nil ?_
      refine .then ?_
      refine .seq ?_
      refine .cond (t := 43) rfl trivial (fun hb13 => ?_) (fun hb13 => ?_)
      · replace h := bif_t h hb13
        refine .skip ?_
        refine .then ?_
        refine .seq ?_
        obtain ⟨o_14, h, hK14⟩ := bindD_some h
        unfold layer_checkPair_L2 at h
        refine .thenJ (ι := Unit) (fun j_14 => []) (fun j_14 => []) (fun s => o_14 = Res.nx s) (.cons (t := 2) rfl (.cons (t := 10) rfl (.cons (t := 11) rfl (.cons (t := 40) rfl (.cons (t := 41) rfl (.cons (t := 42) rfl Sub.nil)))))) SubB.nil ?_ (fun j_14 hj14 => ?_)
        · skip
          refine .block ?_
          refine .seq ?_
          refine .region [] mixed (by kernel_rfl) ?_
          obtain ⟨hn15, h⟩ := need_some h
          refine .cons (.indexAddr .none sl32 ty3 (.s rfl) (.s rfl) (fun _ => hn15)) rfl ?_
          refine .cons (.load .none ty3 (.s rfl)) rfl ?_
          refine .cons (.assign .none (.s rfl)) rfl ?_
          refine .nil ?_
          refine .then ?_
          refine .seq ?_
          refine .region [] mixed (by kernel_rfl) ?_
          refine .cons (.move .none (.s rfl)) rfl ?_
          refine .cons (.move .none (.s rfl)) rfl ?_
          refine .cons (.lookupOk .none mo88 zo3 (.s rfl) (.s rfl)) rfl ?_
          refine .cons (.move .none (.s rfl)) rfl ?_
          refine .cons (.extract .none (.s rfl) rfl) rfl ?_
          refine .cons (.extract .none (.s rfl) rfl) rfl ?_
          refine .cons (.assign .none (.s rfl)) rfl ?_
          refine .cons (.assign .none (.s rfl)) rfl ?_
          refine .nil ?_
          refine .then ?_
          refine .seq ?_
          refine .region [] mixed (by kernel_rfl) ?_
          refine .cons (.move .none (.s rfl)) rfl ?_
          refine .nil ?_
          refine .then ?_
          refine .cond (t := 52) rfl trivial (fun hb16 => ?_) (fun hb16 => ?_)
          · replace h := bif_t h hb16
            refine .seq ?_
            refine .region [] mixed (by kernel_rfl) ?_
            refine .cons (.assign .none (.int (by decide))) rfl ?_
            refine .nil ?_
            refine .then ?_
            refine .ret ?_
            refine .blkRet ?_
            refine .thenRet ?_
            refine .thenRet ?_
            refine .blkRet ?_
            refine .thenRet ?_
            replace h := resd_ab hK14 (some_eq h)
            replace h := hD12 _ (some_eq h)
            replace h := resb_ab hK11 (some_eq h)
            obtain rfl := some_eq h
            exact Ends.ret1 (.inl rfl) Try.results80 (ResOK.tmp rfl trivial Imp.refl)
          · replace h := bif_f h hb16
            refine .skip ?_
            refine .blkNormal ?_
            exact Ends.join _ (some_eq h) (.cons (t := 2) rfl (.cons (t := 10) rfl (.cons (t := 11) rfl (.cons (t := 40) rfl (.cons (t := 41) rfl (.cons (t := 42) rfl Sub.nil)))))) SubB.nil
        · have h := resd_nx hK14 hj14
          refine .region [] mixed (by kernel_rfl) ?_
          refine .cons (.addW .none (.s rfl) (.int (by decide))) rfl ?_
          refine .cons (.move .none (.s rfl)) rfl ?_
          refine .nil ?_
          exact Ends.againL (some_eq h) (.cons (t := 42) rfl (.cons (t := 2) rfl (.cons (t := 10) rfl (.cons (t := 11) rfl (.cons (t := 40) rfl (.cons (t := 41) rfl Sub.nil)))))) SubB.nil
      · replace h := bif_f h hb13
        refine .exit ?_
        refine .thenExit ?_
        refine .thenExit ?_
        refine .blkExit ?_
        replace h := hD12 _ (some_eq h)
        exact Ends.join _ (some_eq h) (.cons (t := 2) rfl (.cons (t := 10) rfl (.cons (t := 11) rfl Sub.nil))) SubB.nil
    · have h := resb_nx hK11 hj11
      refine .seq ?_
      refine .seq ?_
      refine .region [] mixed (by kernel_rfl) ?_
      refine .cons (.move .none (.s rfl)) rfl ?_
      refine .cons (.len .none sl23 (.s rfl)) rfl ?_
      refine .cons (.gt .none (.s rfl) (.int (by decide))) rfl ?_
      refine .nil ?_
      refine .then ?_
      refine .cond (t := 56) rfl trivial (fun hb17 => ?_) (fun hb17 => ?_)
      · replace h := bif_t h hb17
        refine .seq ?_
        refine .region [] mixed (by kernel_rfl) ?_
        refine .cons (.assign .none (.int (by decide))) rfl ?_
        refine .nil ?_
        refine .then ?_
        refine .ret ?_
        refine .thenRet ?_
        obtain rfl := some_eq h
        exact Ends.ret1 (.inl rfl) Try.results80 (ResOK.tmp rfl trivial Imp.refl)
      · replace h := bif_f h hb17
        refine .skip ?_
        refine .then ?_
        refine .seq ?_
        refine .seq ?_
        refine .region [] mixed (by kernel_rfl) ?_
        refine .cons (.move .none (.s rfl)) rfl ?_
        refine .cons (.len .none sl23 (.s rfl)) rfl ?_
        refine .cons (.move .none (.int (by decide))) rfl ?_
        refine .nil ?_
        refine .then ?_
        obtain ⟨o_18, h, hK18⟩ := bindR_some h
        refine .thenJ (ι := Unit) (fun j_18 => []) (fun j_18 => []) (fun s => o_18 = Res.nx s) Sub.nil SubB.nil ?_ (fun j_18 hj18 => ?_)
        · skip
          refine .block ?_
          refine .rforEL h (fun p19_ => [(59, ⟨True, rep p19_.1⟩)]) (fun p19_ => []) (.cons (t := 59) rfl Sub.nil) SubB.nil (.cons (t := 10) rfl (.cons (t := 11) rfl (.cons (t := 57) rfl (.cons (t := 58) rfl Sub.nil)))) SubB.nil (fun p19_ o_19 h hD19 => ?_)
          refine .seq ?_
          refine .region [] mixed (by kernel_rfl) ?_
          refine .cons (.lt .none (.s rfl) (.s rfl)) rfl ?_
          refine .nil ?_
          refine .then ?_
          refine .seq ?_
          refine .cond (t := 60) rfl trivial (fun hb20 => ?_) (fun hb20 => ?_)
          · replace h := bif_t h hb20
            refine .skip ?_
            refine .then ?_
            refine .seq ?_
            obtain ⟨o_21, h, hK21⟩ := bindD_some h
            unfold layer_checkPair_L3 at h
            refine .thenJ (ι := Unit) (fun j_21 => []) (fun j_21 => []) (fun s => o_21 = Res.nx s) (.cons (t := 10) rfl (.cons (t := 11) rfl (.cons (t := 57) rfl (.cons (t := 58) rfl (.cons (t := 59) rfl Sub.nil))))) SubB.nil ?_ (fun j_21 hj21 => ?_)
            · skip
              refine .block ?_
              refine .seq ?_
              refine .region [([], []), ([], []), ([], [17]), ([17], [17])] mixed (by kernel_rfl) ?_
              obtain ⟨hn22, h⟩ := need_some h
              refine .consA (.indexAddr .none sl23 ty79 (.s rfl) (.s rfl) (fun _ => hn22)) rfl ?_
              obtain ⟨v2, hv23, h⟩ := bnd_some h
              refine .consA (.re hv23 (.load .none ty79 (.s rfl))) rfl ?_
              refine .consW (.alloc zo79 rfl) rfl rfl ?_
              refine .consN (.store ty79 rfl rfl (.s rfl)) rfl ?_
              refine .nil ?_
              refine .then ?_
              refine .freeze (t := 17) rfl rfl SubB.nil rfl ?_
              refine .seq ?_
              refine .region [] mixed (by kernel_rfl) ?_
              refine .cons (.move .none (.s rfl)) rfl ?_
              refine .cons (.fieldAddr .none fd79_0 hfd79_0 (.s rfl)) rfl ?_
              refine .cons (.load .none ty3 (.s rfl)) rfl ?_
              refine .cons (.lookupOk .none mo88 zo3 (.s rfl) (.s rfl)) rfl ?_
              refine .cons (.move .none (.s rfl)) rfl ?_
              refine .cons (.extract .none (.s rfl) rfl) rfl ?_
              refine .cons (.extract .none (.s rfl) rfl) rfl ?_
              refine .cons (.assign .none (.s rfl)) rfl ?_
              refine .cons (.assign .none (.s rfl)) rfl ?_
              refine .nil ?_
              refine .then ?_
              refine .seq ?_
              refine .region [] mixed (by kernel_rfl) ?_
              refine .cons (.move .none (.s rfl)) rfl ?_
              refine .cons (.fieldAddr .none fd79_1 hfd79_1 (.s rfl)) rfl ?_
              refine .cons (.load .none ty3 (.s rfl)) rfl ?_
              refine .cons (.lookupOk .none mo88 zo3 (.s rfl) (.s rfl)) rfl ?_
              refine .cons (.move .none (.s rfl)) rfl ?_
              refine .cons (.extract .none (.s rfl) rfl) rfl ?_
              refine .cons (.extract .none (.s rfl) rfl) rfl ?_
              refine .cons (.assign .none (.s rfl)) rfl ?_
              refine .cons (.assign .none (.s rfl)) rfl ?_
              refine .nil ?_
              refine .then ?_
              refine .seq ?_
              refine .region [] mixed (by kernel_rfl) ?_
              refine .cons (.move .none (.s rfl)) rfl ?_
              refine .cons (.not .none (.s rfl)) rfl ?_
              refine .cons (.move .none (.s rfl)) rfl ?_
              refine .cons (.move (.at rfl rfl) (.s rfl)) rfl ?_
              refine .cons (.not (.at rfl rfl) (.tmp rfl id)) rfl ?_
              refine .cons (.pickOr .none (.s rfl) (.tmp rfl id)) rfl ?_
              refine .nil ?_
              refine .then ?_
              refine .cond (t := 82) rfl trivial (fun hb24 => ?_) (fun hb24 => ?_)
              · replace h := bif_t h hb24
                refine .seq ?_
                refine .region [] mixed (by kernel_rfl) ?_
                refine .cons (.assign .none (.int (by decide))) rfl ?_
                refine .nil ?_
                refine .then ?_
                refine .ret ?_
                refine .blkRet ?_
                refine .thenRet ?_
                refine .thenRet ?_
                refine .blkRet ?_
                refine .thenRet ?_
                replace h := resd_ab hK21 (some_eq h)
                replace h := hD19 _ (some_eq h)
                replace h := resb_ab hK18 (some_eq h)
                obtain rfl := some_eq h
                exact Ends.ret1 (.inl rfl) Try.results80 (ResOK.tmp rfl trivial Imp.refl)
              · replace h := bif_f h hb24
                refine .skip ?_
                refine .blkNormal ?_
                exact Ends.join _ (some_eq h) (.cons (t := 10) rfl (.cons (t := 11) rfl (.cons (t := 57) rfl (.cons (t := 58) rfl (.cons (t := 59) rfl Sub.nil))))) SubB.nil
            · have h := resd_nx hK21 hj21
              refine .region [] mixed (by kernel_rfl) ?_
              refine .cons (.addW .none (.s rfl) (.int (by decide))) rfl ?_
              refine .cons (.move .none (.s rfl)) rfl ?_
              refine .nil ?_
              exact Ends.againL (some_eq h) (.cons (t := 59) rfl (.cons (t := 10) rfl (.cons (t := 11) rfl (.cons (t := 57) rfl (.cons (t := 58) rfl Sub.nil))))) SubB.nil
          · replace h := bif_f h hb20
            refine .exit ?_
            refine .thenExit ?_
            refine .thenExit ?_
            refine .blkExit ?_
            replace h := hD19 _ (some_eq h)
            exact Ends.join _ (some_eq h) Sub.nil SubB.nil
        · have h := resb_nx hK18 hj18
          refine .seq ?_
          refine .region [] mixed (by kernel_rfl) ?_
          refine .cons (.assign .none (.int (by decide))) rfl ?_
          refine .nil ?_
          refine .then ?_
          refine .ret ?_
          obtain rfl := some_eq h
          exact Ends.ret1 (.inl rfl) Try.results80 (ResOK.tmp rfl trivial Imp.refl)

theorem layer_crossings_ok {upper1 : (List Int)} {lower1 : (List Int)} {l1 : (List Link)} {r : Int}  (h : layer_crossings upper1 lower1 l1 = some r) : FSpec Try.prog 81 [rep upper1, rep lower1, rep l1] (rep r) := by
  unfold layer_crossings at h
  refine FSpec.intro (n := 58) fnok81 Try.func81 rfl Try.ntmps81 rfl (fun F => ?_)
  refine .seq ?_
  refine .region [] mixed (by kernel_rfl) ?_
  refine .cons (.assign .none (.int (by decide))) rfl ?_
  refine .nil ?_
  refine .then ?_
  refine .seq ?_
  refine .region [] mixed (by kernel_rfl) ?_
  refine .cons (.move .none (.s rfl)) rfl ?_
  obtain ⟨up1, hv1, h⟩ := bind_some h
  refine .cons (.call .none (layer_places_ok hv1) (.cons (.s rfl) .nil)) rfl ?_
  refine .cons (.move .none (.s rfl)) rfl ?_
  obtain ⟨low1, hv2, h⟩ := bind_some h
  refine .cons (.call .none (layer_places_ok hv2) (.cons (.s rfl) .nil)) rfl ?_
  refine .cons (.assign .none (.s rfl)) rfl ?_
  refine .cons (.assign .none (.s rfl)) rfl ?_
  refine .nil ?_
  refine .then ?_
  refine .seq ?_
  refine .region [] mixed (by kernel_rfl) ?_
  refine .cons (.assign .none (.int (by decide))) rfl ?_
  refine .nil ?_
  refine .then ?_
  refine .seq ?_
  refine .seq ?_
  refine .region [] mixed (by kernel_rfl) ?_
  refine .cons (.move .none (.s rfl)) rfl ?_
  refine .cons (.len .none sl23 (.s rfl)) rfl ?_
  refine .cons (.move .none (.int (by decide))) rfl ?_
  refine .nil ?_
  refine .then ?_
  obtain ⟨j_3, h, hK3⟩ := bind_some h
  refine .thenJ (ι := Int) (fun j_3 => [(9, ⟨True, rep j_3⟩)]) (fun j_3 => []) (fun s => j_3 = s) Sub.nil SubB.nil ?_ (fun j_3' hj3 => ?_)
  · skip
    refine .block ?_
    refine .rforL h (fun p4_ => [(20, ⟨True, rep p4_.1⟩), (9, ⟨True, rep p4_.2⟩)]) (fun p4_ => []) (.cons (t := 20) rfl (.cons (t := 9) rfl Sub.nil)) SubB.nil (.cons (t := 2) rfl (.cons (t := 7) rfl (.cons (t := 8) rfl (.cons (t := 18) rfl (.cons (t := 19) rfl Sub.nil))))) SubB.nil (fun p4_ o_4 h hD4 => ?_)
    refine .seq ?_
    refine .region [] mixed (by kernel_rfl) ?_
    refine .cons (.lt .none (.s rfl) (.s rfl)) rfl ?_
    refine .nil ?_
    refine .then ?_
    refine .seq ?_
    refine .cond (t := 21) rfl trivial (fun hb5 => ?_) (fun hb5 => ?_)
    · replace h := bif_t h hb5
      refine .skip ?_
      refine .then ?_
      refine .seq ?_
      obtain ⟨j_6, h, hK6⟩ := bind_some h
      unfold layer_crossings_L1 at h
      refine .thenJ (ι := Int) (fun j_6 => [(9, ⟨True, rep j_6⟩)]) (fun j_6 => []) (fun s => j_6 = s) (.cons (t := 2) rfl (.cons (t := 7) rfl (.cons (t := 8) rfl (.cons (t := 18) rfl (.cons (t := 19) rfl (.cons (t := 20) rfl Sub.nil)))))) SubB.nil ?_ (fun j_6' hj6 => ?_)
      · skip
        refine .block ?_
        refine .seq ?_
        refine .region [([], []), ([], []), ([], []), ([], [11]), ([], []), ([11], [11])] mixed (by kernel_rfl) ?_
        refine .consA (.move .none (.s rfl)) rfl ?_
        obtain ⟨hn7, h⟩ := need_some h
        refine .consA (.indexAddr .none sl23 ty79 (.s rfl) (.s rfl) (fun _ => hn7)) rfl ?_
        obtain ⟨v1, hv8, h⟩ := bnd_some h
        refine .consA (.re hv8 (.load .none ty79 (.s rfl))) rfl ?_
        refine .consW (.alloc zo79 rfl) rfl rfl ?_
        refine .consA (.assign .none (.s rfl)) rfl ?_
        refine .consN (.store ty79 rfl rfl (.s rfl)) rfl ?_
        refine .nil ?_
        refine .then ?_
        refine .freeze (t := 11) rfl rfl SubB.nil rfl ?_
        refine .seq ?_
        refine .region [] mixed (by kernel_rfl) ?_
        refine .cons (.move .none (.s rfl)) rfl ?_
        refine .cons (.move .none (.s rfl)) rfl ?_
        obtain ⟨hn9, h⟩ := need_some h
        obtain ⟨v2, hv10, h⟩ := bnd_some h
        refine .cons (.re hv10 (.slice .none sl23 ty79 (.s rfl) rfl (.s rfl) (fun _ => hn9))) rfl ?_
        refine .cons (.len .none sl23 (.s rfl)) rfl ?_
        refine .cons (.move .none (.int (by decide))) rfl ?_
        refine .nil ?_
        refine .then ?_
        refine .block ?_
        refine .rforL h (fun p11_ => [(29, ⟨True, rep p11_.1⟩), (9, ⟨True, rep p11_.2⟩)]) (fun p11_ => []) (.cons (t := 29) rfl (.cons (t := 9) rfl Sub.nil)) SubB.nil (.cons (t := 2) rfl (.cons (t := 7) rfl (.cons (t := 8) rfl (.cons (t := 11) rfl (.cons (t := 18) rfl (.cons (t := 19) rfl (.cons (t := 20) rfl (.cons (t := 27) rfl (.cons (t := 28) rfl Sub.nil))))))))) SubB.nil (fun p11_ o_11 h hD11 => ?_)
        refine .seq ?_
        refine .region [] mixed (by kernel_rfl) ?_
        refine .cons (.lt .none (.s rfl) (.s rfl)) rfl ?_
        refine .nil ?_
        refine .then ?_
        refine .seq ?_
        refine .cond (t := 30) rfl trivial (fun hb12 => ?_) (fun hb12 => ?_)
        · replace h := bif_t h hb12
          refine .skip ?_
          refine .then ?_
          refine .seq ?_
          obtain ⟨j_13, h, hK13⟩ := bind_some h
          unfold layer_crossings_L2 at h
          refine .thenJ (ι := Int) (fun j_13 => [(9, ⟨True, rep j_13⟩)]) (fun j_13 => []) (fun s => j_13 = s) (.cons (t := 2) rfl (.cons (t := 7) rfl (.cons (t := 8) rfl (.cons (t := 11) rfl (.cons (t := 18) rfl (.cons (t := 19) rfl (.cons (t := 20) rfl (.cons (t := 27) rfl (.cons (t := 28) rfl (.cons (t := 29) rfl Sub.nil)))))))))) SubB.nil ?_ (fun j_13' hj13 => ?_)
          · skip
            refine .block ?_
            refine .seq ?_
            refine .region [([], []), ([], []), ([], [13]), ([13], [13])] mixed (by kernel_rfl) ?_
            obtain ⟨hn14, h⟩ := need_some h
            refine .consA (.indexAddr .none sl23 ty79 (.s rfl) (.s rfl) (fun _ => hn14)) rfl ?_
            obtain ⟨v3, hv15, h⟩ := bnd_some h
            refine .consA (.re hv15 (.load .none ty79 (.s rfl))) rfl ?_
            refine .consW (.alloc zo79 rfl) rfl rfl ?_
            refine .consN (.store ty79 rfl rfl (.s rfl)) rfl ?_
            refine .nil ?_
            refine .then ?_
            refine .freeze (t := 13) rfl rfl SubB.nil rfl ?_
            refine .seq ?_
            refine .region [] mixed (by kernel_rfl) ?_
            refine .cons (.move .none (.s rfl)) rfl ?_
            refine .cons (.fieldAddr .none fd79_0 hfd79_0 (.s rfl)) rfl ?_
            refine .cons (.load .none ty3 (.s rfl)) rfl ?_
            refine .cons (.lookup .none mo88 zo3 (.s rfl) (.s rfl)) rfl ?_
            refine .cons (.move .none (.s rfl)) rfl ?_
            refine .cons (.fieldAddr .none fd79_0 hfd79_0 (.s rfl)) rfl ?_
            refine .cons (.load .none ty3 (.s rfl)) rfl ?_
            refine .cons (.lookup .none mo88 zo3 (.s rfl) (.s rfl)) rfl ?_
            refine .cons (.subW .none (.s rfl) (.s rfl)) rfl ?_
            refine .cons (.move .none (.s rfl)) rfl ?_
            refine .cons (.fieldAddr .none fd79_1 hfd79_1 (.s rfl)) rfl ?_
            refine .cons (.load .none ty3 (.s rfl)) rfl ?_
            refine .cons (.lookup .none mo88 zo3 (.s rfl) (.s rfl)) rfl ?_
            refine .cons (.move .none (.s rfl)) rfl ?_
            refine .cons (.fieldAddr .none fd79_1 hfd79_1 (.s rfl)) rfl ?_
            refine .cons (.load .none ty3 (.s rfl)) rfl ?_
            refine .cons (.lookup .none mo88 zo3 (.s rfl) (.s rfl)) rfl ?_
            refine .cons (.subW .none (.s rfl) (.s rfl)) rfl ?_
            refine .cons (.mulW .none (.s rfl) (.s rfl)) rfl ?_
            refine .cons (.lt .none (.s rfl) (.int (by decide))) rfl ?_
            refine .nil ?_
            refine .then ?_
            refine .cond (t := 52) rfl trivial (fun hb16 => ?_) (fun hb16 => ?_)
            · replace h := bif_t h hb16
              refine .region [] mixed (by kernel_rfl) ?_
              refine .cons (.move .none (.s rfl)) rfl ?_
              refine .cons (.addW .none (.s rfl) (.int (by decide))) rfl ?_
              obtain ⟨n1, hv17, h⟩ := bnd_some h
              refine .cons (.re hv17 (.assign .none (.s rfl))) rfl ?_
              refine .nil ?_
              refine .blkNormal ?_
              exact Ends.join _ (some_eq h) (.cons (t := 9) rfl (.cons (t := 2) rfl (.cons (t := 7) rfl (.cons (t := 8) rfl (.cons (t := 11) rfl (.cons (t := 18) rfl (.cons (t := 19) rfl (.cons (t := 20) rfl (.cons (t := 27) rfl (.cons (t := 28) rfl (.cons (t := 29) rfl Sub.nil))))))))))) SubB.nil
            · replace h := bif_f h hb16
              refine .skip ?_
              refine .blkNormal ?_
              exact Ends.join _ (some_eq h) (.cons (t := 9) rfl (.cons (t := 2) rfl (.cons (t := 7) rfl (.cons (t := 8) rfl (.cons (t := 11) rfl (.cons (t := 18) rfl (.cons (t := 19) rfl (.cons (t := 20) rfl (.cons (t := 27) rfl (.cons (t := 28) rfl (.cons (t := 29) rfl Sub.nil))))))))))) SubB.nil
          · subst hj13; have h := hK13; clear hK13
            refine .region [] mixed (by kernel_rfl) ?_
            refine .cons (.addW .none (.s rfl) (.int (by decide))) rfl ?_
            refine .cons (.move .none (.s rfl)) rfl ?_
            refine .nil ?_
            exact Ends.againL (some_eq h) (.cons (t := 29) rfl (.cons (t := 9) rfl (.cons (t := 2) rfl (.cons (t := 7) rfl (.cons (t := 8) rfl (.cons (t := 11) rfl (.cons (t := 18) rfl (.cons (t := 19) rfl (.cons (t := 20) rfl (.cons (t := 27) rfl (.cons (t := 28) rfl Sub.nil))))))))))) SubB.nil
        · replace h := bif_f h hb12
          refine .exit ?_
          refine .thenExit ?_
          refine .thenExit ?_
          refine .blkExit ?_
          refine .blkNormal ?_
          replace h := hD11 _ (some_eq h)
          exact Ends.join _ (some_eq h) (.cons (t := 9) rfl (.cons (t := 2) rfl (.cons (t := 7) rfl (.cons (t := 8) rfl (.cons (t := 18) rfl (.cons (t := 19) rfl (.cons (t := 20) rfl Sub.nil))))))) SubB.nil
      · subst hj6; have h := hK6; clear hK6
        refine .region [] mixed (by kernel_rfl) ?_
        refine .cons (.addW .none (.s rfl) (.int (by decide))) rfl ?_
        refine .cons (.move .none (.s rfl)) rfl ?_
        refine .nil ?_
        exact Ends.againL (some_eq h) (.cons (t := 20) rfl (.cons (t := 9) rfl (.cons (t := 2) rfl (.cons (t := 7) rfl (.cons (t := 8) rfl (.cons (t := 18) rfl (.cons (t := 19) rfl Sub.nil))))))) SubB.nil
    · replace h := bif_f h hb5
      refine .exit ?_
      refine .thenExit ?_
      refine .thenExit ?_
      refine .blkExit ?_
      replace h := hD4 _ (some_eq h)
      exact Ends.join _ (some_eq h) (.cons (t := 9) rfl Sub.nil) SubB.nil
  · subst hj3; have h := hK3; clear hK3
    refine .seq ?_
    refine .region [] mixed (by kernel_rfl) ?_
    refine .cons (.move .none (.s rfl)) rfl ?_
    refine .cons (.assign .none (.s rfl)) rfl ?_
    refine .nil ?_
    refine .then ?_
    refine .ret ?_
    obtain rfl := some_eq h
    exact Ends.ret1 (.inl rfl) Try.results81 (ResOK.tmp rfl trivial Imp.refl)

theorem layer_Crossings_ok {upper1 : (List Int)} {lower1 : (List Int)} {l1 : (List Link)} {r : (Int × Int)}  (h : layer_Crossings upper1 lower1 l1 = some r) : FSpec Try.prog 39 [rep upper1, rep lower1, rep l1] (tup [rep r.1, rep r.2]) := by
  unfold layer_Crossings at h
  refine FSpec.intro (n := 20) fnok39 Try.func39 rfl Try.ntmps39 rfl (fun F => ?_)
  refine .seq ?_
  refine .region [] mixed (by kernel_rfl) ?_
  refine .cons (.assign .none (.int (by decide))) rfl ?_
  refine .cons (.assign .none (.int (by decide))) rfl ?_
  refine .nil ?_
  refine .then ?_
  refine .seq ?_
  refine .seq ?_
  refine .region [] mixed (by kernel_rfl) ?_
  refine .cons (.move .none (.s rfl)) rfl ?_
  refine .cons (.move .none (.s rfl)) rfl ?_
  refine .cons (.move .none (.s rfl)) rfl ?_
  obtain ⟨e1, hv1, h⟩ := bind_some h
  refine .cons (.call .none (layer_checkPair_ok hv1) (.cons (.s rfl) (.cons (.s rfl) (.cons (.s rfl) .nil)))) rfl ?_
  refine .cons (.assign .none (.s rfl)) rfl ?_
  refine .nil ?_
  refine .then ?_
  refine .seq ?_
  refine .region [] mixed (by kernel_rfl) ?_
  refine .cons (.move .none (.s rfl)) rfl ?_
  refine .cons (.neI .none (.s rfl) (.int (by decide))) rfl ?_
  refine .nil ?_
  refine .then ?_
  refine .cond (t := 14) rfl trivial (fun hb2 => ?_) (fun hb2 => ?_)
  · replace h := bif_t h hb2
    refine .seq ?_
    refine .region [] mixed (by kernel_rfl) ?_
    refine .cons (.move .none (.s rfl)) rfl ?_
    refine .cons (.assign .none (.int (by decide))) rfl ?_
    refine .cons (.assign .none (.s rfl)) rfl ?_
    refine .nil ?_
    refine .then ?_
    refine .ret ?_
    refine .thenRet ?_
    obtain rfl := some_eq h
    exact Ends.ret2 (.inl rfl) Try.results39 (ResOK.tmp rfl trivial Imp.refl) (ResOK.tmp rfl trivial Imp.refl)
  · replace h := bif_f h hb2
    refine .skip ?_
    refine .then ?_
    refine .seq ?_
    refine .region [] mixed (by kernel_rfl) ?_
    refine .cons (.move .none (.s rfl)) rfl ?_
    refine .cons (.move .none (.s rfl)) rfl ?_
    refine .cons (.move .none (.s rfl)) rfl ?_
    obtain ⟨r1, hv3, h⟩ := bind_some h
    refine .cons (.call .none (layer_crossings_ok hv3) (.cons (.s rfl) (.cons (.s rfl) (.cons (.s rfl) .nil)))) rfl ?_
    refine .cons (.assign .none (.s rfl)) rfl ?_
    refine .cons (.assign .none (.int (by decide))) rfl ?_
    refine .nil ?_
    refine .then ?_
    refine .ret ?_
    obtain rfl := some_eq h
    exact Ends.ret2 (.inl rfl) Try.results39 (ResOK.tmp rfl trivial Imp.refl) (ResOK.tmp rfl trivial Imp.refl)

theorem layer_Check_1_ok {k1 : Int} {c0_1 : Int} {r : Bool}  (h : layer_Check_1 k1 c0_1 = some r) : FSpec Try.prog 65 [rep k1, ref c0_1] (rep r) := by
  unfold layer_Check_1 at h
  refine FSpec.intro (n := 11) fnok65 Try.func65 rfl Try.ntmps65 rfl (fun F => ?_)
  refine .seq ?_
  refine .region [] mixed (by kernel_rfl) ?_
  refine .cons (.assign .none .bool) rfl ?_
  refine .nil ?_
  refine .then ?_
  refine .seq ?_
  refine .region [] mixed (by kernel_rfl) ?_
  refine .cons (.move .none (.s rfl)) rfl ?_
  refine .cons (.ge .none (.s rfl) (.int (by decide))) rfl ?_
  refine .cons (.move .none (.s rfl)) rfl ?_
  refine .cons (.move (.at rfl rfl) (.s rfl)) rfl ?_
  refine .cons (.load (.at rfl rfl) ty3 (.s rfl)) rfl ?_
  refine .cons (.lt (.at rfl rfl) (.tmp rfl id) (.tmp rfl id)) rfl ?_
  refine .cons (.pickAnd .none (.s rfl) (.tmp rfl id)) rfl ?_
  refine .cons (.assign .none (.s rfl)) rfl ?_
  refine .nil ?_
  refine .then ?_
  refine .ret ?_
  obtain rfl := some_eq h
  exact Ends.ret1 (.inl rfl) Try.results65 (ResOK.tmp rfl trivial Imp.refl)

theorem layer_Check_ok {n1 : Int} {l1 : (List Link)} {r : Int}  (h : layer_Check n1 l1 = some r) : FSpec Try.prog 19 [rep n1, rep l1] (rep r) := by
  unfold layer_Check at h
  refine FSpec.intro (n := 44) fnok19 Try.func19 rfl Try.ntmps19 rfl (fun F => ?_)
  refine .seq ?_
  refine .region [] mixed (by kernel_rfl) ?_
  refine .cons (.box .none (.s rfl)) rfl ?_
  refine .cons (.assign .none (.int (by decide))) rfl ?_
  refine .nil ?_
  refine .then ?_
  refine .seq ?_
  refine .block ?_
  refine .seq ?_
  refine .region [] mixed (by kernel_rfl) ?_
  refine .cons (.load .none ty3 (.s rfl)) rfl ?_
  refine .cons (.lt .none (.s rfl) (.int (by decide))) rfl ?_
  refine .cons (.move .none (.s rfl)) rfl ?_
  refine .cons (.load (.at rfl rfl) ty3 (.s rfl)) rfl ?_
  refine .cons (.gt (.at rfl rfl) (.tmp rfl id) (.int (by decide))) rfl ?_
  refine .cons (.pickOr .none (.s rfl) (.tmp rfl id)) rfl ?_
  refine .cons (.assign .none (.s rfl)) rfl ?_
  refine .nil ?_
  refine .then ?_
  refine .cond (t := 8) rfl trivial (fun hb1 => ?_) (fun hb1 => ?_)
  · replace h := bif_t h hb1
    refine .seq ?_
    refine .region [] mixed (by kernel_rfl) ?_
    refine .cons (.assign .none (.int (by decide))) rfl ?_
    refine .nil ?_
    refine .then ?_
    refine .ret ?_
    refine .blkRet ?_
    refine .thenRet ?_
    obtain rfl := some_eq h
    exact Ends.ret1 (.inl rfl) Try.results19 (ResOK.tmp rfl trivial Imp.refl)
  · replace h := bif_f h hb1
    refine .seq ?_
    refine .region [] mixed (by kernel_rfl) ?_
    refine .cons (.move .none (.s rfl)) rfl ?_
    refine .cons (.len .none sl23 (.s rfl)) rfl ?_
    refine .cons (.gt .none (.s rfl) (.int (by decide))) rfl ?_
    refine .cons (.assign .none (.s rfl)) rfl ?_
    refine .nil ?_
    refine .then ?_
    refine .cond (t := 15) rfl trivial (fun hb2 => ?_) (fun hb2 => ?_)
    · replace h := bif_t h hb2
      refine .seq ?_
      refine .region [] mixed (by kernel_rfl) ?_
      refine .cons (.assign .none (.int (by decide))) rfl ?_
      refine .nil ?_
      refine .then ?_
      refine .ret ?_
      refine .blkRet ?_
      refine .thenRet ?_
      obtain rfl := some_eq h
      exact Ends.ret1 (.inl rfl) Try.results19 (ResOK.tmp rfl trivial Imp.refl)
    · replace h := bif_f h hb2
      refine .skip ?_
      refine .blkNormal ?_
      refine .then ?_
      refine .seq ?_
      refine .region [] mixed (by kernel_rfl) ?_
      refine .cons (.makeFunc (ι := Int × Bool) (pre := fun i => (fun x0 => layer_Check_1 x0 n1) i.1 = some i.2) (Ss := fun i => [rep i.1]) (S := fun i => rep i.2) .none fnok65 (fun i h => layer_Check_1_ok h) (.cons (.s rfl) .nil)) rfl ?_
      refine .cons (.assign .none (.s rfl)) rfl ?_
      refine .nil ?_
      refine .then ?_
      refine .seq ?_
      refine .seq ?_
      refine .region [] mixed (by kernel_rfl) ?_
      refine .cons (.move .none (.s rfl)) rfl ?_
      refine .cons (.len .none sl23 (.s rfl)) rfl ?_
      refine .cons (.move .none (.int (by decide))) rfl ?_
      refine .nil ?_
      refine .then ?_
      obtain ⟨o_3, h, hK3⟩ := bindR_some h
      refine .thenJ (ι := Unit) (fun j_3 => []) (fun j_3 => []) (fun s => o_3 = Res.nx s) Sub.nil SubB.nil ?_ (fun j_3 hj3 => ?_)
      · skip
        refine .block ?_
        refine .rforEL h (fun p4_ => [(22, ⟨True, rep p4_.1⟩)]) (fun p4_ => []) (.cons (t := 22) rfl Sub.nil) SubB.nil (.cons (t := 2) rfl (.cons (t := 5) rfl (.cons (t := 20) rfl (.cons (t := 21) rfl Sub.nil)))) SubB.nil (fun p4_ o_4 h hD4 => ?_)
        refine .seq ?_
        refine .region [] mixed (by kernel_rfl) ?_
        refine .cons (.lt .none (.s rfl) (.s rfl)) rfl ?_
        refine .nil ?_
        refine .then ?_
        refine .seq ?_
        refine .cond (t := 23) rfl trivial (fun hb5 => ?_) (fun hb5 => ?_)
        · replace h := bif_t h hb5
          refine .skip ?_
          refine .then ?_
          refine .seq ?_
          obtain ⟨o_6, h, hK6⟩ := bindD_some h
          unfold layer_Check_L1 at h
          refine .thenJ (ι := Unit) (fun j_6 => []) (fun j_6 => []) (fun s => o_6 = Res.nx s) (.cons (t := 2) rfl (.cons (t := 5) rfl (.cons (t := 20) rfl (.cons (t := 21) rfl (.cons (t := 22) rfl Sub.nil))))) SubB.nil ?_ (fun j_6 hj6 => ?_)
          · skip
            refine .block ?_
            refine .seq ?_
            refine .region [([], []), ([], []), ([], [7]), ([7], [7])] mixed (by kernel_rfl) ?_
            obtain ⟨hn7, h⟩ := need_some h
            refine .consA (.indexAddr .none sl23 ty79 (.s rfl) (.s rfl) (fun _ => hn7)) rfl ?_
            obtain ⟨v1, hv8, h⟩ := bnd_some h
            refine .consA (.re hv8 (.load .none ty79 (.s rfl))) rfl ?_
            refine .consW (.alloc zo79 rfl) rfl rfl ?_
            refine .consN (.store ty79 rfl rfl (.s rfl)) rfl ?_
            refine .nil ?_
            refine .then ?_
            refine .freeze (t := 7) rfl rfl SubB.nil rfl ?_
            refine .seq ?_
            refine .seq ?_
            refine .region [] mixed (by kernel_rfl) ?_
            refine .cons (.move .none (.s rfl)) rfl ?_
            refine .cons (.fieldAddr .none fd79_0 hfd79_0 (.s rfl)) rfl ?_
            refine .cons (.load .none ty3 (.s rfl)) rfl ?_
            obtain ⟨r1, hv9, h⟩ := bind_some h
            refine .cons (.callV (v1.From, r1) .none (.s rfl) (fun _ => hv9) (.cons (.s rfl) .nil)) rfl ?_
            refine .cons (.not .none (.s rfl)) rfl ?_
            refine .cons (.move .none (.s rfl)) rfl ?_
            refine .cons (.move (.at rfl rfl) (.s rfl)) rfl ?_
            refine .cons (.fieldAddr (.at rfl rfl) fd79_1 hfd79_1 (.s rfl)) rfl ?_
            refine .cons (.load (.at rfl rfl) ty3 (.tmp rfl id)) rfl ?_
            obtain ⟨r2, hv10, h⟩ := bind_some h
            refine .cons (.callV (v1.To, r2) (.at rfl rfl) (.tmp rfl id) (fun hg => gd_some hv10 ((notT hg.2))) (.cons (.tmp rfl id) .nil)) rfl ?_
            refine .cons (.not (.at rfl rfl) (.tmp rfl id)) rfl ?_
            refine .cons (.pickOr .none (.s rfl) (.tmp rfl id)) rfl ?_
            refine .nil ?_
            refine .then ?_
            refine .cond (t := 37) rfl trivial (fun hb11 => ?_) (fun hb11 => ?_)
            · replace h := bif_t h hb11
              refine .seq ?_
              refine .region [] mixed (by kernel_rfl) ?_
              refine .cons (.assign .none (.int (by decide))) rfl ?_
              refine .nil ?_
              refine .then ?_
              refine .ret ?_
              refine .thenRet ?_
              refine .blkRet ?_
              refine .thenRet ?_
              refine .thenRet ?_
              refine .blkRet ?_
              refine .thenRet ?_
              replace h := resd_ab hK6 (some_eq h)
              replace h := hD4 _ (some_eq h)
              replace h := resb_ab hK3 (some_eq h)
              obtain rfl := some_eq h
              exact Ends.ret1 (.inl rfl) Try.results19 (ResOK.tmp rfl trivial Imp.refl)
            · replace h := bif_f h hb11
              refine .skip ?_
              refine .then ?_
              refine .seq ?_
              refine .region [] mixed (by kernel_rfl) ?_
              refine .cons (.fieldAddr .none fd79_0 hfd79_0 (.s rfl)) rfl ?_
              refine .cons (.load .none ty3 (.s rfl)) rfl ?_
              refine .cons (.fieldAddr .none fd79_1 hfd79_1 (.s rfl)) rfl ?_
              refine .cons (.load .none ty3 (.s rfl)) rfl ?_
              refine .cons (.eqI .none (.s rfl) (.s rfl)) rfl ?_
              refine .nil ?_
              refine .then ?_
              refine .cond (t := 42) rfl trivial (fun hb12 => ?_) (fun hb12 => ?_)
              · replace h := bif_t h hb12
                refine .seq ?_
                refine .region [] mixed (by kernel_rfl) ?_
                refine .cons (.assign .none (.int (by decide))) rfl ?_
                refine .nil ?_
                refine .then ?_
                refine .ret ?_
                refine .blkRet ?_
                refine .thenRet ?_
                refine .thenRet ?_
                refine .blkRet ?_
                refine .thenRet ?_
                replace h := resd_ab hK6 (some_eq h)
                replace h := hD4 _ (some_eq h)
                replace h := resb_ab hK3 (some_eq h)
                obtain rfl := some_eq h
                exact Ends.ret1 (.inl rfl) Try.results19 (ResOK.tmp rfl trivial Imp.refl)
              · replace h := bif_f h hb12
                refine .skip ?_
                refine .blkNormal ?_
                exact Ends.join _ (some_eq h) (.cons (t := 2) rfl (.cons (t := 5) rfl (.cons (t := 20) rfl (.cons (t := 21) rfl (.cons (t := 22) rfl Sub.nil))))) SubB.nil
          · have h := resd_nx hK6 hj6
            refine .region [] mixed (by kernel_rfl) ?_
            refine .cons (.addW .none (.s rfl) (.int (by decide))) rfl ?_
            refine .cons (.move .none (.s rfl)) rfl ?_
            refine .nil ?_
            exact Ends.againL (some_eq h) (.cons (t := 22) rfl (.cons (t := 2) rfl (.cons (t := 5) rfl (.cons (t := 20) rfl (.cons (t := 21) rfl Sub.nil))))) SubB.nil
        · replace h := bif_f h hb5
          refine .exit ?_
          refine .thenExit ?_
          refine .thenExit ?_
          refine .blkExit ?_
          replace h := hD4 _ (some_eq h)
          exact Ends.join _ (some_eq h) Sub.nil SubB.nil
      · have h := resb_nx hK3 hj3
        refine .seq ?_
        refine .region [] mixed (by kernel_rfl) ?_
        refine .cons (.assign .none (.int (by decide))) rfl ?_
        refine .nil ?_
        refine .then ?_
        refine .ret ?_
        obtain rfl := some_eq h
        exact Ends.ret1 (.inl rfl) Try.results19 (ResOK.tmp rfl trivial Imp.refl)

theorem law_layers_ok  {r : Bool}  (h : law_layers  = some r) : FSpec Try.prog 12 [] (rep r) := by
  unfold law_layers at h
  refine FSpec.intro (n := 7) fnok12 Try.func12 rfl Try.ntmps12 rfl (fun F => ?_)
  refine .seq ?_
  refine .region [] mixed (by kernel_rfl) ?_
  refine .cons (.assign .none .bool) rfl ?_
  refine .nil ?_
  refine .then ?_
  refine .seq ?_
  refine .region [] mixed (by kernel_rfl) ?_
  obtain ⟨r1, hv1, h⟩ := bind_some h
  refine .cons (.call .none (layer_Check_ok hv1) (.cons (.int (by decide)) (.cons (.const (x := ([] : (List Link))) (fun M w => ⟨_, ⟨none, 0, rfl, Nat.le_refl _, by decide, rfl⟩, rfl⟩)) .nil))) rfl ?_
  refine .cons (.eqI .none (.s rfl) (.int (by decide))) rfl ?_
  refine .cons (.move .none (.s rfl)) rfl ?_
  obtain ⟨r2, hv2, h⟩ := bind_some h
  refine .cons (.callIf (.at rfl rfl) fnok19 (fun hg => layer_Check_ok ((fun hg => gd_some hv2 (hg.2)) hg)) (.cons (.int (by decide)) (.cons (.const (x := ([] : (List Link))) (fun M w => ⟨_, ⟨none, 0, rfl, Nat.le_refl _, by decide, rfl⟩, rfl⟩)) .nil)) (fun h => h)) rfl ?_
  refine .cons (.eqI (.at rfl rfl) (.tmp rfl id) (.int (by decide))) rfl ?_
  refine .cons (.pickAnd .none (.s rfl) (.tmp rfl id)) rfl ?_
  refine .cons (.assign .none (.s rfl)) rfl ?_
  refine .nil ?_
  refine .then ?_
  refine .ret ?_
  obtain rfl := some_eq h
  exact Ends.ret1 (.inl rfl) Try.results12 (ResOK.tmp rfl trivial Imp.refl)

theorem ref_Sign_ok {n1 : Int} {r : Int}  (h : ref_Sign n1 = some r) : FSpec Try.prog 82 [rep n1] (rep r) := by
  unfold ref_Sign at h
  refine FSpec.intro (n := 6) fnok82 Try.func82 rfl Try.ntmps82 rfl (fun F => ?_)
  refine .seq ?_
  refine .region [] mixed (by kernel_rfl) ?_
  refine .cons (.assign .none (.int (by decide))) rfl ?_
  refine .nil ?_
  refine .then ?_
  refine .seq ?_
  refine .region [] mixed (by kernel_rfl) ?_
  refine .cons (.move .none (.s rfl)) rfl ?_
  refine .cons (.max2 .none (.s rfl) (.int (by decide))) rfl ?_
  refine .cons (.min2 .none (.s rfl) (.int (by decide))) rfl ?_
  refine .cons (.assign .none (.s rfl)) rfl ?_
  refine .nil ?_
  refine .then ?_
  refine .ret ?_
  obtain rfl := some_eq h
  exact Ends.ret1 (.inl rfl) Try.results82 (ResOK.tmp rfl trivial Imp.refl)

theorem ref_CrossingsOf_ok {upper1 : (List Int)} {lower1 : (List Int)} {l1 : (List Link)} {r : Int}  (h : ref_CrossingsOf upper1 lower1 l1 = some r) : FSpec Try.prog 42 [rep upper1, rep lower1, rep l1] (rep r) := by
  unfold ref_CrossingsOf at h
  refine FSpec.intro (n := 58) fnok42 Try.func42 rfl Try.ntmps42 rfl (fun F => ?_)
  refine .seq ?_
  refine .region [] mixed (by kernel_rfl) ?_
  refine .cons (.assign .none (.int (by decide))) rfl ?_
  refine .nil ?_
  refine .then ?_
  refine .seq ?_
  refine .region [] mixed (by kernel_rfl) ?_
  refine .cons (.assign .none (.int (by decide))) rfl ?_
  refine .nil ?_
  refine .then ?_
  refine .seq ?_
  refine .seq ?_
  refine .region [] mixed (by kernel_rfl) ?_
  refine .cons (.move .none (.s rfl)) rfl ?_
  refine .cons (.len .none sl23 (.s rfl)) rfl ?_
  refine .cons (.move .none (.int (by decide))) rfl ?_
  refine .nil ?_
  refine .then ?_
  obtain ⟨j_1, h, hK1⟩ := bind_some h
  refine .thenJ (ι := Int) (fun j_1 => [(7, ⟨True, rep j_1⟩)]) (fun j_1 => []) (fun s => j_1 = s) Sub.nil SubB.nil ?_ (fun j_1' hj1 => ?_)
  · skip
    refine .block ?_
    refine .rforL h (fun p2_ => [(16, ⟨True, rep p2_.1⟩), (7, ⟨True, rep p2_.2⟩)]) (fun p2_ => []) (.cons (t := 16) rfl (.cons (t := 7) rfl Sub.nil)) SubB.nil (.cons (t := 0) rfl (.cons (t := 1) rfl (.cons (t := 2) rfl (.cons (t := 14) rfl (.cons (t := 15) rfl Sub.nil))))) SubB.nil (fun p2_ o_2 h hD2 => ?_)
    refine .seq ?_
    refine .region [] mixed (by kernel_rfl) ?_
    refine .cons (.lt .none (.s rfl) (.s rfl)) rfl ?_
    refine .nil ?_
    refine .then ?_
    refine .seq ?_
    refine .cond (t := 17) rfl trivial (fun hb3 => ?_) (fun hb3 => ?_)
    · replace h := bif_t h hb3
      refine .skip ?_
      refine .then ?_
      refine .seq ?_
      obtain ⟨j_4, h, hK4⟩ := bind_some h
      unfold ref_CrossingsOf_L1 at h
      refine .thenJ (ι := Int) (fun j_4 => [(7, ⟨True, rep j_4⟩)]) (fun j_4 => []) (fun s => j_4 = s) (.cons (t := 0) rfl (.cons (t := 1) rfl (.cons (t := 2) rfl (.cons (t := 14) rfl (.cons (t := 15) rfl (.cons (t := 16) rfl Sub.nil)))))) SubB.nil ?_ (fun j_4' hj4 => ?_)
      · skip
        refine .block ?_
        refine .seq ?_
        refine .region [([], []), ([], []), ([], []), ([], [9]), ([], []), ([9], [9])] mixed (by kernel_rfl) ?_
        refine .consA (.move .none (.s rfl)) rfl ?_
        obtain ⟨hn5, h⟩ := need_some h
        refine .consA (.indexAddr .none sl23 ty79 (.s rfl) (.s rfl) (fun _ => hn5)) rfl ?_
        obtain ⟨v1, hv6, h⟩ := bnd_some h
        refine .consA (.re hv6 (.load .none ty79 (.s rfl))) rfl ?_
        refine .consW (.alloc zo79 rfl) rfl rfl ?_
        refine .consA (.assign .none (.s rfl)) rfl ?_
        refine .consN (.store ty79 rfl rfl (.s rfl)) rfl ?_
        refine .nil ?_
        refine .then ?_
        refine .freeze (t := 9) rfl rfl SubB.nil rfl ?_
        refine .seq ?_
        refine .region [] mixed (by kernel_rfl) ?_
        refine .cons (.move .none (.s rfl)) rfl ?_
        refine .cons (.move .none (.s rfl)) rfl ?_
        obtain ⟨hn7, h⟩ := need_some h
        obtain ⟨v2, hv8, h⟩ := bnd_some h
        refine .cons (.re hv8 (.slice .none sl23 ty79 (.s rfl) rfl (.s rfl) (fun _ => hn7))) rfl ?_
        refine .cons (.len .none sl23 (.s rfl)) rfl ?_
        refine .cons (.move .none (.int (by decide))) rfl ?_
        refine .nil ?_
        refine .then ?_
        refine .block ?_
        refine .rforL h (fun p9_ => [(25, ⟨True, rep p9_.1⟩), (7, ⟨True, rep p9_.2⟩)]) (fun p9_ => []) (.cons (t := 25) rfl (.cons (t := 7) rfl Sub.nil)) SubB.nil (.cons (t := 0) rfl (.cons (t := 1) rfl (.cons (t := 2) rfl (.cons (t := 9) rfl (.cons (t := 14) rfl (.cons (t := 15) rfl (.cons (t := 16) rfl (.cons (t := 23) rfl (.cons (t := 24) rfl Sub.nil))))))))) SubB.nil (fun p9_ o_9 h hD9 => ?_)
        refine .seq ?_
        refine .region [] mixed (by kernel_rfl) ?_
        refine .cons (.lt .none (.s rfl) (.s rfl)) rfl ?_
        refine .nil ?_
        refine .then ?_
        refine .seq ?_
        refine .cond (t := 26) rfl trivial (fun hb10 => ?_) (fun hb10 => ?_)
        · replace h := bif_t h hb10
          refine .skip ?_
          refine .then ?_
          refine .seq ?_
          obtain ⟨j_11, h, hK11⟩ := bind_some h
          unfold ref_CrossingsOf_L2 at h
          refine .thenJ (ι := Int) (fun j_11 => [(7, ⟨True, rep j_11⟩)]) (fun j_11 => []) (fun s => j_11 = s) (.cons (t := 0) rfl (.cons (t := 1) rfl (.cons (t := 2) rfl (.cons (t := 9) rfl (.cons (t := 14) rfl (.cons (t := 15) rfl (.cons (t := 16) rfl (.cons (t := 23) rfl (.cons (t := 24) rfl (.cons (t := 25) rfl Sub.nil)))))))))) SubB.nil ?_ (fun j_11' hj11 => ?_)
          · skip
            refine .block ?_
            refine .seq ?_
            refine .region [([], []), ([], []), ([], [11]), ([11], [11])] mixed (by kernel_rfl) ?_
            obtain ⟨hn12, h⟩ := need_some h
            refine .consA (.indexAddr .none sl23 ty79 (.s rfl) (.s rfl) (fun _ => hn12)) rfl ?_
            obtain ⟨v3, hv13, h⟩ := bnd_some h
            refine .consA (.re hv13 (.load .none ty79 (.s rfl))) rfl ?_
            refine .consW (.alloc zo79 rfl) rfl rfl ?_
            refine .consN (.store ty79 rfl rfl (.s rfl)) rfl ?_
            refine .nil ?_
            refine .then ?_
            refine .freeze (t := 11) rfl rfl SubB.nil rfl ?_
            refine .seq ?_
            refine .region [] mixed (by kernel_rfl) ?_
            refine .cons (.move .none (.s rfl)) rfl ?_
            refine .cons (.fieldAddr .none fd79_0 hfd79_0 (.s rfl)) rfl ?_
            refine .cons (.load .none ty3 (.s rfl)) rfl ?_
            obtain ⟨r1, hv14, h⟩ := bind_some h
            refine .cons (.call .none (slices_Index_int_ok hv14) (.cons (.s rfl) (.cons (.s rfl) .nil))) rfl ?_
            refine .cons (.move .none (.s rfl)) rfl ?_
            refine .cons (.fieldAddr .none fd79_0 hfd79_0 (.s rfl)) rfl ?_
            refine .cons (.load .none ty3 (.s rfl)) rfl ?_
            obtain ⟨r2, hv15, h⟩ := bind_some h
            refine .cons (.call .none (slices_Index_int_ok hv15) (.cons (.s rfl) (.cons (.s rfl) .nil))) rfl ?_
            refine .cons (.subW .none (.s rfl) (.s rfl)) rfl ?_
            refine .cons (.assign .none (.s rfl)) rfl ?_
            refine .nil ?_
            refine .then ?_
            refine .seq ?_
            refine .region [] mixed (by kernel_rfl) ?_
            refine .cons (.move .none (.s rfl)) rfl ?_
            refine .cons (.fieldAddr .none fd79_1 hfd79_1 (.s rfl)) rfl ?_
            refine .cons (.load .none ty3 (.s rfl)) rfl ?_
            obtain ⟨r3, hv16, h⟩ := bind_some h
            refine .cons (.call .none (slices_Index_int_ok hv16) (.cons (.s rfl) (.cons (.s rfl) .nil))) rfl ?_
            refine .cons (.move .none (.s rfl)) rfl ?_
            refine .cons (.fieldAddr .none fd79_1 hfd79_1 (.s rfl)) rfl ?_
            refine .cons (.load .none ty3 (.s rfl)) rfl ?_
            obtain ⟨r4, hv17, h⟩ := bind_some h
            refine .cons (.call .none (slices_Index_int_ok hv17) (.cons (.s rfl) (.cons (.s rfl) .nil))) rfl ?_
            refine .cons (.subW .none (.s rfl) (.s rfl)) rfl ?_
            refine .cons (.assign .none (.s rfl)) rfl ?_
            refine .nil ?_
            refine .then ?_
            refine .seq ?_
            refine .region [] mixed (by kernel_rfl) ?_
            refine .cons (.move .none (.s rfl)) rfl ?_
            obtain ⟨r5, hv18, h⟩ := bind_some h
            refine .cons (.call .none (ref_Sign_ok hv18) (.cons (.s rfl) .nil)) rfl ?_
            refine .cons (.move .none (.s rfl)) rfl ?_
            obtain ⟨r6, hv19, h⟩ := bind_some h
            refine .cons (.call .none (ref_Sign_ok hv19) (.cons (.s rfl) .nil)) rfl ?_
            refine .cons (.mulW .none (.s rfl) (.s rfl)) rfl ?_
            refine .cons (.lt .none (.s rfl) (.int (by decide))) rfl ?_
            refine .nil ?_
            refine .then ?_
            refine .cond (t := 52) rfl trivial (fun hb20 => ?_) (fun hb20 => ?_)
            · replace h := bif_t h hb20
              refine .region [] mixed (by kernel_rfl) ?_
              refine .cons (.move .none (.s rfl)) rfl ?_
              refine .cons (.addW .none (.s rfl) (.int (by decide))) rfl ?_
              obtain ⟨n1, hv21, h⟩ := bnd_some h
              refine .cons (.re hv21 (.assign .none (.s rfl))) rfl ?_
              refine .nil ?_
              refine .blkNormal ?_
              exact Ends.join _ (some_eq h) (.cons (t := 7) rfl (.cons (t := 0) rfl (.cons (t := 1) rfl (.cons (t := 2) rfl (.cons (t := 9) rfl (.cons (t := 14) rfl (.cons (t := 15) rfl (.cons (t := 16) rfl (.cons (t := 23) rfl (.cons (t := 24) rfl (.cons (t := 25) rfl Sub.nil))))))))))) SubB.nil
            · replace h := bif_f h hb20
              refine .skip ?_
              refine .blkNormal ?_
              exact Ends.join _ (some_eq h) (.cons (t := 7) rfl (.cons (t := 0) rfl (.cons (t := 1) rfl (.cons (t := 2) rfl (.cons (t := 9) rfl (.cons (t := 14) rfl (.cons (t := 15) rfl (.cons (t := 16) rfl (.cons (t := 23) rfl (.cons (t := 24) rfl (.cons (t := 25) rfl Sub.nil))))))))))) SubB.nil
          · subst hj11; have h := hK11; clear hK11
            refine .region [] mixed (by kernel_rfl) ?_
            refine .cons (.addW .none (.s rfl) (.int (by decide))) rfl ?_
            refine .cons (.move .none (.s rfl)) rfl ?_
            refine .nil ?_
            exact Ends.againL (some_eq h) (.cons (t := 25) rfl (.cons (t := 7) rfl (.cons (t := 0) rfl (.cons (t := 1) rfl (.cons (t := 2) rfl (.cons (t := 9) rfl (.cons (t := 14) rfl (.cons (t := 15) rfl (.cons (t := 16) rfl (.cons (t := 23) rfl (.cons (t := 24) rfl Sub.nil))))))))))) SubB.nil
        · replace h := bif_f h hb10
          refine .exit ?_
          refine .thenExit ?_
          refine .thenExit ?_
          refine .blkExit ?_
          refine .blkNormal ?_
          replace h := hD9 _ (some_eq h)
          exact Ends.join _ (some_eq h) (.cons (t := 7) rfl (.cons (t := 0) rfl (.cons (t := 1) rfl (.cons (t := 2) rfl (.cons (t := 14) rfl (.cons (t := 15) rfl (.cons (t := 16) rfl Sub.nil))))))) SubB.nil
      · subst hj4; have h := hK4; clear hK4
        refine .region [] mixed (by kernel_rfl) ?_
        refine .cons (.addW .none (.s rfl) (.int (by decide))) rfl ?_
        refine .cons (.move .none (.s rfl)) rfl ?_
        refine .nil ?_
        exact Ends.againL (some_eq h) (.cons (t := 16) rfl (.cons (t := 7) rfl (.cons (t := 0) rfl (.cons (t := 1) rfl (.cons (t := 2) rfl (.cons (t := 14) rfl (.cons (t := 15) rfl Sub.nil))))))) SubB.nil
    · replace h := bif_f h hb3
      refine .exit ?_
      refine .thenExit ?_
      refine .thenExit ?_
      refine .blkExit ?_
      replace h := hD2 _ (some_eq h)
      exact Ends.join _ (some_eq h) (.cons (t := 7) rfl Sub.nil) SubB.nil
  · subst hj1; have h := hK1; clear hK1
    refine .seq ?_
    refine .region [] mixed (by kernel_rfl) ?_
    refine .cons (.move .none (.s rfl)) rfl ?_
    refine .cons (.assign .none (.s rfl)) rfl ?_
    refine .nil ?_
    refine .then ?_
    refine .ret ?_
    obtain rfl := some_eq h
    exact Ends.ret1 (.inl rfl) Try.results42 (ResOK.tmp rfl trivial Imp.refl)

theorem law_OrdersMatch_1_ok {c0_1 : (List Int)} {c1_1 : (List Int)} {c2_1 : (List Link)} {r : Int}  (h : law_OrdersMatch_1 c0_1 c1_1 c2_1 = some r) : FSpec Try.prog 41 [ref c0_1, ref c1_1, ref c2_1] (rep r) := by
  unfold law_OrdersMatch_1 at h
  refine FSpec.intro (n := 8) fnok41 Try.func41 rfl Try.ntmps41 rfl (fun F => ?_)
  refine .seq ?_
  refine .region [] mixed (by kernel_rfl) ?_
  refine .cons (.assign .none (.int (by decide))) rfl ?_
  refine .nil ?_
  refine .then ?_
  refine .seq ?_
  refine .region [] mixed (by kernel_rfl) ?_
  refine .cons (.load .none ty32 (.s rfl)) rfl ?_
  refine .cons (.load .none ty32 (.s rfl)) rfl ?_
  refine .cons (.load .none ty23 (.s rfl)) rfl ?_
  obtain ⟨r1, hv1, h⟩ := bind_some h
  refine .cons (.call .none (ref_CrossingsOf_ok hv1) (.cons (.s rfl) (.cons (.s rfl) (.cons (.s rfl) .nil)))) rfl ?_
  refine .cons (.assign .none (.s rfl)) rfl ?_
  refine .nil ?_
  refine .then ?_
  refine .ret ?_
  obtain rfl := some_eq h
  exact Ends.ret1 (.inl rfl) Try.results41 (ResOK.tmp rfl trivial Imp.refl)

theorem law_is_int_ok {got1 : Int} {e1 : Int} {want1 : Int} {right1 : (Option Int)} {r : Bool}  (h : law_is_int got1 e1 want1 right1 = some r) : FSpec Try.prog 40 [rep got1, rep e1, rep want1, fn0 Try.prog (rep (α := Int)) right1] (rep r) := by
  unfold law_is_int at h
  refine FSpec.intro (n := 28) fnok40 Try.func40 rfl Try.ntmps40 rfl (fun F => ?_)
  refine .seq ?_
  refine .region [] mixed (by kernel_rfl) ?_
  refine .cons (.assign .none .bool) rfl ?_
  refine .nil ?_
  refine .then ?_
  refine .seq ?_
  refine .region [] mixed (by kernel_rfl) ?_
  refine .cons (.assign .none (.int (by decide))) rfl ?_
  refine .nil ?_
  refine .then ?_
  refine .seq ?_
  refine .seq ?_
  refine .region [] mixed (by kernel_rfl) ?_
  refine .cons (.move .none (.s rfl)) rfl ?_
  refine .cons (.neI .none (.s rfl) (.int (by decide))) rfl ?_
  refine .nil ?_
  refine .then ?_
  refine .cond (t := 11) rfl trivial (fun hb1 => ?_) (fun hb1 => ?_)
  · replace h := bif_t h hb1
    refine .seq ?_
    refine .region [] mixed (by kernel_rfl) ?_
    refine .cons (.move .none (.s rfl)) rfl ?_
    refine .cons (.move .none (.s rfl)) rfl ?_
    refine .cons (.eqI .none (.s rfl) (.s rfl)) rfl ?_
    refine .cons (.move .none (.s rfl)) rfl ?_
    refine .cons (.move (.at rfl rfl) (.s rfl)) rfl ?_
    refine .cons (.move (.at rfl rfl) (.s rfl)) rfl ?_
    refine .cons (.eqI (.at rfl rfl) (.tmp rfl id) (.tmp rfl id)) rfl ?_
    refine .cons (.pickAnd .none (.s rfl) (.tmp rfl id)) rfl ?_
    refine .cons (.assign .none (.s rfl)) rfl ?_
    refine .nil ?_
    refine .then ?_
    refine .ret ?_
    refine .thenRet ?_
    obtain rfl := some_eq h
    exact Ends.ret1 (.inl rfl) Try.results40 (ResOK.tmp rfl trivial Imp.refl)
  · replace h := bif_f h hb1
    refine .skip ?_
    refine .then ?_
    refine .seq ?_
    refine .region [] mixed (by kernel_rfl) ?_
    refine .cons (.move .none (.s rfl)) rfl ?_
    refine .cons (.eqI .none (.s rfl) (.int (by decide))) rfl ?_
    refine .cons (.move .none (.s rfl)) rfl ?_
    refine .cons (.move (.at rfl rfl) (.s rfl)) rfl ?_
    refine .cons (.move (.at rfl rfl) (.s rfl)) rfl ?_
    obtain ⟨r1, hv2, h⟩ := bind_some h
    refine .cons (.callV _ (.at rfl rfl) (.tmp rfl id) (fun hg => gd_some hv2 (hg.2)) .nil) rfl ?_
    refine .cons (.eqI (.at rfl rfl) (.tmp rfl id) (.tmp rfl id)) rfl ?_
    refine .cons (.pickAnd .none (.s rfl) (.tmp rfl id)) rfl ?_
    refine .cons (.assign .none (.s rfl)) rfl ?_
    refine .nil ?_
    refine .then ?_
    refine .ret ?_
    obtain rfl := some_eq h
    exact Ends.ret1 (.inl rfl) Try.results40 (ResOK.tmp rfl trivial Imp.refl)

theorem layer_Best_1_ok {set1 : Int} {k1 : Int} {c0_1 : (List Int)} {c1_1 : Int} {c2_1 : (List (List Int))} {r : (Int × (List Int) × (List (List Int)))} {m39 : Nat} {s40 : Value} {m41 : Nat} {s42 : Value} (h : layer_Best_1 set1 k1 c0_1 c1_1 c2_1 = some r) : FSpecO Try.prog 84 [rep set1, rep k1, isV (ptr m39 0), ref c1_1, isV (ptr m41 0)] [(ptr m39 0, cont 32 (⟨s40⟩ : Raw)), (s40, rowV 3 c0_1), (ptr m41 0, cont 22 (⟨s42⟩ : Raw)), (s42, rowD 32 3 mkR subR [] c2_1)] (rep r.1) [some (deep (fun z0 => cont 32 (⟨z0⟩ : Raw)) (rowV 3 r.2.1)), none, some (deep (fun z0 => cont 22 (⟨z0⟩ : Raw)) (rowD 32 3 mkR subR [] r.2.2)), none] := by
  unfold layer_Best_1 at h
  refine FSpecO.intro (n := 39) fnok84 Try.func84 rfl Try.ntmps84 rfl (fun F => ?_)
  refine .seq ?_
  refine .region [] mixed (by kernel_rfl) ?_
  refine .cons (.assign .none (.int (by decide))) rfl ?_
  refine .nil ?_
  refine .then ?_
  refine .seq ?_
  refine .region [] mixed (by kernel_rfl) ?_
  refine .cons (.move .none (.s rfl)) rfl ?_
  refine .cons (.move .none (.s rfl)) rfl ?_
  obtain ⟨hn1, h⟩ := need_some h
  refine .cons (.ishl (α := Int) (m := 1) (b := k1) .none (.int (by decide)) (.s rfl) (fun _ => hn1)) rfl ?_
  refine .cons (.iandNot .none (.s rfl) (.s rfl)) rfl ?_
  obtain ⟨rest1, hv2, h⟩ := bnd_some h
  refine .cons (.re hv2 (.assign .none (.s rfl))) rfl ?_
  refine .nil ?_
  refine .then ?_
  refine .seq ?_
  refine .region [([39], []), ([], []), ([40], []), ([40], []), ([], [])] mixed (by kernel_rfl) ?_
  refine .consA (.loadAt0 (k := 39) .none tr32 rfl (.s rfl)) rfl ?_
  refine .consA (.move .none (.s rfl)) rfl ?_
  obtain ⟨hn3, h⟩ := need_some h
  refine .consA (.indexAddrO (k := 40) .none sl32 ty3 (.s rfl) rfl (.s rfl) (fun _ => hn3)) rfl ?_
  refine .consA (.loadElem0 (k := 40) .none ty3 (.s rfl) rfl (fun _ => hn3)) rfl ?_
  obtain ⟨n1, hv4, h⟩ := bnd_some h
  refine .consA (.re hv4 (.assign .none (.s rfl))) rfl ?_
  refine .nil ?_
  refine .then ?_
  refine .seq ?_
  refine .seq ?_
  refine .region [] mixed (by kernel_rfl) ?_
  refine .cons (.load .none ty3 (.s rfl)) rfl ?_
  refine .cons (.move .none (.int (by decide))) rfl ?_
  refine .nil ?_
  refine .then ?_
  obtain ⟨j_5, h, hK5⟩ := bind_some h
  refine .thenJ (ι := Int) (fun j_5 => [(9, ⟨True, rep j_5⟩)]) (fun j_5 => []) (fun s => j_5 = s) (.cons (t := 4) rfl Sub.nil) (.cons (t := 39) rfl (.cons (t := 40) rfl (.cons (t := 41) rfl (.cons (t := 42) rfl SubB.nil)))) ?_ (fun j_5' hj5 => ?_)
  · skip
    refine .block ?_
    refine .rforL h (fun p6_ => [(20, ⟨True, rep p6_.1⟩), (9, ⟨True, rep p6_.2⟩)]) (fun p6_ => []) (.cons (t := 20) rfl (.cons (t := 9) rfl Sub.nil)) SubB.nil (.cons (t := 1) rfl (.cons (t := 4) rfl (.cons (t := 8) rfl (.cons (t := 19) rfl Sub.nil)))) (.cons (t := 39) rfl (.cons (t := 40) rfl (.cons (t := 41) rfl (.cons (t := 42) rfl SubB.nil)))) (fun p6_ o_6 h hD6 => ?_)
    refine .seq ?_
    refine .region [] mixed (by kernel_rfl) ?_
    refine .cons (.lt .none (.s rfl) (.s rfl)) rfl ?_
    refine .nil ?_
    refine .then ?_
    refine .seq ?_
    refine .cond (t := 21) rfl trivial (fun hb7 => ?_) (fun hb7 => ?_)
    · replace h := bif_t h hb7
      refine .skip ?_
      refine .then ?_
      refine .seq ?_
      obtain ⟨j_8, h, hK8⟩ := bind_some h
      unfold layer_Best_1_L1 at h
      refine .thenJ (ι := Int) (fun j_8 => [(9, ⟨True, rep j_8⟩)]) (fun j_8 => []) (fun s => j_8 = s) (.cons (t := 1) rfl (.cons (t := 4) rfl (.cons (t := 8) rfl (.cons (t := 19) rfl (.cons (t := 20) rfl Sub.nil))))) (.cons (t := 39) rfl (.cons (t := 40) rfl (.cons (t := 41) rfl (.cons (t := 42) rfl SubB.nil)))) ?_ (fun j_8' hj8 => ?_)
      · skip
        refine .block ?_
        refine .seq ?_
        refine .region [] mixed (by kernel_rfl) ?_
        refine .cons (.move .none (.s rfl)) rfl ?_
        refine .cons (.assign .none (.s rfl)) rfl ?_
        refine .nil ?_
        refine .then ?_
        refine .seq ?_
        refine .region [] mixed (by kernel_rfl) ?_
        refine .cons (.move .none (.s rfl)) rfl ?_
        refine .cons (.move .none (.s rfl)) rfl ?_
        obtain ⟨hn9, h⟩ := need_some h
        refine .cons (.ishr (α := Int) (m := rest1) (b := p6_.1) .none (.s rfl) (.s rfl) (fun _ => hn9)) rfl ?_
        refine .cons (.iand .none (.s rfl) (.int (by decide))) rfl ?_
        refine .cons (.eqI .none (.s rfl) (.int (by decide))) rfl ?_
        refine .nil ?_
        refine .then ?_
        refine .cond (t := 27) rfl trivial (fun hb10 => ?_) (fun hb10 => ?_)
        · replace h := bif_t h hb10
          obtain ⟨hn11, h⟩ := need_some h
          refine .openD (k := 42) (g := 5001) (i := k1) rfl rfl hn11 noHole (fun s5001 => ?_)
          refine .region [([], []), ([41], []), ([], []), ([42], []), ([42], []), ([], []), ([5001], []), ([5001], []), ([], []), ([], [])] mixed (by kernel_rfl) ?_
          refine .consA (.move .none (.s rfl)) rfl ?_
          refine .consA (.loadAt0 (k := 41) .none tr22 rfl (.s rfl)) rfl ?_
          refine .consA (.move .none (.s rfl)) rfl ?_
          obtain ⟨hn12, h⟩ := need_some h
          refine .consA (.indexAddrD (k := 42) sl22 tr32 (.s rfl) rfl (.s rfl) hn12) rfl ?_
          refine .consA (.loadElemD (k := 42) (proj := fun x => x) (y := (⟨s5001⟩ : Raw)) (z := s5001) tr32 (.s rfl) rfl .id hn12 (by simp) rfl) rfl ?_
          refine .consA (.move .none (.s rfl)) rfl ?_
          obtain ⟨hn13, h⟩ := need_some h
          refine .consA (.indexAddrO (k := 5001) .none sl32 ty3 (.s rfl) rfl (.s rfl) (fun _ => hn13)) rfl ?_
          refine .consA (.loadElem0 (k := 5001) .none ty3 (.s rfl) rfl (fun _ => hn13)) rfl ?_
          refine .consA (.addW .none (.s rfl) (.s rfl)) rfl ?_
          obtain ⟨n2, hv14, h⟩ := bnd_some h
          refine .consA (.re hv14 (.assign .none (.s rfl))) rfl ?_
          refine .nil ?_
          refine .blkNormal ?_
          refine .closeD0 (k := 42) (g := 5001) rfl rfl rfl hn11 noHole ?_
          exact Ends.join _ (some_eq h) (.cons (t := 9) rfl (.cons (t := 1) rfl (.cons (t := 4) rfl (.cons (t := 8) rfl (.cons (t := 19) rfl (.cons (t := 20) rfl Sub.nil)))))) (.cons (t := 39) rfl (.cons (t := 40) rfl (.cons (t := 41) rfl (.cons (t := 42) rfl SubB.nil))))
        · replace h := bif_f h hb10
          refine .skip ?_
          refine .blkNormal ?_
          exact Ends.join _ (some_eq h) (.cons (t := 9) rfl (.cons (t := 1) rfl (.cons (t := 4) rfl (.cons (t := 8) rfl (.cons (t := 19) rfl (.cons (t := 20) rfl Sub.nil)))))) (.cons (t := 39) rfl (.cons (t := 40) rfl (.cons (t := 41) rfl (.cons (t := 42) rfl SubB.nil))))
      · subst hj8; have h := hK8; clear hK8
        refine .region [] mixed (by kernel_rfl) ?_
        refine .cons (.addW .none (.s rfl) (.int (by decide))) rfl ?_
        refine .cons (.move .none (.s rfl)) rfl ?_
        refine .nil ?_
        exact Ends.againL (some_eq h) (.cons (t := 20) rfl (.cons (t := 9) rfl (.cons (t := 1) rfl (.cons (t := 4) rfl (.cons (t := 8) rfl (.cons (t := 19) rfl Sub.nil)))))) (.cons (t := 39) rfl (.cons (t := 40) rfl (.cons (t := 41) rfl (.cons (t := 42) rfl SubB.nil))))
    · replace h := bif_f h hb7
      refine .exit ?_
      refine .thenExit ?_
      refine .thenExit ?_
      refine .blkExit ?_
      replace h := hD6 _ (some_eq h)
      exact Ends.join _ (some_eq h) (.cons (t := 9) rfl (.cons (t := 4) rfl Sub.nil)) (.cons (t := 39) rfl (.cons (t := 40) rfl (.cons (t := 41) rfl (.cons (t := 42) rfl SubB.nil))))
  · subst hj5; have h := hK5; clear hK5
    refine .seq ?_
    refine .region [] mixed (by kernel_rfl) ?_
    refine .cons (.move .none (.s rfl)) rfl ?_
    refine .cons (.assign .none (.s rfl)) rfl ?_
    refine .nil ?_
    refine .then ?_
    refine .ret ?_
    refine .close (k := 39) (g := 40) (fun z => cont 32 (⟨z⟩ : Raw)) rfl rfl rfl ?_
    refine .close (k := 41) (g := 42) (fun z => cont 22 (⟨z⟩ : Raw)) rfl rfl rfl ?_
    obtain rfl := some_eq h
    exact Ends.ret1O (.inl rfl) [39, 40, 41, 42] Try.results84 (by decide) (.held rfl (.skip (.held rfl (.skip .nil)))) (ResOK.tmp rfl trivial Imp.refl)

set_option maxHeartbeats 4000000 in
theorem layer_Best_ok {upper1 : (List Int)} {lower1 : (List Int)} {l1 : (List Link)} {r : ((List Int) × Int × Int)}  (h : layer_Best upper1 lower1 l1 = some r) : FSpec Try.prog 43 [rep upper1, rep lower1, rep l1] (tup [rep r.1, rep r.2.1, rep r.2.2]) := by
  unfold layer_Best at h
  refine FSpec.intro (n := 178) fnok43 Try.func43 rfl Try.ntmps43 rfl (fun F => ?_)
  refine .seq ?_
  refine .region [] mixed (by kernel_rfl) ?_
  refine .cons (.assign .none (.const (x := ([] : (List Int))) (fun M w => ⟨_, ⟨none, 0, rfl, Nat.le_refl _, by decide, rfl⟩, rfl⟩))) rfl ?_
  refine .cons (.assign .none (.int (by decide))) rfl ?_
  refine .cons (.assign .none (.int (by decide))) rfl ?_
  refine .nil ?_
  refine .then ?_
  refine .seq ?_
  refine .seq ?_
  refine .region [] mixed (by kernel_rfl) ?_
  refine .cons (.move .none (.s rfl)) rfl ?_
  refine .cons (.move .none (.s rfl)) rfl ?_
  refine .cons (.move .none (.s rfl)) rfl ?_
  obtain ⟨e1, hv1, h⟩ := bind_some h
  refine .cons (.call .none (layer_checkPair_ok hv1) (.cons (.s rfl) (.cons (.s rfl) (.cons (.s rfl) .nil)))) rfl ?_
  refine .cons (.assign .none (.s rfl)) rfl ?_
  refine .nil ?_
  refine .then ?_
  refine .seq ?_
  refine .region [] mixed (by kernel_rfl) ?_
  refine .cons (.move .none (.s rfl)) rfl ?_
  refine .cons (.neI .none (.s rfl) (.int (by decide))) rfl ?_
  refine .nil ?_
  refine .then ?_
  refine .cond (t := 33) rfl trivial (fun hb2 => ?_) (fun hb2 => ?_)
  · replace h := bif_t h hb2
    refine .seq ?_
    refine .region [] mixed (by kernel_rfl) ?_
    refine .cons (.move .none (.s rfl)) rfl ?_
    refine .cons (.assign .none (.const (x := ([] : (List Int))) (fun M w => ⟨_, ⟨none, 0, rfl, Nat.le_refl _, by decide, rfl⟩, rfl⟩))) rfl ?_
    refine .cons (.assign .none (.int (by decide))) rfl ?_
    refine .cons (.assign .none (.s rfl)) rfl ?_
    refine .nil ?_
    refine .then ?_
    refine .ret ?_
    refine .thenRet ?_
    obtain rfl := some_eq h
    exact Ends.ret3 (.inl rfl) Try.results43 (ResOK.tmp rfl trivial Imp.refl) (ResOK.tmp rfl trivial Imp.refl) (ResOK.tmp rfl trivial Imp.refl)
  · replace h := bif_f h hb2
    refine .skip ?_
    refine .then ?_
    refine .seq ?_
    refine .seq ?_
    refine .region [] mixed (by kernel_rfl) ?_
    refine .cons (.move .none (.s rfl)) rfl ?_
    refine .cons (.len .none sl32 (.s rfl)) rfl ?_
    refine .cons (.gt .none (.s rfl) (.int (by decide))) rfl ?_
    refine .nil ?_
    refine .then ?_
    refine .cond (t := 37) rfl trivial (fun hb3 => ?_) (fun hb3 => ?_)
    · replace h := bif_t h hb3
      refine .seq ?_
      refine .region [] mixed (by kernel_rfl) ?_
      refine .cons (.assign .none (.const (x := ([] : (List Int))) (fun M w => ⟨_, ⟨none, 0, rfl, Nat.le_refl _, by decide, rfl⟩, rfl⟩))) rfl ?_
      refine .cons (.assign .none (.int (by decide))) rfl ?_
      refine .cons (.assign .none (.int (by decide))) rfl ?_
      refine .nil ?_
      refine .then ?_
      refine .ret ?_
      refine .thenRet ?_
      obtain rfl := some_eq h
      exact Ends.ret3 (.inl rfl) Try.results43 (ResOK.tmp rfl trivial Imp.refl) (ResOK.tmp rfl trivial Imp.refl) (ResOK.tmp rfl trivial Imp.refl)
    · replace h := bif_f h hb3
      refine .skip ?_
      refine .then ?_
      refine .seq ?_
      refine .region [] mixed (by kernel_rfl) ?_
      refine .cons (.move .none (.s rfl)) rfl ?_
      obtain ⟨r1, hv4, h⟩ := bind_some h
      refine .cons (.call .none (slices_Values_int_ok hv4) (.cons (.s rfl) .nil)) rfl ?_
      obtain ⟨nodes1, hv5, h⟩ := bind_some h
      refine .cons (.call .none (slices_Sorted_int_ok hv5).frz (.cons (.s rfl) .nil)) rfl ?_
      refine .cons (.assign .none (.s rfl)) rfl ?_
      refine .nil ?_
      refine .then ?_
      refine .seq ?_
      refine .region [] mixed (by kernel_rfl) ?_
      refine .cons (.move .none (.s rfl)) rfl ?_
      obtain ⟨at1, hv6, h⟩ := bind_some h
      refine .cons (.call .none (layer_places_ok hv6) (.cons (.s rfl) .nil)) rfl ?_
      refine .cons (.assign .none (.s rfl)) rfl ?_
      refine .nil ?_
      refine .then ?_
      refine .seq ?_
      refine .region [] mixed (by kernel_rfl) ?_
      refine .cons (.move .none (.s rfl)) rfl ?_
      obtain ⟨up1, hv7, h⟩ := bind_some h
      refine .cons (.call .none (layer_places_ok hv7) (.cons (.s rfl) .nil)) rfl ?_
      refine .cons (.assign .none (.s rfl)) rfl ?_
      refine .nil ?_
      refine .then ?_
      refine .seq ?_
      refine .region [([], []), ([], []), ([], [13]), ([13], [13])] mixed (by kernel_rfl) ?_
      refine .consA (.move .none (.s rfl)) rfl ?_
      obtain ⟨v1, hv8, h⟩ := bnd_some h
      refine .consA (.re hv8 (.len .none sl32 (.s rfl))) rfl ?_
      refine .consW (.alloc zo3 rfl) rfl rfl ?_
      refine .consN (.store ty3 rfl rfl (.s rfl)) rfl ?_
      refine .nil ?_
      refine .then ?_
      refine .freeze (t := 13) rfl rfl SubB.nil rfl ?_
      refine .seq ?_
      refine .region [([], []), ([], [48]), ([], [14]), ([14, 48], [14, 48])] mixed (by kernel_rfl) ?_
      refine .consA (.load .none ty3 (.s rfl)) rfl ?_
      obtain ⟨hn9, h⟩ := need_some h
      refine .consW (.post1 (.makeSlice rkraw22 zraw32 rfl (.s rfl) (.s rfl) hn9) (fun M D v w h => rowD_nils (E2 := 3) (mk := mkR) (sub := subR) (a := ([] : (List Int))) rfl rfl h)) rfl rfl ?_
      refine .consW (.alloc zr22 rfl) rfl rfl ?_
      refine .consN (.storeRow0D (k := 14) (t := 48) ty22 rfl rfl rfl oneRowD rfl) rfl ?_
      refine .nil ?_
      refine .then ?_
      refine .nameAt (t := 14) (g := 5001) rfl rfl (isBox_deep fun _ => isBox_cont) rfl (fun m5001 => ?_)
      refine .open (k := 5001) (g := 5002) rfl rfl (fun s5002 => ?_)
      refine .seq ?_
      refine .seq ?_
      refine .region [([5001], []), ([5002], []), ([], [])] mixed (by kernel_rfl) ?_
      refine .consA (.loadAt0 (k := 5001) .none tr22 rfl (.s rfl)) rfl ?_
      refine .consA (.lenD (k := 5002) sl22 (.s rfl) rfl) rfl ?_
      refine .consA (.move .none (.int (by decide))) rfl ?_
      refine .nil ?_
      refine .then ?_
      obtain ⟨c1, hv10, h⟩ := bnd_some h
      refine .reB (t := 5002) rfl (congrArg (fun y => CPred.at s5002 (rowD 32 3 mkR subR [] y)) hv10) ?_
      obtain ⟨j_11, h, hK11⟩ := bind_some h
      refine .thenJ (ι := (List (List Int))) (fun j_11 => []) (fun j_11 => [(5002, some (CPred.at s5002 (rowD 32 3 mkR subR [] j_11)))]) (fun s => j_11 = s) (.cons (t := 2) rfl (.cons (t := 10) rfl (.cons (t := 11) rfl (.cons (t := 12) rfl (.cons (t := 13) rfl (.cons (t := 14) rfl Sub.nil)))))) (.cons (t := 5001) rfl SubB.nil) ?_ (fun j_11' hj11 => ?_)
      · skip
        refine .block ?_
        refine .rforL h (fun p12_ => [(51, ⟨True, rep p12_.1⟩)]) (fun p12_ => [(5002, some (CPred.at s5002 (rowD 32 3 mkR subR [] p12_.2)))]) (.cons (t := 51) rfl Sub.nil) (.cons (t := 5002) rfl SubB.nil) (.cons (t := 2) rfl (.cons (t := 10) rfl (.cons (t := 11) rfl (.cons (t := 12) rfl (.cons (t := 13) rfl (.cons (t := 14) rfl (.cons (t := 50) rfl Sub.nil))))))) (.cons (t := 5001) rfl SubB.nil) (fun p12_ o_12 h hD12 => ?_)
        refine .seq ?_
        refine .region [] mixed (by kernel_rfl) ?_
        refine .cons (.lt .none (.s rfl) (.s rfl)) rfl ?_
        refine .nil ?_
        refine .then ?_
        refine .seq ?_
        refine .cond (t := 52) rfl trivial (fun hb13 => ?_) (fun hb13 => ?_)
        · replace h := bif_t h hb13
          refine .skip ?_
          refine .then ?_
          refine .seq ?_
          obtain ⟨j_14, h, hK14⟩ := bind_some h
          unfold layer_Best_L1 at h
          refine .thenJ (ι := (List (List Int))) (fun j_14 => []) (fun j_14 => [(5002, some (CPred.at s5002 (rowD 32 3 mkR subR [] j_14)))]) (fun s => j_14 = s) (.cons (t := 2) rfl (.cons (t := 10) rfl (.cons (t := 11) rfl (.cons (t := 12) rfl (.cons (t := 13) rfl (.cons (t := 14) rfl (.cons (t := 50) rfl (.cons (t := 51) rfl Sub.nil)))))))) (.cons (t := 5001) rfl SubB.nil) ?_ (fun j_14' hj14 => ?_)
          · skip
            refine .block ?_
            refine .seq ?_
            refine .region [] mixed (by kernel_rfl) ?_
            refine .cons (.move .none (.s rfl)) rfl ?_
            refine .cons (.assign .none (.s rfl)) rfl ?_
            refine .nil ?_
            refine .then ?_
            refine .region [([5001], []), ([], []), ([], []), ([], [57]), ([5002], []), ([5002, 57], [5002, 57])] mixed (by kernel_rfl) ?_
            refine .consA (.loadAt0 (k := 5001) .none tr22 rfl (.s rfl)) rfl ?_
            refine .consA (.move .none (.s rfl)) rfl ?_
            refine .consA (.load .none ty3 (.s rfl)) rfl ?_
            obtain ⟨hn15, h⟩ := need_some h
            refine .consW (.makeSlice rk32 zo3 rfl (.s rfl) (.s rfl) hn15) rfl rfl ?_
            obtain ⟨hn16, h⟩ := need_some h
            refine .consA (.indexAddrD (k := 5002) sl22 tr32 (.s rfl) rfl (.s rfl) hn16) rfl ?_
            refine .consN (.storeElemD (k := 5002) (t := 57) (set := fun _ z => z) (hs' := []) (List.replicate v1.toNat (0 : Int)) ty32 (.s rfl) rfl .self rfl hn16 rfl (by simp) (by simp) (fun _ _ => rfl) rfl) rfl ?_
            refine .nil ?_
            refine .blkNormal ?_
            exact Ends.join _ (some_eq h) (.cons (t := 2) rfl (.cons (t := 10) rfl (.cons (t := 11) rfl (.cons (t := 12) rfl (.cons (t := 13) rfl (.cons (t := 14) rfl (.cons (t := 50) rfl (.cons (t := 51) rfl Sub.nil)))))))) (.cons (t := 5002) rfl (.cons (t := 5001) rfl SubB.nil))
          · subst hj14; have h := hK14; clear hK14
            refine .region [] mixed (by kernel_rfl) ?_
            refine .cons (.addW .none (.s rfl) (.int (by decide))) rfl ?_
            refine .cons (.move .none (.s rfl)) rfl ?_
            refine .nil ?_
            exact Ends.againL (some_eq h) (.cons (t := 51) rfl (.cons (t := 2) rfl (.cons (t := 10) rfl (.cons (t := 11) rfl (.cons (t := 12) rfl (.cons (t := 13) rfl (.cons (t := 14) rfl (.cons (t := 50) rfl Sub.nil)))))))) (.cons (t := 5002) rfl (.cons (t := 5001) rfl SubB.nil))
        · replace h := bif_f h hb13
          refine .exit ?_
          refine .thenExit ?_
          refine .thenExit ?_
          refine .blkExit ?_
          replace h := hD12 _ (some_eq h)
          exact Ends.join _ (some_eq h) (.cons (t := 2) rfl (.cons (t := 10) rfl (.cons (t := 11) rfl (.cons (t := 12) rfl (.cons (t := 13) rfl (.cons (t := 14) rfl Sub.nil)))))) (.cons (t := 5002) rfl (.cons (t := 5001) rfl SubB.nil))
      · subst hj11; have h := hK11; clear hK11
        refine .seq ?_
        refine .seq ?_
        refine .region [] mixed (by kernel_rfl) ?_
        refine .cons (.move .none (.s rfl)) rfl ?_
        refine .cons (.len .none sl23 (.s rfl)) rfl ?_
        refine .cons (.move .none (.int (by decide))) rfl ?_
        refine .nil ?_
        refine .then ?_
        obtain ⟨j_17, h, hK17⟩ := bind_some h
        refine .thenJ (ι := (List (List Int))) (fun j_17 => []) (fun j_17 => [(5002, some (CPred.at s5002 (rowD 32 3 mkR subR [] j_17)))]) (fun s => j_17 = s) (.cons (t := 10) rfl (.cons (t := 13) rfl (.cons (t := 14) rfl Sub.nil))) (.cons (t := 5001) rfl SubB.nil) ?_ (fun j_17' hj17 => ?_)
        · skip
          refine .block ?_
          refine .rforL h (fun p18_ => [(62, ⟨True, rep p18_.1⟩)]) (fun p18_ => [(5002, some (CPred.at s5002 (rowD 32 3 mkR subR [] p18_.2)))]) (.cons (t := 62) rfl Sub.nil) (.cons (t := 5002) rfl SubB.nil) (.cons (t := 2) rfl (.cons (t := 10) rfl (.cons (t := 11) rfl (.cons (t := 12) rfl (.cons (t := 13) rfl (.cons (t := 14) rfl (.cons (t := 60) rfl (.cons (t := 61) rfl Sub.nil)))))))) (.cons (t := 5001) rfl SubB.nil) (fun p18_ o_18 h hD18 => ?_)
          refine .seq ?_
          refine .region [] mixed (by kernel_rfl) ?_
          refine .cons (.lt .none (.s rfl) (.s rfl)) rfl ?_
          refine .nil ?_
          refine .then ?_
          refine .seq ?_
          refine .cond (t := 63) rfl trivial (fun hb19 => ?_) (fun hb19 => ?_)
          · replace h := bif_t h hb19
            refine .skip ?_
            refine .then ?_
            refine .seq ?_
            obtain ⟨j_20, h, hK20⟩ := bind_some h
            unfold layer_Best_L2 at h
            refine .thenJ (ι := (List (List Int))) (fun j_20 => []) (fun j_20 => [(5002, some (CPred.at s5002 (rowD 32 3 mkR subR [] j_20)))]) (fun s => j_20 = s) (.cons (t := 2) rfl (.cons (t := 10) rfl (.cons (t := 11) rfl (.cons (t := 12) rfl (.cons (t := 13) rfl (.cons (t := 14) rfl (.cons (t := 60) rfl (.cons (t := 61) rfl (.cons (t := 62) rfl Sub.nil))))))))) (.cons (t := 5001) rfl SubB.nil) ?_ (fun j_20' hj20 => ?_)
            · skip
              refine .block ?_
              refine .seq ?_
              refine .region [([], []), ([], []), ([], [17]), ([17], [17])] mixed (by kernel_rfl) ?_
              obtain ⟨hn21, h⟩ := need_some h
              refine .consA (.indexAddr .none sl23 ty79 (.s rfl) (.s rfl) (fun _ => hn21)) rfl ?_
              obtain ⟨v2, hv22, h⟩ := bnd_some h
              refine .consA (.re hv22 (.load .none ty79 (.s rfl))) rfl ?_
              refine .consW (.alloc zo79 rfl) rfl rfl ?_
              refine .consN (.store ty79 rfl rfl (.s rfl)) rfl ?_
              refine .nil ?_
              refine .then ?_
              refine .freeze (t := 17) rfl rfl (.cons (t := 5001) rfl (.cons (t := 5002) rfl SubB.nil)) rfl ?_
              refine .seq ?_
              refine .region [] mixed (by kernel_rfl) ?_
              refine .cons (.move .none (.s rfl)) rfl ?_
              refine .cons (.len .none sl23 (.s rfl)) rfl ?_
              refine .cons (.move .none (.int (by decide))) rfl ?_
              refine .nil ?_
              refine .then ?_
              refine .block ?_
              refine .rforL h (fun p23_ => [(68, ⟨True, rep p23_.1⟩)]) (fun p23_ => [(5002, some (CPred.at s5002 (rowD 32 3 mkR subR [] p23_.2)))]) (.cons (t := 68) rfl Sub.nil) (.cons (t := 5002) rfl SubB.nil) (.cons (t := 2) rfl (.cons (t := 10) rfl (.cons (t := 11) rfl (.cons (t := 12) rfl (.cons (t := 13) rfl (.cons (t := 14) rfl (.cons (t := 17) rfl (.cons (t := 60) rfl (.cons (t := 61) rfl (.cons (t := 62) rfl (.cons (t := 66) rfl (.cons (t := 67) rfl Sub.nil)))))))))))) (.cons (t := 5001) rfl SubB.nil) (fun p23_ o_23 h hD23 => ?_)
              refine .seq ?_
              refine .region [] mixed (by kernel_rfl) ?_
              refine .cons (.lt .none (.s rfl) (.s rfl)) rfl ?_
              refine .nil ?_
              refine .then ?_
              refine .seq ?_
              refine .cond (t := 69) rfl trivial (fun hb24 => ?_) (fun hb24 => ?_)
              · replace h := bif_t h hb24
                refine .skip ?_
                refine .then ?_
                refine .seq ?_
                obtain ⟨j_25, h, hK25⟩ := bind_some h
                unfold layer_Best_L3 at h
                refine .thenJ (ι := (List (List Int))) (fun j_25 => []) (fun j_25 => [(5002, some (CPred.at s5002 (rowD 32 3 mkR subR [] j_25)))]) (fun s => j_25 = s) (.cons (t := 2) rfl (.cons (t := 10) rfl (.cons (t := 11) rfl (.cons (t := 12) rfl (.cons (t := 13) rfl (.cons (t := 14) rfl (.cons (t := 17) rfl (.cons (t := 60) rfl (.cons (t := 61) rfl (.cons (t := 62) rfl (.cons (t := 66) rfl (.cons (t := 67) rfl (.cons (t := 68) rfl Sub.nil))))))))))))) (.cons (t := 5001) rfl SubB.nil) ?_ (fun j_25' hj25 => ?_)
                · skip
                  refine .block ?_
                  refine .seq ?_
                  refine .region [([], []), ([], []), ([], [19]), ([19], [19])] mixed (by kernel_rfl) ?_
                  obtain ⟨hn26, h⟩ := need_some h
                  refine .consA (.indexAddr .none sl23 ty79 (.s rfl) (.s rfl) (fun _ => hn26)) rfl ?_
                  obtain ⟨v3, hv27, h⟩ := bnd_some h
                  refine .consA (.re hv27 (.load .none ty79 (.s rfl))) rfl ?_
                  refine .consW (.alloc zo79 rfl) rfl rfl ?_
                  refine .consN (.store ty79 rfl rfl (.s rfl)) rfl ?_
                  refine .nil ?_
                  refine .then ?_
                  refine .freeze (t := 19) rfl rfl (.cons (t := 5001) rfl (.cons (t := 5002) rfl SubB.nil)) rfl ?_
                  refine .seq ?_
                  refine .region [] mixed (by kernel_rfl) ?_
                  refine .cons (.move .none (.s rfl)) rfl ?_
                  refine .cons (.fieldAddr .none fd79_0 hfd79_0 (.s rfl)) rfl ?_
                  refine .cons (.load .none ty3 (.s rfl)) rfl ?_
                  refine .cons (.lookup .none mo88 zo3 (.s rfl) (.s rfl)) rfl ?_
                  refine .cons (.move .none (.s rfl)) rfl ?_
                  refine .cons (.fieldAddr .none fd79_0 hfd79_0 (.s rfl)) rfl ?_
                  refine .cons (.load .none ty3 (.s rfl)) rfl ?_
                  refine .cons (.lookup .none mo88 zo3 (.s rfl) (.s rfl)) rfl ?_
                  refine .cons (.gt .none (.s rfl) (.s rfl)) rfl ?_
                  refine .nil ?_
                  refine .then ?_
                  refine .cond (t := 80) rfl trivial (fun hb28 => ?_) (fun hb28 => ?_)
                  · replace h := bif_t h hb28
                    obtain ⟨hn29, h⟩ := need_some h
                    refine .openD (k := 5002) (g := 5003) (i := at1.getD v2.To (0 : Int)) rfl rfl hn29 noHole (fun s5003 => ?_)
                    refine .region [([5001], []), ([], []), ([], []), ([], []), ([], []), ([5002], []), ([5002], []), ([], []), ([], []), ([], []), ([], []), ([5003], []), ([5003], []), ([], []), ([5003], []), ([5003], [5003])] mixed (by kernel_rfl) ?_
                    refine .consA (.loadAt0 (k := 5001) .none tr22 rfl (.s rfl)) rfl ?_
                    refine .consA (.move .none (.s rfl)) rfl ?_
                    refine .consA (.fieldAddr .none fd79_1 hfd79_1 (.s rfl)) rfl ?_
                    refine .consA (.load .none ty3 (.s rfl)) rfl ?_
                    refine .consA (.lookup .none mo88 zo3 (.s rfl) (.s rfl)) rfl ?_
                    obtain ⟨hn30, h⟩ := need_some h
                    refine .consA (.indexAddrD (k := 5002) sl22 tr32 (.s rfl) rfl (.s rfl) hn30) rfl ?_
                    refine .consA (.loadElemD (k := 5002) (proj := fun x => x) (y := (⟨s5003⟩ : Raw)) (z := s5003) tr32 (.s rfl) rfl .id hn30 (by simp) rfl) rfl ?_
                    refine .consA (.move .none (.s rfl)) rfl ?_
                    refine .consA (.fieldAddr .none fd79_1 hfd79_1 (.s rfl)) rfl ?_
                    refine .consA (.load .none ty3 (.s rfl)) rfl ?_
                    obtain ⟨v4, hv31, h⟩ := bnd_some h
                    refine .consA (.re hv31 (.lookup .none mo88 zo3 (.s rfl) (.s rfl))) rfl ?_
                    obtain ⟨hn32, h⟩ := need_some h
                    refine .consA (.indexAddrO (k := 5003) .none sl32 ty3 (.s rfl) rfl (.s rfl) (fun _ => hn32)) rfl ?_
                    refine .consA (.loadElem0 (k := 5003) .none ty3 (.s rfl) rfl (fun _ => hn32)) rfl ?_
                    obtain ⟨v5, hv33, h⟩ := bnd_some h
                    refine .consA (.re hv33 (.addW .none (.s rfl) (.int (by decide)))) rfl ?_
                    obtain ⟨hn34, h⟩ := need_some h
                    refine .consA (.indexAddrO (k := 5003) .none sl32 ty3 (.s rfl) rfl (.s rfl) (fun _ => hn34)) rfl ?_
                    refine .consN (.storeElem0 (k := 5003) ty3 (.s rfl) rfl (.s rfl) hn34) rfl ?_
                    refine .nil ?_
                    refine .blkNormal ?_
                    refine .closeD (k := 5002) (g := 5003) ((gx p23_.2 (at1.getD v2.To (0 : Int))).set v4.toNat v5) rfl rfl rfl hn29 noHole (fun _ => rfl) rfl ?_
                    exact Ends.join _ (some_eq h) (.cons (t := 2) rfl (.cons (t := 10) rfl (.cons (t := 11) rfl (.cons (t := 12) rfl (.cons (t := 13) rfl (.cons (t := 14) rfl (.cons (t := 17) rfl (.cons (t := 60) rfl (.cons (t := 61) rfl (.cons (t := 62) rfl (.cons (t := 66) rfl (.cons (t := 67) rfl (.cons (t := 68) rfl Sub.nil))))))))))))) (.cons (t := 5002) rfl (.cons (t := 5001) rfl SubB.nil))
                  · replace h := bif_f h hb28
                    refine .skip ?_
                    refine .blkNormal ?_
                    exact Ends.join _ (some_eq h) (.cons (t := 2) rfl (.cons (t := 10) rfl (.cons (t := 11) rfl (.cons (t := 12) rfl (.cons (t := 13) rfl (.cons (t := 14) rfl (.cons (t := 17) rfl (.cons (t := 60) rfl (.cons (t := 61) rfl (.cons (t := 62) rfl (.cons (t := 66) rfl (.cons (t := 67) rfl (.cons (t := 68) rfl Sub.nil))))))))))))) (.cons (t := 5002) rfl (.cons (t := 5001) rfl SubB.nil))
                · subst hj25; have h := hK25; clear hK25
                  refine .region [] mixed (by kernel_rfl) ?_
                  refine .cons (.addW .none (.s rfl) (.int (by decide))) rfl ?_
                  refine .cons (.move .none (.s rfl)) rfl ?_
                  refine .nil ?_
                  exact Ends.againL (some_eq h) (.cons (t := 68) rfl (.cons (t := 2) rfl (.cons (t := 10) rfl (.cons (t := 11) rfl (.cons (t := 12) rfl (.cons (t := 13) rfl (.cons (t := 14) rfl (.cons (t := 17) rfl (.cons (t := 60) rfl (.cons (t := 61) rfl (.cons (t := 62) rfl (.cons (t := 66) rfl (.cons (t := 67) rfl Sub.nil))))))))))))) (.cons (t := 5002) rfl (.cons (t := 5001) rfl SubB.nil))
              · replace h := bif_f h hb24
                refine .exit ?_
                refine .thenExit ?_
                refine .thenExit ?_
                refine .blkExit ?_
                refine .blkNormal ?_
                replace h := hD23 _ (some_eq h)
                exact Ends.join _ (some_eq h) (.cons (t := 2) rfl (.cons (t := 10) rfl (.cons (t := 11) rfl (.cons (t := 12) rfl (.cons (t := 13) rfl (.cons (t := 14) rfl (.cons (t := 60) rfl (.cons (t := 61) rfl (.cons (t := 62) rfl Sub.nil))))))))) (.cons (t := 5002) rfl (.cons (t := 5001) rfl SubB.nil))
            · subst hj20; have h := hK20; clear hK20
              refine .region [] mixed (by kernel_rfl) ?_
              refine .cons (.addW .none (.s rfl) (.int (by decide))) rfl ?_
              refine .cons (.move .none (.s rfl)) rfl ?_
              refine .nil ?_
              exact Ends.againL (some_eq h) (.cons (t := 62) rfl (.cons (t := 2) rfl (.cons (t := 10) rfl (.cons (t := 11) rfl (.cons (t := 12) rfl (.cons (t := 13) rfl (.cons (t := 14) rfl (.cons (t := 60) rfl (.cons (t := 61) rfl Sub.nil))))))))) (.cons (t := 5002) rfl (.cons (t := 5001) rfl SubB.nil))
          · replace h := bif_f h hb19
            refine .exit ?_
            refine .thenExit ?_
            refine .thenExit ?_
            refine .blkExit ?_
            replace h := hD18 _ (some_eq h)
            exact Ends.join _ (some_eq h) (.cons (t := 10) rfl (.cons (t := 13) rfl (.cons (t := 14) rfl Sub.nil))) (.cons (t := 5002) rfl (.cons (t := 5001) rfl SubB.nil))
        · subst hj17; have h := hK17; clear hK17
          refine .seq ?_
          refine .region [([], []), ([], []), ([], [100]), ([], [20]), ([20, 100], [20, 100])] mixed (by kernel_rfl) ?_
          refine .consA (.load .none ty3 (.s rfl)) rfl ?_
          obtain ⟨hn35, h⟩ := need_some h
          obtain ⟨v6, hv36, h⟩ := bnd_some h
          refine .consA (.re hv36 (.ishl (α := Int) (m := 1) (b := v1) .none (.int (by decide)) (.s rfl) (fun _ => hn35))) rfl ?_
          obtain ⟨hn37, h⟩ := need_some h
          refine .consW (.makeSlice rk32 zo3 rfl (.s rfl) (.s rfl) hn37) rfl rfl ?_
          refine .consW (.alloc zr32 rfl) rfl rfl ?_
          refine .consN (.storeRow0 (k := 20) (t := 100) ty32 rfl rfl rfl rfl) rfl ?_
          refine .nil ?_
          refine .then ?_
          refine .nameAt (t := 20) (g := 5004) rfl rfl (isBox_deep fun _ => isBox_cont) rfl (fun m5004 => ?_)
          refine .open (k := 5004) (g := 5005) rfl rfl (fun s5005 => ?_)
          refine .seq ?_
          refine .region [([], []), ([], []), ([], [103]), ([103], [21, 103])] mixed (by kernel_rfl) ?_
          refine .consA (.load .none ty3 (.s rfl)) rfl ?_
          obtain ⟨hn38, h⟩ := need_some h
          obtain ⟨v7, hv39, h⟩ := bnd_some h
          refine .consA (.re hv39 (.ishl (α := Int) (m := 1) (b := v1) .none (.int (by decide)) (.s rfl) (fun _ => hn38))) rfl ?_
          obtain ⟨hn40, h⟩ := need_some h
          refine .consW (.makeSlice rk32 zo3 rfl (.s rfl) (.s rfl) hn40) rfl rfl ?_
          refine .consW (.passRow rfl (.tmp rfl)) rfl rfl ?_
          refine .nil ?_
          refine .then ?_
          obtain ⟨first1, hv41, h⟩ := bnd_some h
          refine .reB (t := 21) rfl (congrArg (rowV 3) hv41) ?_
          obtain ⟨c2, hv42, h⟩ := bnd_some h
          refine .reB (t := 5005) rfl (congrArg (fun y => CPred.at s5005 (rowV 3 y)) hv42) ?_
          refine .nameRow (t := 21) (g := 5006) rfl rfl rfl (fun s5006 => ?_)
          refine .seq ?_
          refine .region [] mixed (by kernel_rfl) ?_
          refine .cons (.makeFuncC (Cs := [isV (ptr m5004 0), ref v1, isV (ptr m5001 0)]) .none (.cons (.s rfl) (.cons (.s rfl) (.cons (.s rfl) .nil)))) rfl ?_
          refine .cons (.assign .none (.s rfl)) rfl ?_
          refine .nil ?_
          refine .then ?_
          refine .seq ?_
          refine .seq ?_
          refine .region [] mixed (by kernel_rfl) ?_
          refine .cons (.assign .none (.int (by decide))) rfl ?_
          refine .nil ?_
          refine .then ?_
          obtain ⟨j_43, h, hK43⟩ := bind_some h
          refine .thenJ (ι := ((List Int) × (List Int))) (fun j_43 => []) (fun j_43 => [(5004, some (CPred.at (ptr m5004 0) (deep (fun z0 => cont 32 (⟨z0⟩ : Raw)) (rowV 3 j_43.1)))), (5006, some (CPred.at s5006 (rowV 3 j_43.2)))]) (fun s => j_43 = s) (.cons (t := 10) rfl (.cons (t := 13) rfl (.cons (t := 20) rfl (.cons (t := 21) rfl Sub.nil)))) SubB.nil ?_ (fun j_43' hj43 => ?_)
          · skip
            refine .block ?_
            refine .close (k := 5001) (g := 5002) (fun z => cont 22 (⟨z⟩ : Raw)) rfl rfl rfl ?_
            refine .close (k := 5004) (g := 5005) (fun z => cont 32 (⟨z⟩ : Raw)) rfl rfl rfl ?_
            refine .loopL h (fun s44_ => [(23, ⟨True, rep s44_.1⟩)]) (fun s44_ => [(5001, some (CPred.at (ptr m5001 0) (deep (fun z0 => cont 22 (⟨z0⟩ : Raw)) (rowD 32 3 mkR subR [] s44_.2.1)))), (5004, some (CPred.at (ptr m5004 0) (deep (fun z0 => cont 32 (⟨z0⟩ : Raw)) (rowV 3 s44_.2.2.1)))), (5006, some (CPred.at s5006 (rowV 3 s44_.2.2.2)))]) (.cons (t := 23) rfl Sub.nil) (.cons (t := 5001) rfl (.cons (t := 5004) rfl (.cons (t := 5006) rfl SubB.nil))) (.cons (t := 10) rfl (.cons (t := 13) rfl (.cons (t := 14) rfl (.cons (t := 20) rfl (.cons (t := 21) rfl (.cons (t := 22) rfl Sub.nil)))))) SubB.nil (fun s44_ o_44 h hD44 => ?_)
            unfold layer_Best_L4 at h
            refine .open (k := 5001) (g := 5007) rfl rfl (fun s5007 => ?_)
            refine .open (k := 5004) (g := 5008) rfl rfl (fun s5008 => ?_)
            refine .seq ?_
            refine .seq ?_
            refine .region [] mixed (by kernel_rfl) ?_
            refine .cons (.move .none (.s rfl)) rfl ?_
            refine .cons (.load .none ty3 (.s rfl)) rfl ?_
            obtain ⟨hn45, h⟩ := need_some h
            refine .cons (.ishl (α := Int) (m := 1) (b := v1) .none (.int (by decide)) (.s rfl) (fun _ => hn45)) rfl ?_
            refine .cons (.lt .none (.s rfl) (.s rfl)) rfl ?_
            refine .nil ?_
            refine .then ?_
            refine .cond (t := 108) rfl trivial (fun hb46 => ?_) (fun hb46 => ?_)
            · replace h := bif_t h hb46
              refine .skip ?_
              refine .then ?_
              refine .seq ?_
              obtain ⟨j_47, h, hK47⟩ := bind_some h
              refine .thenJ (ι := ((List (List Int)) × (List Int) × (List Int))) (fun j_47 => []) (fun j_47 => [(5001, some (CPred.at (ptr m5001 0) (deep (fun z0 => cont 22 (⟨z0⟩ : Raw)) (rowD 32 3 mkR subR [] j_47.1)))), (5004, some (CPred.at (ptr m5004 0) (deep (fun z0 => cont 32 (⟨z0⟩ : Raw)) (rowV 3 j_47.2.1)))), (5006, some (CPred.at s5006 (rowV 3 j_47.2.2)))]) (fun s => j_47 = s) (.cons (t := 10) rfl (.cons (t := 13) rfl (.cons (t := 14) rfl (.cons (t := 20) rfl (.cons (t := 21) rfl (.cons (t := 22) rfl (.cons (t := 23) rfl Sub.nil))))))) SubB.nil ?_ (fun j_47' hj47 => ?_)
              · skip
                refine .block ?_
                refine .seq ?_
                refine .region [([5004], []), ([], []), ([5008], []), ([5008], [5008])] mixed (by kernel_rfl) ?_
                refine .consA (.loadAt0 (k := 5004) .none tr32 rfl (.s rfl)) rfl ?_
                refine .consA (.move .none (.s rfl)) rfl ?_
                obtain ⟨hn48, h⟩ := need_some h
                refine .consA (.indexAddrO (k := 5008) .none sl32 ty3 (.s rfl) rfl (.s rfl) (fun _ => hn48)) rfl ?_
                refine .consN (.storeElem0 (k := 5008) ty3 (.s rfl) rfl (.int (by decide)) hn48) rfl ?_
                refine .nil ?_
                refine .then ?_
                obtain ⟨c3, hv49, h⟩ := bnd_some h
                refine .reB (t := 5008) rfl (congrArg (fun y => CPred.at s5008 (rowV 3 y)) hv49) ?_
                refine .seq ?_
                refine .region [] mixed (by kernel_rfl) ?_
                refine .cons (.load .none ty3 (.s rfl)) rfl ?_
                refine .cons (.move .none (.int (by decide))) rfl ?_
                refine .nil ?_
                refine .then ?_
                refine .block ?_
                refine .close (k := 5001) (g := 5007) (fun z => cont 22 (⟨z⟩ : Raw)) rfl rfl rfl ?_
                refine .close (k := 5004) (g := 5008) (fun z => cont 32 (⟨z⟩ : Raw)) rfl rfl rfl ?_
                refine .rforL h (fun p50_ => [(115, ⟨True, rep p50_.1⟩)]) (fun p50_ => [(5001, some (CPred.at (ptr m5001 0) (deep (fun z0 => cont 22 (⟨z0⟩ : Raw)) (rowD 32 3 mkR subR [] p50_.2.1)))), (5004, some (CPred.at (ptr m5004 0) (deep (fun z0 => cont 32 (⟨z0⟩ : Raw)) (rowV 3 p50_.2.2.1)))), (5006, some (CPred.at s5006 (rowV 3 p50_.2.2.2)))]) (.cons (t := 115) rfl Sub.nil) (.cons (t := 5001) rfl (.cons (t := 5004) rfl (.cons (t := 5006) rfl SubB.nil))) (.cons (t := 10) rfl (.cons (t := 13) rfl (.cons (t := 14) rfl (.cons (t := 20) rfl (.cons (t := 21) rfl (.cons (t := 22) rfl (.cons (t := 23) rfl (.cons (t := 114) rfl Sub.nil)))))))) SubB.nil (fun p50_ o_50 h hD50 => ?_)
                refine .open (k := 5001) (g := 5009) rfl rfl (fun s5009 => ?_)
                refine .open (k := 5004) (g := 5010) rfl rfl (fun s5010 => ?_)
                refine .seq ?_
                refine .region [] mixed (by kernel_rfl) ?_
                refine .cons (.lt .none (.s rfl) (.s rfl)) rfl ?_
                refine .nil ?_
                refine .then ?_
                refine .seq ?_
                refine .cond (t := 116) rfl trivial (fun hb51 => ?_) (fun hb51 => ?_)
                · replace h := bif_t h hb51
                  refine .skip ?_
                  refine .then ?_
                  refine .seq ?_
                  obtain ⟨j_52, h, hK52⟩ := bind_some h
                  unfold layer_Best_L5 at h
                  refine .thenJ (ι := ((List (List Int)) × (List Int) × (List Int))) (fun j_52 => []) (fun j_52 => [(5001, some (CPred.at (ptr m5001 0) (deep (fun z0 => cont 22 (⟨z0⟩ : Raw)) (rowD 32 3 mkR subR [] j_52.1)))), (5004, some (CPred.at (ptr m5004 0) (deep (fun z0 => cont 32 (⟨z0⟩ : Raw)) (rowV 3 j_52.2.1)))), (5006, some (CPred.at s5006 (rowV 3 j_52.2.2)))]) (fun s => j_52 = s) (.cons (t := 10) rfl (.cons (t := 13) rfl (.cons (t := 14) rfl (.cons (t := 20) rfl (.cons (t := 21) rfl (.cons (t := 22) rfl (.cons (t := 23) rfl (.cons (t := 114) rfl (.cons (t := 115) rfl Sub.nil))))))))) SubB.nil ?_ (fun j_52' hj52 => ?_)
                  · skip
                    refine .block ?_
                    refine .seq ?_
                    refine .region [] mixed (by kernel_rfl) ?_
                    refine .cons (.move .none (.s rfl)) rfl ?_
                    refine .cons (.assign .none (.s rfl)) rfl ?_
                    refine .nil ?_
                    refine .then ?_
                    refine .seq ?_
                    refine .seq ?_
                    refine .region [] mixed (by kernel_rfl) ?_
                    refine .cons (.move .none (.s rfl)) rfl ?_
                    refine .cons (.move .none (.s rfl)) rfl ?_
                    obtain ⟨hn53, h⟩ := need_some h
                    refine .cons (.ishr (α := Int) (m := s44_.1) (b := p50_.1) .none (.s rfl) (.s rfl) (fun _ => hn53)) rfl ?_
                    refine .cons (.iand .none (.s rfl) (.int (by decide))) rfl ?_
                    refine .cons (.eqI .none (.s rfl) (.int (by decide))) rfl ?_
                    refine .nil ?_
                    refine .then ?_
                    refine .cond (t := 122) rfl trivial (fun hb54 => ?_) (fun hb54 => ?_)
                    · replace h := bif_t h hb54
                      refine .exit ?_
                      refine .thenExit ?_
                      refine .blkExit ?_
                      refine .close (k := 5001) (g := 5009) (fun z => cont 22 (⟨z⟩ : Raw)) rfl rfl rfl ?_
                      refine .close (k := 5004) (g := 5010) (fun z => cont 32 (⟨z⟩ : Raw)) rfl rfl rfl ?_
                      exact Ends.join _ (some_eq h) (.cons (t := 10) rfl (.cons (t := 13) rfl (.cons (t := 14) rfl (.cons (t := 20) rfl (.cons (t := 21) rfl (.cons (t := 22) rfl (.cons (t := 23) rfl (.cons (t := 114) rfl (.cons (t := 115) rfl Sub.nil))))))))) (.cons (t := 5001) rfl (.cons (t := 5004) rfl (.cons (t := 5006) rfl SubB.nil)))
                    · replace h := bif_f h hb54
                      refine .skip ?_
                      refine .then ?_
                      refine .seq ?_
                      refine .region [([], []), ([], []), ([], []), ([5004, 5010, 5001, 5009], [5004, 5010, 5001, 5009]), ([], [])] mixed (by kernel_rfl) ?_
                      refine .consA (.move .none (.s rfl)) rfl ?_
                      refine .consA (.move .none (.s rfl)) rfl ?_
                      refine .consA (.move .none (.s rfl)) rfl ?_
                      obtain ⟨n1, hv55, h⟩ := bind_some h
                      refine .consW (.callClo [5004, 5010, 5001, 5009] (Ss := [rep s44_.1, rep p50_.1]) (Cs := [isV (ptr m5004 0), ref v1, isV (ptr m5001 0)]) (.s rfl) (layer_Best_1_ok hv55) (.cons (.s rfl) (.cons (.s rfl) .nil)) (.cons (k := 5004) rfl (.cons (k := 5010) rfl (.cons (k := 5001) rfl (.cons (k := 5009) rfl .nil)))) rfl (by decide) (by decide) (by intro d h; cases h; decide)) rfl rfl ?_
                      refine .consA (.assign .none (.s rfl)) rfl ?_
                      refine .nil ?_
                      refine .then ?_
                      refine .open (k := 5001) (g := 5011) rfl rfl (fun s5011 => ?_)
                      refine .open (k := 5004) (g := 5012) rfl rfl (fun s5012 => ?_)
                      refine .seq ?_
                      refine .region [([5004], []), ([], []), ([5012], []), ([5012], []), ([], []), ([], []), ([], []), ([5004], []), ([], []), ([5012], []), ([5012], []), ([], []), ([], [])] mixed (by kernel_rfl) ?_
                      refine .consA (.loadAt0 (k := 5004) .none tr32 rfl (.s rfl)) rfl ?_
                      refine .consA (.move .none (.s rfl)) rfl ?_
                      obtain ⟨hn56, h⟩ := need_some h
                      refine .consA (.indexAddrO (k := 5012) .none sl32 ty3 (.s rfl) rfl (.s rfl) (fun _ => hn56)) rfl ?_
                      refine .consA (.loadElem0 (k := 5012) .none ty3 (.s rfl) rfl (fun _ => hn56)) rfl ?_
                      refine .consA (.lt .none (.s rfl) (.int (by decide))) rfl ?_
                      refine .consA (.move .none (.s rfl)) rfl ?_
                      refine .consA (.move (.at rfl rfl) (.s rfl)) rfl ?_
                      refine .consA (.loadAt0 (k := 5004) (.at rfl rfl) tr32 rfl (.s rfl)) rfl ?_
                      refine .consA (.move (.at rfl rfl) (.s rfl)) rfl ?_
                      obtain ⟨hn57, h⟩ := need_some h
                      refine .consA (.indexAddrO (k := 5012) (.at rfl rfl) sl32 ty3 (.tmp rfl id) rfl (.tmp rfl id) (fun hg => hn57 hg.2)) rfl ?_
                      refine .consA (.loadElem0 (k := 5012) (.at rfl rfl) ty3 (.tmp rfl id) rfl (fun hg => hn57 hg.2)) rfl ?_
                      refine .consA (.lt (.at rfl rfl) (.tmp rfl id) (.tmp rfl id)) rfl ?_
                      refine .consA (.pickOr .none (.s rfl) (.tmp rfl id)) rfl ?_
                      refine .nil ?_
                      refine .then ?_
                      refine .cond (t := 139) rfl trivial (fun hb58 => ?_) (fun hb58 => ?_)
                      · replace h := bif_t h hb58
                        refine .region [([5004], []), ([], []), ([], []), ([], []), ([], []), ([], []), ([5012], []), ([5012], [5012]), ([5006], []), ([5006], [5006])] mixed (by kernel_rfl) ?_
                        refine .consA (.loadAt0 (k := 5004) .none tr32 rfl (.s rfl)) rfl ?_
                        refine .consA (.move .none (.s rfl)) rfl ?_
                        refine .consA (.move .none (.s rfl)) rfl ?_
                        refine .consA (.move .none (.s rfl)) rfl ?_
                        refine .consA (.move .none (.s rfl)) rfl ?_
                        refine .consA (.move .none (.s rfl)) rfl ?_
                        obtain ⟨hn59, h⟩ := need_some h
                        refine .consA (.indexAddrO (k := 5012) .none sl32 ty3 (.s rfl) rfl (.s rfl) (fun _ => hn59)) rfl ?_
                        refine .consN (.storeElem0 (k := 5012) ty3 (.s rfl) rfl (.s rfl) hn59) rfl ?_
                        obtain ⟨hn60, h⟩ := need_some h
                        refine .consA (.indexAddrO (k := 5006) .none sl32 ty3 (.s rfl) rfl (.s rfl) (fun _ => hn60)) rfl ?_
                        refine .consN (.storeElem0 (k := 5006) ty3 (.s rfl) rfl (.s rfl) hn60) rfl ?_
                        refine .nil ?_
                        refine .blkNormal ?_
                        refine .close (k := 5001) (g := 5011) (fun z => cont 22 (⟨z⟩ : Raw)) rfl rfl rfl ?_
                        refine .close (k := 5004) (g := 5012) (fun z => cont 32 (⟨z⟩ : Raw)) rfl rfl rfl ?_
                        exact Ends.join _ (some_eq h) (.cons (t := 10) rfl (.cons (t := 13) rfl (.cons (t := 14) rfl (.cons (t := 20) rfl (.cons (t := 21) rfl (.cons (t := 22) rfl (.cons (t := 23) rfl (.cons (t := 114) rfl (.cons (t := 115) rfl Sub.nil))))))))) (.cons (t := 5001) rfl (.cons (t := 5004) rfl (.cons (t := 5006) rfl SubB.nil)))
                      · replace h := bif_f h hb58
                        refine .skip ?_
                        refine .blkNormal ?_
                        refine .close (k := 5001) (g := 5011) (fun z => cont 22 (⟨z⟩ : Raw)) rfl rfl rfl ?_
                        refine .close (k := 5004) (g := 5012) (fun z => cont 32 (⟨z⟩ : Raw)) rfl rfl rfl ?_
                        exact Ends.join _ (some_eq h) (.cons (t := 10) rfl (.cons (t := 13) rfl (.cons (t := 14) rfl (.cons (t := 20) rfl (.cons (t := 21) rfl (.cons (t := 22) rfl (.cons (t := 23) rfl (.cons (t := 114) rfl (.cons (t := 115) rfl Sub.nil))))))))) (.cons (t := 5001) rfl (.cons (t := 5004) rfl (.cons (t := 5006) rfl SubB.nil)))
                  · subst hj52; have h := hK52; clear hK52
                    refine .open (k := 5001) (g := 5013) rfl rfl (fun s5013 => ?_)
                    refine .open (k := 5004) (g := 5014) rfl rfl (fun s5014 => ?_)
                    refine .region [] mixed (by kernel_rfl) ?_
                    refine .cons (.addW .none (.s rfl) (.int (by decide))) rfl ?_
                    refine .cons (.move .none (.s rfl)) rfl ?_
                    refine .nil ?_
                    refine .close (k := 5001) (g := 5013) (fun z => cont 22 (⟨z⟩ : Raw)) rfl rfl rfl ?_
                    refine .close (k := 5004) (g := 5014) (fun z => cont 32 (⟨z⟩ : Raw)) rfl rfl rfl ?_
                    exact Ends.againL (some_eq h) (.cons (t := 115) rfl (.cons (t := 10) rfl (.cons (t := 13) rfl (.cons (t := 14) rfl (.cons (t := 20) rfl (.cons (t := 21) rfl (.cons (t := 22) rfl (.cons (t := 23) rfl (.cons (t := 114) rfl Sub.nil))))))))) (.cons (t := 5001) rfl (.cons (t := 5004) rfl (.cons (t := 5006) rfl SubB.nil)))
                · replace h := bif_f h hb51
                  refine .exit ?_
                  refine .thenExit ?_
                  refine .thenExit ?_
                  refine .blkExit ?_
                  refine .blkNormal ?_
                  refine .close (k := 5001) (g := 5009) (fun z => cont 22 (⟨z⟩ : Raw)) rfl rfl rfl ?_
                  refine .close (k := 5004) (g := 5010) (fun z => cont 32 (⟨z⟩ : Raw)) rfl rfl rfl ?_
                  replace h := hD50 _ (some_eq h)
                  exact Ends.join _ (some_eq h) (.cons (t := 10) rfl (.cons (t := 13) rfl (.cons (t := 14) rfl (.cons (t := 20) rfl (.cons (t := 21) rfl (.cons (t := 22) rfl (.cons (t := 23) rfl Sub.nil))))))) (.cons (t := 5001) rfl (.cons (t := 5004) rfl (.cons (t := 5006) rfl SubB.nil)))
              · subst hj47; have h := hK47; clear hK47
                refine .open (k := 5001) (g := 5015) rfl rfl (fun s5015 => ?_)
                refine .open (k := 5004) (g := 5016) rfl rfl (fun s5016 => ?_)
                refine .region [] mixed (by kernel_rfl) ?_
                refine .cons (.move .none (.s rfl)) rfl ?_
                refine .cons (.addW .none (.s rfl) (.int (by decide))) rfl ?_
                obtain ⟨set1, hv61, h⟩ := bnd_some h
                refine .cons (.re hv61 (.assign .none (.s rfl))) rfl ?_
                refine .nil ?_
                refine .close (k := 5001) (g := 5015) (fun z => cont 22 (⟨z⟩ : Raw)) rfl rfl rfl ?_
                refine .close (k := 5004) (g := 5016) (fun z => cont 32 (⟨z⟩ : Raw)) rfl rfl rfl ?_
                exact Ends.againL (some_eq h) (.cons (t := 23) rfl (.cons (t := 10) rfl (.cons (t := 13) rfl (.cons (t := 14) rfl (.cons (t := 20) rfl (.cons (t := 21) rfl (.cons (t := 22) rfl Sub.nil))))))) (.cons (t := 5001) rfl (.cons (t := 5004) rfl (.cons (t := 5006) rfl SubB.nil)))
            · replace h := bif_f h hb46
              refine .exit ?_
              refine .thenExit ?_
              refine .thenExit ?_
              refine .blkExit ?_
              refine .close (k := 5004) (g := 5008) (fun z => cont 32 (⟨z⟩ : Raw)) rfl rfl rfl ?_
              replace h := hD44 _ (some_eq h)
              exact Ends.join _ (some_eq h) (.cons (t := 10) rfl (.cons (t := 13) rfl (.cons (t := 20) rfl (.cons (t := 21) rfl Sub.nil)))) (.cons (t := 5004) rfl (.cons (t := 5006) rfl SubB.nil))
          · subst hj43; have h := hK43; clear hK43
            refine .freezeRow (g := 5006) (ts := [21]) rfl (.cons (t := 21) rfl trivial .nil) (.cons (t := 5004) rfl SubB.nil) rfl ?_
            refine .open (k := 5004) (g := 5017) rfl rfl (fun s5017 => ?_)
            refine .seq ?_
            refine .region [([], [26])] mixed (by kernel_rfl) ?_
            refine .consW (.nilRow (T := 3) (α := Int) rfl) rfl rfl ?_
            refine .nil ?_
            refine .then ?_
            refine .nameRow (t := 26) (g := 5018) rfl rfl rfl (fun s5018 => ?_)
            refine .seq ?_
            refine .seq ?_
            refine .region [] mixed (by kernel_rfl) ?_
            refine .cons (.load .none ty3 (.s rfl)) rfl ?_
            obtain ⟨hn62, h⟩ := need_some h
            refine .cons (.ishl (α := Int) (m := 1) (b := v1) .none (.int (by decide)) (.s rfl) (fun _ => hn62)) rfl ?_
            refine .cons (.subW .none (.s rfl) (.int (by decide))) rfl ?_
            obtain ⟨set2, hv63, h⟩ := bnd_some h
            refine .cons (.re hv63 (.assign .none (.s rfl))) rfl ?_
            refine .nil ?_
            refine .then ?_
            obtain ⟨j_64, h, hK64⟩ := bind_some h
            refine .thenJ (ι := (List Int)) (fun j_64 => []) (fun j_64 => [(26, some (rowV 3 j_64))]) (fun s => j_64 = s) (.cons (t := 13) rfl (.cons (t := 20) rfl Sub.nil)) (.cons (t := 5004) rfl (.cons (t := 5017) rfl SubB.nil)) ?_ (fun j_64' hj64 => ?_)
            · skip
              refine .block ?_
              refine .anon (t := 26) (g := 5018) rfl rfl trivial rfl ?_
              refine .loopL h (fun s65_ => [(27, ⟨True, rep s65_.2⟩)]) (fun s65_ => [(26, some (rowV 3 s65_.1))]) (.cons (t := 27) rfl Sub.nil) (.cons (t := 26) rfl SubB.nil) (.cons (t := 10) rfl (.cons (t := 13) rfl (.cons (t := 20) rfl (.cons (t := 21) rfl Sub.nil)))) (.cons (t := 5004) rfl (.cons (t := 5017) rfl SubB.nil)) (fun s65_ o_65 h hD65 => ?_)
              unfold layer_Best_L6 at h
              refine .nameRow (t := 26) (g := 5019) rfl rfl rfl (fun s5019 => ?_)
              refine .seq ?_
              refine .seq ?_
              refine .region [] mixed (by kernel_rfl) ?_
              refine .cons (.move .none (.s rfl)) rfl ?_
              refine .cons (.gt .none (.s rfl) (.int (by decide))) rfl ?_
              refine .nil ?_
              refine .then ?_
              refine .cond (t := 153) rfl trivial (fun hb66 => ?_) (fun hb66 => ?_)
              · replace h := bif_t h hb66
                refine .skip ?_
                refine .then ?_
                refine .seq ?_
                refine .block ?_
                refine .region [([], []), ([], []), ([], []), ([], []), ([], []), ([], []), ([], []), ([], []), ([], []), ([5019], [170, 5019]), ([170], [26, 170])] mixed (by kernel_rfl) ?_
                refine .consA (.move .none (.s rfl)) rfl ?_
                refine .consA (.move .none (.s rfl)) rfl ?_
                refine .consA (.move .none (.s rfl)) rfl ?_
                refine .consA (.move .none (.s rfl)) rfl ?_
                obtain ⟨hn67, h⟩ := need_some h
                refine .consA (.indexAddr .none sl32 ty3 (.s rfl) (.s rfl) (fun _ => hn67)) rfl ?_
                refine .consA (.load .none ty3 (.s rfl)) rfl ?_
                obtain ⟨hn68, h⟩ := need_some h
                refine .consA (.indexAddr .none sl32 ty3 (.s rfl) (.s rfl) (fun _ => hn68)) rfl ?_
                refine .consA (.load .none ty3 (.s rfl)) rfl ?_
                refine .consA (.buildSlice (xs := [_]) .none sl32 ty3 hz3 (.cons (.s rfl) .nil) rfl (by decide)) rfl ?_
                obtain ⟨hn69, h⟩ := need_some h
                refine .consW (.append (k := 5019) rk32 rfl (.told (.s rfl) rfl) (.s rfl) hn69) rfl rfl ?_
                refine .consWD (.passRow rfl (.tmp rfl)) rfl rfl ?_
                refine .nil ?_
                refine .blkNormal ?_
                refine .then ?_
                obtain ⟨out1, hv70, h⟩ := bnd_some h
                refine .reB (t := 26) rfl (congrArg (rowV 3) hv70) ?_
                refine .nameRow (t := 26) (g := 5020) rfl rfl rfl (fun s5020 => ?_)
                refine .region [] mixed (by kernel_rfl) ?_
                refine .cons (.move .none (.s rfl)) rfl ?_
                refine .cons (.move .none (.s rfl)) rfl ?_
                refine .cons (.move .none (.s rfl)) rfl ?_
                obtain ⟨hn71, h⟩ := need_some h
                refine .cons (.indexAddr .none sl32 ty3 (.s rfl) (.s rfl) (fun _ => hn71)) rfl ?_
                refine .cons (.load .none ty3 (.s rfl)) rfl ?_
                obtain ⟨hn72, h⟩ := need_some h
                refine .cons (.ishl (α := Int) (m := 1) (b := (gx j_43.2 s65_.2)) .none (.int (by decide)) (.s rfl) (fun _ => hn72)) rfl ?_
                refine .cons (.iandNot .none (.s rfl) (.s rfl)) rfl ?_
                obtain ⟨set3, hv73, h⟩ := bnd_some h
                refine .cons (.re hv73 (.assign .none (.s rfl))) rfl ?_
                refine .nil ?_
                refine .anon (t := 26) (g := 5020) rfl rfl trivial rfl ?_
                exact Ends.againL (some_eq h) (.cons (t := 27) rfl (.cons (t := 10) rfl (.cons (t := 13) rfl (.cons (t := 20) rfl (.cons (t := 21) rfl Sub.nil))))) (.cons (t := 26) rfl (.cons (t := 5004) rfl (.cons (t := 5017) rfl SubB.nil)))
              · replace h := bif_f h hb66
                refine .exit ?_
                refine .thenExit ?_
                refine .thenExit ?_
                refine .blkExit ?_
                refine .anon (t := 26) (g := 5019) rfl rfl trivial rfl ?_
                replace h := hD65 _ (some_eq h)
                exact Ends.join _ (some_eq h) (.cons (t := 13) rfl (.cons (t := 20) rfl Sub.nil)) (.cons (t := 26) rfl (.cons (t := 5004) rfl (.cons (t := 5017) rfl SubB.nil)))
            · subst hj64; have h := hK64; clear hK64
              refine .freezeRowA (t := 26) rfl rfl (.cons (t := 5004) rfl (.cons (t := 5017) rfl SubB.nil)) rfl ?_
              refine .seq ?_
              refine .region [([], []), ([5004], []), ([], []), ([], []), ([], []), ([5017], []), ([5017], []), ([], []), ([], []), ([], [])] mixed (by kernel_rfl) ?_
              refine .consA (.move .none (.s rfl)) rfl ?_
              refine .consA (.loadAt0 (k := 5004) .none tr32 rfl (.s rfl)) rfl ?_
              refine .consA (.load .none ty3 (.s rfl)) rfl ?_
              obtain ⟨hn74, h⟩ := need_some h
              refine .consA (.ishl (α := Int) (m := 1) (b := v1) .none (.int (by decide)) (.s rfl) (fun _ => hn74)) rfl ?_
              refine .consA (.subW .none (.s rfl) (.int (by decide))) rfl ?_
              obtain ⟨hn75, h⟩ := need_some h
              refine .consA (.indexAddrO (k := 5017) .none sl32 ty3 (.s rfl) rfl (.s rfl) (fun _ => hn75)) rfl ?_
              refine .consA (.loadElem0 (k := 5017) .none ty3 (.s rfl) rfl (fun _ => hn75)) rfl ?_
              refine .consA (.assign .none (.s rfl)) rfl ?_
              refine .consA (.assign .none (.s rfl)) rfl ?_
              refine .consA (.assign .none (.int (by decide))) rfl ?_
              refine .nil ?_
              refine .then ?_
              refine .ret ?_
              obtain rfl := some_eq h
              exact Ends.ret3 (.inl rfl) Try.results43 (ResOK.tmp rfl trivial Imp.refl) (ResOK.tmp rfl trivial Imp.refl) (ResOK.tmp rfl trivial Imp.refl)

theorem slices_Clone_Link_ok {s1 : (List Link)} {r : (List Link)}  (h : slices_Clone_Link s1 = some r) : FSpecO Try.prog 50 [rep s1] [] (anyV) [some (rowV 79 r)] := by
  unfold slices_Clone_Link at h
  refine FSpecO.intro (n := 8) fnok50 Try.func50 rfl Try.ntmps50 rfl (fun F => ?_)
  refine .seq ?_
  refine .region [] mixed (by kernel_rfl) ?_
  refine .cons (.assign .none (.const (x := ([] : (List Link))) (fun M w => ⟨_, ⟨none, 0, rfl, Nat.le_refl _, by decide, rfl⟩, rfl⟩))) rfl ?_
  refine .nil ?_
  refine .then ?_
  refine .seq ?_
  refine .seq ?_
  refine .region [] mixed (by kernel_rfl) ?_
  refine .cons (.move .none (.s rfl)) rfl ?_
  refine .cons (.eqNil .none sl23 (.s rfl)) rfl ?_
  refine .nil ?_
  refine .then ?_
  refine .condNil (t := 4) rfl trivial (fun hb1 => ?_) ?_
  · replace h := nilc_t h hb1
    refine .seq ?_
    refine .region [([], [2])] mixed (by kernel_rfl) ?_
    refine .consW (.nilRow (T := 79) (α := Link) rfl) rfl rfl ?_
    refine .nil ?_
    refine .then ?_
    refine .nameRow (t := 2) (g := 5001) rfl rfl rfl (fun s5001 => ?_)
    refine .ret ?_
    refine .thenRet ?_
    refine .anon (t := 2) (g := 5001) rfl rfl trivial rfl ?_
    obtain rfl := some_eq h
    exact Ends.ret1O (.inl rfl) [2] Try.results50 (by decide) (.res rfl rfl) (ResOK.tmp rfl trivial (fun _ _ _ _ => trivial))
  · replace h := nilc_f h
    refine .skip ?_
    refine .then ?_
    refine .seq ?_
    refine .region [([], [5]), ([], []), ([5], [7, 5]), ([7], [2, 7])] mixed (by kernel_rfl) ?_
    refine .consW (.buildSliceO (xs := []) rfl sl23 ty79 hz79 .nil rfl (by decide)) rfl rfl ?_
    refine .consA (.move .none (.s rfl)) rfl ?_
    obtain ⟨hn2, h⟩ := need_some h
    refine .consW (.append (k := 5) rk23 rfl (.tmp rfl) (.s rfl) hn2) rfl rfl ?_
    refine .consW (.passRow rfl (.tmp rfl)) rfl rfl ?_
    refine .nil ?_
    refine .then ?_
    obtain ⟨v1, hv3, h⟩ := bnd_some h
    refine .reB (t := 2) rfl (congrArg (rowV 79) hv3) ?_
    refine .nameRow (t := 2) (g := 5002) rfl rfl rfl (fun s5002 => ?_)
    refine .ret ?_
    refine .anon (t := 2) (g := 5002) rfl rfl trivial rfl ?_
    obtain rfl := some_eq h
    exact Ends.ret1O (.inl rfl) [2] Try.results50 (by decide) (.res rfl rfl) (ResOK.tmp rfl trivial (fun _ _ _ _ => trivial))

theorem ref_BestOf_1_1_ok {x1 : Link} {c0_1 : Int} {c1_1 : Int} {r : Bool}  (h : ref_BestOf_1_1 x1 c0_1 c1_1 = some r) : FSpec Try.prog 87 [rep x1, ref c0_1, ref c1_1] (rep r) := by
  unfold ref_BestOf_1_1 at h
  refine FSpec.intro (n := 15) fnok87 Try.func87 rfl Try.ntmps87 rfl (fun F => ?_)
  refine .seq ?_
  refine .region [] mixed (by kernel_rfl) ?_
  refine .cons (.box .none (.s rfl)) rfl ?_
  refine .cons (.assign .none .bool) rfl ?_
  refine .nil ?_
  refine .then ?_
  refine .seq ?_
  refine .region [] mixed (by kernel_rfl) ?_
  refine .cons (.fieldAddr .none fd79_1 hfd79_1 (.s rfl)) rfl ?_
  refine .cons (.load .none ty3 (.s rfl)) rfl ?_
  refine .cons (.load .none ty3 (.s rfl)) rfl ?_
  refine .cons (.neI .none (.s rfl) (.s rfl)) rfl ?_
  refine .cons (.move .none (.s rfl)) rfl ?_
  refine .cons (.fieldAddr (.at rfl rfl) fd79_1 hfd79_1 (.s rfl)) rfl ?_
  refine .cons (.load (.at rfl rfl) ty3 (.tmp rfl id)) rfl ?_
  refine .cons (.load (.at rfl rfl) ty3 (.s rfl)) rfl ?_
  refine .cons (.neI (.at rfl rfl) (.tmp rfl id) (.tmp rfl id)) rfl ?_
  refine .cons (.pickAnd .none (.s rfl) (.tmp rfl id)) rfl ?_
  refine .cons (.assign .none (.s rfl)) rfl ?_
  refine .nil ?_
  refine .then ?_
  refine .ret ?_
  obtain rfl := some_eq h
  exact Ends.ret1 (.inl rfl) Try.results87 (ResOK.tmp rfl trivial Imp.refl)


end Go.Proofs.Ytbahnfkccdlpnaa
