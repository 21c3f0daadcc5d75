/-
  The walks: what a function computes is what its plain function says (printed by a program of one's own).
-/
import Derived.Test.YtbahnfkccdlpnaaTLaFa
set_option maxRecDepth 100000
set_option linter.unusedSimpArgs false
set_option linter.unusedVariables false
namespace Go.Proofs.Ytbahnfkccdlpnaa
open Go Go.DB Go.RowKit

theorem slices_Sort_int_ok {l : List Int} {r : List Int} {s : Value} (h : slices_Sort_int l = some r) : FSpecO Try.prog 67 [isV s] [(s, rowV 3 l)] (anyV) [some (rowV 3 r)] := by
 obtain ⟨hl, h⟩ := need_some h
 obtain rfl := some_eq h
 exact sortI_spec sortI_lay rfl fnok67 hl

theorem slices_Compact_int_ok {l : List Int} {r : List Int} {s : Value} (h : slices_Compact_int l = some r) : FSpecO Try.prog 51 [isV s] [(s, rowV 3 l)] (anyV) [none, some (rowV 3 r)] := by
 obtain ⟨hl, h⟩ := need_some h
 obtain rfl := some_eq h
 exact compactI_spec compactI_lay rfl fnok51 hl

attribute [local go_sem] Oper.semAt_some
open Go.Shelf in
set_option maxRecDepth 100000 in
set_option maxHeartbeats 2000000 in
theorem vals1_in (F : Fence) (n : Nat) (h7 : F.fn 95) (hro : F.round = none) (hn : 1 ≤ n) (l Bs n₀ b off len cap : Nat) (zs : List Int) (hreach : len * 8 ≤ 140737488351232) (hb : b < n₀) (J Jx : List Int → World → Prop)
  (hY : ∀ pre x W, J pre W → pre.length < len → YieldAt F (n - 1) Try.prog l #[.int .i64 x] W fun e W' =>
   (e = .returned (.bool true) ∧ J (pre ++ [x]) W' ∧ Below n₀ W W') ∨ (e = .returned (.bool false) ∧ Jx (pre ++ [x]) W'))
  (W : World) (hBs : W.cell? ⟨Bs, 0, none⟩ = some (.slice (some ⟨b, off, none⟩) len cap)) (hc : ∀ j, j < len → W.cell? ⟨b, off + j, none⟩ = some (.int .i64 (zs[j]?.getD 0))) (h0 : J [] W) :
  CallsIn F n Try.prog 95 #[.func (.yield l) #[] #[], .pointer (some ⟨Bs, 0, none⟩)] W fun e W' => (∃ v, e = .returned v) ∧
   ((∃ ys, ys = uptoI zs len ∧ J ys W') ∨ (∃ pre, (∃ k, k ≤ len ∧ pre = uptoI zs k) ∧ Jx pre W')) := by
 refine callsIn_of_wp Try.func95 rfl h7 ?_ hro
 simp only [Try.ntmps95, List.size_toArray, List.length_cons, List.length_nil, Nat.reduceAdd, Nat.reduceSub, Array.replicate_succ, Array.replicate_zero, List.push_toArray, List.append_toArray, List.nil_append, List.cons_append]
 gi_wp2
 gi_loopw [7] (fun i wr => ∃ k : Nat, k ≤ len ∧ i = .int .i64 k ∧ J (uptoI zs k) wr ∧ Below n₀ W wr)
  (fun i _ => len - (intOf i).toNat)
 case atStart => exact ⟨0, Nat.zero_le _, rfl, h0, Below.refl _ _⟩
 case round =>
  obtain ⟨k, hk, rfl, hJs, hnx⟩ := hrel
  have hcx : k < len → wr.cell? ⟨b, off + k, none⟩ = some (.int .i64 (zs[k]?.getD 0)) := fun h => (hnx.cell (p := ⟨b, off + k, none⟩) hb).trans (hc k h)
  by_cases hlt : k < len
  ·
   obtain ⟨fn, tmps, assign, body, hy, hR⟩ := hY _ (zs[k]?.getD 0) wr hJs (by rw [uptoI_length]; exact hlt)
   have hcx' := hcx hlt
   gi_wp2
   refine hR.mono ?_
   rintro e W3 (⟨rfl, hJ3, hk3⟩ | ⟨rfl, hJx3⟩)
   ·
    gi_wp2
    go_roundw
    case rel => exact ⟨k + 1, by omega, by simp, by rw [uptoI_succ]; exact hJ3, hnx.trans hk3⟩
    case measure => simp [intOf]; omega
   ·
    gi_wp2
    refine bodyPost_ret (results_none rfl _ _ _) rfl ?_
    exact ⟨⟨_, rfl⟩, .inr ⟨_, ⟨k + 1, by omega, (uptoI_succ _ _).symm⟩, hJx3⟩⟩
  ·
   obtain rfl : k = len := by omega
   gi_wp2
   go_end0
   exact ⟨⟨_, rfl⟩, .inl ⟨_, rfl, hJs⟩⟩
open Go.Shelf in
set_option maxRecDepth 100000 in
set_option maxHeartbeats 1000000 in
theorem vals1_nil_in (F : Fence) (n : Nat) (h7 : F.fn 95) (hro : F.round = none) (l Bs cap : Nat) (a : Option Addr) (J : List Int → World → Prop) (W : World) (hBs : W.cell? ⟨Bs, 0, none⟩ = some (.slice a 0 cap)) (h0 : J [] W) :
  CallsIn F n Try.prog 95 #[.func (.yield l) #[] #[], .pointer (some ⟨Bs, 0, none⟩)] W fun e W' => (∃ v, e = .returned v) ∧ J [] W' := by
 refine callsIn_of_wp Try.func95 rfl h7 ?_ hro
 simp only [Try.ntmps95, List.size_toArray, List.length_cons, List.length_nil, Nat.reduceAdd, Nat.reduceSub, Array.replicate_succ, Array.replicate_zero, List.push_toArray, List.append_toArray, List.nil_append, List.cons_append]
 gi_wp2
 gi_loopw [7] (fun i wr => i = .int .i64 0 ∧ J [] wr) (fun _ _ => 0)
 case atStart => exact ⟨rfl, h0⟩
 case round =>
  obtain ⟨rfl, hJs⟩ := hrel
  gi_wp2
  go_end0
  exact ⟨⟨_, rfl⟩, hJs⟩
theorem vals_stops (F : Fence) (n : Nat) (h7 : F.fn 95) (hro : F.round = none) (hn : 1 ≤ n) (Bs n₀ : Nat) (sv : Value) (zs : List Int) (hreach : zs.length * 8 ≤ 140737488351232) (w : World) (hBs : Bs < w.heap.size) (hn₀ : n₀ ≤ w.heap.size)
  (hc : w.cell? ⟨Bs, 0, none⟩ = some sv) (hI : IntsAt n₀ w sv zs) :
  SeqStopsK F n Try.prog 95 #[.pointer (some ⟨Bs, 0, none⟩)] (fun x : Int => #[Value.int .i64 x]) (Below n₀) (fun ys => ys = zs) (fun pre => True) zs.length w := fun l J Jx W hW _ _ hY h0 => by
 have hc' := (hW.cell (p := ⟨Bs, 0, none⟩) hBs).trans hc
 rcases hI.below (hW.mono hn₀) with ⟨a, cap, rfl, rfl⟩ | ⟨b, off, cap, rfl, hb, hcs⟩
 ·
  exact (vals1_nil_in F n h7 hro l Bs cap a J W hc' h0).mono fun e W' ⟨he, hj⟩ => ⟨he, .inl ⟨_, rfl, hj⟩⟩
 ·
  refine (vals1_in F n h7 hro hn l Bs n₀ b off zs.length cap zs hreach hb J Jx hY W hc' hcs h0).mono ?_
  rintro e W' ⟨he, ⟨ys, rfl, hj⟩ | ⟨pre, ⟨k, hk, rfl⟩, hj⟩⟩
  ·
   exact ⟨he, .inl ⟨_, uptoI_all zs, hj⟩⟩
  ·
   exact ⟨he, .inr ⟨_, trivial, hj⟩⟩
open Go.Shelf in
set_option maxHeartbeats 1000000 in
theorem vals_in (F : Fence) (n : Nat) (h5 : F.fn 53) (hro : F.round = none) (a : Option Addr) (len cap : Nat) (w : World) :
  CallsIn F n Try.prog 53 #[.slice a len cap] w fun e w' => e = .returned (.func (.func 95) #[] #[.pointer (some ⟨w.heap.size, 0, none⟩)]) ∧ w' = w.alloc (.cells #[.slice a len cap] 32) := by
 refine callsIn_of_wp Try.func53 rfl h5 ?_ hro
 simp only [Try.ntmps53, List.size_toArray, List.length_cons, List.length_nil, Nat.reduceAdd, Nat.reduceSub, Array.replicate_succ, Array.replicate_zero, List.push_toArray, List.append_toArray, List.nil_append, List.cons_append]
 gi_wp2
 go_ret
 exact ⟨rfl, rfl⟩
theorem seqInfo : (Try.prog.info? 3).map (fun i => (i.zero, i.size, i.bytes)) = some (some (.int .i64 0), 1, 8) := by kernel_rfl
open Go.Shelf Go.Maps in
set_option maxRecDepth 100000 in
set_option maxHeartbeats 2000000 in
theorem appSeq_in (F : Fence) (n : Nat) (h3 : F.fn 114) (h5 : F.fn 95) (hro : F.round = none) (hn : 3 ≤ n) (Bs : Nat) (sv : Value) (xs : List Int) (hlen : xs.length ≤ maxLen) (hbytes : xs.length * 8 ≤ 140737488351232) (w : World) (hBs : Bs < w.heap.size) (hc : w.cell? ⟨Bs, 0, none⟩ = some sv) (hI : IntsAt w.heap.size w sv xs) :
  CallsIn F n Try.prog 114 #[.slice none 0 0, .func (.func 95) #[] #[.pointer (some ⟨Bs, 0, none⟩)]] w fun e W' => ∃ v, e = .returned v ∧ W'.ownsRow w.heap.size 3 1 v xs.length (xs.map (Value.int .i64)) ∧ (v = .slice none 0 0 ↔ xs = []) ∧ Below w.heap.size w W' := by
 have h1 : 1 ≤ n := by omega
 obtain ⟨i0, hi, hz0, hz1, hz2⟩ := info_parts seqInfo
 refine callsIn_of_wp_marks Try.func114 rfl h3 ?_ hro
 simp only [Try.ntmps114, List.size_toArray, List.length_cons, List.length_nil, Nat.reduceAdd, Nat.reduceSub, Array.replicate_succ, Array.replicate_zero, List.push_toArray, List.append_toArray, List.nil_append, List.cons_append]
 gi_wp2
 have bO := Boxed.new w 32 (.slice none 0 0)
 have hB0 : Below w.heap.size w (w.alloc (.cells #[.slice none 0 0] 32)) := (Below.refl _ w).alloc (Nat.le_refl _) _
 refine wpIn_rangeFunc_ownG hro h1 (gf := 95) (lb := #[.pointer (some ⟨Bs, 0, none⟩)]) rfl h5 (enters_of Try.func95 (by kernel_rfl) rfl)
  (vals_stops F (n - 1) h5 hro (by omega) Bs w.heap.size sv xs hbytes _ (by simp; omega) (by simp) ((hB0.cell (p := ⟨Bs, 0, none⟩) hBs).trans hc) (hI.below hB0)) belowK_t (belowK_b (by simp)) (Below.refl _ _) (fun _ => rfl)
  (fun pre W => (∃ v, Boxed W w.heap.size 32 v ∧ W.ownsRow w.heap.size 3 1 v pre.length (pre.map (Value.int .i64)) ∧ (v = .slice none 0 0 ↔ pre = [])) ∧ Below w.heap.size w W)
  (fun _ _ _ => False)
  (OwnFrom.and (Own.from (holdsRow_own w.heap.size w.heap.size 32 3 1 (fun pre : List Int => pre.length) (fun pre => pre.map (Value.int .i64)) (fun pre v => v = .slice none 0 0 ↔ pre = [])) _) (ownFrom_below (Nat.le_refl _) (by simp)))
  (fun _ _ _ _ _ hs _ _ => hs)
  ⟨⟨_, bO, World.ownsRow_nil _ _ _ _, by simp⟩, hB0⟩
  (fun x => { tmps := #[.slice none 0 0, .func (.func 95) #[] #[.pointer (some ⟨Bs, 0, none⟩)], .pointer (some ⟨w.heap.size, 0, none⟩), undef, .slice none 0 0, .int .i64 x, .func (.func 95) #[] #[.pointer (some ⟨Bs, 0, none⟩)], .int .i64 x, undef, undef, undef, undef, undef], defers := [] }) ?assign ?body ?done ?stop
 case assign =>
  intro l x W K hK
  gi_wp2
  exact hK
 case body =>
  rintro l pre x W ⟨⟨v, hv, hrow, hnil⟩, hB⟩ hlt
  have hc := hv.cell
  gi_wp2_with (gi_at_builtin; refine wpListIn_append_own _ rfl _ _ 32 rfl w.heap.size 3 i0 (.int .i64 0) 1 8 Try.underlying32 hi hz0 hz1 hz2 rfl (by decide) _ _ _ rfl (hrow.alloc _) ⟨W.heap.size, 0, none⟩ 1 1 [.int .i64 x] rfl rfl (cell_one_new _ _ _) (by simp [Value.oneCell']) (by omega) (by omega) (by have := hB.size; simp; omega) ?_; intro v' w1 hown' hgrow _; obtain ⟨g', cap', rfl⟩ := ownsRow_succ hown'; obtain ⟨hv1, hv2, hr2, hk2, hb2⟩ := hv.appended (by decide) hrow hB.size (Nat.le_refl _) hown' hgrow; have hc1 := hv1.cell; have hf1 := hv1.frozen)
  exact ⟨hk2.from _, hb2, ⟨_, hv2, by simpa using hr2, by simp⟩, hB.trans hb2⟩
 case done =>
  rintro D ys W hD rfl ⟨⟨v, hv, hrow, hnil⟩, hB⟩ hK
  have hc := hv.cell
  gi_wp2
  refine ⟨by simp, .inl ⟨_, _, rfl, run_takeDeferred hK, ?_⟩⟩
  exact ⟨_, results_tmp rfl _ _ _, v, rfl, ownsRow_putObj hrow _ hK rfl, hnil, hB.trans (belowK_b (w := w) (Nat.le_refl _) W D _ _ (by simp at hD; omega) hK rfl rfl)⟩
 case stop =>
  rintro D c pre W _ _ h _
  exact h.elim
open Go.Shelf Go.Maps in
set_option maxHeartbeats 1000000 in
theorem collect_in (F : Fence) (n : Nat) (h2 : F.fn 94) (h3 : F.fn 114) (h5 : F.fn 95) (hro : F.round = none) (hn : 4 ≤ n) (Bs : Nat) (sv : Value) (xs : List Int) (hlen : xs.length ≤ maxLen) (hbytes : xs.length * 8 ≤ 140737488351232) (w : World) (hBs : Bs < w.heap.size) (hc : w.cell? ⟨Bs, 0, none⟩ = some sv) (hI : IntsAt w.heap.size w sv xs) :
  CallsIn F n Try.prog 94 #[.func (.func 95) #[] #[.pointer (some ⟨Bs, 0, none⟩)]] w fun e W' => ∃ v, e = .returned v ∧ W'.ownsRow w.heap.size 3 1 v xs.length (xs.map (Value.int .i64)) ∧ (v = .slice none 0 0 ↔ xs = []) ∧ Below w.heap.size w W' := by
 have hn1 : 1 ≤ n := by omega
 refine callsIn_of_wp Try.func94 rfl h2 ?_ hro
 simp only [Try.ntmps94, List.size_toArray, List.length_cons, List.length_nil, Nat.reduceAdd, Nat.reduceSub, Array.replicate_succ, Array.replicate_zero, List.push_toArray, List.append_toArray, List.nil_append, List.cons_append]
 gi_wp2_with (gi_at_call 114; refine (appSeq_in F (n - 1) h3 h5 hro (by omega) Bs sv xs hlen hbytes w hBs hc hI).mono ?_; rintro e w' ⟨v, rfl, hrow, hnil, hb⟩)
 go_ret
 exact ⟨v, rfl, hrow, hnil, hb⟩
open Go.Shelf Go.Maps Go.Sort in
set_option maxRecDepth 100000 in
set_option maxHeartbeats 2000000 in
theorem sorted_in (F : Fence) (n : Nat) (h1 : F.fn 52) (h2 : F.fn 94) (h3 : F.fn 114) (h5 : F.fn 95) (h9 : F.fn 67) (hF : ∀ (R : Ending → World → Prop) args w, Calls Try.prog 67 args w R → CallsIn F (n - 1) Try.prog 67 args w R) (hro : F.round = none) (hn : 5 ≤ n) (Bs : Nat) (sv : Value) (xs : List Int) (hlen : xs.length ≤ maxLen) (hbytes : xs.length * 8 ≤ 140737488351232) (w : World) (hBs : Bs < w.heap.size) (hc : w.cell? ⟨Bs, 0, none⟩ = some sv) (hI : IntsAt w.heap.size w sv xs) :
  CallsIn F n Try.prog 52 #[.func (.func 95) #[] #[.pointer (some ⟨Bs, 0, none⟩)]] w fun e W' => ∃ v, e = .returned v ∧ W'.ownsRow w.heap.size 3 1 v xs.length ((sortI xs).map (Value.int .i64)) ∧ Below w.heap.size w W' := by
 have hn1 : 1 ≤ n := by omega
 refine callsIn_of_wp Try.func52 rfl h1 ?_ hro
 simp only [Try.ntmps52, List.size_toArray, List.length_cons, List.length_nil, Nat.reduceAdd, Nat.reduceSub, Array.replicate_succ, Array.replicate_zero, List.push_toArray, List.append_toArray, List.nil_append, List.cons_append]
 gi_wp2_with (gi_at_call 94; refine (collect_in F (n - 1) h2 h3 h5 hro (by omega) Bs sv xs hlen hbytes w hBs hc hI).mono ?_; rintro e W ⟨v, rfl, hrow, hnil, hb⟩)
 rcases hrow.2 with ⟨rfl, hz⟩ | ⟨gb, cap, cur, rfl, hbase, hgb, r1, r2, r3, r4⟩
 ·
  have hss : xs = [] := List.eq_nil_of_length_eq_zero hz
  subst hss
  gi_wp2_with (gi_at_call 67; refine (hF _ _ _ (Proofs.AnyM.slices_Sort_int_none sortI_lay none 0 W)).mono ?_; rintro e w' ⟨rfl, rfl⟩)
  go_ret
  exact ⟨.slice none 0 0, rfl, by simpa [sortI] using hrow, hb⟩
 ·
  have hH : Holds (Value.int .i64) W gb 0 xs.toArray := Proofs.holds_of_block_i hgb (by simpa using r4)
  have hgl : gb < W.heap.size := (Array.getElem?_eq_some_iff.1 hgb).1
  have hsz : xs.length < 4611686018427387904 := by omega
  have cS := hF _ _ _ (Proofs.AnyM.slices_Sort_int sortI_lay gb 0 cap xs W hH hgl hsz)
  gi_wp2_with (gi_at_call 67; refine cS.mono ?_; rintro e w' ⟨rfl, nn, os, rfl⟩)
  go_ret
  exact ⟨_, rfl, Proofs.ownsRow_sorted_i (by simp) hbase hgb r1 r2 r3, hb.grown (Proofs.grownBy_sorted_i _) hb.size (fun j hj => by cases hj; exact hbase)⟩

theorem slices_Values_int_ok {l : List Int} {r : SeqI} (h : slices_Values_int l = some r) : FSpec Try.prog 53 [rep l] (rep r) := by
 obtain rfl := some_eq h
 refine ⟨fnok53, fun M w vs hM ha => ?_⟩
 match vs, ha with
 | [v], ⟨hv, _⟩ =>
  obtain ⟨a, cap, rfl, h1, h2, h3⟩ := rep_list.1 hv
  refine Calls.mono (callsIn_wide.1 (vals_in Fence.wide 3 trivial rfl a l.length cap w)) ?_
  rintro e w' ⟨rfl, rfl⟩
  have hx : Ext w (w.alloc (.cells #[.slice a l.length cap] 32)) := Ext.alloc _ _
  refine ⟨hx, _, rfl, [_], ⟨_, rfl, w.heap.size, rfl, fun hm => ?_, ?_, _, (Boxed.new w 32 (.slice a l.length cap)).cell, (rep l).law M M _ _ _ hx.keeps (fun k h => .inl h) hv⟩, rfl⟩
  ·
   have := hM.lt _ hm; omega
  ·
   simp

theorem slices_Sorted_int_ok {x : SeqI} {r : List Int} (h : slices_Sorted_int x = some r) : FSpecO Try.prog 52 [rep x] [] (anyV) [some (rowV 3 r)] := by
 obtain ⟨hn, h⟩ := need_some h
 obtain rfl := some_eq h
 refine ⟨fnok52, fun M D w vs hM ha hO => ?_⟩
 match vs, ha with
 | [v], ⟨⟨cs, ⟨u, hcs, b, hu, hbM, hb, sv, hc, hr⟩, hv⟩, _⟩ =>
  subst hcs; subst hu; subst hv
  obtain ⟨hI, hin⟩ := IntsAt.of hr
  refine Calls.mono (callsIn_wide.1 (sorted_in Fence.wide 9 trivial trivial trivial trivial trivial (fun _ _ _ h => callsIn_wide.2 h) rfl (by omega) b sv x.l (by unfold maxLen; omega) (by omega) w hb hc hI)) ?_
  rintro e w' ⟨v, rfl, hrow, hbl⟩
  have hlen : (sortI x.l).length = x.l.length := by simp [sortI]
  rw [← hlen] at hrow
  obtain ⟨M', D', k1, k2, k3, k4, k5, k6⟩ := row_of_owns hM hbl (fun y hy => hin y (by simpa [sortI] using hy)) hrow
  refine ⟨v, M', D', rfl, k1 _, fun k h => .inl (k3 k h), k2, k4, trivial, ?_, ?_⟩
  ·
   intro i c hc
   match i, hc with
   | 0, hc =>
    simp only [List.getElem?_cons_zero, Option.some.injEq] at hc
    subst hc
    exact ⟨k5, fun k hk => .inr (k6 k hk)⟩
  ·
   intro i j c c' hi hj hne
   match i, j, hi, hj with
   | 0, 0, _, _ => omega

theorem layer_Check_1_ok {k1 : Int} {c0_1 : Int} {r : Bool}  (h : layer_Check_1 k1 c0_1 = some r) : FSpec Try.prog 65 [rep k1, ref c0_1] (rep r) := by
 unfold layer_Check_1 at h
 refine FSpec.intro (n := 11) fnok65 Try.func65 rfl Try.ntmps65 rfl (fun F => ?_)
 refine .seq (.region [] mixed (by kernel_rfl) ?_)
 refine .cons (.assign .none .bool) rfl ?_
 refine .nil (.then ?_)
 refine .seq (.region [] mixed (by kernel_rfl) ?_)
 refine .cons (.move .none (.s rfl)) rfl ?_
 refine .cons (.ge .none (.s rfl) (.int (by decide))) rfl ?_
 refine .cons (.move .none (.s rfl)) rfl ?_
 refine .cons (.move (.at rfl rfl) (.s rfl)) rfl ?_
 refine .cons (.load (.at rfl rfl) ty3 (.s rfl)) rfl ?_
 refine .cons (.lt (.at rfl rfl) (.tmp rfl id) (.tmp rfl id)) rfl ?_
 refine .cons (.pickAnd .none (.s rfl) (.tmp rfl id)) rfl ?_
 refine .cons (.assign .none (.s rfl)) rfl ?_
 refine .nil (.then ?_)
 refine .ret ?_
 obtain rfl := some_eq h
 exact Ends.ret1 (.inl rfl) Try.results65 (ResOK.tmp rfl trivial Imp.refl)

theorem layer_Check_ok {n1 : Int} {l1 : (List Link)} {r : Int}  (h : layer_Check n1 l1 = some r) : FSpec Try.prog 19 [rep n1, rep l1] (rep r) := by
 unfold layer_Check at h
 refine FSpec.intro (n := 44) fnok19 Try.func19 rfl Try.ntmps19 rfl (fun F => ?_)
 refine .seq (.region [] mixed (by kernel_rfl) ?_)
 refine .cons (.box .none (.s rfl)) rfl ?_
 refine .cons (.assign .none (.int (by decide))) rfl ?_
 refine .nil (.then ?_)
 refine .seq ?_
 refine .block ?_
 refine .seq (.region [] mixed (by kernel_rfl) ?_)
 refine .cons (.load .none ty3 (.s rfl)) rfl ?_
 refine .cons (.lt .none (.s rfl) (.int (by decide))) rfl ?_
 refine .cons (.move .none (.s rfl)) rfl ?_
 refine .cons (.load (.at rfl rfl) ty3 (.s rfl)) rfl ?_
 refine .cons (.gt (.at rfl rfl) (.tmp rfl id) (.int (by decide))) rfl ?_
 refine .cons (.pickOr .none (.s rfl) (.tmp rfl id)) rfl ?_
 refine .cons (.assign .none (.s rfl)) rfl ?_
 refine .nil (.then ?_)
 refine .cond (t := 8) rfl trivial (fun hb1 => ?_) (fun hb1 => ?_)
 ·
  replace h := bif_t h hb1
  refine .seq (.region [] mixed (by kernel_rfl) ?_)
  refine .cons (.assign .none (.int (by decide))) rfl ?_
  refine .nil (.then ?_)
  refine .ret ?_
  refine .blkRet ?_
  refine .thenRet ?_
  obtain rfl := some_eq h
  exact Ends.ret1 (.inl rfl) Try.results19 (ResOK.tmp rfl trivial Imp.refl)
 ·
  replace h := bif_f h hb1
  refine .seq (.region [] mixed (by kernel_rfl) ?_)
  refine .cons (.move .none (.s rfl)) rfl ?_
  refine .cons (.len .none sl23 (.s rfl)) rfl ?_
  refine .cons (.gt .none (.s rfl) (.int (by decide))) rfl ?_
  refine .cons (.assign .none (.s rfl)) rfl ?_
  refine .nil (.then ?_)
  refine .cond (t := 15) rfl trivial (fun hb2 => ?_) (fun hb2 => ?_)
  ·
   replace h := bif_t h hb2
   refine .seq (.region [] mixed (by kernel_rfl) ?_)
   refine .cons (.assign .none (.int (by decide))) rfl ?_
   refine .nil (.then ?_)
   refine .ret ?_
   refine .blkRet ?_
   refine .thenRet ?_
   obtain rfl := some_eq h
   exact Ends.ret1 (.inl rfl) Try.results19 (ResOK.tmp rfl trivial Imp.refl)
  ·
   replace h := bif_f h hb2
   refine .skip ?_
   refine .blkNormal ?_
   refine .then ?_
   refine .seq (.region [] mixed (by kernel_rfl) ?_)
   refine .cons (.makeFunc (ι := Int × Bool) (pre := fun i => (fun x0 => layer_Check_1 x0 n1) i.1 = some i.2) (Ss := fun i => [rep i.1]) (S := fun i => rep i.2) .none fnok65 (fun i h => layer_Check_1_ok h) (.cons (.s rfl) .nil)) rfl ?_
   refine .cons (.assign .none (.s rfl)) rfl ?_
   refine .nil (.then ?_)
   refine .seq ?_
   refine .seq (.region [] mixed (by kernel_rfl) ?_)
   refine .cons (.move .none (.s rfl)) rfl ?_
   refine .cons (.len .none sl23 (.s rfl)) rfl ?_
   refine .cons (.move .none (.int (by decide))) rfl ?_
   refine .nil (.then ?_)
   obtain ⟨o_3, h, hK3⟩ := bindR_some h
   refine .thenJ (ι := Unit) (fun j_3 => []) (fun j_3 => []) (fun s => o_3 = Res.nx s) Sub.nil SubB.nil ?_ (fun j_3 hj3 => ?_)
   ·
    skip
    refine .block ?_
    refine .rforEL h (fun p4_ => [(22, ⟨True, rep p4_.1⟩)]) (fun p4_ => []) (.k 22 rfl .nil) SubB.nil (.k 2 rfl (.k 5 rfl (.k 20 rfl (.k 21 rfl .nil)))) SubB.nil (fun p4_ o_4 h hD4 => ?_)
    refine .seq (.region [] mixed (by kernel_rfl) ?_)
    refine .cons (.lt .none (.s rfl) (.s rfl)) rfl ?_
    refine .nil (.then ?_)
    refine .seq ?_
    refine .cond (t := 23) rfl trivial (fun hb5 => ?_) (fun hb5 => ?_)
    ·
     replace h := bif_t h hb5
     refine .skip ?_
     refine .then ?_
     refine .seq ?_
     obtain ⟨o_6, h, hK6⟩ := bindD_some h
     unfold layer_Check_L1 at h
     refine .thenJ (ι := Unit) (fun j_6 => []) (fun j_6 => []) (fun s => o_6 = Res.nx s) (.k 2 rfl (.k 5 rfl (.k 20 rfl (.k 21 rfl (.k 22 rfl .nil))))) SubB.nil ?_ (fun j_6 hj6 => ?_)
     ·
      skip
      refine .block ?_
      refine .seq (.region [([], []), ([], []), ([], [7]), ([7], [7])] mixed (by kernel_rfl) ?_)
      obtain ⟨hn7, h⟩ := need_some h
      refine .consA (.indexAddr .none sl23 ty79 (.s rfl) (.s rfl) (fun _ => hn7)) rfl ?_
      obtain ⟨v1, hv8, h⟩ := bnd_some h
      refine .consA (.re hv8 (.load .none ty79 (.s rfl))) rfl ?_
      refine .consW (.alloc zo79 rfl) rfl rfl ?_
      refine .consN (.store ty79 rfl rfl (.s rfl)) rfl ?_
      refine .nil (.then ?_)
      refine .freeze (t := 7) rfl rfl SubB.nil rfl ?_
      refine .seq ?_
      refine .seq (.region [] mixed (by kernel_rfl) ?_)
      refine .cons (.move .none (.s rfl)) rfl ?_
      refine .cons (.fieldAddr .none fd79_0 hfd79_0 (.s rfl)) rfl ?_
      refine .cons (.load .none ty3 (.s rfl)) rfl ?_
      obtain ⟨r1, hv9, h⟩ := bind_some h
      refine .cons (.callV (v1.From, r1) .none (.s rfl) (fun _ => hv9) (.cons (.s rfl) .nil)) rfl ?_
      refine .cons (.not .none (.s rfl)) rfl ?_
      refine .cons (.move .none (.s rfl)) rfl ?_
      refine .cons (.move (.at rfl rfl) (.s rfl)) rfl ?_
      refine .cons (.fieldAddr (.at rfl rfl) fd79_1 hfd79_1 (.s rfl)) rfl ?_
      refine .cons (.load (.at rfl rfl) ty3 (.tmp rfl id)) rfl ?_
      obtain ⟨r2, hv10, h⟩ := bind_some h
      refine .cons (.callV (v1.To, r2) (.at rfl rfl) (.tmp rfl id) (fun hg => gd_some hv10 ((notT hg.2))) (.cons (.tmp rfl id) .nil)) rfl ?_
      refine .cons (.not (.at rfl rfl) (.tmp rfl id)) rfl ?_
      refine .cons (.pickOr .none (.s rfl) (.tmp rfl id)) rfl ?_
      refine .nil (.then ?_)
      refine .cond (t := 37) rfl trivial (fun hb11 => ?_) (fun hb11 => ?_)
      ·
       replace h := bif_t h hb11
       refine .seq (.region [] mixed (by kernel_rfl) ?_)
       refine .cons (.assign .none (.int (by decide))) rfl ?_
       refine .nil (.then ?_)
       refine .ret ?_
       refine .thenRet ?_
       refine .blkRet ?_
       refine .thenRet ?_
       refine .thenRet ?_
       refine .blkRet ?_
       refine .thenRet ?_
       replace h := resd_ab hK6 (some_eq h)
       replace h := hD4 _ (some_eq h)
       replace h := resb_ab hK3 (some_eq h)
       obtain rfl := some_eq h
       exact Ends.ret1 (.inl rfl) Try.results19 (ResOK.tmp rfl trivial Imp.refl)
      ·
       replace h := bif_f h hb11
       refine .skip ?_
       refine .then ?_
       refine .seq (.region [] mixed (by kernel_rfl) ?_)
       refine .cons (.fieldAddr .none fd79_0 hfd79_0 (.s rfl)) rfl ?_
       refine .cons (.load .none ty3 (.s rfl)) rfl ?_
       refine .cons (.fieldAddr .none fd79_1 hfd79_1 (.s rfl)) rfl ?_
       refine .cons (.load .none ty3 (.s rfl)) rfl ?_
       refine .cons (.eqI .none (.s rfl) (.s rfl)) rfl ?_
       refine .nil (.then ?_)
       refine .cond (t := 42) rfl trivial (fun hb12 => ?_) (fun hb12 => ?_)
       ·
        replace h := bif_t h hb12
        refine .seq (.region [] mixed (by kernel_rfl) ?_)
        refine .cons (.assign .none (.int (by decide))) rfl ?_
        refine .nil (.then ?_)
        refine .ret ?_
        refine .blkRet ?_
        refine .thenRet ?_
        refine .thenRet ?_
        refine .blkRet ?_
        refine .thenRet ?_
        replace h := resd_ab hK6 (some_eq h)
        replace h := hD4 _ (some_eq h)
        replace h := resb_ab hK3 (some_eq h)
        obtain rfl := some_eq h
        exact Ends.ret1 (.inl rfl) Try.results19 (ResOK.tmp rfl trivial Imp.refl)
       ·
        replace h := bif_f h hb12
        refine .skip ?_
        refine .blkNormal ?_
        exact Ends.join _ (some_eq h) (.k 2 rfl (.k 5 rfl (.k 20 rfl (.k 21 rfl (.k 22 rfl .nil))))) SubB.nil
     ·
      have h := resd_nx hK6 hj6
      refine .region [] mixed (by kernel_rfl) ?_
      refine .cons (.addW .none (.s rfl) (.int (by decide))) rfl ?_
      refine .cons (.move .none (.s rfl)) rfl ?_
      refine .nil ?_
      exact Ends.againL (some_eq h) (.k 22 rfl (.k 2 rfl (.k 5 rfl (.k 20 rfl (.k 21 rfl .nil))))) SubB.nil
    ·
     replace h := bif_f h hb5
     refine .exit ?_
     refine .thenExit ?_
     refine .thenExit ?_
     refine .blkExit ?_
     replace h := hD4 _ (some_eq h)
     exact Ends.join _ (some_eq h) Sub.nil SubB.nil
   ·
    have h := resb_nx hK3 hj3
    refine .seq (.region [] mixed (by kernel_rfl) ?_)
    refine .cons (.assign .none (.int (by decide))) rfl ?_
    refine .nil (.then ?_)
    refine .ret ?_
    obtain rfl := some_eq h
    exact Ends.ret1 (.inl rfl) Try.results19 (ResOK.tmp rfl trivial Imp.refl)

theorem slices_Clone_Link_ok {s1 : (List Link)} {r : (List Link)}  (h : slices_Clone_Link s1 = some r) : FSpecO Try.prog 50 [rep s1] [] (anyV) [some (rowV 79 r)] := by
 unfold slices_Clone_Link at h
 refine FSpecO.intro (n := 8) fnok50 Try.func50 rfl Try.ntmps50 rfl (fun F => ?_)
 refine .seq (.region [] mixed (by kernel_rfl) ?_)
 refine .cons (.assign .none (.const (x := ([] : (List Link))) (fun M w => ⟨_, ⟨none, 0, rfl, Nat.le_refl _, by decide, rfl⟩, rfl⟩))) rfl ?_
 refine .nil (.then ?_)
 refine .seq ?_
 refine .seq (.region [] mixed (by kernel_rfl) ?_)
 refine .cons (.move .none (.s rfl)) rfl ?_
 refine .cons (.eqNil .none sl23 (.s rfl)) rfl ?_
 refine .nil (.then ?_)
 refine .condNil (t := 4) rfl trivial (fun hb1 => ?_) ?_
 ·
  replace h := nilc_t h hb1
  refine .seq (.region [([], [2])] mixed (by kernel_rfl) ?_)
  refine .consW (.nilRow (T := 79) (α := Link) rfl) rfl rfl ?_
  refine .nil (.then ?_)
  refine .nameRow (t := 2) (g := 5001) rfl rfl rfl (fun s5001 => ?_)
  refine .ret ?_
  refine .thenRet ?_
  refine .anon (t := 2) (g := 5001) rfl rfl trivial rfl ?_
  obtain rfl := some_eq h
  exact Ends.ret1O (.inl rfl) [2] Try.results50 (by decide) (.res rfl rfl) (ResOK.tmp rfl trivial (fun _ _ _ _ => trivial))
 ·
  replace h := nilc_f h
  refine .skip ?_
  refine .then ?_
  refine .seq (.region [([], [5]), ([], []), ([5], [7, 5]), ([7], [2, 7])] mixed (by kernel_rfl) ?_)
  refine .consW (.buildSliceO (xs := []) rfl sl23 ty79 hz79 .nil rfl (by decide)) rfl rfl ?_
  refine .consA (.move .none (.s rfl)) rfl ?_
  obtain ⟨hn2, h⟩ := need_some h
  refine .consW (.append (k := 5) rk23 rfl (.tmp rfl) (.s rfl) hn2) rfl rfl ?_
  refine .consW (.passRow rfl (.tmp rfl)) rfl rfl ?_
  refine .nil (.then ?_)
  obtain ⟨v1, hv3, h⟩ := bnd_some h
  refine .reB (t := 2) rfl (congrArg (rowV 79) hv3) ?_
  refine .nameRow (t := 2) (g := 5002) rfl rfl rfl (fun s5002 => ?_)
  refine .ret ?_
  refine .anon (t := 2) (g := 5002) rfl rfl trivial rfl ?_
  obtain rfl := some_eq h
  exact Ends.ret1O (.inl rfl) [2] Try.results50 (by decide) (.res rfl rfl) (ResOK.tmp rfl trivial (fun _ _ _ _ => trivial))

theorem layer_turned_1_okS {self : (Int × (List Int) × (List Link) × (List Int)) → Option ((List Int) × (List Int))} (hself : ∀ {m43 : Nat} {s44 : Value} {m45 : Nat} {s46 : Value} {m47 : Nat} (x : (Int × (List Int) × (List Link) × (List Int))) (r : ((List Int) × (List Int))), self x = some r → FSpecO Try.prog 106 [rep x.1, isV (ptr m43 0), ref x.2.2.1, isV (ptr m45 0), isV (ptr m47 0)] [(ptr m43 0, cont 32 (⟨s44⟩ : Raw)), (s44, rowV 3 x.2.1), (ptr m45 0, cont 32 (⟨s46⟩ : Raw)), (s46, rowV 3 x.2.2.2), (ptr m47 0, contS 100 (cloV 106 [isV (ptr m43 0), ref x.2.2.1, isV (ptr m45 0), isV (ptr m47 0)]))] (anyV) [some (deep (fun z0 => cont 32 (⟨z0⟩ : Raw)) (rowV 3 r.1)), none, some (deep (fun z0 => cont 32 (⟨z0⟩ : Raw)) (rowV 3 r.2)), none, some (contS 100 (cloV 106 [isV (ptr m43 0), ref x.2.2.1, isV (ptr m45 0), isV (ptr m47 0)]))]) {m43 : Nat} {s44 : Value} {m45 : Nat} {s46 : Value} {m47 : Nat} {x : (Int × (List Int) × (List Link) × (List Int))} {r : ((List Int) × (List Int))} (h : layer_turned_1_body self x = some r) : FSpecO Try.prog 106 [rep x.1, isV (ptr m43 0), ref x.2.2.1, isV (ptr m45 0), isV (ptr m47 0)] [(ptr m43 0, cont 32 (⟨s44⟩ : Raw)), (s44, rowV 3 x.2.1), (ptr m45 0, cont 32 (⟨s46⟩ : Raw)), (s46, rowV 3 x.2.2.2), (ptr m47 0, contS 100 (cloV 106 [isV (ptr m43 0), ref x.2.2.1, isV (ptr m45 0), isV (ptr m47 0)]))] (anyV) [some (deep (fun z0 => cont 32 (⟨z0⟩ : Raw)) (rowV 3 r.1)), none, some (deep (fun z0 => cont 32 (⟨z0⟩ : Raw)) (rowV 3 r.2)), none, some (contS 100 (cloV 106 [isV (ptr m43 0), ref x.2.2.1, isV (ptr m45 0), isV (ptr m47 0)]))] := by
 unfold layer_turned_1_body at h
 refine FSpecO.intro (n := 43) fnok106 Try.func106 rfl Try.ntmps106 rfl (fun F => ?_)
 refine .seq (.region [([43], []), ([], []), ([44], []), ([44], [44])] mixed (by kernel_rfl) ?_)
 refine .consA (.loadAt0 (k := 43) .none tr32 rfl (.s rfl)) rfl ?_
 refine .consA (.move .none (.s rfl)) rfl ?_
 obtain ⟨hn1, h⟩ := need_some h
 refine .consA (.indexAddrO (k := 44) .none sl32 ty3 (.s rfl) rfl (.s rfl) (fun _ => hn1)) rfl ?_
 refine .consN (.storeElem0 (k := 44) ty3 (.s rfl) rfl (.int (by decide)) hn1) rfl ?_
 refine .nil (.then ?_)
 obtain ⟨c1, hv2, h⟩ := bnd_some h
 refine .reB (t := 44) rfl (congrArg (fun y => CPred.at s44 (rowV 3 y)) hv2) ?_
 refine .seq ?_
 refine .seq (.region [] mixed (by kernel_rfl) ?_)
 refine .cons (.load .none ty23 (.s rfl)) rfl ?_
 refine .cons (.len .none sl23 (.s rfl)) rfl ?_
 refine .cons (.move .none (.int (by decide))) rfl ?_
 refine .nil (.then ?_)
 obtain ⟨j_3, h, hK3⟩ := bind_some h
 refine .thenJ (ι := ((List Int) × (List Int))) (fun j_3 => []) (fun j_3 => [(43, some (CPred.at (ptr m43 0) (deep (fun z0 => cont 32 (⟨z0⟩ : Raw)) (rowV 3 j_3.1)))), (45, some (CPred.at (ptr m45 0) (deep (fun z0 => cont 32 (⟨z0⟩ : Raw)) (rowV 3 j_3.2))))]) (fun s => j_3 = s) (.k 0 rfl (.k 1 rfl (.k 3 rfl (.k 4 rfl .nil)))) (.k 47 rfl .nil) ?_ (fun j_3' hj3 => ?_)
 ·
  skip
  refine .block ?_
  refine .close (k := 43) (g := 44) (fun z => cont 32 (⟨z⟩ : Raw)) rfl rfl rfl ?_
  refine .close (k := 45) (g := 46) (fun z => cont 32 (⟨z⟩ : Raw)) rfl rfl rfl ?_
  refine .rforL h (fun p4_ => [(13, ⟨True, rep p4_.1⟩)]) (fun p4_ => [(43, some (CPred.at (ptr m43 0) (deep (fun z0 => cont 32 (⟨z0⟩ : Raw)) (rowV 3 p4_.2.1)))), (45, some (CPred.at (ptr m45 0) (deep (fun z0 => cont 32 (⟨z0⟩ : Raw)) (rowV 3 p4_.2.2))))]) (.k 13 rfl .nil) (.k 43 rfl (.k 45 rfl .nil)) (.k 0 rfl (.k 1 rfl (.k 2 rfl (.k 3 rfl (.k 4 rfl (.k 11 rfl (.k 12 rfl .nil))))))) (.k 47 rfl .nil) (fun p4_ o_4 h hD4 => ?_)
  refine .open (k := 43) (g := 5001) rfl rfl (fun s5001 => ?_)
  refine .open (k := 45) (g := 5002) rfl rfl (fun s5002 => ?_)
  refine .seq (.region [] mixed (by kernel_rfl) ?_)
  refine .cons (.lt .none (.s rfl) (.s rfl)) rfl ?_
  refine .nil (.then ?_)
  refine .seq ?_
  refine .cond (t := 14) rfl trivial (fun hb5 => ?_) (fun hb5 => ?_)
  ·
   replace h := bif_t h hb5
   refine .skip ?_
   refine .then ?_
   refine .seq ?_
   obtain ⟨j_6, h, hK6⟩ := bind_some h
   unfold layer_turned_1_L1 at h
   refine .thenJ (ι := ((List Int) × (List Int))) (fun j_6 => []) (fun j_6 => [(43, some (CPred.at (ptr m43 0) (deep (fun z0 => cont 32 (⟨z0⟩ : Raw)) (rowV 3 j_6.1)))), (45, some (CPred.at (ptr m45 0) (deep (fun z0 => cont 32 (⟨z0⟩ : Raw)) (rowV 3 j_6.2))))]) (fun s => j_6 = s) (.k 0 rfl (.k 1 rfl (.k 2 rfl (.k 3 rfl (.k 4 rfl (.k 11 rfl (.k 12 rfl (.k 13 rfl .nil)))))))) (.k 47 rfl .nil) ?_ (fun j_6' hj6 => ?_)
   ·
    skip
    refine .block ?_
    refine .seq (.region [([], []), ([], []), ([], []), ([], [7]), ([], []), ([7], [7])] mixed (by kernel_rfl) ?_)
    refine .consA (.move .none (.s rfl)) rfl ?_
    obtain ⟨hn7, h⟩ := need_some h
    refine .consA (.indexAddr .none sl23 ty79 (.s rfl) (.s rfl) (fun _ => hn7)) rfl ?_
    obtain ⟨v1, hv8, h⟩ := bnd_some h
    refine .consA (.re hv8 (.load .none ty79 (.s rfl))) rfl ?_
    refine .consW (.alloc zo79 rfl) rfl rfl ?_
    refine .consA (.assign .none (.s rfl)) rfl ?_
    refine .consN (.store ty79 rfl rfl (.s rfl)) rfl ?_
    refine .nil (.then ?_)
    refine .freeze (t := 7) rfl rfl (.k 43 rfl (.k 45 rfl (.k 47 rfl (.k 5001 rfl (.k 5002 rfl .nil))))) rfl ?_
    refine .seq ?_
    refine .seq (.region [] mixed (by kernel_rfl) ?_)
    refine .cons (.fieldAddr .none fd79_0 hfd79_0 (.s rfl)) rfl ?_
    refine .cons (.load .none ty3 (.s rfl)) rfl ?_
    refine .cons (.move .none (.s rfl)) rfl ?_
    refine .cons (.neI .none (.s rfl) (.s rfl)) rfl ?_
    refine .nil (.then ?_)
    refine .cond (t := 21) rfl trivial (fun hb9 => ?_) (fun hb9 => ?_)
    ·
     replace h := bif_t h hb9
     refine .exit ?_
     refine .thenExit ?_
     refine .blkExit ?_
     refine .close (k := 43) (g := 5001) (fun z => cont 32 (⟨z⟩ : Raw)) rfl rfl rfl ?_
     refine .close (k := 45) (g := 5002) (fun z => cont 32 (⟨z⟩ : Raw)) rfl rfl rfl ?_
     exact Ends.join _ (some_eq h) (.k 0 rfl (.k 1 rfl (.k 2 rfl (.k 3 rfl (.k 4 rfl (.k 11 rfl (.k 12 rfl (.k 13 rfl .nil)))))))) (.k 43 rfl (.k 45 rfl (.k 47 rfl .nil)))
    ·
     replace h := bif_f h hb9
     refine .skip ?_
     refine .then ?_
     refine .seq (.region [([43], []), ([], []), ([], []), ([5001], []), ([5001], [])] mixed (by kernel_rfl) ?_)
     refine .consA (.loadAt0 (k := 43) .none tr32 rfl (.s rfl)) rfl ?_
     refine .consA (.fieldAddr .none fd79_1 hfd79_1 (.s rfl)) rfl ?_
     refine .consA (.load .none ty3 (.s rfl)) rfl ?_
     obtain ⟨hn10, h⟩ := need_some h
     refine .consA (.indexAddrO (k := 5001) .none sl32 ty3 (.s rfl) rfl (.s rfl) (fun _ => hn10)) rfl ?_
     obtain ⟨v2, hv11, h⟩ := bnd_some h
     refine .consA (.re hv11 (.loadElem0 (k := 5001) .none ty3 (.s rfl) rfl (fun _ => hn10))) rfl ?_
     refine .nil (.then ?_)
     refine .block ?_
     refine .seq (.region [] mixed (by kernel_rfl) ?_)
     refine .cons (.eqI .none (.s rfl) (.int (by decide))) rfl ?_
     refine .cons (.assign .none (.s rfl)) rfl ?_
     refine .nil (.then ?_)
     refine .cond (t := 27) rfl trivial (fun hb12 => ?_) (fun hb12 => ?_)
     ·
      replace h := bif_t h hb12
      refine .region [([45], []), ([], []), ([], []), ([5002], [32, 5002]), ([45, 32], [45, 32])] mixed (by kernel_rfl) ?_
      refine .consA (.loadAt0 (k := 45) .none tr32 rfl (.s rfl)) rfl ?_
      refine .consA (.move .none (.s rfl)) rfl ?_
      refine .consA (.buildSlice (xs := [_]) .none sl32 ty3 hz3 (.cons (.s rfl) .nil) rfl (by decide)) rfl ?_
      obtain ⟨hn13, h⟩ := need_some h
      refine .consW (.append (k := 5002) rk32 rfl (.told (.s rfl) rfl) (.s rfl) hn13) rfl rfl ?_
      refine .consN (.storeRow (k := 45) (t := 32) (set := fun _ z => z) ty32 rfl (.s rfl) .self rfl rfl) rfl ?_
      refine .nil ?_
      refine .blkNormal ?_
      refine .blkNormal ?_
      refine .close (k := 43) (g := 5001) (fun z => cont 32 (⟨z⟩ : Raw)) rfl rfl rfl ?_
      exact Ends.join _ (some_eq h) (.k 0 rfl (.k 1 rfl (.k 2 rfl (.k 3 rfl (.k 4 rfl (.k 11 rfl (.k 12 rfl (.k 13 rfl .nil)))))))) (.k 43 rfl (.k 45 rfl (.k 47 rfl .nil)))
     ·
      replace h := bif_f h hb12
      refine .seq (.region [] mixed (by kernel_rfl) ?_)
      refine .cons (.eqI .none (.s rfl) (.int (by decide))) rfl ?_
      refine .cons (.assign .none (.s rfl)) rfl ?_
      refine .nil (.then ?_)
      refine .cond (t := 33) rfl trivial (fun hb14 => ?_) (fun hb14 => ?_)
      ·
       replace h := bif_t h hb14
       refine .region [([47], []), ([], []), ([], []), ([43, 5001, 45, 5002, 47], [43, 5001, 45, 5002, 47])] mixed (by kernel_rfl) ?_
       refine .consA (.loadS (k := 47) .none tr100 rfl (.s rfl) cloV_one) rfl ?_
       refine .consA (.fieldAddr .none fd79_1 hfd79_1 (.s rfl)) rfl ?_
       refine .consA (.load .none ty3 (.s rfl)) rfl ?_
       obtain ⟨r1, hv15, h⟩ := bind_some h
       refine .consW (.callClo [43, 5001, 45, 5002, 47] (Ss := [rep v1.To]) (Cs := [isV (ptr m43 0), ref x.2.2.1, isV (ptr m45 0), isV (ptr m47 0)]) (.s rfl) (hself _ _ hv15) (.cons (.s rfl) .nil) (.cons (k := 43) rfl (.cons (k := 5001) rfl (.cons (k := 45) rfl (.cons (k := 5002) rfl (.cons (k := 47) rfl .nil))))) rfl (by decide) (by decide) (by intro d h; cases h; decide)) rfl rfl ?_
       refine .nil ?_
       refine .blkNormal ?_
       refine .blkNormal ?_
       exact Ends.join _ (some_eq h) (.k 0 rfl (.k 1 rfl (.k 2 rfl (.k 3 rfl (.k 4 rfl (.k 11 rfl (.k 12 rfl (.k 13 rfl .nil)))))))) (.k 43 rfl (.k 45 rfl (.k 47 rfl .nil)))
      ·
       replace h := bif_f h hb14
       refine .skip ?_
       refine .blkNormal ?_
       refine .blkNormal ?_
       refine .close (k := 43) (g := 5001) (fun z => cont 32 (⟨z⟩ : Raw)) rfl rfl rfl ?_
       refine .close (k := 45) (g := 5002) (fun z => cont 32 (⟨z⟩ : Raw)) rfl rfl rfl ?_
       exact Ends.join _ (some_eq h) (.k 0 rfl (.k 1 rfl (.k 2 rfl (.k 3 rfl (.k 4 rfl (.k 11 rfl (.k 12 rfl (.k 13 rfl .nil)))))))) (.k 43 rfl (.k 45 rfl (.k 47 rfl .nil)))
   ·
    subst hj6; have h := hK6; clear hK6
    refine .open (k := 43) (g := 5003) rfl rfl (fun s5003 => ?_)
    refine .open (k := 45) (g := 5004) rfl rfl (fun s5004 => ?_)
    refine .region [] mixed (by kernel_rfl) ?_
    refine .cons (.addW .none (.s rfl) (.int (by decide))) rfl ?_
    refine .cons (.move .none (.s rfl)) rfl ?_
    refine .nil ?_
    refine .close (k := 43) (g := 5003) (fun z => cont 32 (⟨z⟩ : Raw)) rfl rfl rfl ?_
    refine .close (k := 45) (g := 5004) (fun z => cont 32 (⟨z⟩ : Raw)) rfl rfl rfl ?_
    exact Ends.againL (some_eq h) (.k 13 rfl (.k 0 rfl (.k 1 rfl (.k 2 rfl (.k 3 rfl (.k 4 rfl (.k 11 rfl (.k 12 rfl .nil)))))))) (.k 43 rfl (.k 45 rfl (.k 47 rfl .nil)))
  ·
   replace h := bif_f h hb5
   refine .exit ?_
   refine .thenExit ?_
   refine .thenExit ?_
   refine .blkExit ?_
   refine .close (k := 43) (g := 5001) (fun z => cont 32 (⟨z⟩ : Raw)) rfl rfl rfl ?_
   refine .close (k := 45) (g := 5002) (fun z => cont 32 (⟨z⟩ : Raw)) rfl rfl rfl ?_
   replace h := hD4 _ (some_eq h)
   exact Ends.join _ (some_eq h) (.k 0 rfl (.k 1 rfl (.k 3 rfl (.k 4 rfl .nil)))) (.k 43 rfl (.k 45 rfl (.k 47 rfl .nil)))
 ·
  subst hj3; have h := hK3; clear hK3
  refine .open (k := 43) (g := 5005) rfl rfl (fun s5005 => ?_)
  refine .open (k := 45) (g := 5006) rfl rfl (fun s5006 => ?_)
  refine .region [([43], []), ([], []), ([5005], []), ([5005], [5005])] mixed (by kernel_rfl) ?_
  refine .consA (.loadAt0 (k := 43) .none tr32 rfl (.s rfl)) rfl ?_
  refine .consA (.move .none (.s rfl)) rfl ?_
  obtain ⟨hn16, h⟩ := need_some h
  refine .consA (.indexAddrO (k := 5005) .none sl32 ty3 (.s rfl) rfl (.s rfl) (fun _ => hn16)) rfl ?_
  refine .consN (.storeElem0 (k := 5005) ty3 (.s rfl) rfl (.int (by decide)) hn16) rfl ?_
  refine .nil ?_
  refine .close (k := 43) (g := 5005) (fun z => cont 32 (⟨z⟩ : Raw)) rfl rfl rfl ?_
  refine .close (k := 45) (g := 5006) (fun z => cont 32 (⟨z⟩ : Raw)) rfl rfl rfl ?_
  obtain rfl := some_eq h
  exact Ends.ret0O (.inr rfl) [43, 44, 45, 46, 47] Try.results106 (by decide) (.held rfl (.skip (.held rfl (.skip (.held rfl .nil))))) 
theorem layer_turned_1_okN : ∀ (k : Nat) {m43 : Nat} {s44 : Value} {m45 : Nat} {s46 : Value} {m47 : Nat} (x : (Int × (List Int) × (List Link) × (List Int))) (r : ((List Int) × (List Int))) (h : fixN layer_turned_1_body k x = some r), FSpecO Try.prog 106 [rep x.1, isV (ptr m43 0), ref x.2.2.1, isV (ptr m45 0), isV (ptr m47 0)] [(ptr m43 0, cont 32 (⟨s44⟩ : Raw)), (s44, rowV 3 x.2.1), (ptr m45 0, cont 32 (⟨s46⟩ : Raw)), (s46, rowV 3 x.2.2.2), (ptr m47 0, contS 100 (cloV 106 [isV (ptr m43 0), ref x.2.2.1, isV (ptr m45 0), isV (ptr m47 0)]))] (anyV) [some (deep (fun z0 => cont 32 (⟨z0⟩ : Raw)) (rowV 3 r.1)), none, some (deep (fun z0 => cont 32 (⟨z0⟩ : Raw)) (rowV 3 r.2)), none, some (contS 100 (cloV 106 [isV (ptr m43 0), ref x.2.2.1, isV (ptr m45 0), isV (ptr m47 0)]))]
 | 0, _, _, _, _, _, x, r, h => by simp [fixN] at h
 | k + 1, _, _, _, _, _, x, r, h => layer_turned_1_okS (layer_turned_1_okN k) h
theorem layer_turned_1_ok {k1 : Int} {c0_1 : (List Int)} {c1_1 : (List Link)} {c2_1 : (List Int)} {r : ((List Int) × (List Int))} {m43 : Nat} {s44 : Value} {m45 : Nat} {s46 : Value} {m47 : Nat} (h : layer_turned_1 k1 c0_1 c1_1 c2_1 = some r) : FSpecO Try.prog 106 [rep k1, isV (ptr m43 0), ref c1_1, isV (ptr m45 0), isV (ptr m47 0)] [(ptr m43 0, cont 32 (⟨s44⟩ : Raw)), (s44, rowV 3 c0_1), (ptr m45 0, cont 32 (⟨s46⟩ : Raw)), (s46, rowV 3 c2_1), (ptr m47 0, contS 100 (cloV 106 [isV (ptr m43 0), ref c1_1, isV (ptr m45 0), isV (ptr m47 0)]))] (anyV) [some (deep (fun z0 => cont 32 (⟨z0⟩ : Raw)) (rowV 3 r.1)), none, some (deep (fun z0 => cont 32 (⟨z0⟩ : Raw)) (rowV 3 r.2)), none, some (contS 100 (cloV 106 [isV (ptr m43 0), ref c1_1, isV (ptr m45 0), isV (ptr m47 0)]))] :=
 let ⟨k, hk⟩ := fixp_some h
 layer_turned_1_okN k (k1, c0_1, c1_1, c2_1) r hk

theorem layer_turned_ok {n1 : Int} {l1 : (List Link)} {r : (List Int)}  (h : layer_turned n1 l1 = some r) : FSpecO Try.prog 64 [rep n1, rep l1] [] (anyV) [some (rowV 3 r)] := by
 unfold layer_turned at h
 refine FSpecO.intro (n := 28) fnok64 Try.func64 rfl Try.ntmps64 rfl (fun F => ?_)
 refine .seq (.region [] mixed (by kernel_rfl) ?_)
 refine .cons (.box .none (.s rfl)) rfl ?_
 refine .cons (.assign .none (.const (x := ([] : (List Int))) (fun M w => ⟨_, ⟨none, 0, rfl, Nat.le_refl _, by decide, rfl⟩, rfl⟩))) rfl ?_
 refine .nil (.then ?_)
 refine .seq (.region [([], []), ([], [10]), ([], [5]), ([5, 10], [5, 10])] mixed (by kernel_rfl) ?_)
 refine .consA (.move .none (.s rfl)) rfl ?_
 obtain ⟨hn1, h⟩ := need_some h
 refine .consW (.makeSlice rk32 zo3 rfl (.s rfl) (.s rfl) hn1) rfl rfl ?_
 refine .consW (.alloc zr32 rfl) rfl rfl ?_
 refine .consN (.storeRow0 (k := 5) (t := 10) ty32 rfl rfl rfl rfl) rfl ?_
 refine .nil (.then ?_)
 refine .nameAt (t := 5) (g := 5001) rfl rfl (isBox_deep fun _ => isBox_cont) rfl (fun m5001 => ?_)
 refine .open (k := 5001) (g := 5002) rfl rfl (fun s5002 => ?_)
 refine .seq (.region [([], [6])] mixed (by kernel_rfl) ?_)
 refine .consW (.alloc zr32 rfl) rfl rfl ?_
 refine .nil (.then ?_)
 obtain ⟨c1, hv2, h⟩ := bnd_some h
 refine .reB (t := 5002) rfl (congrArg (fun y => CPred.at s5002 (rowV 3 y)) hv2) ?_
 refine .nameAt (t := 6) (g := 5003) rfl rfl isBox_cont rfl (fun m5003 => ?_)
 refine .nilKey (g := 5004) (T := 3) (α := Int) rfl ?_
 refine .seq (.region [([], [7])] mixed (by kernel_rfl) ?_)
 refine .consW (.alloc zr100 rfl) rfl rfl ?_
 refine .nil (.then ?_)
 refine .nameAt (t := 7) (g := 5005) rfl rfl isBox_cont rfl (fun m5005 => ?_)
 refine .seq (.region [([], []), ([5005], [5005])] mixed (by kernel_rfl) ?_)
 refine .consA (.makeFuncC (Cs := [isV (ptr m5001 0), ref l1, isV (ptr m5003 0), isV (ptr m5005 0)]) .none (.cons (.s rfl) (.cons (.s rfl) (.cons (.s rfl) (.cons (.s rfl) .nil))))) rfl ?_
 refine .consN (.storeS (k := 5005) (S := cloV 106 [isV (ptr m5001 0), ref l1, isV (ptr m5003 0), isV (ptr m5005 0)]) tr100 rfl cont_cells (.s rfl) (.s rfl) cloV_one) rfl ?_
 refine .nil (.then ?_)
 refine .seq ?_
 refine .seq (.region [] mixed (by kernel_rfl) ?_)
 refine .cons (.move .none (.s rfl)) rfl ?_
 refine .cons (.move .none (.int (by decide))) rfl ?_
 refine .nil (.then ?_)
 obtain ⟨j_3, h, hK3⟩ := bind_some h
 refine .thenJ (ι := ((List Int) × (List Int))) (fun j_3 => []) (fun j_3 => [(5001, some (CPred.at (ptr m5001 0) (deep (fun z0 => cont 32 (⟨z0⟩ : Raw)) (rowV 3 j_3.1)))), (5003, some (CPred.at (ptr m5003 0) (deep (fun z0 => cont 32 (⟨z0⟩ : Raw)) (rowV 3 j_3.2))))]) (fun s => j_3 = s) (.k 5 rfl (.k 6 rfl (.k 7 rfl .nil))) (.k 5005 rfl .nil) ?_ (fun j_3' hj3 => ?_)
 ·
  skip
  refine .block ?_
  refine .close (k := 5001) (g := 5002) (fun z => cont 32 (⟨z⟩ : Raw)) rfl rfl rfl ?_
  refine .close (k := 5003) (g := 5004) (fun z => cont 32 (⟨z⟩ : Raw)) rfl rfl rfl ?_
  refine .rforL h (fun p4_ => [(13, ⟨True, rep p4_.1⟩)]) (fun p4_ => [(5001, some (CPred.at (ptr m5001 0) (deep (fun z0 => cont 32 (⟨z0⟩ : Raw)) (rowV 3 p4_.2.1)))), (5003, some (CPred.at (ptr m5003 0) (deep (fun z0 => cont 32 (⟨z0⟩ : Raw)) (rowV 3 p4_.2.2))))]) (.k 13 rfl .nil) (.k 5001 rfl (.k 5003 rfl .nil)) (.k 3 rfl (.k 5 rfl (.k 6 rfl (.k 7 rfl (.k 12 rfl .nil))))) (.k 5005 rfl .nil) (fun p4_ o_4 h hD4 => ?_)
  refine .open (k := 5001) (g := 5006) rfl rfl (fun s5006 => ?_)
  refine .open (k := 5003) (g := 5007) rfl rfl (fun s5007 => ?_)
  refine .seq (.region [] mixed (by kernel_rfl) ?_)
  refine .cons (.lt .none (.s rfl) (.s rfl)) rfl ?_
  refine .nil (.then ?_)
  refine .seq ?_
  refine .cond (t := 14) rfl trivial (fun hb5 => ?_) (fun hb5 => ?_)
  ·
   replace h := bif_t h hb5
   refine .skip ?_
   refine .then ?_
   refine .seq ?_
   obtain ⟨j_6, h, hK6⟩ := bind_some h
   unfold layer_turned_L1 at h
   refine .thenJ (ι := ((List Int) × (List Int))) (fun j_6 => []) (fun j_6 => [(5001, some (CPred.at (ptr m5001 0) (deep (fun z0 => cont 32 (⟨z0⟩ : Raw)) (rowV 3 j_6.1)))), (5003, some (CPred.at (ptr m5003 0) (deep (fun z0 => cont 32 (⟨z0⟩ : Raw)) (rowV 3 j_6.2))))]) (fun s => j_6 = s) (.k 3 rfl (.k 5 rfl (.k 6 rfl (.k 7 rfl (.k 12 rfl (.k 13 rfl .nil)))))) (.k 5005 rfl .nil) ?_ (fun j_6' hj6 => ?_)
   ·
    skip
    refine .block ?_
    refine .seq (.region [] mixed (by kernel_rfl) ?_)
    refine .cons (.move .none (.s rfl)) rfl ?_
    refine .cons (.assign .none (.s rfl)) rfl ?_
    refine .nil (.then ?_)
    refine .seq (.region [([5001], []), ([], []), ([5006], []), ([5006], []), ([], [])] mixed (by kernel_rfl) ?_)
    refine .consA (.loadAt0 (k := 5001) .none tr32 rfl (.s rfl)) rfl ?_
    refine .consA (.move .none (.s rfl)) rfl ?_
    obtain ⟨hn7, h⟩ := need_some h
    refine .consA (.indexAddrO (k := 5006) .none sl32 ty3 (.s rfl) rfl (.s rfl) (fun _ => hn7)) rfl ?_
    refine .consA (.loadElem0 (k := 5006) .none ty3 (.s rfl) rfl (fun _ => hn7)) rfl ?_
    refine .consA (.eqI .none (.s rfl) (.int (by decide))) rfl ?_
    refine .nil (.then ?_)
    refine .cond (t := 20) rfl trivial (fun hb8 => ?_) (fun hb8 => ?_)
    ·
     replace h := bif_t h hb8
     refine .region [([5005], []), ([], []), ([5001, 5006, 5003, 5007, 5005], [5001, 5006, 5003, 5007, 5005])] mixed (by kernel_rfl) ?_
     refine .consA (.loadS (k := 5005) .none tr100 rfl (.s rfl) cloV_one) rfl ?_
     refine .consA (.move .none (.s rfl)) rfl ?_
     obtain ⟨r1, hv9, h⟩ := bind_some h
     refine .consW (.callClo [5001, 5006, 5003, 5007, 5005] (Ss := [rep p4_.1]) (Cs := [isV (ptr m5001 0), ref l1, isV (ptr m5003 0), isV (ptr m5005 0)]) (.s rfl) (layer_turned_1_ok hv9) (.cons (.s rfl) .nil) (.cons (k := 5001) rfl (.cons (k := 5006) rfl (.cons (k := 5003) rfl (.cons (k := 5007) rfl (.cons (k := 5005) rfl .nil))))) rfl (by decide) (by decide) (by intro d h; cases h; decide)) rfl rfl ?_
     refine .nil ?_
     refine .blkNormal ?_
     exact Ends.join _ (some_eq h) (.k 3 rfl (.k 5 rfl (.k 6 rfl (.k 7 rfl (.k 12 rfl (.k 13 rfl .nil)))))) (.k 5001 rfl (.k 5003 rfl (.k 5005 rfl .nil)))
    ·
     replace h := bif_f h hb8
     refine .skip ?_
     refine .blkNormal ?_
     refine .close (k := 5001) (g := 5006) (fun z => cont 32 (⟨z⟩ : Raw)) rfl rfl rfl ?_
     refine .close (k := 5003) (g := 5007) (fun z => cont 32 (⟨z⟩ : Raw)) rfl rfl rfl ?_
     exact Ends.join _ (some_eq h) (.k 3 rfl (.k 5 rfl (.k 6 rfl (.k 7 rfl (.k 12 rfl (.k 13 rfl .nil)))))) (.k 5001 rfl (.k 5003 rfl (.k 5005 rfl .nil)))
   ·
    subst hj6; have h := hK6; clear hK6
    refine .open (k := 5001) (g := 5008) rfl rfl (fun s5008 => ?_)
    refine .open (k := 5003) (g := 5009) rfl rfl (fun s5009 => ?_)
    refine .region [] mixed (by kernel_rfl) ?_
    refine .cons (.addW .none (.s rfl) (.int (by decide))) rfl ?_
    refine .cons (.move .none (.s rfl)) rfl ?_
    refine .nil ?_
    refine .close (k := 5001) (g := 5008) (fun z => cont 32 (⟨z⟩ : Raw)) rfl rfl rfl ?_
    refine .close (k := 5003) (g := 5009) (fun z => cont 32 (⟨z⟩ : Raw)) rfl rfl rfl ?_
    exact Ends.againL (some_eq h) (.k 13 rfl (.k 3 rfl (.k 5 rfl (.k 6 rfl (.k 7 rfl (.k 12 rfl .nil)))))) (.k 5001 rfl (.k 5003 rfl (.k 5005 rfl .nil)))
  ·
   replace h := bif_f h hb5
   refine .exit ?_
   refine .thenExit ?_
   refine .thenExit ?_
   refine .blkExit ?_
   refine .close (k := 5001) (g := 5006) (fun z => cont 32 (⟨z⟩ : Raw)) rfl rfl rfl ?_
   refine .close (k := 5003) (g := 5007) (fun z => cont 32 (⟨z⟩ : Raw)) rfl rfl rfl ?_
   replace h := hD4 _ (some_eq h)
   exact Ends.join _ (some_eq h) (.k 5 rfl (.k 6 rfl (.k 7 rfl .nil))) (.k 5001 rfl (.k 5003 rfl (.k 5005 rfl .nil)))
 ·
  subst hj3; have h := hK3; clear hK3
  refine .open (k := 5003) (g := 5010) rfl rfl (fun s5010 => ?_)
  refine .seq (.region [([5003], []), ([5010], [5010])] mixed (by kernel_rfl) ?_)
  refine .consA (.loadAt0 (k := 5003) .none tr32 rfl (.s rfl)) rfl ?_
  obtain ⟨r2, hv10, h⟩ := bind_some h
  refine .consW (.callO [5010] (slices_Sort_int_ok hv10) (.cons (.s rfl) .nil) (.cons (k := 5010) rfl .nil) rfl (by decide) (by decide) (by intro d h; cases h; decide)) rfl rfl ?_
  refine .nil (.then ?_)
  refine .seq (.region [([5003], []), ([], [])] mixed (by kernel_rfl) ?_)
  refine .consA (.loadAt0 (k := 5003) .none tr32 rfl (.s rfl)) rfl ?_
  refine .consA (.assign .none (.s rfl)) rfl ?_
  refine .nil (.then ?_)
  refine .ret ?_
  refine .anon (t := 4) (g := 5010) rfl rfl trivial rfl ?_
  obtain rfl := some_eq h
  exact Ends.ret1O (.inl rfl) [4] Try.results64 (by decide) (.res rfl rfl) (ResOK.tmp rfl trivial (fun _ _ _ _ => trivial))

theorem layer_arcs_ok {l1 : (List Link)} {flow1 : (List Int)} {r : (List Layer_arc)}  (h : layer_arcs l1 flow1 = some r) : FSpecO Try.prog 110 [rep l1, rep flow1] [] (anyV) [some (rowV 129 r)] := by
 unfold layer_arcs at h
 refine FSpecO.intro (n := 40) fnok110 Try.func110 rfl Try.ntmps110 rfl (fun F => ?_)
 refine .seq (.region [] mixed (by kernel_rfl) ?_)
 refine .cons (.assign .none (.const (x := ([] : (List Layer_arc))) (fun M w => ⟨_, ⟨none, 0, rfl, Nat.le_refl _, by decide, rfl⟩, rfl⟩))) rfl ?_
 refine .nil (.then ?_)
 refine .seq (.region [([], [5])] mixed (by kernel_rfl) ?_)
 refine .consW (.nilRow (T := 129) (α := Layer_arc) rfl) rfl rfl ?_
 refine .nil (.then ?_)
 refine .nameRow (t := 5) (g := 5001) rfl rfl rfl (fun s5001 => ?_)
 refine .seq ?_
 refine .seq (.region [] mixed (by kernel_rfl) ?_)
 refine .cons (.move .none (.s rfl)) rfl ?_
 refine .cons (.len .none sl23 (.s rfl)) rfl ?_
 refine .cons (.move .none (.int (by decide))) rfl ?_
 refine .nil (.then ?_)
 obtain ⟨j_1, h, hK1⟩ := bind_some h
 refine .thenJ (ι := (List Layer_arc)) (fun j_1 => []) (fun j_1 => [(5, some (rowV 129 j_1))]) (fun s => j_1 = s) Sub.nil SubB.nil ?_ (fun j_1' hj1 => ?_)
 ·
  skip
  refine .block ?_
  refine .anon (t := 5) (g := 5001) rfl rfl trivial rfl ?_
  refine .rforL h (fun p2_ => [(10, ⟨True, rep p2_.1⟩)]) (fun p2_ => [(5, some (rowV 129 p2_.2))]) (.k 10 rfl .nil) (.k 5 rfl .nil) (.k 1 rfl (.k 8 rfl (.k 9 rfl .nil))) SubB.nil (fun p2_ o_2 h hD2 => ?_)
  refine .nameRow (t := 5) (g := 5002) rfl rfl rfl (fun s5002 => ?_)
  refine .seq (.region [] mixed (by kernel_rfl) ?_)
  refine .cons (.lt .none (.s rfl) (.s rfl)) rfl ?_
  refine .nil (.then ?_)
  refine .seq ?_
  refine .cond (t := 11) rfl trivial (fun hb3 => ?_) (fun hb3 => ?_)
  ·
   replace h := bif_t h hb3
   refine .skip ?_
   refine .then ?_
   refine .seq ?_
   obtain ⟨j_4, h, hK4⟩ := bind_some h
   unfold layer_arcs_L1 at h
   refine .thenJ (ι := (List Layer_arc)) (fun j_4 => []) (fun j_4 => [(5, some (rowV 129 j_4))]) (fun s => j_4 = s) (.k 1 rfl (.k 8 rfl (.k 9 rfl (.k 10 rfl .nil)))) SubB.nil ?_ (fun j_4' hj4 => ?_)
   ·
    skip
    refine .block ?_
    refine .seq (.region [([], []), ([], []), ([], []), ([], [7]), ([], []), ([7], [7])] mixed (by kernel_rfl) ?_)
    refine .consA (.move .none (.s rfl)) rfl ?_
    obtain ⟨hn5, h⟩ := need_some h
    refine .consA (.indexAddr .none sl23 ty79 (.s rfl) (.s rfl) (fun _ => hn5)) rfl ?_
    obtain ⟨v1, hv6, h⟩ := bnd_some h
    refine .consA (.re hv6 (.load .none ty79 (.s rfl))) rfl ?_
    refine .consW (.alloc zo79 rfl) rfl rfl ?_
    refine .consA (.assign .none (.s rfl)) rfl ?_
    refine .consN (.store ty79 rfl rfl (.s rfl)) rfl ?_
    refine .nil (.then ?_)
    refine .freeze (t := 7) rfl rfl (.k 5002 rfl .nil) rfl ?_
    refine .seq (.region [([], []), ([], []), ([], []), ([], []), ([], []), ([], []), ([], []), ([], []), ([5002], [23, 5002]), ([23], [5, 23])] mixed (by kernel_rfl) ?_)
    refine .consA (.move .none (.s rfl)) rfl ?_
    refine .consA (.fieldAddr .none fd79_0 hfd79_0 (.s rfl)) rfl ?_
    refine .consA (.load .none ty3 (.s rfl)) rfl ?_
    refine .consA (.fieldAddr .none fd79_1 hfd79_1 (.s rfl)) rfl ?_
    refine .consA (.load .none ty3 (.s rfl)) rfl ?_
    refine .consA (.move .none (.s rfl)) rfl ?_
    refine .consA (.buildF (y := (⟨v1.From, v1.To, p2_.1, 1⟩ : Layer_arc)) .none bu129 zc129 rfl (.cons (.s rfl) (.cons (.s rfl) (.cons (.s rfl) (.cons (.int (by decide)) .nil)))) (.cons rfl sf129_0 (.cons rfl sf129_1 (.cons rfl sf129_2 (.cons rfl sf129_3 .nil))))) rfl ?_
    refine .consA (.buildSlice (xs := [_]) .none sl123 ty129 hz129 (.cons (.s rfl) .nil) rfl (by decide)) rfl ?_
    obtain ⟨hn7, h⟩ := need_some h
    refine .consW (.append (k := 5002) rk123 rfl (.told (.s rfl) rfl) (.s rfl) hn7) rfl rfl ?_
    refine .consW (.passRow rfl (.tmp rfl)) rfl rfl ?_
    refine .nil (.then ?_)
    obtain ⟨out1, hv8, h⟩ := bnd_some h
    refine .reB (t := 5) rfl (congrArg (rowV 129) hv8) ?_
    refine .nameRow (t := 5) (g := 5003) rfl rfl rfl (fun s5003 => ?_)
    refine .seq (.region [] mixed (by kernel_rfl) ?_)
    refine .cons (.move .none (.s rfl)) rfl ?_
    refine .cons (.move .none (.s rfl)) rfl ?_
    obtain ⟨hn9, h⟩ := need_some h
    refine .cons (.indexAddr .none sl32 ty3 (.s rfl) (.s rfl) (fun _ => hn9)) rfl ?_
    refine .cons (.load .none ty3 (.s rfl)) rfl ?_
    refine .cons (.gt .none (.s rfl) (.int (by decide))) rfl ?_
    refine .nil (.then ?_)
    refine .cond (t := 28) rfl trivial (fun hb10 => ?_) (fun hb10 => ?_)
    ·
     replace h := bif_t h hb10
     refine .region [([], []), ([], []), ([], []), ([], []), ([], []), ([], []), ([], []), ([], []), ([5003], [37, 5003]), ([37], [5, 37])] mixed (by kernel_rfl) ?_
     refine .consA (.move .none (.s rfl)) rfl ?_
     refine .consA (.fieldAddr .none fd79_1 hfd79_1 (.s rfl)) rfl ?_
     refine .consA (.load .none ty3 (.s rfl)) rfl ?_
     refine .consA (.fieldAddr .none fd79_0 hfd79_0 (.s rfl)) rfl ?_
     refine .consA (.load .none ty3 (.s rfl)) rfl ?_
     refine .consA (.move .none (.s rfl)) rfl ?_
     refine .consA (.buildF (y := (⟨v1.To, v1.From, p2_.1, (-1)⟩ : Layer_arc)) .none bu129 zc129 rfl (.cons (.s rfl) (.cons (.s rfl) (.cons (.s rfl) (.cons (.int (by decide)) .nil)))) (.cons rfl sf129_0 (.cons rfl sf129_1 (.cons rfl sf129_2 (.cons rfl sf129_3 .nil))))) rfl ?_
     refine .consA (.buildSlice (xs := [_]) .none sl123 ty129 hz129 (.cons (.s rfl) .nil) rfl (by decide)) rfl ?_
     obtain ⟨hn11, h⟩ := need_some h
     refine .consW (.append (k := 5003) rk123 rfl (.told (.s rfl) rfl) (.s rfl) hn11) rfl rfl ?_
     refine .consWD (.passRow rfl (.tmp rfl)) rfl rfl ?_
     refine .nil ?_
     refine .blkNormal ?_
     exact Ends.join _ (some_eq h) (.k 1 rfl (.k 8 rfl (.k 9 rfl (.k 10 rfl .nil)))) (.k 5 rfl .nil)
    ·
     replace h := bif_f h hb10
     refine .skip ?_
     refine .blkNormal ?_
     refine .anon (t := 5) (g := 5003) rfl rfl trivial rfl ?_
     exact Ends.join _ (some_eq h) (.k 1 rfl (.k 8 rfl (.k 9 rfl (.k 10 rfl .nil)))) (.k 5 rfl .nil)
   ·
    subst hj4; have h := hK4; clear hK4
    refine .nameRow (t := 5) (g := 5004) rfl rfl rfl (fun s5004 => ?_)
    refine .region [] mixed (by kernel_rfl) ?_
    refine .cons (.addW .none (.s rfl) (.int (by decide))) rfl ?_
    refine .cons (.move .none (.s rfl)) rfl ?_
    refine .nil ?_
    refine .anon (t := 5) (g := 5004) rfl rfl trivial rfl ?_
    exact Ends.againL (some_eq h) (.k 10 rfl (.k 1 rfl (.k 8 rfl (.k 9 rfl .nil)))) (.k 5 rfl .nil)
  ·
   replace h := bif_f h hb3
   refine .exit ?_
   refine .thenExit ?_
   refine .thenExit ?_
   refine .blkExit ?_
   refine .anon (t := 5) (g := 5002) rfl rfl trivial rfl ?_
   replace h := hD2 _ (some_eq h)
   exact Ends.join _ (some_eq h) Sub.nil (.k 5 rfl .nil)
 ·
  subst hj1; have h := hK1; clear hK1
  refine .nameRow (t := 5) (g := 5005) rfl rfl rfl (fun s5005 => ?_)
  refine .seq (.region [] mixed (by kernel_rfl) ?_)
  refine .cons (.move .none (.s rfl)) rfl ?_
  refine .cons (.assign .none (.s rfl)) rfl ?_
  refine .nil (.then ?_)
  refine .ret ?_
  refine .anon (t := 4) (g := 5005) rfl rfl trivial rfl ?_
  obtain rfl := some_eq h
  exact Ends.ret1O (.inl rfl) [4] Try.results110 (by decide) (.res rfl rfl) (ResOK.tmp rfl trivial (fun _ _ _ _ => trivial))

theorem layer_raised_ok {n1 : Int} {l1 : (List Layer_arc)} {r : ((List Int) × (List Layer_arc))}  (h : layer_raised n1 l1 = some r) : FSpec Try.prog 109 [rep n1, rep l1] (tup [rep r.1, repN r.2]) := by
 unfold layer_raised at h
 refine FSpec.intro (n := 95) fnok109 Try.func109 rfl Try.ntmps109 rfl (fun F => ?_)
 refine .seq (.region [([], []), ([], [5])] mixed (by kernel_rfl) ?_)
 refine .consA (.assign .none (.const (x := ([] : (List Int))) (fun M w => ⟨_, ⟨none, 0, rfl, Nat.le_refl _, by decide, rfl⟩, rfl⟩))) rfl ?_
 refine .consW (.nilRow (T := 129) (α := Layer_arc) rfl) rfl rfl ?_
 refine .nil (.then ?_)
 refine .nameRow (t := 5) (g := 5001) rfl rfl rfl (fun s5001 => ?_)
 refine .seq (.region [([], []), ([], [13]), ([13], [4, 13])] mixed (by kernel_rfl) ?_)
 refine .consA (.move .none (.s rfl)) rfl ?_
 obtain ⟨hn1, h⟩ := need_some h
 refine .consW (.makeSlice rk32 zo3 rfl (.s rfl) (.s rfl) hn1) rfl rfl ?_
 refine .consW (.passRow rfl (.tmp rfl)) rfl rfl ?_
 refine .nil (.then ?_)
 obtain ⟨ranks1, hv2, h⟩ := bnd_some h
 refine .reB (t := 4) rfl (congrArg (rowV 3) hv2) ?_
 refine .nameRow (t := 4) (g := 5002) rfl rfl rfl (fun s5002 => ?_)
 refine .seq (.region [([], []), ([], [15]), ([15], [6, 15])] mixed (by kernel_rfl) ?_)
 refine .consA (.move .none (.s rfl)) rfl ?_
 obtain ⟨hn3, h⟩ := need_some h
 refine .consW (.makeSlice rk32 zo3 rfl (.s rfl) (.s rfl) hn3) rfl rfl ?_
 refine .consW (.passRow rfl (.tmp rfl)) rfl rfl ?_
 refine .nil (.then ?_)
 obtain ⟨by1, hv4, h⟩ := bnd_some h
 refine .reB (t := 6) rfl (congrArg (rowV 3) hv4) ?_
 refine .nameRow (t := 6) (g := 5003) rfl rfl rfl (fun s5003 => ?_)
 refine .seq (.region [] mixed (by kernel_rfl) ?_)
 refine .cons (.assign .none (.int (by decide))) rfl ?_
 refine .nil (.then ?_)
 refine .seq ?_
 refine .seq (.region [] mixed (by kernel_rfl) ?_)
 refine .cons (.move .none (.s rfl)) rfl ?_
 refine .cons (.addW .none (.s rfl) (.int (by decide))) rfl ?_
 refine .cons (.move .none (.int (by decide))) rfl ?_
 refine .nil (.then ?_)
 obtain ⟨o_5, h, hK5⟩ := bindR_some h
 refine .thenJ (ι := (Int × (List Int) × (List Int))) (fun j_5 => [(7, ⟨True, rep j_5.1⟩)]) (fun j_5 => [(5002, some (CPred.at s5002 (rowV 3 j_5.2.1))), (5003, some (CPred.at s5003 (rowV 3 j_5.2.2)))]) (fun s => o_5 = Res.nx s) (.k 0 rfl (.k 1 rfl (.k 4 rfl (.k 5 rfl (.k 6 rfl .nil))))) (.k 5001 rfl .nil) ?_ (fun j_5 hj5 => ?_)
 ·
  skip
  refine .block ?_
  refine .rforEL h (fun p6_ => [(18, ⟨True, rep p6_.1⟩), (7, ⟨True, rep p6_.2.1⟩)]) (fun p6_ => [(5002, some (CPred.at s5002 (rowV 3 p6_.2.2.1))), (5003, some (CPred.at s5003 (rowV 3 p6_.2.2.2)))]) (.k 18 rfl (.k 7 rfl .nil)) (.k 5002 rfl (.k 5003 rfl .nil)) (.k 0 rfl (.k 1 rfl (.k 4 rfl (.k 5 rfl (.k 6 rfl (.k 17 rfl .nil)))))) (.k 5001 rfl .nil) (fun p6_ o_6 h hD6 => ?_)
  refine .seq (.region [] mixed (by kernel_rfl) ?_)
  refine .cons (.lt .none (.s rfl) (.s rfl)) rfl ?_
  refine .nil (.then ?_)
  refine .seq ?_
  refine .cond (t := 19) rfl trivial (fun hb7 => ?_) (fun hb7 => ?_)
  ·
   replace h := bif_t h hb7
   refine .skip ?_
   refine .then ?_
   refine .seq ?_
   obtain ⟨o_8, h, hK8⟩ := bindD_some h
   unfold layer_raised_L1 at h
   refine .thenJ (ι := (Int × (List Int) × (List Int))) (fun j_8 => [(7, ⟨True, rep j_8.1⟩)]) (fun j_8 => [(5002, some (CPred.at s5002 (rowV 3 j_8.2.1))), (5003, some (CPred.at s5003 (rowV 3 j_8.2.2)))]) (fun s => o_8 = Res.nx s) (.k 0 rfl (.k 1 rfl (.k 4 rfl (.k 5 rfl (.k 6 rfl (.k 17 rfl (.k 18 rfl .nil))))))) (.k 5001 rfl .nil) ?_ (fun j_8 hj8 => ?_)
   ·
    skip
    refine .block ?_
    refine .seq (.region [] mixed (by kernel_rfl) ?_)
    refine .cons (.assign .none (.int (by decide))) rfl ?_
    refine .nil (.then ?_)
    refine .seq ?_
    refine .seq (.region [] mixed (by kernel_rfl) ?_)
    refine .cons (.move .none (.s rfl)) rfl ?_
    refine .cons (.len .none sl123 (.s rfl)) rfl ?_
    refine .cons (.move .none (.int (by decide))) rfl ?_
    refine .nil (.then ?_)
    obtain ⟨j_9, h, hK9⟩ := bind_some h
    refine .thenJ (ι := (Int × (List Int) × (List Int))) (fun j_9 => [(7, ⟨True, rep j_9.1⟩)]) (fun j_9 => [(5002, some (CPred.at s5002 (rowV 3 j_9.2.1))), (5003, some (CPred.at s5003 (rowV 3 j_9.2.2)))]) (fun s => j_9 = s) (.k 0 rfl (.k 1 rfl (.k 4 rfl (.k 5 rfl (.k 6 rfl (.k 17 rfl (.k 18 rfl .nil))))))) (.k 5001 rfl .nil) ?_ (fun j_9' hj9 => ?_)
    ·
     skip
     refine .block ?_
     refine .rforL h (fun p10_ => [(22, ⟨True, rep p10_.1⟩), (7, ⟨True, rep p10_.2.1⟩)]) (fun p10_ => [(5002, some (CPred.at s5002 (rowV 3 p10_.2.2.1))), (5003, some (CPred.at s5003 (rowV 3 p10_.2.2.2)))]) (.k 22 rfl (.k 7 rfl .nil)) (.k 5002 rfl (.k 5003 rfl .nil)) (.k 0 rfl (.k 1 rfl (.k 4 rfl (.k 5 rfl (.k 6 rfl (.k 17 rfl (.k 18 rfl (.k 20 rfl (.k 21 rfl .nil))))))))) (.k 5001 rfl .nil) (fun p10_ o_10 h hD10 => ?_)
     refine .seq (.region [] mixed (by kernel_rfl) ?_)
     refine .cons (.lt .none (.s rfl) (.s rfl)) rfl ?_
     refine .nil (.then ?_)
     refine .seq ?_
     refine .cond (t := 23) rfl trivial (fun hb11 => ?_) (fun hb11 => ?_)
     ·
      replace h := bif_t h hb11
      refine .skip ?_
      refine .then ?_
      refine .seq ?_
      obtain ⟨j_12, h, hK12⟩ := bind_some h
      unfold layer_raised_L2 at h
      refine .thenJ (ι := (Int × (List Int) × (List Int))) (fun j_12 => [(7, ⟨True, rep j_12.1⟩)]) (fun j_12 => [(5002, some (CPred.at s5002 (rowV 3 j_12.2.1))), (5003, some (CPred.at s5003 (rowV 3 j_12.2.2)))]) (fun s => j_12 = s) (.k 0 rfl (.k 1 rfl (.k 4 rfl (.k 5 rfl (.k 6 rfl (.k 17 rfl (.k 18 rfl (.k 20 rfl (.k 21 rfl (.k 22 rfl .nil)))))))))) (.k 5001 rfl .nil) ?_ (fun j_12' hj12 => ?_)
      ·
       skip
       refine .block ?_
       refine .seq (.region [([], []), ([], []), ([], []), ([], [9]), ([], []), ([9], [9])] mixed (by kernel_rfl) ?_)
       refine .consA (.move .none (.s rfl)) rfl ?_
       obtain ⟨hn13, h⟩ := need_some h
       refine .consA (.indexAddr .none sl123 ty129 (.s rfl) (.s rfl) (fun _ => hn13)) rfl ?_
       obtain ⟨v1, hv14, h⟩ := bnd_some h
       refine .consA (.re hv14 (.load .none ty129 (.s rfl))) rfl ?_
       refine .consW (.alloc zo129 rfl) rfl rfl ?_
       refine .consA (.assign .none (.s rfl)) rfl ?_
       refine .consN (.store ty129 rfl rfl (.s rfl)) rfl ?_
       refine .nil (.then ?_)
       refine .freeze (t := 9) rfl rfl (.k 5001 rfl (.k 5002 rfl (.k 5003 rfl .nil))) rfl ?_
       refine .seq (.region [([], []), ([], []), ([], []), ([5002], []), ([5002], []), ([], []), ([], []), ([], []), ([], []), ([], []), ([], []), ([5002], []), ([5002], []), ([], [])] mixed (by kernel_rfl) ?_)
       refine .consA (.move .none (.s rfl)) rfl ?_
       refine .consA (.fieldAddr .none fd129_0 hfd129_0 (.s rfl)) rfl ?_
       refine .consA (.load .none ty3 (.s rfl)) rfl ?_
       obtain ⟨hn15, h⟩ := need_some h
       refine .consA (.indexAddrO (k := 5002) .none sl32 ty3 (.s rfl) rfl (.s rfl) (fun _ => hn15)) rfl ?_
       refine .consA (.loadElem0 (k := 5002) .none ty3 (.s rfl) rfl (fun _ => hn15)) rfl ?_
       refine .consA (.fieldAddr .none fd129_3 hfd129_3 (.s rfl)) rfl ?_
       refine .consA (.load .none ty3 (.s rfl)) rfl ?_
       refine .consA (.addW .none (.s rfl) (.s rfl)) rfl ?_
       refine .consA (.move .none (.s rfl)) rfl ?_
       refine .consA (.fieldAddr .none fd129_1 hfd129_1 (.s rfl)) rfl ?_
       refine .consA (.load .none ty3 (.s rfl)) rfl ?_
       obtain ⟨hn16, h⟩ := need_some h
       refine .consA (.indexAddrO (k := 5002) .none sl32 ty3 (.s rfl) rfl (.s rfl) (fun _ => hn16)) rfl ?_
       refine .consA (.loadElem0 (k := 5002) .none ty3 (.s rfl) rfl (fun _ => hn16)) rfl ?_
       refine .consA (.gt .none (.s rfl) (.s rfl)) rfl ?_
       refine .nil (.then ?_)
       refine .cond (t := 40) rfl trivial (fun hb17 => ?_) (fun hb17 => ?_)
       ·
        replace h := bif_t h hb17
        refine .seq (.region [([], []), ([], []), ([], []), ([], []), ([], []), ([], []), ([5002], []), ([5002], []), ([], []), ([], []), ([], []), ([5002], []), ([5002], [5002])] mixed (by kernel_rfl) ?_)
        refine .consA (.move .none (.s rfl)) rfl ?_
        refine .consA (.fieldAddr .none fd129_1 hfd129_1 (.s rfl)) rfl ?_
        refine .consA (.load .none ty3 (.s rfl)) rfl ?_
        refine .consA (.move .none (.s rfl)) rfl ?_
        refine .consA (.fieldAddr .none fd129_0 hfd129_0 (.s rfl)) rfl ?_
        refine .consA (.load .none ty3 (.s rfl)) rfl ?_
        obtain ⟨hn18, h⟩ := need_some h
        refine .consA (.indexAddrO (k := 5002) .none sl32 ty3 (.s rfl) rfl (.s rfl) (fun _ => hn18)) rfl ?_
        refine .consA (.loadElem0 (k := 5002) .none ty3 (.s rfl) rfl (fun _ => hn18)) rfl ?_
        refine .consA (.fieldAddr .none fd129_3 hfd129_3 (.s rfl)) rfl ?_
        refine .consA (.load .none ty3 (.s rfl)) rfl ?_
        obtain ⟨v2, hv19, h⟩ := bnd_some h
        refine .consA (.re hv19 (.addW .none (.s rfl) (.s rfl))) rfl ?_
        obtain ⟨hn20, h⟩ := need_some h
        refine .consA (.indexAddrO (k := 5002) .none sl32 ty3 (.s rfl) rfl (.s rfl) (fun _ => hn20)) rfl ?_
        refine .consN (.storeElem0 (k := 5002) ty3 (.s rfl) rfl (.s rfl) hn20) rfl ?_
        refine .nil (.then ?_)
        obtain ⟨ranks2, hv21, h⟩ := bnd_some h
        refine .reB (t := 5002) rfl (congrArg (fun y => CPred.at s5002 (rowV 3 y)) hv21) ?_
        refine .seq (.region [([], []), ([], []), ([], []), ([], []), ([5003], []), ([5003], [5003])] mixed (by kernel_rfl) ?_)
        refine .consA (.move .none (.s rfl)) rfl ?_
        refine .consA (.fieldAddr .none fd129_1 hfd129_1 (.s rfl)) rfl ?_
        refine .consA (.load .none ty3 (.s rfl)) rfl ?_
        refine .consA (.move .none (.s rfl)) rfl ?_
        obtain ⟨hn22, h⟩ := need_some h
        refine .consA (.indexAddrO (k := 5003) .none sl32 ty3 (.s rfl) rfl (.s rfl) (fun _ => hn22)) rfl ?_
        refine .consN (.storeElem0 (k := 5003) ty3 (.s rfl) rfl (.s rfl) hn22) rfl ?_
        refine .nil (.then ?_)
        obtain ⟨by2, hv23, h⟩ := bnd_some h
        refine .reB (t := 5003) rfl (congrArg (fun y => CPred.at s5003 (rowV 3 y)) hv23) ?_
        refine .region [] mixed (by kernel_rfl) ?_
        refine .cons (.fieldAddr .none fd129_1 hfd129_1 (.s rfl)) rfl ?_
        refine .cons (.load .none ty3 (.s rfl)) rfl ?_
        refine .cons (.assign .none (.s rfl)) rfl ?_
        refine .nil ?_
        refine .blkNormal ?_
        exact Ends.join _ (some_eq h) (.k 7 rfl (.k 0 rfl (.k 1 rfl (.k 4 rfl (.k 5 rfl (.k 6 rfl (.k 17 rfl (.k 18 rfl (.k 20 rfl (.k 21 rfl (.k 22 rfl .nil))))))))))) (.k 5002 rfl (.k 5003 rfl (.k 5001 rfl .nil)))
       ·
        replace h := bif_f h hb17
        refine .skip ?_
        refine .blkNormal ?_
        exact Ends.join _ (some_eq h) (.k 7 rfl (.k 0 rfl (.k 1 rfl (.k 4 rfl (.k 5 rfl (.k 6 rfl (.k 17 rfl (.k 18 rfl (.k 20 rfl (.k 21 rfl (.k 22 rfl .nil))))))))))) (.k 5002 rfl (.k 5003 rfl (.k 5001 rfl .nil)))
      ·
       subst hj12; have h := hK12; clear hK12
       refine .region [] mixed (by kernel_rfl) ?_
       refine .cons (.addW .none (.s rfl) (.int (by decide))) rfl ?_
       refine .cons (.move .none (.s rfl)) rfl ?_
       refine .nil ?_
       exact Ends.againL (some_eq h) (.k 22 rfl (.k 7 rfl (.k 0 rfl (.k 1 rfl (.k 4 rfl (.k 5 rfl (.k 6 rfl (.k 17 rfl (.k 18 rfl (.k 20 rfl (.k 21 rfl .nil))))))))))) (.k 5002 rfl (.k 5003 rfl (.k 5001 rfl .nil)))
     ·
      replace h := bif_f h hb11
      refine .exit ?_
      refine .thenExit ?_
      refine .thenExit ?_
      refine .blkExit ?_
      replace h := hD10 _ (some_eq h)
      exact Ends.join _ (some_eq h) (.k 7 rfl (.k 0 rfl (.k 1 rfl (.k 4 rfl (.k 5 rfl (.k 6 rfl (.k 17 rfl (.k 18 rfl .nil)))))))) (.k 5002 rfl (.k 5003 rfl (.k 5001 rfl .nil)))
    ·
     subst hj9; have h := hK9; clear hK9
     refine .seq (.region [] mixed (by kernel_rfl) ?_)
     refine .cons (.move .none (.s rfl)) rfl ?_
     refine .cons (.lt .none (.s rfl) (.int (by decide))) rfl ?_
     refine .nil (.then ?_)
     refine .cond (t := 62) rfl trivial (fun hb24 => ?_) (fun hb24 => ?_)
     ·
      replace h := bif_t h hb24
      refine .seq (.region [] mixed (by kernel_rfl) ?_)
      refine .cons (.move .none (.s rfl)) rfl ?_
      refine .cons (.assign .none (.s rfl)) rfl ?_
      refine .cons (.assign .none (Opd.nilN (α := Layer_arc))) rfl ?_
      refine .nil (.then ?_)
      refine .freezeRow (g := 5002) (ts := [4]) rfl (.cons (t := 4) rfl trivial .nil) SubB.nil rfl ?_
      refine .ret ?_
      refine .blkRet ?_
      refine .thenRet ?_
      refine .thenRet ?_
      refine .blkRet ?_
      refine .thenRet ?_
      replace h := resd_ab hK8 (some_eq h)
      replace h := hD6 _ (some_eq h)
      replace h := resb_ab hK5 (some_eq h)
      obtain rfl := some_eq h
      exact Ends.ret2 (.inl rfl) Try.results109 (ResOK.tmp rfl trivial Imp.refl) (ResOK.tmp rfl trivial Imp.refl)
     ·
      replace h := bif_f h hb24
      refine .skip ?_
      refine .blkNormal ?_
      exact Ends.join _ (some_eq h) (.k 7 rfl (.k 0 rfl (.k 1 rfl (.k 4 rfl (.k 5 rfl (.k 6 rfl (.k 17 rfl (.k 18 rfl .nil)))))))) (.k 5002 rfl (.k 5003 rfl (.k 5001 rfl .nil)))
   ·
    have h := resd_nx hK8 hj8
    refine .region [] mixed (by kernel_rfl) ?_
    refine .cons (.addW .none (.s rfl) (.int (by decide))) rfl ?_
    refine .cons (.move .none (.s rfl)) rfl ?_
    refine .nil ?_
    exact Ends.againL (some_eq h) (.k 18 rfl (.k 7 rfl (.k 0 rfl (.k 1 rfl (.k 4 rfl (.k 5 rfl (.k 6 rfl (.k 17 rfl .nil)))))))) (.k 5002 rfl (.k 5003 rfl (.k 5001 rfl .nil)))
  ·
   replace h := bif_f h hb7
   refine .exit ?_
   refine .thenExit ?_
   refine .thenExit ?_
   refine .blkExit ?_
   replace h := hD6 _ (some_eq h)
   exact Ends.join _ (some_eq h) (.k 7 rfl (.k 0 rfl (.k 1 rfl (.k 4 rfl (.k 5 rfl (.k 6 rfl .nil)))))) (.k 5002 rfl (.k 5003 rfl (.k 5001 rfl .nil)))
 ·
  have h := resb_nx hK5 hj5
  refine .freezeRow (g := 5003) (ts := [6]) rfl (.cons (t := 6) rfl trivial .nil) (.k 5001 rfl .nil) rfl ?_
  refine .seq ?_
  refine .seq (.region [] mixed (by kernel_rfl) ?_)
  refine .cons (.move .none (.s rfl)) rfl ?_
  refine .cons (.move .none (.int (by decide))) rfl ?_
  refine .nil (.then ?_)
  obtain ⟨j_25, h, hK25⟩ := bind_some h
  refine .thenJ (ι := Int) (fun j_25 => [(7, ⟨True, rep j_25⟩)]) (fun j_25 => []) (fun s => j_25 = s) (.k 1 rfl (.k 5 rfl (.k 6 rfl .nil))) (.k 5001 rfl .nil) ?_ (fun j_25' hj25 => ?_)
  ·
   skip
   refine .block ?_
   refine .rforL h (fun p26_ => [(66, ⟨True, rep p26_.1⟩), (7, ⟨True, rep p26_.2⟩)]) (fun p26_ => []) (.k 66 rfl (.k 7 rfl .nil)) SubB.nil (.k 1 rfl (.k 5 rfl (.k 6 rfl (.k 65 rfl .nil)))) (.k 5001 rfl .nil) (fun p26_ o_26 h hD26 => ?_)
   refine .seq (.region [] mixed (by kernel_rfl) ?_)
   refine .cons (.lt .none (.s rfl) (.s rfl)) rfl ?_
   refine .nil (.then ?_)
   refine .seq ?_
   refine .cond (t := 67) rfl trivial (fun hb27 => ?_) (fun hb27 => ?_)
   ·
    replace h := bif_t h hb27
    refine .skip ?_
    refine .then ?_
    refine .seq ?_
    obtain ⟨j_28, h, hK28⟩ := bind_some h
    unfold layer_raised_L3 at h
    refine .thenJ (ι := Int) (fun j_28 => [(7, ⟨True, rep j_28⟩)]) (fun j_28 => []) (fun s => j_28 = s) (.k 1 rfl (.k 5 rfl (.k 6 rfl (.k 65 rfl (.k 66 rfl .nil))))) (.k 5001 rfl .nil) ?_ (fun j_28' hj28 => ?_)
    ·
     skip
     refine .block ?_
     refine .region [] mixed (by kernel_rfl) ?_
     refine .cons (.move .none (.s rfl)) rfl ?_
     refine .cons (.move .none (.s rfl)) rfl ?_
     refine .cons (.move .none (.s rfl)) rfl ?_
     obtain ⟨hn29, h⟩ := need_some h
     refine .cons (.indexAddr .none sl32 ty3 (.s rfl) (.s rfl) (fun _ => hn29)) rfl ?_
     refine .cons (.load .none ty3 (.s rfl)) rfl ?_
     obtain ⟨hn30, h⟩ := need_some h
     refine .cons (.indexAddr .none sl123 ty129 (.s rfl) (.s rfl) (fun _ => hn30)) rfl ?_
     refine .cons (.fieldAddr .none fd129_0 hfd129_0 (.s rfl)) rfl ?_
     refine .cons (.load .none ty3 (.s rfl)) rfl ?_
     obtain ⟨last1, hv31, h⟩ := bnd_some h
     refine .cons (.re hv31 (.assign .none (.s rfl))) rfl ?_
     refine .nil ?_
     refine .blkNormal ?_
     exact Ends.join _ (some_eq h) (.k 7 rfl (.k 1 rfl (.k 5 rfl (.k 6 rfl (.k 65 rfl (.k 66 rfl .nil)))))) (.k 5001 rfl .nil)
    ·
     subst hj28; have h := hK28; clear hK28
     refine .region [] mixed (by kernel_rfl) ?_
     refine .cons (.addW .none (.s rfl) (.int (by decide))) rfl ?_
     refine .cons (.move .none (.s rfl)) rfl ?_
     refine .nil ?_
     exact Ends.againL (some_eq h) (.k 66 rfl (.k 7 rfl (.k 1 rfl (.k 5 rfl (.k 6 rfl (.k 65 rfl .nil)))))) (.k 5001 rfl .nil)
   ·
    replace h := bif_f h hb27
    refine .exit ?_
    refine .thenExit ?_
    refine .thenExit ?_
    refine .blkExit ?_
    replace h := hD26 _ (some_eq h)
    exact Ends.join _ (some_eq h) (.k 7 rfl (.k 1 rfl (.k 5 rfl (.k 6 rfl .nil)))) (.k 5001 rfl .nil)
  ·
   subst hj25; have h := hK25; clear hK25
   refine .seq (.region [] mixed (by kernel_rfl) ?_)
   refine .cons (.move .none (.s rfl)) rfl ?_
   refine .cons (.assign .none (.s rfl)) rfl ?_
   refine .nil (.then ?_)
   refine .block ?_
   refine .anon (t := 5) (g := 5001) rfl rfl trivial rfl ?_
   refine .loopL h (fun s32_ => [(10, ⟨True, rep s32_.2⟩)]) (fun s32_ => [(5, some (rowV 129 s32_.1))]) (.k 10 rfl .nil) (.k 5 rfl .nil) (.k 1 rfl (.k 6 rfl (.k 7 rfl .nil))) SubB.nil (fun s32_ o_32 h hD32 => ?_)
   unfold layer_raised_L4 at h
   refine .nameRow (t := 5) (g := 5004) rfl rfl rfl (fun s5004 => ?_)
   refine .block ?_
   refine .seq (.region [([], []), ([], []), ([], []), ([], []), ([], []), ([], []), ([], []), ([], [11]), ([11], [11])] mixed (by kernel_rfl) ?_)
   refine .consA (.move .none (.s rfl)) rfl ?_
   refine .consA (.move .none (.s rfl)) rfl ?_
   refine .consA (.move .none (.s rfl)) rfl ?_
   obtain ⟨hn33, h⟩ := need_some h
   refine .consA (.indexAddr .none sl32 ty3 (.s rfl) (.s rfl) (fun _ => hn33)) rfl ?_
   refine .consA (.load .none ty3 (.s rfl)) rfl ?_
   obtain ⟨hn34, h⟩ := need_some h
   refine .consA (.indexAddr .none sl123 ty129 (.s rfl) (.s rfl) (fun _ => hn34)) rfl ?_
   obtain ⟨v3, hv35, h⟩ := bnd_some h
   refine .consA (.re hv35 (.load .none ty129 (.s rfl))) rfl ?_
   refine .consW (.alloc zo129 rfl) rfl rfl ?_
   refine .consN (.store ty129 rfl rfl (.s rfl)) rfl ?_
   refine .nil (.then ?_)
   refine .freeze (t := 11) rfl rfl (.k 5004 rfl .nil) rfl ?_
   refine .seq (.region [([], []), ([], []), ([], []), ([5004], [88, 5004]), ([88], [5, 88])] mixed (by kernel_rfl) ?_)
   refine .consA (.move .none (.s rfl)) rfl ?_
   refine .consA (.load .none ty129 (.s rfl)) rfl ?_
   refine .consA (.buildSlice (xs := [_]) .none sl123 ty129 hz129 (.cons (.s rfl) .nil) rfl (by decide)) rfl ?_
   obtain ⟨hn36, h⟩ := need_some h
   refine .consW (.append (k := 5004) rk123 rfl (.told (.s rfl) rfl) (.s rfl) hn36) rfl rfl ?_
   refine .consW (.passRow rfl (.tmp rfl)) rfl rfl ?_
   refine .nil (.then ?_)
   obtain ⟨circle1, hv37, h⟩ := bnd_some h
   refine .reB (t := 5) rfl (congrArg (rowV 129) hv37) ?_
   refine .nameRow (t := 5) (g := 5005) rfl rfl rfl (fun s5005 => ?_)
   refine .seq (.region [] mixed (by kernel_rfl) ?_)
   refine .cons (.fieldAddr .none fd129_0 hfd129_0 (.s rfl)) rfl ?_
   refine .cons (.load .none ty3 (.s rfl)) rfl ?_
   refine .cons (.assign .none (.s rfl)) rfl ?_
   refine .nil (.then ?_)
   refine .seq (.region [] mixed (by kernel_rfl) ?_)
   refine .cons (.move .none (.s rfl)) rfl ?_
   refine .cons (.move .none (.s rfl)) rfl ?_
   refine .cons (.eqI .none (.s rfl) (.s rfl)) rfl ?_
   refine .nil (.then ?_)
   refine .cond (t := 93) rfl trivial (fun hb38 => ?_) (fun hb38 => ?_)
   ·
    replace h := bif_t h hb38
    refine .seq (.region [([], []), ([], []), ([], [])] mixed (by kernel_rfl) ?_)
    refine .consA (.move .none (.s rfl)) rfl ?_
    refine .consA (.assign .none (.const (x := ([] : (List Int))) (fun M w => ⟨_, ⟨none, 0, rfl, Nat.le_refl _, by decide, rfl⟩, rfl⟩))) rfl ?_
    refine .consD (.assign .none (.s rfl)) rfl ?_
    refine .nil (.then ?_)
    refine .freezeRow (g := 5005) (ts := [5]) rfl (.cons (t := 5) rfl trivial .nil) SubB.nil rfl ?_
    refine .ret ?_
    refine .blkRet ?_
    refine .thenRet ?_
    refine .blkRet ?_
    obtain ⟨hn39, h⟩ := need_some h
    replace h := hD32 _ (some_eq h)
    obtain rfl := some_eq h
    exact Ends.ret2 (.inl rfl) Try.results109 (ResOK.tmp rfl trivial Imp.refl) (ResOK.tmp rfl trivial (Imp.toN hn39))
   ·
    replace h := bif_f h hb38
    refine .skip ?_
    refine .blkNormal ?_
    refine .anon (t := 5) (g := 5005) rfl rfl trivial rfl ?_
    exact Ends.againL (some_eq h) (.k 10 rfl (.k 1 rfl (.k 6 rfl (.k 7 rfl .nil)))) (.k 5 rfl .nil)

theorem layer_pieces_ok {n1 : Int} {l1 : (List Link)} {r : (List Int)}  (h : layer_pieces n1 l1 = some r) : FSpec Try.prog 132 [rep n1, rep l1] (rep r) := by
 unfold layer_pieces at h
 refine FSpec.intro (n := 55) fnok132 Try.func132 rfl Try.ntmps132 rfl (fun F => ?_)
 refine .seq (.region [] mixed (by kernel_rfl) ?_)
 refine .cons (.assign .none (.const (x := ([] : (List Int))) (fun M w => ⟨_, ⟨none, 0, rfl, Nat.le_refl _, by decide, rfl⟩, rfl⟩))) rfl ?_
 refine .nil (.then ?_)
 refine .seq (.region [([], []), ([], [11]), ([11], [5, 11])] mixed (by kernel_rfl) ?_)
 refine .consA (.move .none (.s rfl)) rfl ?_
 obtain ⟨hn1, h⟩ := need_some h
 refine .consW (.makeSlice rk32 zo3 rfl (.s rfl) (.s rfl) hn1) rfl rfl ?_
 refine .consW (.passRow rfl (.tmp rfl)) rfl rfl ?_
 refine .nil (.then ?_)
 obtain ⟨of1, hv2, h⟩ := bnd_some h
 refine .reB (t := 5) rfl (congrArg (rowV 3) hv2) ?_
 refine .nameRow (t := 5) (g := 5001) rfl rfl rfl (fun s5001 => ?_)
 refine .seq ?_
 refine .seq (.region [([], []), ([5001], []), ([], [])] mixed (by kernel_rfl) ?_)
 refine .consA (.move .none (.s rfl)) rfl ?_
 refine .consA (.lenO (k := 5001) sl32 (.told (.s rfl) rfl)) rfl ?_
 refine .consA (.move .none (.int (by decide))) rfl ?_
 refine .nil (.then ?_)
 obtain ⟨j_3, h, hK3⟩ := bind_some h
 refine .thenJ (ι := (List Int)) (fun j_3 => []) (fun j_3 => [(5001, some (CPred.at s5001 (rowV 3 j_3)))]) (fun s => j_3 = s) (.k 0 rfl (.k 1 rfl (.k 5 rfl .nil))) SubB.nil ?_ (fun j_3' hj3 => ?_)
 ·
  skip
  refine .block ?_
  refine .rforL h (fun p4_ => [(14, ⟨True, rep p4_.1⟩)]) (fun p4_ => [(5001, some (CPred.at s5001 (rowV 3 p4_.2)))]) (.k 14 rfl .nil) (.k 5001 rfl .nil) (.k 0 rfl (.k 1 rfl (.k 5 rfl (.k 13 rfl .nil)))) SubB.nil (fun p4_ o_4 h hD4 => ?_)
  refine .seq (.region [] mixed (by kernel_rfl) ?_)
  refine .cons (.lt .none (.s rfl) (.s rfl)) rfl ?_
  refine .nil (.then ?_)
  refine .seq ?_
  refine .cond (t := 15) rfl trivial (fun hb5 => ?_) (fun hb5 => ?_)
  ·
   replace h := bif_t h hb5
   refine .skip ?_
   refine .then ?_
   refine .seq ?_
   obtain ⟨j_6, h, hK6⟩ := bind_some h
   unfold layer_pieces_L1 at h
   refine .thenJ (ι := (List Int)) (fun j_6 => []) (fun j_6 => [(5001, some (CPred.at s5001 (rowV 3 j_6)))]) (fun s => j_6 = s) (.k 0 rfl (.k 1 rfl (.k 5 rfl (.k 13 rfl (.k 14 rfl .nil))))) SubB.nil ?_ (fun j_6' hj6 => ?_)
   ·
    skip
    refine .block ?_
    refine .seq (.region [] mixed (by kernel_rfl) ?_)
    refine .cons (.move .none (.s rfl)) rfl ?_
    refine .cons (.assign .none (.s rfl)) rfl ?_
    refine .nil (.then ?_)
    refine .region [([], []), ([], []), ([], []), ([5001], []), ([5001], [5001])] mixed (by kernel_rfl) ?_
    refine .consA (.move .none (.s rfl)) rfl ?_
    refine .consA (.move .none (.s rfl)) rfl ?_
    refine .consA (.move .none (.s rfl)) rfl ?_
    obtain ⟨hn7, h⟩ := need_some h
    refine .consA (.indexAddrO (k := 5001) .none sl32 ty3 (.s rfl) rfl (.s rfl) (fun _ => hn7)) rfl ?_
    refine .consN (.storeElem0 (k := 5001) ty3 (.s rfl) rfl (.s rfl) hn7) rfl ?_
    refine .nil ?_
    refine .blkNormal ?_
    exact Ends.join _ (some_eq h) (.k 0 rfl (.k 1 rfl (.k 5 rfl (.k 13 rfl (.k 14 rfl .nil))))) (.k 5001 rfl .nil)
   ·
    subst hj6; have h := hK6; clear hK6
    refine .region [] mixed (by kernel_rfl) ?_
    refine .cons (.addW .none (.s rfl) (.int (by decide))) rfl ?_
    refine .cons (.move .none (.s rfl)) rfl ?_
    refine .nil ?_
    exact Ends.againL (some_eq h) (.k 14 rfl (.k 0 rfl (.k 1 rfl (.k 5 rfl (.k 13 rfl .nil))))) (.k 5001 rfl .nil)
  ·
   replace h := bif_f h hb5
   refine .exit ?_
   refine .thenExit ?_
   refine .thenExit ?_
   refine .blkExit ?_
   replace h := hD4 _ (some_eq h)
   exact Ends.join _ (some_eq h) (.k 0 rfl (.k 1 rfl (.k 5 rfl .nil))) (.k 5001 rfl .nil)
 ·
  subst hj3; have h := hK3; clear hK3
  refine .seq ?_
  refine .seq (.region [] mixed (by kernel_rfl) ?_)
  refine .cons (.move .none (.s rfl)) rfl ?_
  refine .cons (.move .none (.int (by decide))) rfl ?_
  refine .nil (.then ?_)
  obtain ⟨j_8, h, hK8⟩ := bind_some h
  refine .thenJ (ι := (List Int)) (fun j_8 => []) (fun j_8 => [(5001, some (CPred.at s5001 (rowV 3 j_8)))]) (fun s => j_8 = s) (.k 5 rfl .nil) SubB.nil ?_ (fun j_8' hj8 => ?_)
  ·
   skip
   refine .block ?_
   refine .rforL h (fun p9_ => [(23, ⟨True, rep p9_.1⟩)]) (fun p9_ => [(5001, some (CPred.at s5001 (rowV 3 p9_.2)))]) (.k 23 rfl .nil) (.k 5001 rfl .nil) (.k 1 rfl (.k 5 rfl (.k 22 rfl .nil))) SubB.nil (fun p9_ o_9 h hD9 => ?_)
   refine .seq (.region [] mixed (by kernel_rfl) ?_)
   refine .cons (.lt .none (.s rfl) (.s rfl)) rfl ?_
   refine .nil (.then ?_)
   refine .seq ?_
   refine .cond (t := 24) rfl trivial (fun hb10 => ?_) (fun hb10 => ?_)
   ·
    replace h := bif_t h hb10
    refine .skip ?_
    refine .then ?_
    refine .seq ?_
    obtain ⟨j_11, h, hK11⟩ := bind_some h
    unfold layer_pieces_L2 at h
    refine .thenJ (ι := (List Int)) (fun j_11 => []) (fun j_11 => [(5001, some (CPred.at s5001 (rowV 3 j_11)))]) (fun s => j_11 = s) (.k 1 rfl (.k 5 rfl (.k 22 rfl (.k 23 rfl .nil)))) SubB.nil ?_ (fun j_11' hj11 => ?_)
    ·
     skip
     refine .block ?_
     refine .seq (.region [] mixed (by kernel_rfl) ?_)
     refine .cons (.move .none (.s rfl)) rfl ?_
     refine .cons (.len .none sl23 (.s rfl)) rfl ?_
     refine .cons (.move .none (.int (by decide))) rfl ?_
     refine .nil (.then ?_)
     refine .block ?_
     refine .rforL h (fun p12_ => [(27, ⟨True, rep p12_.1⟩)]) (fun p12_ => [(5001, some (CPred.at s5001 (rowV 3 p12_.2)))]) (.k 27 rfl .nil) (.k 5001 rfl .nil) (.k 1 rfl (.k 5 rfl (.k 22 rfl (.k 23 rfl (.k 25 rfl (.k 26 rfl .nil)))))) SubB.nil (fun p12_ o_12 h hD12 => ?_)
     refine .seq (.region [] mixed (by kernel_rfl) ?_)
     refine .cons (.lt .none (.s rfl) (.s rfl)) rfl ?_
     refine .nil (.then ?_)
     refine .seq ?_
     refine .cond (t := 28) rfl trivial (fun hb13 => ?_) (fun hb13 => ?_)
     ·
      replace h := bif_t h hb13
      refine .skip ?_
      refine .then ?_
      refine .seq ?_
      obtain ⟨j_14, h, hK14⟩ := bind_some h
      unfold layer_pieces_L3 at h
      refine .thenJ (ι := (List Int)) (fun j_14 => []) (fun j_14 => [(5001, some (CPred.at s5001 (rowV 3 j_14)))]) (fun s => j_14 = s) (.k 1 rfl (.k 5 rfl (.k 22 rfl (.k 23 rfl (.k 25 rfl (.k 26 rfl (.k 27 rfl .nil))))))) SubB.nil ?_ (fun j_14' hj14 => ?_)
      ·
       skip
       refine .block ?_
       refine .seq (.region [([], []), ([], []), ([], [8]), ([8], [8])] mixed (by kernel_rfl) ?_)
       obtain ⟨hn15, h⟩ := need_some h
       refine .consA (.indexAddr .none sl23 ty79 (.s rfl) (.s rfl) (fun _ => hn15)) rfl ?_
       obtain ⟨v1, hv16, h⟩ := bnd_some h
       refine .consA (.re hv16 (.load .none ty79 (.s rfl))) rfl ?_
       refine .consW (.alloc zo79 rfl) rfl rfl ?_
       refine .consN (.store ty79 rfl rfl (.s rfl)) rfl ?_
       refine .nil (.then ?_)
       refine .freeze (t := 8) rfl rfl (.k 5001 rfl .nil) rfl ?_
       refine .seq (.region [([], []), ([], []), ([], []), ([5001], []), ([5001], []), ([], []), ([], []), ([], []), ([5001], []), ([5001], []), ([], []), ([], [])] mixed (by kernel_rfl) ?_)
       refine .consA (.move .none (.s rfl)) rfl ?_
       refine .consA (.fieldAddr .none fd79_0 hfd79_0 (.s rfl)) rfl ?_
       refine .consA (.load .none ty3 (.s rfl)) rfl ?_
       obtain ⟨hn17, h⟩ := need_some h
       refine .consA (.indexAddrO (k := 5001) .none sl32 ty3 (.s rfl) rfl (.s rfl) (fun _ => hn17)) rfl ?_
       refine .consA (.loadElem0 (k := 5001) .none ty3 (.s rfl) rfl (fun _ => hn17)) rfl ?_
       refine .consA (.move .none (.s rfl)) rfl ?_
       refine .consA (.fieldAddr .none fd79_1 hfd79_1 (.s rfl)) rfl ?_
       refine .consA (.load .none ty3 (.s rfl)) rfl ?_
       obtain ⟨hn18, h⟩ := need_some h
       refine .consA (.indexAddrO (k := 5001) .none sl32 ty3 (.s rfl) rfl (.s rfl) (fun _ => hn18)) rfl ?_
       refine .consA (.loadElem0 (k := 5001) .none ty3 (.s rfl) rfl (fun _ => hn18)) rfl ?_
       refine .consA (.min2 .none (.s rfl) (.s rfl)) rfl ?_
       obtain ⟨k1, hv19, h⟩ := bnd_some h
       refine .consA (.re hv19 (.assign .none (.s rfl))) rfl ?_
       refine .nil (.then ?_)
       refine .region [([], []), ([], []), ([], []), ([], []), ([], []), ([], []), ([], []), ([], []), ([5001], []), ([5001], [5001]), ([5001], []), ([5001], [5001])] mixed (by kernel_rfl) ?_
       refine .consA (.move .none (.s rfl)) rfl ?_
       refine .consA (.fieldAddr .none fd79_0 hfd79_0 (.s rfl)) rfl ?_
       refine .consA (.load .none ty3 (.s rfl)) rfl ?_
       refine .consA (.move .none (.s rfl)) rfl ?_
       refine .consA (.fieldAddr .none fd79_1 hfd79_1 (.s rfl)) rfl ?_
       refine .consA (.load .none ty3 (.s rfl)) rfl ?_
       refine .consA (.move .none (.s rfl)) rfl ?_
       refine .consA (.move .none (.s rfl)) rfl ?_
       obtain ⟨hn20, h⟩ := need_some h
       refine .consA (.indexAddrO (k := 5001) .none sl32 ty3 (.s rfl) rfl (.s rfl) (fun _ => hn20)) rfl ?_
       refine .consN (.storeElem0 (k := 5001) ty3 (.s rfl) rfl (.s rfl) hn20) rfl ?_
       obtain ⟨hn21, h⟩ := need_some h
       refine .consA (.indexAddrO (k := 5001) .none sl32 ty3 (.s rfl) rfl (.s rfl) (fun _ => hn21)) rfl ?_
       refine .consN (.storeElem0 (k := 5001) ty3 (.s rfl) rfl (.s rfl) hn21) rfl ?_
       refine .nil ?_
       refine .blkNormal ?_
       exact Ends.join _ (some_eq h) (.k 1 rfl (.k 5 rfl (.k 22 rfl (.k 23 rfl (.k 25 rfl (.k 26 rfl (.k 27 rfl .nil))))))) (.k 5001 rfl .nil)
      ·
       subst hj14; have h := hK14; clear hK14
       refine .region [] mixed (by kernel_rfl) ?_
       refine .cons (.addW .none (.s rfl) (.int (by decide))) rfl ?_
       refine .cons (.move .none (.s rfl)) rfl ?_
       refine .nil ?_
       exact Ends.againL (some_eq h) (.k 27 rfl (.k 1 rfl (.k 5 rfl (.k 22 rfl (.k 23 rfl (.k 25 rfl (.k 26 rfl .nil))))))) (.k 5001 rfl .nil)
     ·
      replace h := bif_f h hb13
      refine .exit ?_
      refine .thenExit ?_
      refine .thenExit ?_
      refine .blkExit ?_
      refine .blkNormal ?_
      replace h := hD12 _ (some_eq h)
      exact Ends.join _ (some_eq h) (.k 1 rfl (.k 5 rfl (.k 22 rfl (.k 23 rfl .nil)))) (.k 5001 rfl .nil)
    ·
     subst hj11; have h := hK11; clear hK11
     refine .region [] mixed (by kernel_rfl) ?_
     refine .cons (.addW .none (.s rfl) (.int (by decide))) rfl ?_
     refine .cons (.move .none (.s rfl)) rfl ?_
     refine .nil ?_
     exact Ends.againL (some_eq h) (.k 23 rfl (.k 1 rfl (.k 5 rfl (.k 22 rfl .nil)))) (.k 5001 rfl .nil)
   ·
    replace h := bif_f h hb10
    refine .exit ?_
    refine .thenExit ?_
    refine .thenExit ?_
    refine .blkExit ?_
    replace h := hD9 _ (some_eq h)
    exact Ends.join _ (some_eq h) (.k 5 rfl .nil) (.k 5001 rfl .nil)
  ·
   subst hj8; have h := hK8; clear hK8
   refine .freezeRow (g := 5001) (ts := [5]) rfl (.cons (t := 5) rfl trivial .nil) SubB.nil rfl ?_
   refine .seq (.region [] mixed (by kernel_rfl) ?_)
   refine .cons (.move .none (.s rfl)) rfl ?_
   refine .cons (.assign .none (.s rfl)) rfl ?_
   refine .nil (.then ?_)
   refine .ret ?_
   obtain rfl := some_eq h
   exact Ends.ret1 (.inl rfl) Try.results132 (ResOK.tmp rfl trivial Imp.refl)

theorem slices_Clone_int_ok {s1 : (List Int)} {r : (List Int)}  (h : slices_Clone_int s1 = some r) : FSpecO Try.prog 27 [rep s1] [] (anyV) [some (rowV 3 r)] := by
 unfold slices_Clone_int at h
 refine FSpecO.intro (n := 8) fnok27 Try.func27 rfl Try.ntmps27 rfl (fun F => ?_)
 refine .seq (.region [] mixed (by kernel_rfl) ?_)
 refine .cons (.assign .none (.const (x := ([] : (List Int))) (fun M w => ⟨_, ⟨none, 0, rfl, Nat.le_refl _, by decide, rfl⟩, rfl⟩))) rfl ?_
 refine .nil (.then ?_)
 refine .seq ?_
 refine .seq (.region [] mixed (by kernel_rfl) ?_)
 refine .cons (.move .none (.s rfl)) rfl ?_
 refine .cons (.eqNil .none sl32 (.s rfl)) rfl ?_
 refine .nil (.then ?_)
 refine .condNil (t := 4) rfl trivial (fun hb1 => ?_) ?_
 ·
  replace h := nilc_t h hb1
  refine .seq (.region [([], [2])] mixed (by kernel_rfl) ?_)
  refine .consW (.nilRow (T := 3) (α := Int) rfl) rfl rfl ?_
  refine .nil (.then ?_)
  refine .nameRow (t := 2) (g := 5001) rfl rfl rfl (fun s5001 => ?_)
  refine .ret ?_
  refine .thenRet ?_
  refine .anon (t := 2) (g := 5001) rfl rfl trivial rfl ?_
  obtain rfl := some_eq h
  exact Ends.ret1O (.inl rfl) [2] Try.results27 (by decide) (.res rfl rfl) (ResOK.tmp rfl trivial (fun _ _ _ _ => trivial))
 ·
  replace h := nilc_f h
  refine .skip ?_
  refine .then ?_
  refine .seq (.region [([], [5]), ([], []), ([5], [7, 5]), ([7], [2, 7])] mixed (by kernel_rfl) ?_)
  refine .consW (.buildSliceO (xs := []) rfl sl32 ty3 hz3 .nil rfl (by decide)) rfl rfl ?_
  refine .consA (.move .none (.s rfl)) rfl ?_
  obtain ⟨hn2, h⟩ := need_some h
  refine .consW (.append (k := 5) rk32 rfl (.tmp rfl) (.s rfl) hn2) rfl rfl ?_
  refine .consW (.passRow rfl (.tmp rfl)) rfl rfl ?_
  refine .nil (.then ?_)
  obtain ⟨v1, hv3, h⟩ := bnd_some h
  refine .reB (t := 2) rfl (congrArg (rowV 3) hv3) ?_
  refine .nameRow (t := 2) (g := 5002) rfl rfl rfl (fun s5002 => ?_)
  refine .ret ?_
  refine .anon (t := 2) (g := 5002) rfl rfl trivial rfl ?_
  obtain rfl := some_eq h
  exact Ends.ret1O (.inl rfl) [2] Try.results27 (by decide) (.res rfl rfl) (ResOK.tmp rfl trivial (fun _ _ _ _ => trivial))

theorem layer_grounded_ok {n1 : Int} {l1 : (List Link)} {r1 : (List Int)} {r : (List Int)}  (h : layer_grounded n1 l1 r1 = some r) : FSpec Try.prog 111 [rep n1, rep l1, rep r1] (rep r) := by
 unfold layer_grounded at h
 refine FSpec.intro (n := 63) fnok111 Try.func111 rfl Try.ntmps111 rfl (fun F => ?_)
 refine .seq (.region [] mixed (by kernel_rfl) ?_)
 refine .cons (.assign .none (.const (x := ([] : (List Int))) (fun M w => ⟨_, ⟨none, 0, rfl, Nat.le_refl _, by decide, rfl⟩, rfl⟩))) rfl ?_
 refine .nil (.then ?_)
 refine .seq (.region [] mixed (by kernel_rfl) ?_)
 refine .cons (.move .none (.s rfl)) rfl ?_
 refine .cons (.move .none (.s rfl)) rfl ?_
 obtain ⟨of1, hv1, h⟩ := bind_some h
 refine .cons (.call .none (layer_pieces_ok hv1) (.cons (.s rfl) (.cons (.s rfl) .nil))) rfl ?_
 refine .cons (.assign .none (.s rfl)) rfl ?_
 refine .nil (.then ?_)
 refine .seq (.region [([], []), ([], [16]), ([16], [8, 16])] mixed (by kernel_rfl) ?_)
 refine .consA (.move .none (.s rfl)) rfl ?_
 obtain ⟨least1, hv2, h⟩ := bind_some h
 refine .consW (.callO [] (slices_Clone_int_ok hv2) (.cons (.s rfl) .nil) .nil rfl (by decide) (by decide) (by intro d h; cases h; decide)) rfl rfl ?_
 refine .consW (.passRow rfl (.tmp rfl)) rfl rfl ?_
 refine .nil (.then ?_)
 refine .nameRow (t := 8) (g := 5001) rfl rfl rfl (fun s5001 => ?_)
 refine .seq ?_
 refine .seq (.region [] mixed (by kernel_rfl) ?_)
 refine .cons (.move .none (.s rfl)) rfl ?_
 refine .cons (.move .none (.int (by decide))) rfl ?_
 refine .nil (.then ?_)
 obtain ⟨j_3, h, hK3⟩ := bind_some h
 refine .thenJ (ι := (List Int)) (fun j_3 => []) (fun j_3 => [(5001, some (CPred.at s5001 (rowV 3 j_3)))]) (fun s => j_3 = s) (.k 0 rfl (.k 2 rfl (.k 7 rfl (.k 8 rfl .nil)))) SubB.nil ?_ (fun j_3' hj3 => ?_)
 ·
  skip
  refine .block ?_
  refine .rforL h (fun p4_ => [(18, ⟨True, rep p4_.1⟩)]) (fun p4_ => [(5001, some (CPred.at s5001 (rowV 3 p4_.2)))]) (.k 18 rfl .nil) (.k 5001 rfl .nil) (.k 0 rfl (.k 2 rfl (.k 7 rfl (.k 8 rfl (.k 17 rfl .nil))))) SubB.nil (fun p4_ o_4 h hD4 => ?_)
  refine .seq (.region [] mixed (by kernel_rfl) ?_)
  refine .cons (.lt .none (.s rfl) (.s rfl)) rfl ?_
  refine .nil (.then ?_)
  refine .seq ?_
  refine .cond (t := 19) rfl trivial (fun hb5 => ?_) (fun hb5 => ?_)
  ·
   replace h := bif_t h hb5
   refine .skip ?_
   refine .then ?_
   refine .seq ?_
   obtain ⟨j_6, h, hK6⟩ := bind_some h
   unfold layer_grounded_L1 at h
   refine .thenJ (ι := (List Int)) (fun j_6 => []) (fun j_6 => [(5001, some (CPred.at s5001 (rowV 3 j_6)))]) (fun s => j_6 = s) (.k 0 rfl (.k 2 rfl (.k 7 rfl (.k 8 rfl (.k 17 rfl (.k 18 rfl .nil)))))) SubB.nil ?_ (fun j_6' hj6 => ?_)
   ·
    skip
    refine .block ?_
    refine .seq (.region [] mixed (by kernel_rfl) ?_)
    refine .cons (.move .none (.s rfl)) rfl ?_
    refine .cons (.assign .none (.s rfl)) rfl ?_
    refine .nil (.then ?_)
    refine .region [([], []), ([], []), ([], []), ([], []), ([], []), ([], []), ([], []), ([], []), ([], []), ([], []), ([5001], []), ([5001], []), ([], []), ([], []), ([], []), ([], []), ([], []), ([5001], []), ([5001], [5001])] mixed (by kernel_rfl) ?_
    refine .consA (.move .none (.s rfl)) rfl ?_
    refine .consA (.move .none (.s rfl)) rfl ?_
    refine .consA (.move .none (.s rfl)) rfl ?_
    obtain ⟨hn7, h⟩ := need_some h
    refine .consA (.indexAddr .none sl32 ty3 (.s rfl) (.s rfl) (fun _ => hn7)) rfl ?_
    refine .consA (.load .none ty3 (.s rfl)) rfl ?_
    refine .consA (.move .none (.s rfl)) rfl ?_
    refine .consA (.move .none (.s rfl)) rfl ?_
    refine .consA (.move .none (.s rfl)) rfl ?_
    obtain ⟨hn8, h⟩ := need_some h
    refine .consA (.indexAddr .none sl32 ty3 (.s rfl) (.s rfl) (fun _ => hn8)) rfl ?_
    refine .consA (.load .none ty3 (.s rfl)) rfl ?_
    obtain ⟨hn9, h⟩ := need_some h
    refine .consA (.indexAddrO (k := 5001) .none sl32 ty3 (.s rfl) rfl (.s rfl) (fun _ => hn9)) rfl ?_
    refine .consA (.loadElem0 (k := 5001) .none ty3 (.s rfl) rfl (fun _ => hn9)) rfl ?_
    refine .consA (.move .none (.s rfl)) rfl ?_
    refine .consA (.move .none (.s rfl)) rfl ?_
    obtain ⟨hn10, h⟩ := need_some h
    refine .consA (.indexAddr .none sl32 ty3 (.s rfl) (.s rfl) (fun _ => hn10)) rfl ?_
    refine .consA (.load .none ty3 (.s rfl)) rfl ?_
    obtain ⟨v1, hv11, h⟩ := bnd_some h
    refine .consA (.re hv11 (.min2 .none (.s rfl) (.s rfl))) rfl ?_
    obtain ⟨hn12, h⟩ := need_some h
    refine .consA (.indexAddrO (k := 5001) .none sl32 ty3 (.s rfl) rfl (.s rfl) (fun _ => hn12)) rfl ?_
    refine .consN (.storeElem0 (k := 5001) ty3 (.s rfl) rfl (.s rfl) hn12) rfl ?_
    refine .nil ?_
    refine .blkNormal ?_
    exact Ends.join _ (some_eq h) (.k 0 rfl (.k 2 rfl (.k 7 rfl (.k 8 rfl (.k 17 rfl (.k 18 rfl .nil)))))) (.k 5001 rfl .nil)
   ·
    subst hj6; have h := hK6; clear hK6
    refine .region [] mixed (by kernel_rfl) ?_
    refine .cons (.addW .none (.s rfl) (.int (by decide))) rfl ?_
    refine .cons (.move .none (.s rfl)) rfl ?_
    refine .nil ?_
    exact Ends.againL (some_eq h) (.k 18 rfl (.k 0 rfl (.k 2 rfl (.k 7 rfl (.k 8 rfl (.k 17 rfl .nil)))))) (.k 5001 rfl .nil)
  ·
   replace h := bif_f h hb5
   refine .exit ?_
   refine .thenExit ?_
   refine .thenExit ?_
   refine .blkExit ?_
   replace h := hD4 _ (some_eq h)
   exact Ends.join _ (some_eq h) (.k 0 rfl (.k 2 rfl (.k 7 rfl (.k 8 rfl .nil)))) (.k 5001 rfl .nil)
 ·
  subst hj3; have h := hK3; clear hK3
  refine .freezeRow (g := 5001) (ts := [8]) rfl (.cons (t := 8) rfl trivial .nil) SubB.nil rfl ?_
  refine .seq (.region [([], []), ([], [41]), ([41], [10, 41])] mixed (by kernel_rfl) ?_)
  refine .consA (.move .none (.s rfl)) rfl ?_
  obtain ⟨hn13, h⟩ := need_some h
  refine .consW (.makeSlice rk32 zo3 rfl (.s rfl) (.s rfl) hn13) rfl rfl ?_
  refine .consW (.passRow rfl (.tmp rfl)) rfl rfl ?_
  refine .nil (.then ?_)
  obtain ⟨out1, hv14, h⟩ := bnd_some h
  refine .reB (t := 10) rfl (congrArg (rowV 3) hv14) ?_
  refine .nameRow (t := 10) (g := 5002) rfl rfl rfl (fun s5002 => ?_)
  refine .seq ?_
  refine .seq (.region [] mixed (by kernel_rfl) ?_)
  refine .cons (.move .none (.s rfl)) rfl ?_
  refine .cons (.move .none (.int (by decide))) rfl ?_
  refine .nil (.then ?_)
  obtain ⟨j_15, h, hK15⟩ := bind_some h
  refine .thenJ (ι := (List Int)) (fun j_15 => []) (fun j_15 => [(5002, some (CPred.at s5002 (rowV 3 j_15)))]) (fun s => j_15 = s) (.k 10 rfl .nil) SubB.nil ?_ (fun j_15' hj15 => ?_)
  ·
   skip
   refine .block ?_
   refine .rforL h (fun p16_ => [(43, ⟨True, rep p16_.1⟩)]) (fun p16_ => [(5002, some (CPred.at s5002 (rowV 3 p16_.2)))]) (.k 43 rfl .nil) (.k 5002 rfl .nil) (.k 2 rfl (.k 7 rfl (.k 8 rfl (.k 10 rfl (.k 42 rfl .nil))))) SubB.nil (fun p16_ o_16 h hD16 => ?_)
   refine .seq (.region [] mixed (by kernel_rfl) ?_)
   refine .cons (.lt .none (.s rfl) (.s rfl)) rfl ?_
   refine .nil (.then ?_)
   refine .seq ?_
   refine .cond (t := 44) rfl trivial (fun hb17 => ?_) (fun hb17 => ?_)
   ·
    replace h := bif_t h hb17
    refine .skip ?_
    refine .then ?_
    refine .seq ?_
    obtain ⟨j_18, h, hK18⟩ := bind_some h
    unfold layer_grounded_L2 at h
    refine .thenJ (ι := (List Int)) (fun j_18 => []) (fun j_18 => [(5002, some (CPred.at s5002 (rowV 3 j_18)))]) (fun s => j_18 = s) (.k 2 rfl (.k 7 rfl (.k 8 rfl (.k 10 rfl (.k 42 rfl (.k 43 rfl .nil)))))) SubB.nil ?_ (fun j_18' hj18 => ?_)
    ·
     skip
     refine .block ?_
     refine .seq (.region [] mixed (by kernel_rfl) ?_)
     refine .cons (.move .none (.s rfl)) rfl ?_
     refine .cons (.assign .none (.s rfl)) rfl ?_
     refine .nil (.then ?_)
     refine .region [([], []), ([], []), ([], []), ([], []), ([], []), ([], []), ([], []), ([], []), ([], []), ([], []), ([], []), ([], []), ([], []), ([], []), ([5002], []), ([5002], [5002])] mixed (by kernel_rfl) ?_
     refine .consA (.move .none (.s rfl)) rfl ?_
     refine .consA (.move .none (.s rfl)) rfl ?_
     refine .consA (.move .none (.s rfl)) rfl ?_
     refine .consA (.move .none (.s rfl)) rfl ?_
     obtain ⟨hn19, h⟩ := need_some h
     refine .consA (.indexAddr .none sl32 ty3 (.s rfl) (.s rfl) (fun _ => hn19)) rfl ?_
     refine .consA (.load .none ty3 (.s rfl)) rfl ?_
     refine .consA (.move .none (.s rfl)) rfl ?_
     refine .consA (.move .none (.s rfl)) rfl ?_
     refine .consA (.move .none (.s rfl)) rfl ?_
     obtain ⟨hn20, h⟩ := need_some h
     refine .consA (.indexAddr .none sl32 ty3 (.s rfl) (.s rfl) (fun _ => hn20)) rfl ?_
     refine .consA (.load .none ty3 (.s rfl)) rfl ?_
     obtain ⟨hn21, h⟩ := need_some h
     refine .consA (.indexAddr .none sl32 ty3 (.s rfl) (.s rfl) (fun _ => hn21)) rfl ?_
     refine .consA (.load .none ty3 (.s rfl)) rfl ?_
     obtain ⟨v2, hv22, h⟩ := bnd_some h
     refine .consA (.re hv22 (.subW .none (.s rfl) (.s rfl))) rfl ?_
     obtain ⟨hn23, h⟩ := need_some h
     refine .consA (.indexAddrO (k := 5002) .none sl32 ty3 (.s rfl) rfl (.s rfl) (fun _ => hn23)) rfl ?_
     refine .consN (.storeElem0 (k := 5002) ty3 (.s rfl) rfl (.s rfl) hn23) rfl ?_
     refine .nil ?_
     refine .blkNormal ?_
     exact Ends.join _ (some_eq h) (.k 2 rfl (.k 7 rfl (.k 8 rfl (.k 10 rfl (.k 42 rfl (.k 43 rfl .nil)))))) (.k 5002 rfl .nil)
    ·
     subst hj18; have h := hK18; clear hK18
     refine .region [] mixed (by kernel_rfl) ?_
     refine .cons (.addW .none (.s rfl) (.int (by decide))) rfl ?_
     refine .cons (.move .none (.s rfl)) rfl ?_
     refine .nil ?_
     exact Ends.againL (some_eq h) (.k 43 rfl (.k 2 rfl (.k 7 rfl (.k 8 rfl (.k 10 rfl (.k 42 rfl .nil)))))) (.k 5002 rfl .nil)
   ·
    replace h := bif_f h hb17
    refine .exit ?_
    refine .thenExit ?_
    refine .thenExit ?_
    refine .blkExit ?_
    replace h := hD16 _ (some_eq h)
    exact Ends.join _ (some_eq h) (.k 10 rfl .nil) (.k 5002 rfl .nil)
  ·
   subst hj15; have h := hK15; clear hK15
   refine .freezeRow (g := 5002) (ts := [10]) rfl (.cons (t := 10) rfl trivial .nil) SubB.nil rfl ?_
   refine .seq (.region [] mixed (by kernel_rfl) ?_)
   refine .cons (.move .none (.s rfl)) rfl ?_
   refine .cons (.assign .none (.s rfl)) rfl ?_
   refine .nil (.then ?_)
   refine .ret ?_
   obtain rfl := some_eq h
   exact Ends.ret1 (.inl rfl) Try.results111 (ResOK.tmp rfl trivial Imp.refl)

theorem layer_ranks_ok {n1 : Int} {l1 : (List Link)} {r : (List Int)}  (h : layer_ranks n1 l1 = some r) : FSpec Try.prog 73 [rep n1, rep l1] (rep r) := by
 unfold layer_ranks at h
 refine FSpec.intro (n := 86) fnok73 Try.func73 rfl Try.ntmps73 rfl (fun F => ?_)
 refine .seq (.region [] mixed (by kernel_rfl) ?_)
 refine .cons (.assign .none (.const (x := ([] : (List Int))) (fun M w => ⟨_, ⟨none, 0, rfl, Nat.le_refl _, by decide, rfl⟩, rfl⟩))) rfl ?_
 refine .nil (.then ?_)
 refine .seq (.region [([], []), ([], []), ([], [16]), ([16], [5, 16])] mixed (by kernel_rfl) ?_)
 refine .consA (.move .none (.s rfl)) rfl ?_
 obtain ⟨v1, hv1, h⟩ := bnd_some h
 refine .consA (.re hv1 (.len .none sl23 (.s rfl))) rfl ?_
 obtain ⟨hn2, h⟩ := need_some h
 refine .consW (.makeSlice rk32 zo3 rfl (.s rfl) (.s rfl) hn2) rfl rfl ?_
 refine .consW (.passRow rfl (.tmp rfl)) rfl rfl ?_
 refine .nil (.then ?_)
 obtain ⟨flow1, hv3, h⟩ := bnd_some h
 refine .reB (t := 5) rfl (congrArg (rowV 3) hv3) ?_
 refine .nameRow (t := 5) (g := 5001) rfl rfl rfl (fun s5001 => ?_)
 refine .seq ?_
 refine .seq (.region [([], []), ([5001], []), ([], [])] mixed (by kernel_rfl) ?_)
 refine .consA (.move .none (.s rfl)) rfl ?_
 refine .consA (.lenO (k := 5001) sl32 (.told (.s rfl) rfl)) rfl ?_
 refine .consA (.move .none (.int (by decide))) rfl ?_
 refine .nil (.then ?_)
 obtain ⟨j_4, h, hK4⟩ := bind_some h
 refine .thenJ (ι := (List Int)) (fun j_4 => []) (fun j_4 => [(5001, some (CPred.at s5001 (rowV 3 j_4)))]) (fun s => j_4 = s) (.k 0 rfl (.k 1 rfl (.k 5 rfl .nil))) SubB.nil ?_ (fun j_4' hj4 => ?_)
 ·
  skip
  refine .block ?_
  refine .rforL h (fun p5_ => [(19, ⟨True, rep p5_.1⟩)]) (fun p5_ => [(5001, some (CPred.at s5001 (rowV 3 p5_.2)))]) (.k 19 rfl .nil) (.k 5001 rfl .nil) (.k 0 rfl (.k 1 rfl (.k 5 rfl (.k 18 rfl .nil)))) SubB.nil (fun p5_ o_5 h hD5 => ?_)
  refine .seq (.region [] mixed (by kernel_rfl) ?_)
  refine .cons (.lt .none (.s rfl) (.s rfl)) rfl ?_
  refine .nil (.then ?_)
  refine .seq ?_
  refine .cond (t := 20) rfl trivial (fun hb6 => ?_) (fun hb6 => ?_)
  ·
   replace h := bif_t h hb6
   refine .skip ?_
   refine .then ?_
   refine .seq ?_
   obtain ⟨j_7, h, hK7⟩ := bind_some h
   unfold layer_ranks_L1 at h
   refine .thenJ (ι := (List Int)) (fun j_7 => []) (fun j_7 => [(5001, some (CPred.at s5001 (rowV 3 j_7)))]) (fun s => j_7 = s) (.k 0 rfl (.k 1 rfl (.k 5 rfl (.k 18 rfl (.k 19 rfl .nil))))) SubB.nil ?_ (fun j_7' hj7 => ?_)
   ·
    skip
    refine .block ?_
    refine .seq (.region [] mixed (by kernel_rfl) ?_)
    refine .cons (.move .none (.s rfl)) rfl ?_
    refine .cons (.assign .none (.s rfl)) rfl ?_
    refine .nil (.then ?_)
    refine .region [([], []), ([], []), ([5001], []), ([5001], [5001])] mixed (by kernel_rfl) ?_
    refine .consA (.move .none (.s rfl)) rfl ?_
    refine .consA (.move .none (.s rfl)) rfl ?_
    obtain ⟨hn8, h⟩ := need_some h
    refine .consA (.indexAddrO (k := 5001) .none sl32 ty3 (.s rfl) rfl (.s rfl) (fun _ => hn8)) rfl ?_
    refine .consN (.storeElem0 (k := 5001) ty3 (.s rfl) rfl (.int (by decide)) hn8) rfl ?_
    refine .nil ?_
    refine .blkNormal ?_
    exact Ends.join _ (some_eq h) (.k 0 rfl (.k 1 rfl (.k 5 rfl (.k 18 rfl (.k 19 rfl .nil))))) (.k 5001 rfl .nil)
   ·
    subst hj7; have h := hK7; clear hK7
    refine .region [] mixed (by kernel_rfl) ?_
    refine .cons (.addW .none (.s rfl) (.int (by decide))) rfl ?_
    refine .cons (.move .none (.s rfl)) rfl ?_
    refine .nil ?_
    exact Ends.againL (some_eq h) (.k 19 rfl (.k 0 rfl (.k 1 rfl (.k 5 rfl (.k 18 rfl .nil))))) (.k 5001 rfl .nil)
  ·
   replace h := bif_f h hb6
   refine .exit ?_
   refine .thenExit ?_
   refine .thenExit ?_
   refine .blkExit ?_
   replace h := hD5 _ (some_eq h)
   exact Ends.join _ (some_eq h) (.k 0 rfl (.k 1 rfl (.k 5 rfl .nil))) (.k 5001 rfl .nil)
 ·
  subst hj4; have h := hK4; clear hK4
  refine .block ?_
  refine .loopL h (fun s9_ => []) (fun s9_ => [(5001, some (CPred.at s5001 (rowV 3 s9_)))]) Sub.nil (.k 5001 rfl .nil) (.k 0 rfl (.k 1 rfl (.k 5 rfl .nil))) SubB.nil (fun s9_ o_9 h hD9 => ?_)
  unfold layer_ranks_L2 at h
  refine .block ?_
  refine .seq (.region [([], []), ([], []), ([], []), ([5001], [30]), ([30], [30]), ([], []), ([], []), ([], []), ([], []), ([], [])] mixed (by kernel_rfl) ?_)
  refine .consA (.move .none (.s rfl)) rfl ?_
  refine .consA (.move .none (.s rfl)) rfl ?_
  refine .consA (.move .none (.s rfl)) rfl ?_
  obtain ⟨r1, hv10, h⟩ := bind_some h
  refine .consW (.callOL (kl := [5001]) [] (layer_arcs_ok hv10) .any (FlatO.some .row FlatO.nil) (.cons (.s rfl) (.lend (k := 5001) (.told (.s rfl) rfl) .nil)) .nil rfl (by decide) (by decide) (by intro d h; cases h; decide) (by decide) (by intro k hk; simp only [List.mem_cons, List.mem_nil_iff, or_false] at hk; rcases hk with rfl <;> rfl)) rfl rfl ?_
  obtain ⟨r2, hv11, h⟩ := bind_some h
  refine .consW (.callK (layer_raised_ok hv11) (.cons (.s rfl) (.lend (k := 30) (.tmp rfl) .nil)) (by intro k hk; simp only [List.mem_cons, List.mem_nil_iff, or_false] at hk; rcases hk with rfl <;> exact ⟨_, rfl⟩)) rfl rfl ?_
  refine .consA (.move .none (.s rfl)) rfl ?_
  refine .consA (.extract .none (.s rfl) rfl) rfl ?_
  refine .consA (.extract .none (.s rfl) rfl) rfl ?_
  refine .consA (.assign .none (.s rfl)) rfl ?_
  refine .consA (.assign .none (.s rfl)) rfl ?_
  refine .nil (.then ?_)
  refine .seq ?_
  refine .seq (.region [] mixed (by kernel_rfl) ?_)
  refine .cons (.move .none (.s rfl)) rfl ?_
  refine .cons (.eqNilX .none sl123 (.s rfl)) rfl ?_
  refine .nil (.then ?_)
  refine .cond (t := 35) rfl trivial (fun hb12 => ?_) (fun hb12 => ?_)
  ·
   replace h := bif_t h hb12
   refine .seq (.region [] mixed (by kernel_rfl) ?_)
   refine .cons (.move .none (.s rfl)) rfl ?_
   refine .cons (.move .none (.s rfl)) rfl ?_
   refine .cons (.move .none (.s rfl)) rfl ?_
   obtain ⟨r3, hv13, h⟩ := bind_some h
   refine .cons (.call .none (layer_grounded_ok hv13) (.cons (.s rfl) (.cons (.s rfl) (.cons (.s rfl) .nil)))) rfl ?_
   refine .cons (.assign .none (.s rfl)) rfl ?_
   refine .nil (.then ?_)
   refine .ret ?_
   refine .thenRet ?_
   refine .blkRet ?_
   refine .thenRet ?_
   refine .blkRet ?_
   replace h := hD9 _ (some_eq h)
   obtain rfl := some_eq h
   exact Ends.ret1 (.inl rfl) Try.results73 (ResOK.tmp rfl trivial Imp.refl)
  ·
   replace h := bif_f h hb12
   refine .skip ?_
   refine .then ?_
   refine .seq (.region [] mixed (by kernel_rfl) ?_)
   refine .cons (.assign .none (.int (by decide))) rfl ?_
   refine .nil (.then ?_)
   refine .seq ?_
   refine .seq (.region [] mixed (by kernel_rfl) ?_)
   refine .cons (.moveW .none (.s rfl)) rfl ?_
   refine .cons (.len .none sl123 (.s rfl)) rfl ?_
   refine .cons (.move .none (.int (by decide))) rfl ?_
   refine .nil (.then ?_)
   obtain ⟨j_14, h, hK14⟩ := bind_some h
   refine .thenJ (ι := Int) (fun j_14 => [(9, ⟨True, rep j_14⟩)]) (fun j_14 => []) (fun s => j_14 = s) (.k 0 rfl (.k 1 rfl (.k 5 rfl (.k 8 rfl .nil)))) (.k 5001 rfl .nil) ?_ (fun j_14' hj14 => ?_)
   ·
    skip
    refine .block ?_
    refine .rforL h (fun p15_ => [(42, ⟨True, rep p15_.1⟩), (9, ⟨True, rep p15_.2⟩)]) (fun p15_ => []) (.k 42 rfl (.k 9 rfl .nil)) SubB.nil (.k 0 rfl (.k 1 rfl (.k 5 rfl (.k 8 rfl (.k 40 rfl (.k 41 rfl .nil)))))) (.k 5001 rfl .nil) (fun p15_ o_15 h hD15 => ?_)
    refine .seq (.region [] mixed (by kernel_rfl) ?_)
    refine .cons (.lt .none (.s rfl) (.s rfl)) rfl ?_
    refine .nil (.then ?_)
    refine .seq ?_
    refine .cond (t := 43) rfl trivial (fun hb16 => ?_) (fun hb16 => ?_)
    ·
     replace h := bif_t h hb16
     refine .skip ?_
     refine .then ?_
     refine .seq ?_
     obtain ⟨j_17, h, hK17⟩ := bind_some h
     unfold layer_ranks_L3 at h
     refine .thenJ (ι := Int) (fun j_17 => [(9, ⟨True, rep j_17⟩)]) (fun j_17 => []) (fun s => j_17 = s) (.k 0 rfl (.k 1 rfl (.k 5 rfl (.k 8 rfl (.k 40 rfl (.k 41 rfl (.k 42 rfl .nil))))))) (.k 5001 rfl .nil) ?_ (fun j_17' hj17 => ?_)
     ·
      skip
      refine .block ?_
      refine .seq (.region [([], []), ([], []), ([], [11]), ([11], [11])] mixed (by kernel_rfl) ?_)
      obtain ⟨hn18, h⟩ := need_some h
      refine .consA (.indexAddr .none sl123 ty129 (.s rfl) (.s rfl) (fun _ => hn18)) rfl ?_
      obtain ⟨v2, hv19, h⟩ := bnd_some h
      refine .consA (.re hv19 (.load .none ty129 (.s rfl))) rfl ?_
      refine .consW (.alloc zo129 rfl) rfl rfl ?_
      refine .consN (.store ty129 rfl rfl (.s rfl)) rfl ?_
      refine .nil (.then ?_)
      refine .freeze (t := 11) rfl rfl (.k 5001 rfl .nil) rfl ?_
      refine .seq (.region [([], []), ([], []), ([], []), ([], []), ([], []), ([], []), ([], []), ([], []), ([], []), ([], []), ([5001], []), ([5001], []), ([], []), ([], []), ([], []), ([], [])] mixed (by kernel_rfl) ?_)
      refine .consA (.fieldAddr .none fd129_3 hfd129_3 (.s rfl)) rfl ?_
      refine .consA (.load .none ty3 (.s rfl)) rfl ?_
      refine .consA (.lt .none (.s rfl) (.int (by decide))) rfl ?_
      refine .consA (.move .none (.s rfl)) rfl ?_
      refine .consA (.move (.at rfl rfl) (.s rfl)) rfl ?_
      refine .consA (.lt (.at rfl rfl) (.tmp rfl id) (.int (by decide))) rfl ?_
      refine .consA (.move (.at rfl rfl) (.tmp rfl id)) rfl ?_
      refine .consA (.move (.at rfl rfl) (.s rfl)) rfl ?_
      refine .consA (.fieldAddr (.at rfl rfl) fd129_2 hfd129_2 (.s rfl)) rfl ?_
      refine .consA (.load (.at rfl rfl) ty3 (.tmp rfl id)) rfl ?_
      obtain ⟨hn20, h⟩ := need_some h
      refine .consA (.indexAddrO (k := 5001) (.at rfl rfl) sl32 ty3 (.tmp rfl id) rfl (.tmp rfl id) (fun hg => hn20 hg.1.2 hg.2)) rfl ?_
      refine .consA (.loadElem0 (k := 5001) (.at rfl rfl) ty3 (.tmp rfl id) rfl (fun hg => hn20 hg.1.2 hg.2)) rfl ?_
      refine .consA (.move (.at rfl rfl) (.s rfl)) rfl ?_
      refine .consA (.lt (.at rfl rfl) (.tmp rfl id) (.tmp rfl id)) rfl ?_
      refine .consA (.pickOr (.at rfl rfl) (.tmp rfl id) (.tmp rfl id)) rfl ?_
      refine .consA (.pickAnd .none (.s rfl) (.tmp rfl id)) rfl ?_
      refine .nil (.then ?_)
      refine .cond (t := 61) rfl trivial (fun hb21 => ?_) (fun hb21 => ?_)
      ·
       replace h := bif_t h hb21
       refine .region [([], []), ([], []), ([], []), ([5001], []), ([5001], []), ([], [])] mixed (by kernel_rfl) ?_
       refine .consA (.move .none (.s rfl)) rfl ?_
       refine .consA (.fieldAddr .none fd129_2 hfd129_2 (.s rfl)) rfl ?_
       refine .consA (.load .none ty3 (.s rfl)) rfl ?_
       obtain ⟨hn22, h⟩ := need_some h
       refine .consA (.indexAddrO (k := 5001) .none sl32 ty3 (.s rfl) rfl (.s rfl) (fun _ => hn22)) rfl ?_
       refine .consA (.loadElem0 (k := 5001) .none ty3 (.s rfl) rfl (fun _ => hn22)) rfl ?_
       obtain ⟨least1, hv23, h⟩ := bnd_some h
       refine .consA (.re hv23 (.assign .none (.s rfl))) rfl ?_
       refine .nil ?_
       refine .blkNormal ?_
       exact Ends.join _ (some_eq h) (.k 9 rfl (.k 0 rfl (.k 1 rfl (.k 5 rfl (.k 8 rfl (.k 40 rfl (.k 41 rfl (.k 42 rfl .nil)))))))) (.k 5001 rfl .nil)
      ·
       replace h := bif_f h hb21
       refine .skip ?_
       refine .blkNormal ?_
       exact Ends.join _ (some_eq h) (.k 9 rfl (.k 0 rfl (.k 1 rfl (.k 5 rfl (.k 8 rfl (.k 40 rfl (.k 41 rfl (.k 42 rfl .nil)))))))) (.k 5001 rfl .nil)
     ·
      subst hj17; have h := hK17; clear hK17
      refine .region [] mixed (by kernel_rfl) ?_
      refine .cons (.addW .none (.s rfl) (.int (by decide))) rfl ?_
      refine .cons (.move .none (.s rfl)) rfl ?_
      refine .nil ?_
      exact Ends.againL (some_eq h) (.k 42 rfl (.k 9 rfl (.k 0 rfl (.k 1 rfl (.k 5 rfl (.k 8 rfl (.k 40 rfl (.k 41 rfl .nil)))))))) (.k 5001 rfl .nil)
    ·
     replace h := bif_f h hb16
     refine .exit ?_
     refine .thenExit ?_
     refine .thenExit ?_
     refine .blkExit ?_
     replace h := hD15 _ (some_eq h)
     exact Ends.join _ (some_eq h) (.k 9 rfl (.k 0 rfl (.k 1 rfl (.k 5 rfl (.k 8 rfl .nil))))) (.k 5001 rfl .nil)
   ·
    subst hj14; have h := hK14; clear hK14
    refine .seq (.region [] mixed (by kernel_rfl) ?_)
    refine .cons (.moveW .none (.s rfl)) rfl ?_
    refine .cons (.len .none sl123 (.s rfl)) rfl ?_
    refine .cons (.move .none (.int (by decide))) rfl ?_
    refine .nil (.then ?_)
    obtain ⟨j_24, h, hK24⟩ := bind_some h
    refine .tailJ (ι := (List Int)) (fun j_24 => []) (fun j_24 => [(5001, some (CPred.at s5001 (rowV 3 j_24)))]) (fun s => j_24 = s) (.k 0 rfl (.k 1 rfl (.k 5 rfl .nil))) SubB.nil ?_ (fun j_24' hj24 => ?_)
    ·
     skip
     refine .block ?_
     refine .rforL h (fun p25_ => [(70, ⟨True, rep p25_.1⟩)]) (fun p25_ => [(5001, some (CPred.at s5001 (rowV 3 p25_.2)))]) (.k 70 rfl .nil) (.k 5001 rfl .nil) (.k 0 rfl (.k 1 rfl (.k 5 rfl (.k 9 rfl (.k 68 rfl (.k 69 rfl .nil)))))) SubB.nil (fun p25_ o_25 h hD25 => ?_)
     refine .seq (.region [] mixed (by kernel_rfl) ?_)
     refine .cons (.lt .none (.s rfl) (.s rfl)) rfl ?_
     refine .nil (.then ?_)
     refine .seq ?_
     refine .cond (t := 71) rfl trivial (fun hb26 => ?_) (fun hb26 => ?_)
     ·
      replace h := bif_t h hb26
      refine .skip ?_
      refine .then ?_
      refine .seq ?_
      obtain ⟨j_27, h, hK27⟩ := bind_some h
      unfold layer_ranks_L4 at h
      refine .thenJ (ι := (List Int)) (fun j_27 => []) (fun j_27 => [(5001, some (CPred.at s5001 (rowV 3 j_27)))]) (fun s => j_27 = s) (.k 0 rfl (.k 1 rfl (.k 5 rfl (.k 9 rfl (.k 68 rfl (.k 69 rfl (.k 70 rfl .nil))))))) SubB.nil ?_ (fun j_27' hj27 => ?_)
      ·
       skip
       refine .block ?_
       refine .seq (.region [([], []), ([], []), ([], [13]), ([13], [13])] mixed (by kernel_rfl) ?_)
       obtain ⟨hn28, h⟩ := need_some h
       refine .consA (.indexAddr .none sl123 ty129 (.s rfl) (.s rfl) (fun _ => hn28)) rfl ?_
       obtain ⟨v3, hv29, h⟩ := bnd_some h
       refine .consA (.re hv29 (.load .none ty129 (.s rfl))) rfl ?_
       refine .consW (.alloc zo129 rfl) rfl rfl ?_
       refine .consN (.store ty129 rfl rfl (.s rfl)) rfl ?_
       refine .nil (.then ?_)
       refine .freeze (t := 13) rfl rfl (.k 5001 rfl .nil) rfl ?_
       refine .region [([], []), ([], []), ([], []), ([5001], []), ([5001], []), ([], []), ([], []), ([], []), ([], []), ([], []), ([5001], []), ([5001], [5001])] mixed (by kernel_rfl) ?_
       refine .consA (.move .none (.s rfl)) rfl ?_
       refine .consA (.fieldAddr .none fd129_2 hfd129_2 (.s rfl)) rfl ?_
       refine .consA (.load .none ty3 (.s rfl)) rfl ?_
       obtain ⟨hn30, h⟩ := need_some h
       refine .consA (.indexAddrO (k := 5001) .none sl32 ty3 (.s rfl) rfl (.s rfl) (fun _ => hn30)) rfl ?_
       refine .consA (.loadElem0 (k := 5001) .none ty3 (.s rfl) rfl (fun _ => hn30)) rfl ?_
       refine .consA (.fieldAddr .none fd129_3 hfd129_3 (.s rfl)) rfl ?_
       refine .consA (.load .none ty3 (.s rfl)) rfl ?_
       refine .consA (.move .none (.s rfl)) rfl ?_
       refine .consA (.mulW .none (.s rfl) (.s rfl)) rfl ?_
       obtain ⟨v4, hv31, h⟩ := bnd_some h
       refine .consA (.re hv31 (.addW .none (.s rfl) (.s rfl))) rfl ?_
       obtain ⟨hn32, h⟩ := need_some h
       refine .consA (.indexAddrO (k := 5001) .none sl32 ty3 (.s rfl) rfl (.s rfl) (fun _ => hn32)) rfl ?_
       refine .consN (.storeElem0 (k := 5001) ty3 (.s rfl) rfl (.s rfl) hn32) rfl ?_
       refine .nil ?_
       refine .blkNormal ?_
       exact Ends.join _ (some_eq h) (.k 0 rfl (.k 1 rfl (.k 5 rfl (.k 9 rfl (.k 68 rfl (.k 69 rfl (.k 70 rfl .nil))))))) (.k 5001 rfl .nil)
      ·
       subst hj27; have h := hK27; clear hK27
       refine .region [] mixed (by kernel_rfl) ?_
       refine .cons (.addW .none (.s rfl) (.int (by decide))) rfl ?_
       refine .cons (.move .none (.s rfl)) rfl ?_
       refine .nil ?_
       exact Ends.againL (some_eq h) (.k 70 rfl (.k 0 rfl (.k 1 rfl (.k 5 rfl (.k 9 rfl (.k 68 rfl (.k 69 rfl .nil))))))) (.k 5001 rfl .nil)
     ·
      replace h := bif_f h hb26
      refine .exit ?_
      refine .thenExit ?_
      refine .thenExit ?_
      refine .blkExit ?_
      replace h := hD25 _ (some_eq h)
      exact Ends.join _ (some_eq h) (.k 0 rfl (.k 1 rfl (.k 5 rfl .nil))) (.k 5001 rfl .nil)
    ·
     subst hj24; have h := hK24; clear hK24
     refine .blkNormal ?_
     exact Ends.againL (some_eq h) (.k 0 rfl (.k 1 rfl (.k 5 rfl .nil))) (.k 5001 rfl .nil)

theorem slices_Max_int_ok {x1 : (List Int)} {r : Int}  (h : slices_Max_int x1 = some r) : FSpec Try.prog 89 [rep x1] (rep r) := by
 unfold slices_Max_int at h
 refine FSpec.intro (n := 25) fnok89 Try.func89 rfl Try.ntmps89 rfl (fun F => ?_)
 refine .seq (.region [] mixed (by kernel_rfl) ?_)
 refine .cons (.assign .none (.int (by decide))) rfl ?_
 refine .nil (.then ?_)
 refine .seq ?_
 refine .seq (.region [] mixed (by kernel_rfl) ?_)
 refine .cons (.move .none (.s rfl)) rfl ?_
 refine .cons (.len .none sl32 (.s rfl)) rfl ?_
 refine .cons (.lt .none (.s rfl) (.int (by decide))) rfl ?_
 refine .nil (.then ?_)
 refine .cond (t := 7) rfl trivial (fun hb1 => ?_) (fun hb1 => ?_)
 ·
  replace h := bif_t h hb1
  cases h
 ·
  replace h := bif_f h hb1
  refine .skip ?_
  refine .then ?_
  refine .seq (.region [] mixed (by kernel_rfl) ?_)
  refine .cons (.move .none (.s rfl)) rfl ?_
  obtain ⟨hn2, h⟩ := need_some h
  refine .cons (.indexAddr .none sl32 ty3 (.s rfl) (.int (by decide)) (fun _ => hn2)) rfl ?_
  refine .cons (.load .none ty3 (.s rfl)) rfl ?_
  obtain ⟨m1, hv3, h⟩ := bnd_some h
  refine .cons (.re hv3 (.assign .none (.s rfl))) rfl ?_
  refine .nil (.then ?_)
  refine .seq ?_
  refine .seq (.region [] mixed (by kernel_rfl) ?_)
  refine .cons (.assign .none (.int (by decide))) rfl ?_
  refine .nil (.then ?_)
  obtain ⟨j_4, h, hK4⟩ := bind_some h
  refine .thenJ (ι := Int) (fun j_4 => [(3, ⟨True, rep j_4⟩)]) (fun j_4 => []) (fun s => j_4 = s) Sub.nil SubB.nil ?_ (fun j_4' hj4 => ?_)
  ·
   skip
   refine .block ?_
   refine .loopL h (fun s5_ => [(3, ⟨True, rep s5_.1⟩), (4, ⟨True, rep s5_.2⟩)]) (fun s5_ => []) (.k 3 rfl (.k 4 rfl .nil)) SubB.nil (.k 0 rfl .nil) SubB.nil (fun s5_ o_5 h hD5 => ?_)
   unfold slices_Max_int_L1 at h
   refine .seq ?_
   refine .seq (.region [] mixed (by kernel_rfl) ?_)
   refine .cons (.move .none (.s rfl)) rfl ?_
   refine .cons (.move .none (.s rfl)) rfl ?_
   refine .cons (.len .none sl32 (.s rfl)) rfl ?_
   refine .cons (.lt .none (.s rfl) (.s rfl)) rfl ?_
   refine .nil (.then ?_)
   refine .cond (t := 15) rfl trivial (fun hb6 => ?_) (fun hb6 => ?_)
   ·
    replace h := bif_t h hb6
    refine .skip ?_
    refine .then ?_
    refine .seq ?_
    refine .block ?_
    refine .region [] mixed (by kernel_rfl) ?_
    refine .cons (.move .none (.s rfl)) rfl ?_
    refine .cons (.move .none (.s rfl)) rfl ?_
    refine .cons (.move .none (.s rfl)) rfl ?_
    obtain ⟨hn7, h⟩ := need_some h
    refine .cons (.indexAddr .none sl32 ty3 (.s rfl) (.s rfl) (fun _ => hn7)) rfl ?_
    refine .cons (.load .none ty3 (.s rfl)) rfl ?_
    refine .cons (.max2 .none (.s rfl) (.s rfl)) rfl ?_
    obtain ⟨m2, hv8, h⟩ := bnd_some h
    refine .cons (.re hv8 (.assign .none (.s rfl))) rfl ?_
    refine .nil ?_
    refine .blkNormal ?_
    refine .then ?_
    refine .region [] mixed (by kernel_rfl) ?_
    refine .cons (.move .none (.s rfl)) rfl ?_
    refine .cons (.addW .none (.s rfl) (.int (by decide))) rfl ?_
    obtain ⟨i1, hv9, h⟩ := bnd_some h
    refine .cons (.re hv9 (.assign .none (.s rfl))) rfl ?_
    refine .nil ?_
    exact Ends.againL (some_eq h) (.k 3 rfl (.k 4 rfl (.k 0 rfl .nil))) SubB.nil
   ·
    replace h := bif_f h hb6
    refine .exit ?_
    refine .thenExit ?_
    refine .thenExit ?_
    refine .blkExit ?_
    replace h := hD5 _ (some_eq h)
    exact Ends.join _ (some_eq h) (.k 3 rfl .nil) SubB.nil
  ·
   subst hj4; have h := hK4; clear hK4
   refine .seq (.region [] mixed (by kernel_rfl) ?_)
   refine .cons (.move .none (.s rfl)) rfl ?_
   refine .cons (.assign .none (.s rfl)) rfl ?_
   refine .nil (.then ?_)
   refine .ret ?_
   obtain rfl := some_eq h
   exact Ends.ret1 (.inl rfl) Try.results89 (ResOK.tmp rfl trivial Imp.refl)

theorem layer_Draw_1_ok {x1 : Link} {c0_1 : (List Int)} {r : Bool}  (h : layer_Draw_1 x1 c0_1 = some r) : FSpec Try.prog 90 [rep x1, ref c0_1] (rep r) := by
 unfold layer_Draw_1 at h
 refine FSpec.intro (n := 16) fnok90 Try.func90 rfl Try.ntmps90 rfl (fun F => ?_)
 refine .seq (.region [] mixed (by kernel_rfl) ?_)
 refine .cons (.box .none (.s rfl)) rfl ?_
 refine .cons (.assign .none .bool) rfl ?_
 refine .nil (.then ?_)
 refine .seq (.region [] mixed (by kernel_rfl) ?_)
 refine .cons (.load .none ty32 (.s rfl)) rfl ?_
 refine .cons (.fieldAddr .none fd79_1 hfd79_1 (.s rfl)) rfl ?_
 refine .cons (.load .none ty3 (.s rfl)) rfl ?_
 obtain ⟨hn1, h⟩ := need_some h
 refine .cons (.indexAddr .none sl32 ty3 (.s rfl) (.s rfl) (fun _ => hn1)) rfl ?_
 refine .cons (.load .none ty3 (.s rfl)) rfl ?_
 refine .cons (.load .none ty32 (.s rfl)) rfl ?_
 refine .cons (.fieldAddr .none fd79_0 hfd79_0 (.s rfl)) rfl ?_
 refine .cons (.load .none ty3 (.s rfl)) rfl ?_
 obtain ⟨hn2, h⟩ := need_some h
 refine .cons (.indexAddr .none sl32 ty3 (.s rfl) (.s rfl) (fun _ => hn2)) rfl ?_
 refine .cons (.load .none ty3 (.s rfl)) rfl ?_
 refine .cons (.addW .none (.s rfl) (.int (by decide))) rfl ?_
 refine .cons (.neI .none (.s rfl) (.s rfl)) rfl ?_
 refine .cons (.assign .none (.s rfl)) rfl ?_
 refine .nil (.then ?_)
 refine .ret ?_
 obtain rfl := some_eq h
 exact Ends.ret1 (.inl rfl) Try.results90 (ResOK.tmp rfl trivial Imp.refl)

theorem slices_IndexFunc_Link_ok {s1 : (List Link)} {f1 : (Link → Option Bool)} {r : Int}  (h : slices_IndexFunc_Link s1 f1 = some r) : FSpec Try.prog 112 [rep s1, fn1 Try.prog (rep (α := Bool)) f1] (rep r) := by
 unfold slices_IndexFunc_Link at h
 refine FSpec.intro (n := 19) fnok112 Try.func112 rfl Try.ntmps112 rfl (fun F => ?_)
 refine .seq (.region [] mixed (by kernel_rfl) ?_)
 refine .cons (.assign .none (.int (by decide))) rfl ?_
 refine .nil (.then ?_)
 refine .seq ?_
 refine .seq (.region [] mixed (by kernel_rfl) ?_)
 refine .cons (.move .none (.s rfl)) rfl ?_
 refine .cons (.len .none sl23 (.s rfl)) rfl ?_
 refine .cons (.move .none (.int (by decide))) rfl ?_
 refine .nil (.then ?_)
 obtain ⟨o_1, h, hK1⟩ := bindR_some h
 refine .thenJ (ι := Unit) (fun j_1 => []) (fun j_1 => []) (fun s => o_1 = Res.nx s) Sub.nil SubB.nil ?_ (fun j_1 hj1 => ?_)
 ·
  skip
  refine .block ?_
  refine .rforEL h (fun p2_ => [(8, ⟨True, rep p2_.1⟩)]) (fun p2_ => []) (.k 8 rfl .nil) SubB.nil (.k 0 rfl (.k 1 rfl (.k 7 rfl .nil))) SubB.nil (fun p2_ o_2 h hD2 => ?_)
  refine .seq (.region [] mixed (by kernel_rfl) ?_)
  refine .cons (.lt .none (.s rfl) (.s rfl)) rfl ?_
  refine .nil (.then ?_)
  refine .seq ?_
  refine .cond (t := 9) rfl trivial (fun hb3 => ?_) (fun hb3 => ?_)
  ·
   replace h := bif_t h hb3
   refine .skip ?_
   refine .then ?_
   refine .seq ?_
   obtain ⟨o_4, h, hK4⟩ := bindD_some h
   unfold slices_IndexFunc_Link_L1 at h
   refine .thenJ (ι := Unit) (fun j_4 => []) (fun j_4 => []) (fun s => o_4 = Res.nx s) (.k 0 rfl (.k 1 rfl (.k 7 rfl (.k 8 rfl .nil)))) SubB.nil ?_ (fun j_4 hj4 => ?_)
   ·
    skip
    refine .block ?_
    refine .seq (.region [] mixed (by kernel_rfl) ?_)
    refine .cons (.move .none (.s rfl)) rfl ?_
    refine .cons (.assign .none (.s rfl)) rfl ?_
    refine .nil (.then ?_)
    refine .seq (.region [] mixed (by kernel_rfl) ?_)
    refine .cons (.move .none (.s rfl)) rfl ?_
    refine .cons (.move .none (.s rfl)) rfl ?_
    refine .cons (.move .none (.s rfl)) rfl ?_
    obtain ⟨hn5, h⟩ := need_some h
    refine .cons (.indexAddr .none sl23 ty79 (.s rfl) (.s rfl) (fun _ => hn5)) rfl ?_
    refine .cons (.load .none ty79 (.s rfl)) rfl ?_
    obtain ⟨r1, hv6, h⟩ := bind_some h
    refine .cons (.callV (gx s1 p2_.1, r1) .none (.s rfl) (fun _ => hv6) (.cons (.s rfl) .nil)) rfl ?_
    refine .nil (.then ?_)
    refine .cond (t := 16) rfl trivial (fun hb7 => ?_) (fun hb7 => ?_)
    ·
     replace h := bif_t h hb7
     refine .seq (.region [] mixed (by kernel_rfl) ?_)
     refine .cons (.move .none (.s rfl)) rfl ?_
     refine .cons (.assign .none (.s rfl)) rfl ?_
     refine .nil (.then ?_)
     refine .ret ?_
     refine .blkRet ?_
     refine .thenRet ?_
     refine .thenRet ?_
     refine .blkRet ?_
     refine .thenRet ?_
     replace h := resd_ab hK4 (some_eq h)
     replace h := hD2 _ (some_eq h)
     replace h := resb_ab hK1 (some_eq h)
     obtain rfl := some_eq h
     exact Ends.ret1 (.inl rfl) Try.results112 (ResOK.tmp rfl trivial Imp.refl)
    ·
     replace h := bif_f h hb7
     refine .skip ?_
     refine .blkNormal ?_
     exact Ends.join _ (some_eq h) (.k 0 rfl (.k 1 rfl (.k 7 rfl (.k 8 rfl .nil)))) SubB.nil
   ·
    have h := resd_nx hK4 hj4
    refine .region [] mixed (by kernel_rfl) ?_
    refine .cons (.addW .none (.s rfl) (.int (by decide))) rfl ?_
    refine .cons (.move .none (.s rfl)) rfl ?_
    refine .nil ?_
    exact Ends.againL (some_eq h) (.k 8 rfl (.k 0 rfl (.k 1 rfl (.k 7 rfl .nil)))) SubB.nil
  ·
   replace h := bif_f h hb3
   refine .exit ?_
   refine .thenExit ?_
   refine .thenExit ?_
   refine .blkExit ?_
   replace h := hD2 _ (some_eq h)
   exact Ends.join _ (some_eq h) Sub.nil SubB.nil
 ·
  have h := resb_nx hK1 hj1
  refine .seq (.region [] mixed (by kernel_rfl) ?_)
  refine .cons (.assign .none (.int (by decide))) rfl ?_
  refine .nil (.then ?_)
  refine .ret ?_
  obtain rfl := some_eq h
  exact Ends.ret1 (.inl rfl) Try.results112 (ResOK.tmp rfl trivial Imp.refl)

theorem slices_DeleteFunc_Link_ok {s1 : (List Link)} {del1 : (Link → Option Bool)} {r : (List Link)} {s42 : Value} (h : slices_DeleteFunc_Link s1 del1 = some r) : FSpecO Try.prog 86 [isV s42, fn1 Try.prog (rep (α := Bool)) del1] [(s42, rowV 79 s1)] (anyV) [none, some (rowV 79 r)] := by
 unfold slices_DeleteFunc_Link at h
 refine FSpecO.intro (n := 42) fnok86 Try.func86 rfl Try.ntmps86 rfl (fun F => ?_)
 refine .seq (.region [] mixed (by kernel_rfl) ?_)
 refine .cons (.assign .none (.const (x := ([] : (List Link))) (fun M w => ⟨_, ⟨none, 0, rfl, Nat.le_refl _, by decide, rfl⟩, rfl⟩))) rfl ?_
 refine .nil (.then ?_)
 refine .seq (.region [([], []), ([], []), ([42], []), ([], [])] mixed (by kernel_rfl) ?_)
 refine .consA (.move .none (.s rfl)) rfl ?_
 refine .consA (.move .none (.s rfl)) rfl ?_
 obtain ⟨i1, hv1, h⟩ := bind_some h
 refine .consA (.callC .none fnok112 (fun hg => slices_IndexFunc_Link_ok  hv1) .rep (.lend (k := 42) (.told (.s rfl) rfl) (.cons (.s rfl) .nil))) rfl ?_
 refine .consA (.assign .none (.s rfl)) rfl ?_
 refine .nil (.then ?_)
 refine .seq ?_
 refine .seq (.region [] mixed (by kernel_rfl) ?_)
 refine .cons (.move .none (.s rfl)) rfl ?_
 refine .cons (.eqI .none (.s rfl) (.int (by decide))) rfl ?_
 refine .nil (.then ?_)
 refine .cond (t := 12) rfl trivial (fun hb2 => ?_) (fun hb2 => ?_)
 ·
  replace h := bif_t h hb2
  refine .seq (.region [] mixed (by kernel_rfl) ?_)
  refine .cons (.move .none (.s rfl)) rfl ?_
  refine .cons (.assign .none (.s rfl)) rfl ?_
  refine .nil (.then ?_)
  refine .ret ?_
  refine .thenRet ?_
  refine .anon (t := 4) (g := 42) rfl rfl trivial rfl ?_
  obtain rfl := some_eq h
  exact Ends.ret1O (.inl rfl) [42, 4] Try.results86 (by decide) (.skip (.res rfl rfl)) (ResOK.tmp rfl trivial (fun _ _ _ _ => trivial))
 ·
  replace h := bif_f h hb2
  refine .skip ?_
  refine .then ?_
  refine .seq ?_
  refine .seq (.region [] mixed (by kernel_rfl) ?_)
  refine .cons (.move .none (.s rfl)) rfl ?_
  refine .cons (.addW .none (.s rfl) (.int (by decide))) rfl ?_
  obtain ⟨j1, hv3, h⟩ := bnd_some h
  refine .cons (.re hv3 (.assign .none (.s rfl))) rfl ?_
  refine .nil (.then ?_)
  obtain ⟨j_4, h, hK4⟩ := bind_some h
  refine .thenJ (ι := (Int × (List Link))) (fun j_4 => [(5, ⟨True, rep j_4.1⟩)]) (fun j_4 => [(42, some (CPred.at s42 (rowV 79 j_4.2)))]) (fun s => j_4 = s) (.k 0 rfl .nil) SubB.nil ?_ (fun j_4' hj4 => ?_)
  ·
   skip
   refine .block ?_
   refine .loopL h (fun s5_ => [(5, ⟨True, rep s5_.1⟩), (6, ⟨True, rep s5_.2.1⟩)]) (fun s5_ => [(42, some (CPred.at s42 (rowV 79 s5_.2.2)))]) (.k 5 rfl (.k 6 rfl .nil)) (.k 42 rfl .nil) (.k 0 rfl (.k 1 rfl .nil)) SubB.nil (fun s5_ o_5 h hD5 => ?_)
   unfold slices_DeleteFunc_Link_L1 at h
   refine .seq ?_
   refine .seq (.region [([], []), ([], []), ([42], []), ([], [])] mixed (by kernel_rfl) ?_)
   refine .consA (.move .none (.s rfl)) rfl ?_
   refine .consA (.move .none (.s rfl)) rfl ?_
   refine .consA (.lenO (k := 42) sl23 (.told (.s rfl) rfl)) rfl ?_
   refine .consA (.lt .none (.s rfl) (.s rfl)) rfl ?_
   refine .nil (.then ?_)
   refine .cond (t := 19) rfl trivial (fun hb6 => ?_) (fun hb6 => ?_)
   ·
    replace h := bif_t h hb6
    refine .skip ?_
    refine .then ?_
    refine .seq ?_
    obtain ⟨j_7, h, hK7⟩ := bind_some h
    refine .thenJ (ι := (Int × (List Link))) (fun j_7 => [(5, ⟨True, rep j_7.1⟩)]) (fun j_7 => [(42, some (CPred.at s42 (rowV 79 j_7.2)))]) (fun s => j_7 = s) (.k 0 rfl (.k 1 rfl (.k 6 rfl .nil))) SubB.nil ?_ (fun j_7' hj7 => ?_)
    ·
     skip
     refine .block ?_
     refine .seq (.region [([], []), ([], []), ([42], []), ([42], []), ([], [7]), ([7], [7])] mixed (by kernel_rfl) ?_)
     refine .consA (.move .none (.s rfl)) rfl ?_
     refine .consA (.move .none (.s rfl)) rfl ?_
     obtain ⟨hn8, h⟩ := need_some h
     refine .consA (.indexAddrO (k := 42) .none sl23 ty79 (.s rfl) rfl (.s rfl) (fun _ => hn8)) rfl ?_
     obtain ⟨v1, hv9, h⟩ := bnd_some h
     refine .consA (.re hv9 (.loadElem0 (k := 42) .none ty79 (.s rfl) rfl (fun _ => hn8))) rfl ?_
     refine .consW (.alloc zo79 rfl) rfl rfl ?_
     refine .consN (.store ty79 rfl rfl (.s rfl)) rfl ?_
     refine .nil (.then ?_)
     refine .freeze (t := 7) rfl rfl (.k 42 rfl .nil) rfl ?_
     refine .seq (.region [] mixed (by kernel_rfl) ?_)
     refine .cons (.move .none (.s rfl)) rfl ?_
     refine .cons (.load .none ty79 (.s rfl)) rfl ?_
     obtain ⟨r1, hv10, h⟩ := bind_some h
     refine .cons (.callV (v1, r1) .none (.s rfl) (fun _ => hv10) (.cons (.s rfl) .nil)) rfl ?_
     refine .cons (.not .none (.s rfl)) rfl ?_
     refine .nil (.then ?_)
     refine .cond (t := 29) rfl trivial (fun hb11 => ?_) (fun hb11 => ?_)
     ·
      replace h := bif_t h hb11
      refine .seq (.region [([], []), ([], []), ([], []), ([42], []), ([42], [42])] mixed (by kernel_rfl) ?_)
      refine .consA (.move .none (.s rfl)) rfl ?_
      refine .consA (.move .none (.s rfl)) rfl ?_
      refine .consA (.load .none ty79 (.s rfl)) rfl ?_
      obtain ⟨hn12, h⟩ := need_some h
      refine .consA (.indexAddrO (k := 42) .none sl23 ty79 (.s rfl) rfl (.s rfl) (fun _ => hn12)) rfl ?_
      refine .consN (.storeElem0 (k := 42) ty79 (.s rfl) rfl (.s rfl) hn12) rfl ?_
      refine .nil (.then ?_)
      obtain ⟨s2, hv13, h⟩ := bnd_some h
      refine .reB (t := 42) rfl (congrArg (fun y => CPred.at s42 (rowV 79 y)) hv13) ?_
      refine .region [] mixed (by kernel_rfl) ?_
      refine .cons (.move .none (.s rfl)) rfl ?_
      refine .cons (.addW .none (.s rfl) (.int (by decide))) rfl ?_
      obtain ⟨i2, hv14, h⟩ := bnd_some h
      refine .cons (.re hv14 (.assign .none (.s rfl))) rfl ?_
      refine .nil ?_
      refine .blkNormal ?_
      exact Ends.join _ (some_eq h) (.k 5 rfl (.k 0 rfl (.k 1 rfl (.k 6 rfl .nil)))) (.k 42 rfl .nil)
     ·
      replace h := bif_f h hb11
      refine .skip ?_
      refine .blkNormal ?_
      exact Ends.join _ (some_eq h) (.k 5 rfl (.k 0 rfl (.k 1 rfl (.k 6 rfl .nil)))) (.k 42 rfl .nil)
    ·
     subst hj7; have h := hK7; clear hK7
     refine .region [] mixed (by kernel_rfl) ?_
     refine .cons (.move .none (.s rfl)) rfl ?_
     refine .cons (.addW .none (.s rfl) (.int (by decide))) rfl ?_
     obtain ⟨j2, hv15, h⟩ := bnd_some h
     refine .cons (.re hv15 (.assign .none (.s rfl))) rfl ?_
     refine .nil ?_
     exact Ends.againL (some_eq h) (.k 5 rfl (.k 6 rfl (.k 0 rfl (.k 1 rfl .nil)))) (.k 42 rfl .nil)
   ·
    replace h := bif_f h hb6
    refine .exit ?_
    refine .thenExit ?_
    refine .thenExit ?_
    refine .blkExit ?_
    replace h := hD5 _ (some_eq h)
    exact Ends.join _ (some_eq h) (.k 5 rfl (.k 0 rfl .nil)) (.k 42 rfl .nil)
  ·
   subst hj4; have h := hK4; clear hK4
   refine .seq (.region [([], []), ([], []), ([42], []), ([42], [42])] mixed (by kernel_rfl) ?_)
   refine .consA (.move .none (.s rfl)) rfl ?_
   refine .consA (.move .none (.s rfl)) rfl ?_
   obtain ⟨hn16, h⟩ := need_some h
   refine .consA (.sliceLend (k := 42) sl23 ty79 (.s rfl) rfl (.s rfl) rfl hn16) rfl ?_
   refine .consN (.clearPart (k := 42) sl23 zo79 (.s rfl) rfl hn16) rfl ?_
   refine .nil (.then ?_)
   obtain ⟨s3, hv17, h⟩ := bnd_some h
   refine .reB (t := 42) rfl (congrArg (fun y => CPred.at s42 (rowV 79 y)) hv17) ?_
   refine .seq (.region [([], []), ([], []), ([42], [41, 42]), ([41], [4, 41])] mixed (by kernel_rfl) ?_)
   refine .consA (.move .none (.s rfl)) rfl ?_
   refine .consA (.move .none (.s rfl)) rfl ?_
   obtain ⟨hn18, h⟩ := need_some h
   refine .consW (.sliceRow (k := 42) sl23 ty79 rfl (.s rfl) rfl rfl (.s rfl) hn18) rfl rfl ?_
   refine .consW (.passRow rfl (.tmp rfl)) rfl rfl ?_
   refine .nil (.then ?_)
   obtain ⟨v2, hv19, h⟩ := bnd_some h
   refine .reB (t := 4) rfl (congrArg (rowV 79) hv19) ?_
   refine .nameRow (t := 4) (g := 5001) rfl rfl rfl (fun s5001 => ?_)
   refine .ret ?_
   refine .anon (t := 4) (g := 5001) rfl rfl trivial rfl ?_
   obtain rfl := some_eq h
   exact Ends.ret1O (.inl rfl) [42, 4] Try.results86 (by decide) (.skip (.res rfl rfl)) (ResOK.tmp rfl trivial (fun _ _ _ _ => trivial))

theorem slices_Clone_Lint_ok {s1 : (List (List Int))} {r : (List (List Int))}  (h : slices_Clone_Lint s1 = some r) : FSpecO Try.prog 97 [rep s1] [] (anyV) [some (rowV 32 r)] := by
 unfold slices_Clone_Lint at h
 refine FSpecO.intro (n := 8) fnok97 Try.func97 rfl Try.ntmps97 rfl (fun F => ?_)
 refine .seq (.region [] mixed (by kernel_rfl) ?_)
 refine .cons (.assign .none (.const (x := ([] : (List (List Int)))) (fun M w => ⟨_, ⟨none, 0, rfl, Nat.le_refl _, by decide, rfl⟩, rfl⟩))) rfl ?_
 refine .nil (.then ?_)
 refine .seq ?_
 refine .seq (.region [] mixed (by kernel_rfl) ?_)
 refine .cons (.move .none (.s rfl)) rfl ?_
 refine .cons (.eqNil .none sl22 (.s rfl)) rfl ?_
 refine .nil (.then ?_)
 refine .condNil (t := 4) rfl trivial (fun hb1 => ?_) ?_
 ·
  replace h := nilc_t h hb1
  refine .seq (.region [([], [2])] mixed (by kernel_rfl) ?_)
  refine .consW (.nilRow (T := 32) (α := (List Int)) rfl) rfl rfl ?_
  refine .nil (.then ?_)
  refine .nameRow (t := 2) (g := 5001) rfl rfl rfl (fun s5001 => ?_)
  refine .ret ?_
  refine .thenRet ?_
  refine .anon (t := 2) (g := 5001) rfl rfl trivial rfl ?_
  obtain rfl := some_eq h
  exact Ends.ret1O (.inl rfl) [2] Try.results97 (by decide) (.res rfl rfl) (ResOK.tmp rfl trivial (fun _ _ _ _ => trivial))
 ·
  replace h := nilc_f h
  refine .skip ?_
  refine .then ?_
  refine .seq (.region [([], [5]), ([], []), ([5], [7, 5]), ([7], [2, 7])] mixed (by kernel_rfl) ?_)
  refine .consW (.buildSliceO (xs := []) rfl sl22 ty32 hz32 .nil rfl (by decide)) rfl rfl ?_
  refine .consA (.move .none (.s rfl)) rfl ?_
  obtain ⟨hn2, h⟩ := need_some h
  refine .consW (.append (k := 5) rk22 rfl (.tmp rfl) (.s rfl) hn2) rfl rfl ?_
  refine .consW (.passRow rfl (.tmp rfl)) rfl rfl ?_
  refine .nil (.then ?_)
  obtain ⟨v1, hv3, h⟩ := bnd_some h
  refine .reB (t := 2) rfl (congrArg (rowV 32) hv3) ?_
  refine .nameRow (t := 2) (g := 5002) rfl rfl rfl (fun s5002 => ?_)
  refine .ret ?_
  refine .anon (t := 2) (g := 5002) rfl rfl trivial rfl ?_
  obtain rfl := some_eq h
  exact Ends.ret1O (.inl rfl) [2] Try.results97 (by decide) (.res rfl rfl) (ResOK.tmp rfl trivial (fun _ _ _ _ => trivial))

theorem slices_Clone_Lint_own_ok {l : List (List Int)} {r : List (List Int) × List (List Int)} {s : Value} (h : slices_Clone_Lint_own l = some r) : FSpecO Try.prog 97 [isV s] [(s, rowV 32 l)] (anyV) [some (rowV 32 r.2), some (rowV 32 r.1)] := by
 obtain ⟨hl, h⟩ := need_some h
 obtain rfl := some_eq h
 exact cloneO_row cloneO97_lay rfl fnok97 rfl rk22 hl

theorem layer_places_ok {row1 : (List Int)} {r : (GMap Int Int)}  (h : layer_places row1 = some r) : FSpec Try.prog 83 [rep row1] (rep r) := by
 unfold layer_places at h
 refine FSpec.intro (n := 19) fnok83 Try.func83 rfl Try.ntmps83 rfl (fun F => ?_)
 refine .seq (.region [] mixed (by kernel_rfl) ?_)
 refine .cons (.assign .none (.const (x := (GMap.nil : (GMap Int Int))) (fun M w => ⟨_, map_zero, rfl⟩))) rfl ?_
 refine .nil (.then ?_)
 refine .seq (.region [([], [6]), ([6], [3, 6])] mixed (by kernel_rfl) ?_)
 refine .consW (.makeMap (K := Int) (V := Int) rfl) rfl rfl ?_
 refine .consW (.passRow rfl (.tmp rfl)) rfl rfl ?_
 refine .nil (.then ?_)
 obtain ⟨out1, hv1, h⟩ := bnd_some h
 refine .reB (t := 3) rfl (congrArg mapV hv1) ?_
 refine .nameMap (t := 3) (g := 5001) rfl rfl rfl (fun s5001 => ?_)
 refine .seq ?_
 refine .seq (.region [] mixed (by kernel_rfl) ?_)
 refine .cons (.move .none (.s rfl)) rfl ?_
 refine .cons (.len .none sl32 (.s rfl)) rfl ?_
 refine .cons (.move .none (.int (by decide))) rfl ?_
 refine .nil (.then ?_)
 obtain ⟨j_2, h, hK2⟩ := bind_some h
 refine .thenJ (ι := (GMap Int Int)) (fun j_2 => []) (fun j_2 => [(5001, some (CPred.at s5001 (mapV j_2)))]) (fun s => j_2 = s) (.k 3 rfl .nil) SubB.nil ?_ (fun j_2' hj2 => ?_)
 ·
  skip
  refine .block ?_
  refine .rforL h (fun p3_ => [(9, ⟨True, rep p3_.1⟩)]) (fun p3_ => [(5001, some (CPred.at s5001 (mapV p3_.2)))]) (.k 9 rfl .nil) (.k 5001 rfl .nil) (.k 3 rfl (.k 7 rfl (.k 8 rfl .nil))) SubB.nil (fun p3_ o_3 h hD3 => ?_)
  refine .seq (.region [] mixed (by kernel_rfl) ?_)
  refine .cons (.lt .none (.s rfl) (.s rfl)) rfl ?_
  refine .nil (.then ?_)
  refine .seq ?_
  refine .cond (t := 10) rfl trivial (fun hb4 => ?_) (fun hb4 => ?_)
  ·
   replace h := bif_t h hb4
   refine .skip ?_
   refine .then ?_
   refine .seq ?_
   obtain ⟨j_5, h, hK5⟩ := bind_some h
   unfold layer_places_L1 at h
   refine .thenJ (ι := (GMap Int Int)) (fun j_5 => []) (fun j_5 => [(5001, some (CPred.at s5001 (mapV j_5)))]) (fun s => j_5 = s) (.k 3 rfl (.k 7 rfl (.k 8 rfl (.k 9 rfl .nil)))) SubB.nil ?_ (fun j_5' hj5 => ?_)
   ·
    skip
    refine .block ?_
    refine .seq (.region [] mixed (by kernel_rfl) ?_)
    refine .cons (.move .none (.s rfl)) rfl ?_
    obtain ⟨hn6, h⟩ := need_some h
    refine .cons (.indexAddr .none sl32 ty3 (.s rfl) (.s rfl) (fun _ => hn6)) rfl ?_
    refine .cons (.load .none ty3 (.s rfl)) rfl ?_
    refine .cons (.assign .none (.s rfl)) rfl ?_
    refine .cons (.assign .none (.s rfl)) rfl ?_
    refine .nil (.then ?_)
    refine .region [([], []), ([], []), ([], []), ([5001], [5001])] mixed (by kernel_rfl) ?_
    refine .consA (.move .none (.s rfl)) rfl ?_
    refine .consA (.move .none (.s rfl)) rfl ?_
    refine .consA (.move .none (.s rfl)) rfl ?_
    refine .consN (.mapUpdate (q := 5001) mo88 (.s rfl) rfl (.s rfl) (.s rfl)) rfl ?_
    refine .nil ?_
    refine .blkNormal ?_
    exact Ends.join _ (some_eq h) (.k 3 rfl (.k 7 rfl (.k 8 rfl (.k 9 rfl .nil)))) (.k 5001 rfl .nil)
   ·
    subst hj5; have h := hK5; clear hK5
    refine .region [] mixed (by kernel_rfl) ?_
    refine .cons (.addW .none (.s rfl) (.int (by decide))) rfl ?_
    refine .cons (.move .none (.s rfl)) rfl ?_
    refine .nil ?_
    exact Ends.againL (some_eq h) (.k 9 rfl (.k 3 rfl (.k 7 rfl (.k 8 rfl .nil)))) (.k 5001 rfl .nil)
  ·
   replace h := bif_f h hb4
   refine .exit ?_
   refine .thenExit ?_
   refine .thenExit ?_
   refine .blkExit ?_
   replace h := hD3 _ (some_eq h)
   exact Ends.join _ (some_eq h) (.k 3 rfl .nil) (.k 5001 rfl .nil)
 ·
  subst hj2; have h := hK2; clear hK2
  refine .freezeAt (g := 5001) (S := rep j_2) (ts := [3]) rfl (.cons (t := 3) rfl trivial .nil) SubB.nil rfl (fun M D w h hms => mapV_rep h hms) ?_
  refine .seq (.region [] mixed (by kernel_rfl) ?_)
  refine .cons (.move .none (.s rfl)) rfl ?_
  refine .cons (.assign .none (.s rfl)) rfl ?_
  refine .nil (.then ?_)
  refine .ret ?_
  obtain rfl := some_eq h
  exact Ends.ret1 (.inl rfl) Try.results83 (ResOK.tmp rfl trivial Imp.refl)

theorem layer_all_1_ok {x1 : Link} {c0_1 : (GMap Int Int)} {c1_1 : (GMap Int Int)} {r : Bool}  (h : layer_all_1 x1 c0_1 c1_1 = some r) : FSpec Try.prog 115 [rep x1, ref c0_1, ref c1_1] (rep r) := by
 unfold layer_all_1 at h
 refine FSpec.intro (n := 29) fnok115 Try.func115 rfl Try.ntmps115 rfl (fun F => ?_)
 refine .seq (.region [] mixed (by kernel_rfl) ?_)
 refine .cons (.box .none (.s rfl)) rfl ?_
 refine .cons (.assign .none .bool) rfl ?_
 refine .nil (.then ?_)
 refine .seq (.region [] mixed (by kernel_rfl) ?_)
 refine .cons (.load .none ty88 (.s rfl)) rfl ?_
 refine .cons (.fieldAddr .none fd79_0 hfd79_0 (.s rfl)) rfl ?_
 refine .cons (.load .none ty3 (.s rfl)) rfl ?_
 refine .cons (.lookupOk .none mo88 zo3 (.s rfl) (.s rfl)) rfl ?_
 refine .cons (.move .none (.s rfl)) rfl ?_
 refine .cons (.extract .none (.s rfl) rfl) rfl ?_
 refine .cons (.extract .none (.s rfl) rfl) rfl ?_
 refine .cons (.assign .none (.s rfl)) rfl ?_
 refine .cons (.assign .none (.s rfl)) rfl ?_
 refine .nil (.then ?_)
 refine .seq (.region [] mixed (by kernel_rfl) ?_)
 refine .cons (.load .none ty88 (.s rfl)) rfl ?_
 refine .cons (.fieldAddr .none fd79_1 hfd79_1 (.s rfl)) rfl ?_
 refine .cons (.load .none ty3 (.s rfl)) rfl ?_
 refine .cons (.lookupOk .none mo88 zo3 (.s rfl) (.s rfl)) rfl ?_
 refine .cons (.move .none (.s rfl)) rfl ?_
 refine .cons (.extract .none (.s rfl) rfl) rfl ?_
 refine .cons (.extract .none (.s rfl) rfl) rfl ?_
 refine .cons (.assign .none (.s rfl)) rfl ?_
 refine .cons (.assign .none (.s rfl)) rfl ?_
 refine .nil (.then ?_)
 refine .seq (.region [] mixed (by kernel_rfl) ?_)
 refine .cons (.move .none (.s rfl)) rfl ?_
 refine .cons (.not .none (.s rfl)) rfl ?_
 refine .cons (.move .none (.s rfl)) rfl ?_
 refine .cons (.move (.at rfl rfl) (.s rfl)) rfl ?_
 refine .cons (.not (.at rfl rfl) (.tmp rfl id)) rfl ?_
 refine .cons (.pickOr .none (.s rfl) (.tmp rfl id)) rfl ?_
 refine .cons (.assign .none (.s rfl)) rfl ?_
 refine .nil (.then ?_)
 refine .ret ?_
 obtain rfl := some_eq h
 exact Ends.ret1 (.inl rfl) Try.results115 (ResOK.tmp rfl trivial Imp.refl)

theorem layer_crossings_ok {upper1 : (List Int)} {lower1 : (List Int)} {l1 : (List Link)} {r : Int}  (h : layer_crossings upper1 lower1 l1 = some r) : FSpec Try.prog 81 [rep upper1, rep lower1, rep l1] (rep r) := by
 unfold layer_crossings at h
 refine FSpec.intro (n := 58) fnok81 Try.func81 rfl Try.ntmps81 rfl (fun F => ?_)
 refine .seq (.region [] mixed (by kernel_rfl) ?_)
 refine .cons (.assign .none (.int (by decide))) rfl ?_
 refine .nil (.then ?_)
 refine .seq (.region [] mixed (by kernel_rfl) ?_)
 refine .cons (.move .none (.s rfl)) rfl ?_
 obtain ⟨up1, hv1, h⟩ := bind_some h
 refine .cons (.call .none (layer_places_ok hv1) (.cons (.s rfl) .nil)) rfl ?_
 refine .cons (.move .none (.s rfl)) rfl ?_
 obtain ⟨low1, hv2, h⟩ := bind_some h
 refine .cons (.call .none (layer_places_ok hv2) (.cons (.s rfl) .nil)) rfl ?_
 refine .cons (.assign .none (.s rfl)) rfl ?_
 refine .cons (.assign .none (.s rfl)) rfl ?_
 refine .nil (.then ?_)
 refine .seq (.region [] mixed (by kernel_rfl) ?_)
 refine .cons (.assign .none (.int (by decide))) rfl ?_
 refine .nil (.then ?_)
 refine .seq ?_
 refine .seq (.region [] mixed (by kernel_rfl) ?_)
 refine .cons (.move .none (.s rfl)) rfl ?_
 refine .cons (.len .none sl23 (.s rfl)) rfl ?_
 refine .cons (.move .none (.int (by decide))) rfl ?_
 refine .nil (.then ?_)
 obtain ⟨j_3, h, hK3⟩ := bind_some h
 refine .thenJ (ι := Int) (fun j_3 => [(9, ⟨True, rep j_3⟩)]) (fun j_3 => []) (fun s => j_3 = s) Sub.nil SubB.nil ?_ (fun j_3' hj3 => ?_)
 ·
  skip
  refine .block ?_
  refine .rforL h (fun p4_ => [(20, ⟨True, rep p4_.1⟩), (9, ⟨True, rep p4_.2⟩)]) (fun p4_ => []) (.k 20 rfl (.k 9 rfl .nil)) SubB.nil (.k 2 rfl (.k 7 rfl (.k 8 rfl (.k 18 rfl (.k 19 rfl .nil))))) SubB.nil (fun p4_ o_4 h hD4 => ?_)
  refine .seq (.region [] mixed (by kernel_rfl) ?_)
  refine .cons (.lt .none (.s rfl) (.s rfl)) rfl ?_
  refine .nil (.then ?_)
  refine .seq ?_
  refine .cond (t := 21) rfl trivial (fun hb5 => ?_) (fun hb5 => ?_)
  ·
   replace h := bif_t h hb5
   refine .skip ?_
   refine .then ?_
   refine .seq ?_
   obtain ⟨j_6, h, hK6⟩ := bind_some h
   unfold layer_crossings_L1 at h
   refine .thenJ (ι := Int) (fun j_6 => [(9, ⟨True, rep j_6⟩)]) (fun j_6 => []) (fun s => j_6 = s) (.k 2 rfl (.k 7 rfl (.k 8 rfl (.k 18 rfl (.k 19 rfl (.k 20 rfl .nil)))))) SubB.nil ?_ (fun j_6' hj6 => ?_)
   ·
    skip
    refine .block ?_
    refine .seq (.region [([], []), ([], []), ([], []), ([], [11]), ([], []), ([11], [11])] mixed (by kernel_rfl) ?_)
    refine .consA (.move .none (.s rfl)) rfl ?_
    obtain ⟨hn7, h⟩ := need_some h
    refine .consA (.indexAddr .none sl23 ty79 (.s rfl) (.s rfl) (fun _ => hn7)) rfl ?_
    obtain ⟨v1, hv8, h⟩ := bnd_some h
    refine .consA (.re hv8 (.load .none ty79 (.s rfl))) rfl ?_
    refine .consW (.alloc zo79 rfl) rfl rfl ?_
    refine .consA (.assign .none (.s rfl)) rfl ?_
    refine .consN (.store ty79 rfl rfl (.s rfl)) rfl ?_
    refine .nil (.then ?_)
    refine .freeze (t := 11) rfl rfl SubB.nil rfl ?_
    refine .seq (.region [] mixed (by kernel_rfl) ?_)
    refine .cons (.move .none (.s rfl)) rfl ?_
    refine .cons (.move .none (.s rfl)) rfl ?_
    obtain ⟨hn9, h⟩ := need_some h
    obtain ⟨v2, hv10, h⟩ := bnd_some h
    refine .cons (.re hv10 (.slice .none sl23 ty79 (.s rfl) rfl (.s rfl) (fun _ => hn9))) rfl ?_
    refine .cons (.len .none sl23 (.s rfl)) rfl ?_
    refine .cons (.move .none (.int (by decide))) rfl ?_
    refine .nil (.then ?_)
    refine .block ?_
    refine .rforL h (fun p11_ => [(29, ⟨True, rep p11_.1⟩), (9, ⟨True, rep p11_.2⟩)]) (fun p11_ => []) (.k 29 rfl (.k 9 rfl .nil)) SubB.nil (.k 2 rfl (.k 7 rfl (.k 8 rfl (.k 11 rfl (.k 18 rfl (.k 19 rfl (.k 20 rfl (.k 27 rfl (.k 28 rfl .nil))))))))) SubB.nil (fun p11_ o_11 h hD11 => ?_)
    refine .seq (.region [] mixed (by kernel_rfl) ?_)
    refine .cons (.lt .none (.s rfl) (.s rfl)) rfl ?_
    refine .nil (.then ?_)
    refine .seq ?_
    refine .cond (t := 30) rfl trivial (fun hb12 => ?_) (fun hb12 => ?_)
    ·
     replace h := bif_t h hb12
     refine .skip ?_
     refine .then ?_
     refine .seq ?_
     obtain ⟨j_13, h, hK13⟩ := bind_some h
     unfold layer_crossings_L2 at h
     refine .thenJ (ι := Int) (fun j_13 => [(9, ⟨True, rep j_13⟩)]) (fun j_13 => []) (fun s => j_13 = s) (.k 2 rfl (.k 7 rfl (.k 8 rfl (.k 11 rfl (.k 18 rfl (.k 19 rfl (.k 20 rfl (.k 27 rfl (.k 28 rfl (.k 29 rfl .nil)))))))))) SubB.nil ?_ (fun j_13' hj13 => ?_)
     ·
      skip
      refine .block ?_
      refine .seq (.region [([], []), ([], []), ([], [13]), ([13], [13])] mixed (by kernel_rfl) ?_)
      obtain ⟨hn14, h⟩ := need_some h
      refine .consA (.indexAddr .none sl23 ty79 (.s rfl) (.s rfl) (fun _ => hn14)) rfl ?_
      obtain ⟨v3, hv15, h⟩ := bnd_some h
      refine .consA (.re hv15 (.load .none ty79 (.s rfl))) rfl ?_
      refine .consW (.alloc zo79 rfl) rfl rfl ?_
      refine .consN (.store ty79 rfl rfl (.s rfl)) rfl ?_
      refine .nil (.then ?_)
      refine .freeze (t := 13) rfl rfl SubB.nil rfl ?_
      refine .seq (.region [] mixed (by kernel_rfl) ?_)
      refine .cons (.move .none (.s rfl)) rfl ?_
      refine .cons (.fieldAddr .none fd79_0 hfd79_0 (.s rfl)) rfl ?_
      refine .cons (.load .none ty3 (.s rfl)) rfl ?_
      refine .cons (.lookup .none mo88 zo3 (.s rfl) (.s rfl)) rfl ?_
      refine .cons (.move .none (.s rfl)) rfl ?_
      refine .cons (.fieldAddr .none fd79_0 hfd79_0 (.s rfl)) rfl ?_
      refine .cons (.load .none ty3 (.s rfl)) rfl ?_
      refine .cons (.lookup .none mo88 zo3 (.s rfl) (.s rfl)) rfl ?_
      refine .cons (.subW .none (.s rfl) (.s rfl)) rfl ?_
      refine .cons (.move .none (.s rfl)) rfl ?_
      refine .cons (.fieldAddr .none fd79_1 hfd79_1 (.s rfl)) rfl ?_
      refine .cons (.load .none ty3 (.s rfl)) rfl ?_
      refine .cons (.lookup .none mo88 zo3 (.s rfl) (.s rfl)) rfl ?_
      refine .cons (.move .none (.s rfl)) rfl ?_
      refine .cons (.fieldAddr .none fd79_1 hfd79_1 (.s rfl)) rfl ?_
      refine .cons (.load .none ty3 (.s rfl)) rfl ?_
      refine .cons (.lookup .none mo88 zo3 (.s rfl) (.s rfl)) rfl ?_
      refine .cons (.subW .none (.s rfl) (.s rfl)) rfl ?_
      refine .cons (.mulW .none (.s rfl) (.s rfl)) rfl ?_
      refine .cons (.lt .none (.s rfl) (.int (by decide))) rfl ?_
      refine .nil (.then ?_)
      refine .cond (t := 52) rfl trivial (fun hb16 => ?_) (fun hb16 => ?_)
      ·
       replace h := bif_t h hb16
       refine .region [] mixed (by kernel_rfl) ?_
       refine .cons (.move .none (.s rfl)) rfl ?_
       refine .cons (.addW .none (.s rfl) (.int (by decide))) rfl ?_
       obtain ⟨n1, hv17, h⟩ := bnd_some h
       refine .cons (.re hv17 (.assign .none (.s rfl))) rfl ?_
       refine .nil ?_
       refine .blkNormal ?_
       exact Ends.join _ (some_eq h) (.k 9 rfl (.k 2 rfl (.k 7 rfl (.k 8 rfl (.k 11 rfl (.k 18 rfl (.k 19 rfl (.k 20 rfl (.k 27 rfl (.k 28 rfl (.k 29 rfl .nil))))))))))) SubB.nil
      ·
       replace h := bif_f h hb16
       refine .skip ?_
       refine .blkNormal ?_
       exact Ends.join _ (some_eq h) (.k 9 rfl (.k 2 rfl (.k 7 rfl (.k 8 rfl (.k 11 rfl (.k 18 rfl (.k 19 rfl (.k 20 rfl (.k 27 rfl (.k 28 rfl (.k 29 rfl .nil))))))))))) SubB.nil
     ·
      subst hj13; have h := hK13; clear hK13
      refine .region [] mixed (by kernel_rfl) ?_
      refine .cons (.addW .none (.s rfl) (.int (by decide))) rfl ?_
      refine .cons (.move .none (.s rfl)) rfl ?_
      refine .nil ?_
      exact Ends.againL (some_eq h) (.k 29 rfl (.k 9 rfl (.k 2 rfl (.k 7 rfl (.k 8 rfl (.k 11 rfl (.k 18 rfl (.k 19 rfl (.k 20 rfl (.k 27 rfl (.k 28 rfl .nil))))))))))) SubB.nil
    ·
     replace h := bif_f h hb12
     refine .exit ?_
     refine .thenExit ?_
     refine .thenExit ?_
     refine .blkExit ?_
     refine .blkNormal ?_
     replace h := hD11 _ (some_eq h)
     exact Ends.join _ (some_eq h) (.k 9 rfl (.k 2 rfl (.k 7 rfl (.k 8 rfl (.k 18 rfl (.k 19 rfl (.k 20 rfl .nil))))))) SubB.nil
   ·
    subst hj6; have h := hK6; clear hK6
    refine .region [] mixed (by kernel_rfl) ?_
    refine .cons (.addW .none (.s rfl) (.int (by decide))) rfl ?_
    refine .cons (.move .none (.s rfl)) rfl ?_
    refine .nil ?_
    exact Ends.againL (some_eq h) (.k 20 rfl (.k 9 rfl (.k 2 rfl (.k 7 rfl (.k 8 rfl (.k 18 rfl (.k 19 rfl .nil))))))) SubB.nil
  ·
   replace h := bif_f h hb5
   refine .exit ?_
   refine .thenExit ?_
   refine .thenExit ?_
   refine .blkExit ?_
   replace h := hD4 _ (some_eq h)
   exact Ends.join _ (some_eq h) (.k 9 rfl .nil) SubB.nil
 ·
  subst hj3; have h := hK3; clear hK3
  refine .seq (.region [] mixed (by kernel_rfl) ?_)
  refine .cons (.move .none (.s rfl)) rfl ?_
  refine .cons (.assign .none (.s rfl)) rfl ?_
  refine .nil (.then ?_)
  refine .ret ?_
  obtain rfl := some_eq h
  exact Ends.ret1 (.inl rfl) Try.results81 (ResOK.tmp rfl trivial Imp.refl)

theorem layer_all_ok {rows1 : (List (List Int))} {l1 : (List Link)} {r : Int}  (h : layer_all rows1 l1 = some r) : FSpec Try.prog 98 [rep rows1, rep l1] (rep r) := by
 unfold layer_all at h
 refine FSpec.intro (n := 45) fnok98 Try.func98 rfl Try.ntmps98 rfl (fun F => ?_)
 refine .seq (.region [] mixed (by kernel_rfl) ?_)
 refine .cons (.assign .none (.int (by decide))) rfl ?_
 refine .nil (.then ?_)
 refine .seq (.region [] mixed (by kernel_rfl) ?_)
 refine .cons (.assign .none (.int (by decide))) rfl ?_
 refine .nil (.then ?_)
 refine .seq ?_
 refine .seq (.region [] mixed (by kernel_rfl) ?_)
 refine .cons (.assign .none (.int (by decide))) rfl ?_
 refine .nil (.then ?_)
 obtain ⟨j_1, h, hK1⟩ := bind_some h
 refine .thenJ (ι := Int) (fun j_1 => [(5, ⟨True, rep j_1⟩)]) (fun j_1 => []) (fun s => j_1 = s) Sub.nil SubB.nil ?_ (fun j_1' hj1 => ?_)
 ·
  skip
  refine .block ?_
  refine .loopL h (fun s2_ => [(5, ⟨True, rep s2_.1⟩), (6, ⟨True, rep s2_.2⟩)]) (fun s2_ => []) (.k 5 rfl (.k 6 rfl .nil)) SubB.nil (.k 0 rfl (.k 1 rfl .nil)) SubB.nil (fun s2_ o_2 h hD2 => ?_)
  unfold layer_all_L1 at h
  refine .seq ?_
  refine .seq (.region [] mixed (by kernel_rfl) ?_)
  refine .cons (.move .none (.s rfl)) rfl ?_
  refine .cons (.move .none (.s rfl)) rfl ?_
  refine .cons (.len .none sl22 (.s rfl)) rfl ?_
  refine .cons (.lt .none (.s rfl) (.s rfl)) rfl ?_
  refine .nil (.then ?_)
  refine .cond (t := 13) rfl trivial (fun hb3 => ?_) (fun hb3 => ?_)
  ·
   replace h := bif_t h hb3
   refine .skip ?_
   refine .then ?_
   refine .seq ?_
   refine .block ?_
   refine .seq (.region [([], []), ([], []), ([], []), ([], []), ([], []), ([], []), ([], []), ([], []), ([], []), ([], []), ([], []), ([], [7]), ([], [8]), ([7], [7]), ([8], [8])] mixed (by kernel_rfl) ?_)
   refine .consA (.move .none (.s rfl)) rfl ?_
   refine .consA (.move .none (.s rfl)) rfl ?_
   refine .consA (.subW .none (.s rfl) (.int (by decide))) rfl ?_
   obtain ⟨hn4, h⟩ := need_some h
   refine .consA (.indexAddr .none sl22 ty32 (.s rfl) (.s rfl) (fun _ => hn4)) rfl ?_
   refine .consA (.load .none ty32 (.s rfl)) rfl ?_
   obtain ⟨r1, hv5, h⟩ := bind_some h
   refine .consA (.call .none (layer_places_ok hv5) (.cons (.s rfl) .nil)) rfl ?_
   refine .consA (.move .none (.s rfl)) rfl ?_
   refine .consA (.move .none (.s rfl)) rfl ?_
   obtain ⟨hn6, h⟩ := need_some h
   refine .consA (.indexAddr .none sl22 ty32 (.s rfl) (.s rfl) (fun _ => hn6)) rfl ?_
   refine .consA (.load .none ty32 (.s rfl)) rfl ?_
   obtain ⟨r2, hv7, h⟩ := bind_some h
   refine .consA (.call .none (layer_places_ok hv7) (.cons (.s rfl) .nil)) rfl ?_
   refine .consW (.alloc zo88 rfl) rfl rfl ?_
   refine .consW (.alloc zo88 rfl) rfl rfl ?_
   refine .consN (.store ty88 rfl rfl (.s rfl)) rfl ?_
   refine .consN (.store ty88 rfl rfl (.s rfl)) rfl ?_
   refine .nil (.then ?_)
   refine .freeze (t := 7) rfl rfl (.k 8 rfl .nil) rfl ?_
   refine .freeze (t := 8) rfl rfl SubB.nil rfl ?_
   refine .seq (.region [([], []), ([], [28]), ([], []), ([28], [28]), ([], [])] mixed (by kernel_rfl) ?_)
   refine .consA (.move .none (.s rfl)) rfl ?_
   obtain ⟨r3, hv8, h⟩ := bind_some h
   refine .consW (.callO [] (slices_Clone_Link_ok hv8) (.cons (.s rfl) .nil) .nil rfl (by decide) (by decide) (by intro d h; cases h; decide)) rfl rfl ?_
   refine .consA (.makeFunc (ι := Link × Bool) (pre := fun i => (fun x0 => layer_all_1 x0 r1 r2) i.1 = some i.2) (Ss := fun i => [rep i.1]) (S := fun i => rep i.2) .none fnok115 (fun i h => layer_all_1_ok h) (.cons (.s rfl) (.cons (.s rfl) .nil))) rfl ?_
   obtain ⟨between1, hv9, h⟩ := bind_some h
   refine .consW (.tell (t := 28) rfl row_one rfl (by decide) (fun _ => StepOK.callO [28] ((slices_DeleteFunc_Link_ok hv9).frzO1) (.cons (.s rfl) (.cons (.s rfl) .nil)) (.cons (k := 28) rfl .nil) rfl (by decide) (by decide) (by intro d h; cases h; decide))) rfl rfl ?_
   refine .consA (.assign .none (.s rfl)) rfl ?_
   refine .nil (.then ?_)
   refine .region [] mixed (by kernel_rfl) ?_
   refine .cons (.move .none (.s rfl)) rfl ?_
   refine .cons (.move .none (.s rfl)) rfl ?_
   refine .cons (.move .none (.s rfl)) rfl ?_
   refine .cons (.subW .none (.s rfl) (.int (by decide))) rfl ?_
   obtain ⟨hn10, h⟩ := need_some h
   refine .cons (.indexAddr .none sl22 ty32 (.s rfl) (.s rfl) (fun _ => hn10)) rfl ?_
   refine .cons (.load .none ty32 (.s rfl)) rfl ?_
   refine .cons (.move .none (.s rfl)) rfl ?_
   refine .cons (.move .none (.s rfl)) rfl ?_
   obtain ⟨hn11, h⟩ := need_some h
   refine .cons (.indexAddr .none sl22 ty32 (.s rfl) (.s rfl) (fun _ => hn11)) rfl ?_
   refine .cons (.load .none ty32 (.s rfl)) rfl ?_
   refine .cons (.move .none (.s rfl)) rfl ?_
   obtain ⟨r4, hv12, h⟩ := bind_some h
   refine .cons (.call .none (layer_crossings_ok hv12) (.cons (.s rfl) (.cons (.s rfl) (.cons (.s rfl) .nil)))) rfl ?_
   refine .cons (.addW .none (.s rfl) (.s rfl)) rfl ?_
   obtain ⟨n1, hv13, h⟩ := bnd_some h
   refine .cons (.re hv13 (.assign .none (.s rfl))) rfl ?_
   refine .nil ?_
   refine .blkNormal ?_
   refine .then ?_
   refine .region [] mixed (by kernel_rfl) ?_
   refine .cons (.move .none (.s rfl)) rfl ?_
   refine .cons (.addW .none (.s rfl) (.int (by decide))) rfl ?_
   obtain ⟨i1, hv14, h⟩ := bnd_some h
   refine .cons (.re hv14 (.assign .none (.s rfl))) rfl ?_
   refine .nil ?_
   exact Ends.againL (some_eq h) (.k 5 rfl (.k 6 rfl (.k 0 rfl (.k 1 rfl .nil)))) SubB.nil
  ·
   replace h := bif_f h hb3
   refine .exit ?_
   refine .thenExit ?_
   refine .thenExit ?_
   refine .blkExit ?_
   replace h := hD2 _ (some_eq h)
   exact Ends.join _ (some_eq h) (.k 5 rfl .nil) SubB.nil
 ·
  subst hj1; have h := hK1; clear hK1
  refine .seq (.region [] mixed (by kernel_rfl) ?_)
  refine .cons (.move .none (.s rfl)) rfl ?_
  refine .cons (.assign .none (.s rfl)) rfl ?_
  refine .nil (.then ?_)
  refine .ret ?_
  obtain rfl := some_eq h
  exact Ends.ret1 (.inl rfl) Try.results98 (ResOK.tmp rfl trivial Imp.refl)

theorem slices_insertionSortCmpFunc_int_ok {data1 : (List Int)} {a1 : Int} {b1 : Int} {cmp1 : (Int → Int → Option Int)} {r : (List Int)} {s53 : Value} (h : slices_insertionSortCmpFunc_int data1 a1 b1 cmp1 = some r) : FSpecO Try.prog 140 [isV s53, rep a1, rep b1, fn2 Try.prog (rep (α := Int)) cmp1] [(s53, rowV 3 data1)] (anyV) [some (rowV 3 r)] := by
 unfold slices_insertionSortCmpFunc_int at h
 refine FSpecO.intro (n := 53) fnok140 Try.func140 rfl Try.ntmps140 rfl (fun F => ?_)
 refine .seq (.region [] mixed (by kernel_rfl) ?_)
 refine .cons (.move .none (.s rfl)) rfl ?_
 refine .cons (.addW .none (.s rfl) (.int (by decide))) rfl ?_
 obtain ⟨i1, hv1, h⟩ := bnd_some h
 refine .cons (.re hv1 (.assign .none (.s rfl))) rfl ?_
 refine .nil (.then ?_)
 refine .block ?_
 refine .loopL h (fun s2_ => [(8, ⟨True, rep s2_.1⟩)]) (fun s2_ => [(53, some (CPred.at s53 (rowV 3 s2_.2)))]) (.k 8 rfl .nil) (.k 53 rfl .nil) (.k 0 rfl (.k 1 rfl (.k 2 rfl (.k 3 rfl .nil)))) SubB.nil (fun s2_ o_2 h hD2 => ?_)
 unfold slices_insertionSortCmpFunc_int_L1 at h
 refine .seq ?_
 refine .seq (.region [] mixed (by kernel_rfl) ?_)
 refine .cons (.move .none (.s rfl)) rfl ?_
 refine .cons (.move .none (.s rfl)) rfl ?_
 refine .cons (.lt .none (.s rfl) (.s rfl)) rfl ?_
 refine .nil (.then ?_)
 refine .cond (t := 14) rfl trivial (fun hb3 => ?_) (fun hb3 => ?_)
 ·
  replace h := bif_t h hb3
  refine .skip ?_
  refine .then ?_
  refine .seq ?_
  obtain ⟨j_4, h, hK4⟩ := bind_some h
  refine .thenJ (ι := (List Int)) (fun j_4 => []) (fun j_4 => [(53, some (CPred.at s53 (rowV 3 j_4)))]) (fun s => j_4 = s) (.k 0 rfl (.k 1 rfl (.k 2 rfl (.k 3 rfl (.k 8 rfl .nil))))) SubB.nil ?_ (fun j_4' hj4 => ?_)
  ·
   skip
   refine .block ?_
   refine .seq (.region [] mixed (by kernel_rfl) ?_)
   refine .cons (.move .none (.s rfl)) rfl ?_
   refine .cons (.assign .none (.s rfl)) rfl ?_
   refine .nil (.then ?_)
   refine .block ?_
   refine .loopL h (fun s5_ => [(9, ⟨True, rep s5_.1⟩)]) (fun s5_ => [(53, some (CPred.at s53 (rowV 3 s5_.2)))]) (.k 9 rfl .nil) (.k 53 rfl .nil) (.k 0 rfl (.k 1 rfl (.k 2 rfl (.k 3 rfl (.k 8 rfl .nil))))) SubB.nil (fun s5_ o_5 h hD5 => ?_)
   unfold slices_insertionSortCmpFunc_int_L2 at h
   refine .seq ?_
   refine .seq (.region [([], []), ([], []), ([], []), ([], []), ([], []), ([], []), ([], []), ([53], []), ([53], []), ([], []), ([], []), ([], []), ([53], []), ([53], []), ([], []), ([], []), ([], [])] mixed (by kernel_rfl) ?_)
   refine .consA (.move .none (.s rfl)) rfl ?_
   refine .consA (.move .none (.s rfl)) rfl ?_
   refine .consA (.gt .none (.s rfl) (.s rfl)) rfl ?_
   refine .consA (.move .none (.s rfl)) rfl ?_
   refine .consA (.move (.at rfl rfl) (.s rfl)) rfl ?_
   refine .consA (.move (.at rfl rfl) (.s rfl)) rfl ?_
   refine .consA (.move (.at rfl rfl) (.s rfl)) rfl ?_
   obtain ⟨hn6, h⟩ := need_some h
   refine .consA (.indexAddrO (k := 53) (.at rfl rfl) sl32 ty3 (.tmp rfl id) rfl (.tmp rfl id) (fun hg => hn6 hg.2)) rfl ?_
   refine .consA (.loadElem0 (k := 53) (.at rfl rfl) ty3 (.tmp rfl id) rfl (fun hg => hn6 hg.2)) rfl ?_
   refine .consA (.move (.at rfl rfl) (.s rfl)) rfl ?_
   refine .consA (.move (.at rfl rfl) (.s rfl)) rfl ?_
   refine .consA (.subW (.at rfl rfl) (.tmp rfl id) (.int (by decide))) rfl ?_
   obtain ⟨hn7, h⟩ := need_some h
   refine .consA (.indexAddrO (k := 53) (.at rfl rfl) sl32 ty3 (.tmp rfl id) rfl (.tmp rfl id) (fun hg => hn7 hg.2)) rfl ?_
   refine .consA (.loadElem0 (k := 53) (.at rfl rfl) ty3 (.tmp rfl id) rfl (fun hg => hn7 hg.2)) rfl ?_
   obtain ⟨r1, hv8, h⟩ := bind_some h
   refine .consA (.callV (gx s5_.2 s5_.1, gx s5_.2 (W (s5_.1 - 1)), r1) (.at rfl rfl) (.tmp rfl id) (fun hg => gd_some hv8 (hg.2)) (.cons (.tmp rfl id) (.cons (.tmp rfl id) .nil))) rfl ?_
   refine .consA (.lt (.at rfl rfl) (.tmp rfl id) (.int (by decide))) rfl ?_
   refine .consA (.pickAnd .none (.s rfl) (.tmp rfl id)) rfl ?_
   refine .nil (.then ?_)
   refine .cond (t := 34) rfl trivial (fun hb9 => ?_) (fun hb9 => ?_)
   ·
    replace h := bif_t h hb9
    refine .skip ?_
    refine .then ?_
    refine .seq ?_
    refine .block ?_
    refine .region [([], []), ([], []), ([], []), ([], []), ([], []), ([], []), ([], []), ([], []), ([53], []), ([53], []), ([], []), ([], []), ([53], []), ([53], []), ([53], []), ([53], [53]), ([53], []), ([53], [53])] mixed (by kernel_rfl) ?_
    refine .consA (.move .none (.s rfl)) rfl ?_
    refine .consA (.move .none (.s rfl)) rfl ?_
    refine .consA (.move .none (.s rfl)) rfl ?_
    refine .consA (.move .none (.s rfl)) rfl ?_
    refine .consA (.subW .none (.s rfl) (.int (by decide))) rfl ?_
    refine .consA (.move .none (.s rfl)) rfl ?_
    refine .consA (.move .none (.s rfl)) rfl ?_
    refine .consA (.subW .none (.s rfl) (.int (by decide))) rfl ?_
    obtain ⟨hn10, h⟩ := need_some h
    refine .consA (.indexAddrO (k := 53) .none sl32 ty3 (.s rfl) rfl (.s rfl) (fun _ => hn10)) rfl ?_
    obtain ⟨v1, hv11, h⟩ := bnd_some h
    refine .consA (.re hv11 (.loadElem0 (k := 53) .none ty3 (.s rfl) rfl (fun _ => hn10))) rfl ?_
    refine .consA (.move .none (.s rfl)) rfl ?_
    refine .consA (.move .none (.s rfl)) rfl ?_
    obtain ⟨hn12, h⟩ := need_some h
    refine .consA (.indexAddrO (k := 53) .none sl32 ty3 (.s rfl) rfl (.s rfl) (fun _ => hn12)) rfl ?_
    obtain ⟨v2, hv13, h⟩ := bnd_some h
    refine .consA (.re hv13 (.loadElem0 (k := 53) .none ty3 (.s rfl) rfl (fun _ => hn12))) rfl ?_
    obtain ⟨hn14, h⟩ := need_some h
    refine .consA (.indexAddrO (k := 53) .none sl32 ty3 (.s rfl) rfl (.s rfl) (fun _ => hn14)) rfl ?_
    refine .consN (.storeElem0 (k := 53) ty3 (.s rfl) rfl (.s rfl) hn14) rfl ?_
    obtain ⟨hn15, h⟩ := need_some h
    refine .consA (.indexAddrO (k := 53) .none sl32 ty3 (.s rfl) rfl (.s rfl) (fun _ => hn15)) rfl ?_
    refine .consN (.storeElem0 (k := 53) ty3 (.s rfl) rfl (.s rfl) hn15) rfl ?_
    refine .nil ?_
    refine .blkNormal ?_
    refine .then ?_
    obtain ⟨data2, hv16, h⟩ := bnd_some h
    refine .reB (t := 53) rfl (congrArg (fun y => CPred.at s53 (rowV 3 y)) hv16) ?_
    refine .region [] mixed (by kernel_rfl) ?_
    refine .cons (.move .none (.s rfl)) rfl ?_
    refine .cons (.subW .none (.s rfl) (.int (by decide))) rfl ?_
    obtain ⟨j1, hv17, h⟩ := bnd_some h
    refine .cons (.re hv17 (.assign .none (.s rfl))) rfl ?_
    refine .nil ?_
    exact Ends.againL (some_eq h) (.k 9 rfl (.k 0 rfl (.k 1 rfl (.k 2 rfl (.k 3 rfl (.k 8 rfl .nil)))))) (.k 53 rfl .nil)
   ·
    replace h := bif_f h hb9
    refine .exit ?_
    refine .thenExit ?_
    refine .thenExit ?_
    refine .blkExit ?_
    refine .blkNormal ?_
    replace h := hD5 _ (some_eq h)
    exact Ends.join _ (some_eq h) (.k 0 rfl (.k 1 rfl (.k 2 rfl (.k 3 rfl (.k 8 rfl .nil))))) (.k 53 rfl .nil)
  ·
   subst hj4; have h := hK4; clear hK4
   refine .region [] mixed (by kernel_rfl) ?_
   refine .cons (.move .none (.s rfl)) rfl ?_
   refine .cons (.addW .none (.s rfl) (.int (by decide))) rfl ?_
   obtain ⟨i2, hv18, h⟩ := bnd_some h
   refine .cons (.re hv18 (.assign .none (.s rfl))) rfl ?_
   refine .nil ?_
   exact Ends.againL (some_eq h) (.k 8 rfl (.k 0 rfl (.k 1 rfl (.k 2 rfl (.k 3 rfl .nil))))) (.k 53 rfl .nil)
 ·
  replace h := bif_f h hb3
  refine .exit ?_
  refine .thenExit ?_
  refine .thenExit ?_
  refine .blkExit ?_
  replace h := hD2 _ (some_eq h)
  obtain rfl := some_eq h
  exact Ends.ret0O (.inr rfl) [53] Try.results140 (by decide) (.held rfl .nil) 

theorem slices_swapRangeCmpFunc_int_ok {data1 : (List Int)} {a1 : Int} {b1 : Int} {n1 : Int} {cmp1 : (Int → Int → Option Int)} {r : (List Int)} {s38 : Value} (h : slices_swapRangeCmpFunc_int data1 a1 b1 n1 cmp1 = some r) : FSpecO Try.prog 145 [isV s38, rep a1, rep b1, rep n1, fn2 Try.prog (rep (α := Int)) cmp1] [(s38, rowV 3 data1)] (anyV) [some (rowV 3 r)] := by
 unfold slices_swapRangeCmpFunc_int at h
 refine FSpecO.intro (n := 38) fnok145 Try.func145 rfl Try.ntmps145 rfl (fun F => ?_)
 refine .seq (.region [] mixed (by kernel_rfl) ?_)
 refine .cons (.assign .none (.int (by decide))) rfl ?_
 refine .nil (.then ?_)
 refine .block ?_
 refine .loopL h (fun s1_ => [(10, ⟨True, rep s1_.1⟩)]) (fun s1_ => [(38, some (CPred.at s38 (rowV 3 s1_.2)))]) (.k 10 rfl .nil) (.k 38 rfl .nil) (.k 0 rfl (.k 1 rfl (.k 2 rfl (.k 3 rfl .nil)))) SubB.nil (fun s1_ o_1 h hD1 => ?_)
 unfold slices_swapRangeCmpFunc_int_L1 at h
 refine .seq ?_
 refine .seq (.region [] mixed (by kernel_rfl) ?_)
 refine .cons (.move .none (.s rfl)) rfl ?_
 refine .cons (.move .none (.s rfl)) rfl ?_
 refine .cons (.lt .none (.s rfl) (.s rfl)) rfl ?_
 refine .nil (.then ?_)
 refine .cond (t := 13) rfl trivial (fun hb2 => ?_) (fun hb2 => ?_)
 ·
  replace h := bif_t h hb2
  refine .skip ?_
  refine .then ?_
  refine .seq ?_
  refine .block ?_
  refine .region [([], []), ([], []), ([], []), ([], []), ([], []), ([], []), ([], []), ([], []), ([], []), ([], []), ([], []), ([], []), ([38], []), ([38], []), ([], []), ([], []), ([], []), ([], []), ([38], []), ([38], []), ([38], []), ([38], [38]), ([38], []), ([38], [38])] mixed (by kernel_rfl) ?_
  refine .consA (.move .none (.s rfl)) rfl ?_
  refine .consA (.move .none (.s rfl)) rfl ?_
  refine .consA (.move .none (.s rfl)) rfl ?_
  refine .consA (.addW .none (.s rfl) (.s rfl)) rfl ?_
  refine .consA (.move .none (.s rfl)) rfl ?_
  refine .consA (.move .none (.s rfl)) rfl ?_
  refine .consA (.move .none (.s rfl)) rfl ?_
  refine .consA (.addW .none (.s rfl) (.s rfl)) rfl ?_
  refine .consA (.move .none (.s rfl)) rfl ?_
  refine .consA (.move .none (.s rfl)) rfl ?_
  refine .consA (.move .none (.s rfl)) rfl ?_
  refine .consA (.addW .none (.s rfl) (.s rfl)) rfl ?_
  obtain ⟨hn3, h⟩ := need_some h
  refine .consA (.indexAddrO (k := 38) .none sl32 ty3 (.s rfl) rfl (.s rfl) (fun _ => hn3)) rfl ?_
  obtain ⟨v1, hv4, h⟩ := bnd_some h
  refine .consA (.re hv4 (.loadElem0 (k := 38) .none ty3 (.s rfl) rfl (fun _ => hn3))) rfl ?_
  refine .consA (.move .none (.s rfl)) rfl ?_
  refine .consA (.move .none (.s rfl)) rfl ?_
  refine .consA (.move .none (.s rfl)) rfl ?_
  refine .consA (.addW .none (.s rfl) (.s rfl)) rfl ?_
  obtain ⟨hn5, h⟩ := need_some h
  refine .consA (.indexAddrO (k := 38) .none sl32 ty3 (.s rfl) rfl (.s rfl) (fun _ => hn5)) rfl ?_
  obtain ⟨v2, hv6, h⟩ := bnd_some h
  refine .consA (.re hv6 (.loadElem0 (k := 38) .none ty3 (.s rfl) rfl (fun _ => hn5))) rfl ?_
  obtain ⟨hn7, h⟩ := need_some h
  refine .consA (.indexAddrO (k := 38) .none sl32 ty3 (.s rfl) rfl (.s rfl) (fun _ => hn7)) rfl ?_
  refine .consN (.storeElem0 (k := 38) ty3 (.s rfl) rfl (.s rfl) hn7) rfl ?_
  obtain ⟨hn8, h⟩ := need_some h
  refine .consA (.indexAddrO (k := 38) .none sl32 ty3 (.s rfl) rfl (.s rfl) (fun _ => hn8)) rfl ?_
  refine .consN (.storeElem0 (k := 38) ty3 (.s rfl) rfl (.s rfl) hn8) rfl ?_
  refine .nil ?_
  refine .blkNormal ?_
  refine .then ?_
  obtain ⟨data2, hv9, h⟩ := bnd_some h
  refine .reB (t := 38) rfl (congrArg (fun y => CPred.at s38 (rowV 3 y)) hv9) ?_
  refine .region [] mixed (by kernel_rfl) ?_
  refine .cons (.move .none (.s rfl)) rfl ?_
  refine .cons (.addW .none (.s rfl) (.int (by decide))) rfl ?_
  obtain ⟨i1, hv10, h⟩ := bnd_some h
  refine .cons (.re hv10 (.assign .none (.s rfl))) rfl ?_
  refine .nil ?_
  exact Ends.againL (some_eq h) (.k 10 rfl (.k 0 rfl (.k 1 rfl (.k 2 rfl (.k 3 rfl .nil))))) (.k 38 rfl .nil)
 ·
  replace h := bif_f h hb2
  refine .exit ?_
  refine .thenExit ?_
  refine .thenExit ?_
  refine .blkExit ?_
  replace h := hD1 _ (some_eq h)
  obtain rfl := some_eq h
  exact Ends.ret0O (.inr rfl) [38] Try.results145 (by decide) (.held rfl .nil) 

theorem slices_rotateCmpFunc_int_ok {data1 : (List Int)} {a1 : Int} {m1 : Int} {b1 : Int} {cmp1 : (Int → Int → Option Int)} {r : (List Int)} {s58 : Value} (h : slices_rotateCmpFunc_int data1 a1 m1 b1 cmp1 = some r) : FSpecO Try.prog 144 [isV s58, rep a1, rep m1, rep b1, fn2 Try.prog (rep (α := Int)) cmp1] [(s58, rowV 3 data1)] (anyV) [some (rowV 3 r)] := by
 unfold slices_rotateCmpFunc_int at h
 refine FSpecO.intro (n := 58) fnok144 Try.func144 rfl Try.ntmps144 rfl (fun F => ?_)
 refine .seq (.region [] mixed (by kernel_rfl) ?_)
 refine .cons (.move .none (.s rfl)) rfl ?_
 refine .cons (.move .none (.s rfl)) rfl ?_
 refine .cons (.subW .none (.s rfl) (.s rfl)) rfl ?_
 obtain ⟨i1, hv1, h⟩ := bnd_some h
 refine .cons (.re hv1 (.assign .none (.s rfl))) rfl ?_
 refine .nil (.then ?_)
 refine .seq (.region [] mixed (by kernel_rfl) ?_)
 refine .cons (.move .none (.s rfl)) rfl ?_
 refine .cons (.move .none (.s rfl)) rfl ?_
 refine .cons (.subW .none (.s rfl) (.s rfl)) rfl ?_
 obtain ⟨j1, hv2, h⟩ := bnd_some h
 refine .cons (.re hv2 (.assign .none (.s rfl))) rfl ?_
 refine .nil (.then ?_)
 refine .seq ?_
 obtain ⟨j_3, h, hK3⟩ := bind_some h
 refine .thenJ (ι := (Int × (List Int))) (fun j_3 => [(10, ⟨True, rep j_3.1⟩)]) (fun j_3 => [(58, some (CPred.at s58 (rowV 3 j_3.2)))]) (fun s => j_3 = s) (.k 0 rfl (.k 2 rfl (.k 4 rfl .nil))) SubB.nil ?_ (fun j_3' hj3 => ?_)
 ·
  skip
  refine .block ?_
  refine .loopL h (fun s4_ => [(10, ⟨True, rep s4_.1⟩), (11, ⟨True, rep s4_.2.1⟩)]) (fun s4_ => [(58, some (CPred.at s58 (rowV 3 s4_.2.2)))]) (.k 10 rfl (.k 11 rfl .nil)) (.k 58 rfl .nil) (.k 0 rfl (.k 2 rfl (.k 4 rfl .nil))) SubB.nil (fun s4_ o_4 h hD4 => ?_)
  unfold slices_rotateCmpFunc_int_L1 at h
  refine .seq ?_
  refine .seq (.region [] mixed (by kernel_rfl) ?_)
  refine .cons (.move .none (.s rfl)) rfl ?_
  refine .cons (.move .none (.s rfl)) rfl ?_
  refine .cons (.neI .none (.s rfl) (.s rfl)) rfl ?_
  refine .nil (.then ?_)
  refine .cond (t := 20) rfl trivial (fun hb5 => ?_) (fun hb5 => ?_)
  ·
   replace h := bif_t h hb5
   refine .skip ?_
   refine .then ?_
   refine .block ?_
   refine .seq (.region [] mixed (by kernel_rfl) ?_)
   refine .cons (.move .none (.s rfl)) rfl ?_
   refine .cons (.move .none (.s rfl)) rfl ?_
   refine .cons (.gt .none (.s rfl) (.s rfl)) rfl ?_
   refine .nil (.then ?_)
   refine .cond (t := 23) rfl trivial (fun hb6 => ?_) (fun hb6 => ?_)
   ·
    replace h := bif_t h hb6
    refine .seq (.region [([], []), ([], []), ([], []), ([], []), ([], []), ([], []), ([], []), ([58], [58])] mixed (by kernel_rfl) ?_)
    refine .consA (.move .none (.s rfl)) rfl ?_
    refine .consA (.move .none (.s rfl)) rfl ?_
    refine .consA (.move .none (.s rfl)) rfl ?_
    refine .consA (.subW .none (.s rfl) (.s rfl)) rfl ?_
    refine .consA (.move .none (.s rfl)) rfl ?_
    refine .consA (.move .none (.s rfl)) rfl ?_
    refine .consA (.move .none (.s rfl)) rfl ?_
    obtain ⟨r1, hv7, h⟩ := bind_some h
    refine .consW (.callO [58] (slices_swapRangeCmpFunc_int_ok hv7) (.cons (.s rfl) (.cons (.s rfl) (.cons (.s rfl) (.cons (.s rfl) (.cons (.s rfl) .nil))))) (.cons (k := 58) rfl .nil) rfl (by decide) (by decide) (by intro d h; cases h; decide)) rfl rfl ?_
    refine .nil (.then ?_)
    refine .region [] mixed (by kernel_rfl) ?_
    refine .cons (.move .none (.s rfl)) rfl ?_
    refine .cons (.move .none (.s rfl)) rfl ?_
    refine .cons (.subW .none (.s rfl) (.s rfl)) rfl ?_
    obtain ⟨i2, hv8, h⟩ := bnd_some h
    refine .cons (.re hv8 (.assign .none (.s rfl))) rfl ?_
    refine .nil ?_
    refine .blkNormal ?_
    exact Ends.againL (some_eq h) (.k 10 rfl (.k 11 rfl (.k 0 rfl (.k 2 rfl (.k 4 rfl .nil))))) (.k 58 rfl .nil)
   ·
    replace h := bif_f h hb6
    refine .seq (.region [([], []), ([], []), ([], []), ([], []), ([], []), ([], []), ([], []), ([], []), ([], []), ([], []), ([], []), ([58], [58])] mixed (by kernel_rfl) ?_)
    refine .consA (.move .none (.s rfl)) rfl ?_
    refine .consA (.move .none (.s rfl)) rfl ?_
    refine .consA (.move .none (.s rfl)) rfl ?_
    refine .consA (.subW .none (.s rfl) (.s rfl)) rfl ?_
    refine .consA (.move .none (.s rfl)) rfl ?_
    refine .consA (.move .none (.s rfl)) rfl ?_
    refine .consA (.addW .none (.s rfl) (.s rfl)) rfl ?_
    refine .consA (.move .none (.s rfl)) rfl ?_
    refine .consA (.subW .none (.s rfl) (.s rfl)) rfl ?_
    refine .consA (.move .none (.s rfl)) rfl ?_
    refine .consA (.move .none (.s rfl)) rfl ?_
    obtain ⟨r2, hv9, h⟩ := bind_some h
    refine .consW (.callO [58] (slices_swapRangeCmpFunc_int_ok hv9) (.cons (.s rfl) (.cons (.s rfl) (.cons (.s rfl) (.cons (.s rfl) (.cons (.s rfl) .nil))))) (.cons (k := 58) rfl .nil) rfl (by decide) (by decide) (by intro d h; cases h; decide)) rfl rfl ?_
    refine .nil (.then ?_)
    refine .region [] mixed (by kernel_rfl) ?_
    refine .cons (.move .none (.s rfl)) rfl ?_
    refine .cons (.move .none (.s rfl)) rfl ?_
    refine .cons (.subW .none (.s rfl) (.s rfl)) rfl ?_
    obtain ⟨j2, hv10, h⟩ := bnd_some h
    refine .cons (.re hv10 (.assign .none (.s rfl))) rfl ?_
    refine .nil ?_
    refine .blkNormal ?_
    exact Ends.againL (some_eq h) (.k 10 rfl (.k 11 rfl (.k 0 rfl (.k 2 rfl (.k 4 rfl .nil))))) (.k 58 rfl .nil)
  ·
   replace h := bif_f h hb5
   refine .exit ?_
   refine .thenExit ?_
   refine .thenExit ?_
   refine .blkExit ?_
   replace h := hD4 _ (some_eq h)
   exact Ends.join _ (some_eq h) (.k 10 rfl (.k 0 rfl (.k 2 rfl (.k 4 rfl .nil)))) (.k 58 rfl .nil)
 ·
  subst hj3; have h := hK3; clear hK3
  refine .region [([], []), ([], []), ([], []), ([], []), ([], []), ([], []), ([], []), ([58], [58])] mixed (by kernel_rfl) ?_
  refine .consA (.move .none (.s rfl)) rfl ?_
  refine .consA (.move .none (.s rfl)) rfl ?_
  refine .consA (.move .none (.s rfl)) rfl ?_
  refine .consA (.subW .none (.s rfl) (.s rfl)) rfl ?_
  refine .consA (.move .none (.s rfl)) rfl ?_
  refine .consA (.move .none (.s rfl)) rfl ?_
  refine .consA (.move .none (.s rfl)) rfl ?_
  obtain ⟨r3, hv11, h⟩ := bind_some h
  refine .consW (.callO [58] (slices_swapRangeCmpFunc_int_ok hv11) (.cons (.s rfl) (.cons (.s rfl) (.cons (.s rfl) (.cons (.s rfl) (.cons (.s rfl) .nil))))) (.cons (k := 58) rfl .nil) rfl (by decide) (by decide) (by intro d h; cases h; decide)) rfl rfl ?_
  refine .nil ?_
  obtain rfl := some_eq h
  exact Ends.ret0O (.inr rfl) [58] Try.results144 (by decide) (.held rfl .nil) 


end Go.Proofs.Ytbahnfkccdlpnaa
