/-
  The walks: what a function computes is what its plain function says (printed by a program of one's own).
-/
import Derived.Test.YtegjicmejjfgfaaLanWa1
set_option maxRecDepth 100000
set_option linter.unusedSimpArgs false
set_option linter.unusedVariables false
namespace Go.Proofs.Ytegjicmejjfgfaa
open Go Go.DB Go.RowKit

theorem law_routes_ok  {r : Bool}  (h : law_routes  = some r) : FSpec Try.prog 17 [] (rep r) := by
  unfold law_routes at h
  refine FSpec.intro (n := 12) fnok17 Try.func17 rfl Try.ntmps17 rfl (fun F => ?_)
  refine Cod.seq ?_
  refine Cod.region [] mixed (by kernel_rfl) ?_
  refine Chain.cons (StepOK.assign .none .bool) rfl ?_
  refine Chain.nil ?_
  refine Ends.then ?_
  refine Cod.seq ?_
  refine Cod.region [([], []), ([], []), ([], [1]), ([1], [1])] mixed (by kernel_rfl) ?_
  refine Chain.consA (StepOK.buildF (y := (⟨9, (0 : Int)⟩ : Point)) .none bu53 zc53 rfl (.cons (.int (by decide)) .nil) (.cons rfl sf53_0 .nil)) rfl ?_
  obtain ⟨v1, hv1, h⟩ := bnd_some h
  refine Chain.consA (StepOK.re hv1 (StepOK.buildF (y := (⟨(⟨(0 : Int), (0 : Int)⟩ : Point), 2, (⟨9, (0 : Int)⟩ : Point), 4, ([] : (List Box)), 1⟩ : Task)) .none bu55 zc55 rfl (.cons (.int (by decide)) (.cons (.tmp rfl (fun _ => trivial)) (.cons (.int (by decide)) (.cons (.int (by decide)) .nil)))) (.cons rfl sf55_1 (.cons rfl sf55_2 (.cons rfl sf55_3 (.cons rfl sf55_5 .nil)))))) rfl ?_
  refine Chain.consW (StepOK.alloc zo55 rfl) rfl rfl ?_
  refine Chain.consN (StepOK.store ty55 rfl rfl (.tmp rfl (fun _ => trivial))) rfl ?_
  refine Chain.nil ?_
  refine Ends.then ?_
  refine Cod.freeze (t := 1) rfl rfl SubB.nil rfl ?_
  refine Cod.seq ?_
  refine Cod.region [] mixed (by kernel_rfl) ?_
  refine Chain.cons (StepOK.load .none ty55 (.tmp rfl (fun _ => trivial))) rfl ?_
  obtain ⟨r1, hv2, h⟩ := bind_some h
  refine Chain.cons (StepOK.call .none (route_Check_ok hv2) (.cons (.tmp rfl (fun _ => trivial)) .nil)) rfl ?_
  refine Chain.cons (StepOK.eqI .none (.tmp rfl (fun _ => trivial)) (.int (by decide))) rfl ?_
  refine Chain.cons (StepOK.move .none (.tmp rfl (fun _ => trivial))) rfl ?_
  refine Chain.cons (StepOK.buildF (y := (⟨(⟨(0 : Int), (0 : Int)⟩ : Point), (0 : Int), (⟨(0 : Int), (0 : Int)⟩ : Point), (0 : Int), ([] : (List Box)), (0 : Int)⟩ : Task)) (.at rfl rfl) bu55 zc55 rfl .nil .nil) rfl ?_
  obtain ⟨r2, hv3, h⟩ := bind_some h
  refine Chain.cons (StepOK.callIf (.at rfl rfl) fnok27 (fun hg => route_Check_ok ((fun hg => gd_some hv3 (hg.2)) hg)) (.cons (.tmp rfl id) .nil) (fun h => h)) rfl ?_
  refine Chain.cons (StepOK.eqI (.at rfl rfl) (.tmp rfl id) (.int (by decide))) rfl ?_
  refine Chain.cons (StepOK.pickAnd .none (.tmp rfl (fun _ => trivial)) (.tmp rfl id)) rfl ?_
  refine Chain.cons (StepOK.assign .none (.tmp rfl (fun _ => trivial))) rfl ?_
  refine Chain.nil ?_
  refine Ends.then ?_
  refine Cod.ret ?_
  obtain rfl := some_eq h
  exact Ends.ret1 (.inl rfl) Try.results17 (ResOK.tmp rfl trivial Imp.refl)

theorem ref_LanesOf_1_ok {i1 : Int} {j1 : Int} {c0_1 : (List Lane)} {r : Int}  (h : ref_LanesOf_1 i1 j1 c0_1 = some r) : FSpec Try.prog 63 [rep i1, rep j1, ref c0_1] (rep r) := by
  unfold ref_LanesOf_1 at h
  refine FSpec.intro (n := 17) fnok63 Try.func63 rfl Try.ntmps63 rfl (fun F => ?_)
  refine Cod.seq ?_
  refine Cod.region [] mixed (by kernel_rfl) ?_
  refine Chain.cons (StepOK.assign .none (.int (by decide))) rfl ?_
  refine Chain.nil ?_
  refine Ends.then ?_
  refine Cod.seq ?_
  refine Cod.region [] mixed (by kernel_rfl) ?_
  refine Chain.cons (StepOK.load .none ty41 (.tmp rfl (fun _ => trivial))) rfl ?_
  refine Chain.cons (StepOK.move .none (.tmp rfl (fun _ => trivial))) rfl ?_
  obtain ⟨hn1, h⟩ := need_some h
  refine Chain.cons (StepOK.indexAddr .none sl41 ty46 (.tmp rfl (fun _ => trivial)) (.tmp rfl (fun _ => trivial)) (fun _ => hn1)) rfl ?_
  refine Chain.cons (StepOK.fieldAddr .none fd46_0 hfd46_0 (.tmp rfl (fun _ => trivial))) rfl ?_
  refine Chain.cons (StepOK.load .none ty3 (.tmp rfl (fun _ => trivial))) rfl ?_
  refine Chain.cons (StepOK.load .none ty41 (.tmp rfl (fun _ => trivial))) rfl ?_
  refine Chain.cons (StepOK.move .none (.tmp rfl (fun _ => trivial))) rfl ?_
  obtain ⟨hn2, h⟩ := need_some h
  refine Chain.cons (StepOK.indexAddr .none sl41 ty46 (.tmp rfl (fun _ => trivial)) (.tmp rfl (fun _ => trivial)) (fun _ => hn2)) rfl ?_
  refine Chain.cons (StepOK.fieldAddr .none fd46_0 hfd46_0 (.tmp rfl (fun _ => trivial))) rfl ?_
  refine Chain.cons (StepOK.load .none ty3 (.tmp rfl (fun _ => trivial))) rfl ?_
  refine Chain.cons (StepOK.subW .none (.tmp rfl (fun _ => trivial)) (.tmp rfl (fun _ => trivial))) rfl ?_
  refine Chain.cons (StepOK.assign .none (.tmp rfl (fun _ => trivial))) rfl ?_
  refine Chain.nil ?_
  refine Ends.then ?_
  refine Cod.ret ?_
  obtain rfl := some_eq h
  exact Ends.ret1 (.inl rfl) Try.results63 (ResOK.tmp rfl trivial Imp.refl)

theorem slices_ContainsFunc_int_ok {s1 : (List Int)} {f1 : (Int → Option Bool)} {r : Bool}  (h : slices_ContainsFunc_int s1 f1 = some r) : FSpec Try.prog 64 [rep s1, fn1 Try.prog (rep (α := Bool)) f1] (rep r) := by
  unfold slices_ContainsFunc_int at h
  refine FSpec.intro (n := 9) fnok64 Try.func64 rfl Try.ntmps64 rfl (fun F => ?_)
  refine Cod.seq ?_
  refine Cod.region [] mixed (by kernel_rfl) ?_
  refine Chain.cons (StepOK.assign .none .bool) rfl ?_
  refine Chain.nil ?_
  refine Ends.then ?_
  refine Cod.seq ?_
  refine Cod.region [] mixed (by kernel_rfl) ?_
  refine Chain.cons (StepOK.move .none (.tmp rfl (fun _ => trivial))) rfl ?_
  refine Chain.cons (StepOK.move .none (.tmp rfl (fun _ => trivial))) rfl ?_
  obtain ⟨r1, hv1, h⟩ := bind_some h
  refine Chain.cons (StepOK.call .none (slices_IndexFunc_int_ok hv1) (.cons (.tmp rfl (fun _ => trivial)) (.cons (.tmp rfl (fun _ => trivial)) .nil))) rfl ?_
  refine Chain.cons (StepOK.ge .none (.tmp rfl (fun _ => trivial)) (.int (by decide))) rfl ?_
  refine Chain.cons (StepOK.assign .none (.tmp rfl (fun _ => trivial))) rfl ?_
  refine Chain.nil ?_
  refine Ends.then ?_
  refine Cod.ret ?_
  obtain rfl := some_eq h
  exact Ends.ret1 (.inl rfl) Try.results64 (ResOK.tmp rfl trivial Imp.refl)

theorem ref_LanesOf_2_ok {j1 : Int} {c0_1 : (List Int)} {c1_1 : Int} {c2_1 : (List Lane)} {c3_1 : Int} {r : Bool}  (h : ref_LanesOf_2 j1 c0_1 c1_1 c2_1 c3_1 = some r) : FSpec Try.prog 65 [rep j1, ref c0_1, ref c1_1, ref c2_1, ref c3_1] (rep r) := by
  unfold ref_LanesOf_2 at h
  refine FSpec.intro (n := 39) fnok65 Try.func65 rfl Try.ntmps65 rfl (fun F => ?_)
  refine Cod.seq ?_
  refine Cod.region [] mixed (by kernel_rfl) ?_
  refine Chain.cons (StepOK.assign .none .bool) rfl ?_
  refine Chain.nil ?_
  refine Ends.then ?_
  refine Cod.seq ?_
  refine Cod.region [] mixed (by kernel_rfl) ?_
  refine Chain.cons (StepOK.load .none ty42 (.tmp rfl (fun _ => trivial))) rfl ?_
  refine Chain.cons (StepOK.move .none (.tmp rfl (fun _ => trivial))) rfl ?_
  obtain ⟨hn1, h⟩ := need_some h
  refine Chain.cons (StepOK.indexAddr .none sl42 ty3 (.tmp rfl (fun _ => trivial)) (.tmp rfl (fun _ => trivial)) (fun _ => hn1)) rfl ?_
  refine Chain.cons (StepOK.load .none ty3 (.tmp rfl (fun _ => trivial))) rfl ?_
  refine Chain.cons (StepOK.load .none ty3 (.tmp rfl (fun _ => trivial))) rfl ?_
  refine Chain.cons (StepOK.eqI .none (.tmp rfl (fun _ => trivial)) (.tmp rfl (fun _ => trivial))) rfl ?_
  refine Chain.cons (StepOK.move .none (.tmp rfl (fun _ => trivial))) rfl ?_
  refine Chain.cons (StepOK.load (.at rfl rfl) ty41 (.tmp rfl (fun _ => trivial))) rfl ?_
  refine Chain.cons (StepOK.move (.at rfl rfl) (.tmp rfl (fun _ => trivial))) rfl ?_
  obtain ⟨hn2, h⟩ := need_some h
  refine Chain.cons (StepOK.indexAddr (.at rfl rfl) sl41 ty46 (.tmp rfl id) (.tmp rfl id) (fun hg => hn2 hg.2)) rfl ?_
  refine Chain.cons (StepOK.fieldAddr (.at rfl rfl) fd46_1 hfd46_1 (.tmp rfl id)) rfl ?_
  refine Chain.cons (StepOK.load (.at rfl rfl) ty3 (.tmp rfl id)) rfl ?_
  refine Chain.cons (StepOK.load (.at rfl rfl) ty41 (.tmp rfl (fun _ => trivial))) rfl ?_
  refine Chain.cons (StepOK.load (.at rfl rfl) ty3 (.tmp rfl (fun _ => trivial))) rfl ?_
  obtain ⟨hn3, h⟩ := need_some h
  refine Chain.cons (StepOK.indexAddr (.at rfl rfl) sl41 ty46 (.tmp rfl id) (.tmp rfl id) (fun hg => hn3 hg.2)) rfl ?_
  refine Chain.cons (StepOK.fieldAddr (.at rfl rfl) fd46_0 hfd46_0 (.tmp rfl id)) rfl ?_
  refine Chain.cons (StepOK.load (.at rfl rfl) ty3 (.tmp rfl id)) rfl ?_
  refine Chain.cons (StepOK.gt (.at rfl rfl) (.tmp rfl id) (.tmp rfl id)) rfl ?_
  refine Chain.cons (StepOK.pickAnd .none (.tmp rfl (fun _ => trivial)) (.tmp rfl id)) rfl ?_
  refine Chain.cons (StepOK.move .none (.tmp rfl (fun _ => trivial))) rfl ?_
  refine Chain.cons (StepOK.load (.at rfl rfl) ty41 (.tmp rfl (fun _ => trivial))) rfl ?_
  refine Chain.cons (StepOK.load (.at rfl rfl) ty3 (.tmp rfl (fun _ => trivial))) rfl ?_
  obtain ⟨hn4, h⟩ := need_some h
  refine Chain.cons (StepOK.indexAddr (.at rfl rfl) sl41 ty46 (.tmp rfl id) (.tmp rfl id) (fun hg => hn4 hg.2)) rfl ?_
  refine Chain.cons (StepOK.fieldAddr (.at rfl rfl) fd46_1 hfd46_1 (.tmp rfl id)) rfl ?_
  refine Chain.cons (StepOK.load (.at rfl rfl) ty3 (.tmp rfl id)) rfl ?_
  refine Chain.cons (StepOK.load (.at rfl rfl) ty41 (.tmp rfl (fun _ => trivial))) rfl ?_
  refine Chain.cons (StepOK.move (.at rfl rfl) (.tmp rfl (fun _ => trivial))) rfl ?_
  obtain ⟨hn5, h⟩ := need_some h
  refine Chain.cons (StepOK.indexAddr (.at rfl rfl) sl41 ty46 (.tmp rfl id) (.tmp rfl id) (fun hg => hn5 hg.2)) rfl ?_
  refine Chain.cons (StepOK.fieldAddr (.at rfl rfl) fd46_0 hfd46_0 (.tmp rfl id)) rfl ?_
  refine Chain.cons (StepOK.load (.at rfl rfl) ty3 (.tmp rfl id)) rfl ?_
  refine Chain.cons (StepOK.gt (.at rfl rfl) (.tmp rfl id) (.tmp rfl id)) rfl ?_
  refine Chain.cons (StepOK.pickAnd .none (.tmp rfl (fun _ => trivial)) (.tmp rfl id)) rfl ?_
  refine Chain.cons (StepOK.assign .none (.tmp rfl (fun _ => trivial))) rfl ?_
  refine Chain.nil ?_
  refine Ends.then ?_
  refine Cod.ret ?_
  obtain rfl := some_eq h
  exact Ends.ret1 (.inl rfl) Try.results65 (ResOK.tmp rfl trivial Imp.refl)

theorem ref_LanesOf_ok {l1 : (List Lane)} {r : (List Int)}  (h : ref_LanesOf l1 = some r) : FSpec Try.prog 22 [rep l1] (rep r) := by
  unfold ref_LanesOf at h
  refine FSpec.intro (n := 47) fnok22 Try.func22 rfl Try.ntmps22 rfl (fun F => ?_)
  refine Cod.seq ?_
  refine Cod.region [] mixed (by kernel_rfl) ?_
  refine Chain.cons (StepOK.box .none (.tmp rfl (fun _ => trivial))) rfl ?_
  refine Chain.cons (StepOK.assign .none (.const (x := ([] : (List Int))) (fun M w => ⟨_, ⟨none, 0, rfl, Nat.le_refl _, by decide, rfl⟩, rfl⟩))) rfl ?_
  refine Chain.nil ?_
  refine Ends.then ?_
  refine Cod.seq ?_
  refine Cod.region [([], [3])] mixed (by kernel_rfl) ?_
  refine Chain.consW (StepOK.nilRow (T := 3) (α := Int) rfl) rfl rfl ?_
  refine Chain.nil ?_
  refine Ends.then ?_
  refine Cod.nameRow (t := 3) (g := 5001) rfl rfl rfl (fun s5001 => ?_)
  refine Cod.seq ?_
  refine Cod.seq ?_
  refine Cod.region [] mixed (by kernel_rfl) ?_
  refine Chain.cons (StepOK.load .none ty41 (.tmp rfl (fun _ => trivial))) rfl ?_
  refine Chain.cons (StepOK.len .none sl41 (.tmp rfl (fun _ => trivial))) rfl ?_
  refine Chain.cons (StepOK.move .none (.int (by decide))) rfl ?_
  refine Chain.nil ?_
  refine Ends.then ?_
  obtain ⟨j_1, h, hK1⟩ := bind_some h
  refine Cod.thenJ (ι := (List Int)) (fun j_1 => []) (fun j_1 => [(3, some (rowV 3 j_1))]) (fun s => j_1 = s) (.cons (t := 1) rfl Sub.nil) SubB.nil ?_ (fun j_1' hj1 => ?_)
  · skip
    refine Cod.block ?_
    refine Cod.anon (t := 3) (g := 5001) rfl rfl trivial rfl ?_
    refine Cod.rforL h (fun p2_ => [(11, ⟨True, rep p2_.1⟩)]) (fun p2_ => [(3, some (rowV 3 p2_.2))]) (.cons (t := 11) rfl Sub.nil) (.cons (t := 3) rfl SubB.nil) (.cons (t := 1) rfl (.cons (t := 10) rfl Sub.nil)) SubB.nil (fun p2_ o_2 h hD2 => ?_)
    refine Cod.nameRow (t := 3) (g := 5002) rfl rfl rfl (fun s5002 => ?_)
    refine Cod.seq ?_
    refine Cod.region [] mixed (by kernel_rfl) ?_
    refine Chain.cons (StepOK.lt .none (.tmp rfl (fun _ => trivial)) (.tmp rfl (fun _ => trivial))) rfl ?_
    refine Chain.nil ?_
    refine Ends.then ?_
    refine Cod.seq ?_
    refine Cod.cond (t := 12) rfl trivial (fun hb3 => ?_) (fun hb3 => ?_)
    · replace h := bif_t h hb3
      refine Cod.skip ?_
      refine Ends.then ?_
      refine Cod.seq ?_
      obtain ⟨j_4, h, hK4⟩ := bind_some h
      unfold ref_LanesOf_L1 at h
      refine Cod.thenJ (ι := (List Int)) (fun j_4 => []) (fun j_4 => [(3, some (rowV 3 j_4))]) (fun s => j_4 = s) (.cons (t := 1) rfl (.cons (t := 10) rfl (.cons (t := 11) rfl Sub.nil))) SubB.nil ?_ (fun j_4' hj4 => ?_)
      · skip
        refine Cod.block ?_
        refine Cod.seq ?_
        refine Cod.region [] mixed (by kernel_rfl) ?_
        refine Chain.cons (StepOK.move .none (.tmp rfl (fun _ => trivial))) rfl ?_
        refine Chain.cons (StepOK.assign .none (.tmp rfl (fun _ => trivial))) rfl ?_
        refine Chain.nil ?_
        refine Ends.then ?_
        refine Cod.region [([], []), ([], []), ([], []), ([5002], [17, 5002]), ([17], [3, 17])] mixed (by kernel_rfl) ?_
        refine Chain.consA (StepOK.move .none (.tmp rfl (fun _ => trivial))) rfl ?_
        refine Chain.consA (StepOK.move .none (.tmp rfl (fun _ => trivial))) rfl ?_
        refine Chain.consA (StepOK.buildSlice (xs := [_]) .none sl42 ty3 hz3 (.cons (.tmp rfl (fun _ => trivial)) .nil) rfl (by decide)) rfl ?_
        obtain ⟨hn5, h⟩ := need_some h
        refine Chain.consW (StepOK.append (k := 5002) rk42 rfl (.told (.tmp rfl (fun _ => trivial)) rfl) (.tmp rfl (fun _ => trivial)) hn5) rfl rfl ?_
        refine Chain.consWD (StepOK.passRow rfl (.tmp rfl)) rfl rfl ?_
        refine Chain.nil ?_
        refine Ends.blkNormal ?_
        exact Ends.join _ (some_eq h) (.cons (t := 1) rfl (.cons (t := 10) rfl (.cons (t := 11) rfl Sub.nil))) (.cons (t := 3) rfl SubB.nil)
      · subst hj4; have h := hK4; clear hK4
        refine Cod.nameRow (t := 3) (g := 5003) rfl rfl rfl (fun s5003 => ?_)
        refine Cod.region [] mixed (by kernel_rfl) ?_
        refine Chain.cons (StepOK.addW .none (.tmp rfl (fun _ => trivial)) (.int (by decide))) rfl ?_
        refine Chain.cons (StepOK.move .none (.tmp rfl (fun _ => trivial))) rfl ?_
        refine Chain.nil ?_
        refine Ends.anon (t := 3) (g := 5003) rfl rfl trivial rfl ?_
        exact Ends.againL (some_eq h) (.cons (t := 11) rfl (.cons (t := 1) rfl (.cons (t := 10) rfl Sub.nil))) (.cons (t := 3) rfl SubB.nil)
    · replace h := bif_f h hb3
      refine Cod.exit ?_
      refine Ends.thenExit ?_
      refine Ends.thenExit ?_
      refine Ends.blkExit ?_
      refine Ends.anon (t := 3) (g := 5002) rfl rfl trivial rfl ?_
      replace h := hD2 _ (some_eq h)
      exact Ends.join _ (some_eq h) (.cons (t := 1) rfl Sub.nil) (.cons (t := 3) rfl SubB.nil)
  · subst hj1; have h := hK1; clear hK1
    refine Cod.nameRow (t := 3) (g := 5004) rfl rfl rfl (fun s5004 => ?_)
    refine Cod.seq ?_
    refine Cod.region [([], []), ([], []), ([5004], [5004])] mixed (by kernel_rfl) ?_
    refine Chain.consA (StepOK.move .none (.tmp rfl (fun _ => trivial))) rfl ?_
    refine Chain.consA (StepOK.makeFunc (ι := Int × Int × Int) (pre := fun i => (fun x0 x1 => ref_LanesOf_1 x0 x1 l1) i.1 i.2.1 = some i.2.2) (Ss := fun i => [rep i.1, rep i.2.1]) (S := fun i => rep i.2.2) .none fnok63 (fun i h => ref_LanesOf_1_ok h) (.cons (.tmp rfl (fun _ => trivial)) .nil)) rfl ?_
    obtain ⟨r1, hv6, h⟩ := bind_some h
    refine Chain.consW (StepOK.callO [5004] (slices_SortStableFunc_int_ok hv6) (.cons (.tmp rfl (fun _ => trivial)) (.cons (.tmp rfl (fun _ => trivial)) .nil)) (.cons (k := 5004) rfl .nil) rfl (by decide) (by decide) (by intro d h; cases h; decide)) rfl rfl ?_
    refine Chain.nil ?_
    refine Ends.then ?_
    refine Cod.freezeRow (g := 5004) (ts := [3]) rfl (.cons (t := 3) rfl trivial .nil) SubB.nil rfl ?_
    refine Cod.seq ?_
    refine Cod.region [([], []), ([], []), ([], [24]), ([], [5]), ([5, 24], [5, 24])] mixed (by kernel_rfl) ?_
    refine Chain.consA (StepOK.load .none ty41 (.tmp rfl (fun _ => trivial))) rfl ?_
    obtain ⟨v1, hv7, h⟩ := bnd_some h
    refine Chain.consA (StepOK.re hv7 (StepOK.len .none sl41 (.tmp rfl (fun _ => trivial)))) rfl ?_
    obtain ⟨hn8, h⟩ := need_some h
    refine Chain.consW (StepOK.makeSlice rk42 zo3 rfl (.tmp rfl (fun _ => trivial)) (.tmp rfl (fun _ => trivial)) hn8) rfl rfl ?_
    refine Chain.consW (StepOK.alloc zr42 rfl) rfl rfl ?_
    refine Chain.consN (StepOK.storeRow0 (k := 5) (t := 24) ty42 rfl rfl rfl rfl) rfl ?_
    refine Chain.nil ?_
    refine Ends.then ?_
    refine Cod.nameAt (t := 5) (g := 5005) rfl rfl (isBox_deep fun _ => isBox_cont) rfl (fun m5005 => ?_)
    refine Cod.open (k := 5005) (g := 5006) rfl rfl (fun s5006 => ?_)
    refine Cod.seq ?_
    refine Cod.seq ?_
    refine Cod.region [] mixed (by kernel_rfl) ?_
    refine Chain.cons (StepOK.move .none (.tmp rfl (fun _ => trivial))) rfl ?_
    refine Chain.cons (StepOK.len .none sl42 (.tmp rfl (fun _ => trivial))) rfl ?_
    refine Chain.cons (StepOK.move .none (.int (by decide))) rfl ?_
    refine Chain.nil ?_
    refine Ends.then ?_
    obtain ⟨c1, hv9, h⟩ := bnd_some h
    refine Cod.reB (t := 5006) rfl (congrArg (fun y => CPred.at s5006 (rowV 3 y)) hv9) ?_
    obtain ⟨j_10, h, hK10⟩ := bind_some h
    refine Cod.thenJ (ι := (List Int)) (fun j_10 => []) (fun j_10 => [(5006, some (CPred.at s5006 (rowV 3 j_10)))]) (fun s => j_10 = s) (.cons (t := 5) rfl Sub.nil) (.cons (t := 5005) rfl SubB.nil) ?_ (fun j_10' hj10 => ?_)
    · skip
      refine Cod.block ?_
      refine Cod.rforL h (fun p11_ => [(27, ⟨True, rep p11_.1⟩)]) (fun p11_ => [(5006, some (CPred.at s5006 (rowV 3 p11_.2)))]) (.cons (t := 27) rfl Sub.nil) (.cons (t := 5006) rfl SubB.nil) (.cons (t := 1) rfl (.cons (t := 3) rfl (.cons (t := 5) rfl (.cons (t := 25) rfl (.cons (t := 26) rfl Sub.nil))))) (.cons (t := 5005) rfl SubB.nil) (fun p11_ o_11 h hD11 => ?_)
      refine Cod.seq ?_
      refine Cod.region [] mixed (by kernel_rfl) ?_
      refine Chain.cons (StepOK.lt .none (.tmp rfl (fun _ => trivial)) (.tmp rfl (fun _ => trivial))) rfl ?_
      refine Chain.nil ?_
      refine Ends.then ?_
      refine Cod.seq ?_
      refine Cod.cond (t := 28) rfl trivial (fun hb12 => ?_) (fun hb12 => ?_)
      · replace h := bif_t h hb12
        refine Cod.skip ?_
        refine Ends.then ?_
        refine Cod.seq ?_
        obtain ⟨j_13, h, hK13⟩ := bind_some h
        unfold ref_LanesOf_L2 at h
        refine Cod.thenJ (ι := (List Int)) (fun j_13 => []) (fun j_13 => [(5006, some (CPred.at s5006 (rowV 3 j_13)))]) (fun s => j_13 = s) (.cons (t := 1) rfl (.cons (t := 3) rfl (.cons (t := 5) rfl (.cons (t := 25) rfl (.cons (t := 26) rfl (.cons (t := 27) rfl Sub.nil)))))) (.cons (t := 5005) rfl SubB.nil) ?_ (fun j_13' hj13 => ?_)
        · skip
          refine Cod.block ?_
          refine Cod.seq ?_
          refine Cod.region [([], []), ([], []), ([], []), ([], [7]), ([], []), ([7], [7])] mixed (by kernel_rfl) ?_
          refine Chain.consA (StepOK.move .none (.tmp rfl (fun _ => trivial))) rfl ?_
          obtain ⟨hn14, h⟩ := need_some h
          refine Chain.consA (StepOK.indexAddr .none sl42 ty3 (.tmp rfl (fun _ => trivial)) (.tmp rfl (fun _ => trivial)) (fun _ => hn14)) rfl ?_
          obtain ⟨v2, hv15, h⟩ := bnd_some h
          refine Chain.consA (StepOK.re hv15 (StepOK.load .none ty3 (.tmp rfl (fun _ => trivial)))) rfl ?_
          refine Chain.consW (StepOK.alloc zo3 rfl) rfl rfl ?_
          refine Chain.consA (StepOK.assign .none (.tmp rfl (fun _ => trivial))) rfl ?_
          refine Chain.consN (StepOK.store ty3 rfl rfl (.tmp rfl (fun _ => trivial))) rfl ?_
          refine Chain.nil ?_
          refine Ends.then ?_
          refine Cod.freeze (t := 7) rfl rfl (.cons (t := 5005) rfl (.cons (t := 5006) rfl SubB.nil)) rfl ?_
          refine Cod.seq ?_
          refine Cod.region [([], [8]), ([8], [8])] mixed (by kernel_rfl) ?_
          refine Chain.consW (StepOK.alloc zo3 rfl) rfl rfl ?_
          refine Chain.consN (StepOK.store ty3 rfl rfl (.int (by decide))) rfl ?_
          refine Chain.nil ?_
          refine Ends.then ?_
          refine Cod.freeze (t := 8) rfl rfl (.cons (t := 5005) rfl (.cons (t := 5006) rfl SubB.nil)) rfl ?_
          refine Cod.block ?_
          refine Cod.loopL h (fun s16_ => [(8, ⟨True, ref s16_⟩)]) (fun s16_ => []) (.cons (t := 8) rfl Sub.nil) SubB.nil (.cons (t := 1) rfl (.cons (t := 3) rfl (.cons (t := 5) rfl (.cons (t := 6) rfl (.cons (t := 7) rfl (.cons (t := 25) rfl (.cons (t := 26) rfl (.cons (t := 27) rfl Sub.nil)))))))) (.cons (t := 5005) rfl (.cons (t := 5006) rfl SubB.nil)) (fun s16_ o_16 h hD16 => ?_)
          unfold ref_LanesOf_L3 at h
          refine Cod.seq ?_
          refine Cod.block ?_
          refine Cod.seq ?_
          refine Cod.region [([], []), ([], []), ([], []), ([], []), ([5005, 5006], []), ([], [])] mixed (by kernel_rfl) ?_
          refine Chain.consA (StepOK.move .none (.tmp rfl (fun _ => trivial))) rfl ?_
          refine Chain.consA (StepOK.move .none (.tmp rfl (fun _ => trivial))) rfl ?_
          obtain ⟨hn17, h⟩ := need_some h
          refine Chain.consA (StepOK.slice .none sl42 ty3 (.tmp rfl (fun _ => trivial)) rfl (.tmp rfl (fun _ => trivial)) (fun _ => hn17)) rfl ?_
          refine Chain.consA (StepOK.makeFuncC (Cs := [isV (ptr m5005 0), ref s16_, ref l1, ref v2]) .none (.cons (.tmp rfl (fun _ => trivial)) (.cons (.tmp rfl (fun _ => trivial)) (.cons (.tmp rfl (fun _ => trivial)) (.cons (.tmp rfl (fun _ => trivial)) .nil))))) rfl ?_
          obtain ⟨r2, hv18, h⟩ := bind_some h
          refine Chain.consA (StepOK.callL .none fnok64 (fun hg => slices_ContainsFunc_int_ok  hv18) .rep (.cons (.tmp rfl (fun _ => trivial)) (.gen (LentTo.clo (ι := Int × Bool) (pre := fun i => (fun x0 => ref_LanesOf_2 x0 p11_.2 s16_ l1 v2) i.1 = some i.2) (Ss := fun i => [rep i.1]) (S := fun i => rep i.2) (.tmp rfl (fun _ => trivial)) fnok65 (.deep1 (k := 5005) (q := 5006) (x := (⟨s5006⟩ : Raw)) (y := p11_.2) rfl rfl rfl (fun M cs w hc hl => row_cells hc hl) (.same (.same (.same .nil)))) (fun i h => ref_LanesOf_2_ok h)) .nil))) rfl ?_
          refine Chain.consA (StepOK.not .none (.tmp rfl (fun _ => trivial))) rfl ?_
          refine Chain.nil ?_
          refine Ends.then ?_
          refine Cod.cond (t := 39) rfl trivial (fun hb19 => ?_) (fun hb19 => ?_)
          · replace h := bif_t h hb19
            refine Cod.seq ?_
            refine Cod.region [([5005], []), ([], []), ([], []), ([5006], []), ([5006], [5006])] mixed (by kernel_rfl) ?_
            refine Chain.consA (StepOK.loadAt0 (k := 5005) .none tr42 rfl (.tmp rfl (fun _ => trivial))) rfl ?_
            refine Chain.consA (StepOK.load .none ty3 (.tmp rfl (fun _ => trivial))) rfl ?_
            refine Chain.consA (StepOK.load .none ty3 (.tmp rfl (fun _ => trivial))) rfl ?_
            obtain ⟨hn20, h⟩ := need_some h
            refine Chain.consA (StepOK.indexAddrO (k := 5006) .none sl42 ty3 (.tmp rfl (fun _ => trivial)) rfl (.tmp rfl (fun _ => trivial)) (fun _ => hn20)) rfl ?_
            refine Chain.consN (StepOK.storeElem0 (k := 5006) ty3 (.tmp rfl (fun _ => trivial)) rfl (.tmp rfl (fun _ => trivial)) hn20) rfl ?_
            refine Chain.nil ?_
            refine Ends.then ?_
            obtain ⟨c2, hv21, h⟩ := bnd_some h
            refine Cod.reB (t := 5006) rfl (congrArg (fun y => CPred.at s5006 (rowV 3 y)) hv21) ?_
            refine Cod.exit ?_
            refine Ends.blkExitNe (by decide) ?_
            refine Ends.thenExit ?_
            refine Ends.thenExit ?_
            refine Ends.blkExit ?_
            refine Ends.blkNormal ?_
            replace h := hD16 _ (some_eq h)
            exact Ends.join _ (some_eq h) (.cons (t := 1) rfl (.cons (t := 3) rfl (.cons (t := 5) rfl (.cons (t := 25) rfl (.cons (t := 26) rfl (.cons (t := 27) rfl Sub.nil)))))) (.cons (t := 5006) rfl (.cons (t := 5005) rfl SubB.nil))
          · replace h := bif_f h hb19
            refine Cod.skip ?_
            refine Ends.blkNormal ?_
            refine Ends.then ?_
            refine Cod.seq ?_
            refine Cod.seq ?_
            refine Cod.region [] mixed (by kernel_rfl) ?_
            refine Chain.cons (StepOK.load .none ty3 (.tmp rfl (fun _ => trivial))) rfl ?_
            refine Chain.nil ?_
            refine Ends.then ?_
            refine Cod.region [([], [8]), ([8], [8])] mixed (by kernel_rfl) ?_
            refine Chain.consW (StepOK.alloc zo3 rfl) rfl rfl ?_
            refine Chain.consN (StepOK.store ty3 rfl rfl (.tmp rfl (fun _ => trivial))) rfl ?_
            refine Chain.nil ?_
            refine Ends.then ?_
            refine Cod.nameBox (t := 8) (g := 5007) rfl rfl (fun m5007 => ?_)
            refine Cod.region [([5007], []), ([], []), ([5007], [5007])] mixed (by kernel_rfl) ?_
            refine Chain.consA (StepOK.loadAt0 (k := 5007) .none ty3 rfl (.tmp rfl (fun _ => trivial))) rfl ?_
            obtain ⟨v3, hv22, h⟩ := bnd_some h
            refine Chain.consA (StepOK.re hv22 (StepOK.addW .none (.tmp rfl (fun _ => trivial)) (.int (by decide)))) rfl ?_
            refine Chain.consN (StepOK.storeAt0 (g := 5007) ty3 rfl (.tmp rfl (fun _ => trivial)) (.tmp rfl (fun _ => trivial))) rfl ?_
            refine Chain.nil ?_
            refine Ends.freezeBox (g := 5007) (ts := [8]) rfl (.cons (t := 8) rfl trivial .nil) (.cons (t := 5005) rfl (.cons (t := 5006) rfl SubB.nil)) rfl ?_
            exact Ends.againL (some_eq h) (.cons (t := 8) rfl (.cons (t := 1) rfl (.cons (t := 3) rfl (.cons (t := 5) rfl (.cons (t := 6) rfl (.cons (t := 7) rfl (.cons (t := 25) rfl (.cons (t := 26) rfl (.cons (t := 27) rfl Sub.nil))))))))) (.cons (t := 5005) rfl (.cons (t := 5006) rfl SubB.nil))
        · subst hj13; have h := hK13; clear hK13
          refine Cod.region [] mixed (by kernel_rfl) ?_
          refine Chain.cons (StepOK.addW .none (.tmp rfl (fun _ => trivial)) (.int (by decide))) rfl ?_
          refine Chain.cons (StepOK.move .none (.tmp rfl (fun _ => trivial))) rfl ?_
          refine Chain.nil ?_
          exact Ends.againL (some_eq h) (.cons (t := 27) rfl (.cons (t := 1) rfl (.cons (t := 3) rfl (.cons (t := 5) rfl (.cons (t := 25) rfl (.cons (t := 26) rfl Sub.nil)))))) (.cons (t := 5006) rfl (.cons (t := 5005) rfl SubB.nil))
      · replace h := bif_f h hb12
        refine Cod.exit ?_
        refine Ends.thenExit ?_
        refine Ends.thenExit ?_
        refine Ends.blkExit ?_
        replace h := hD11 _ (some_eq h)
        exact Ends.join _ (some_eq h) (.cons (t := 5) rfl Sub.nil) (.cons (t := 5006) rfl (.cons (t := 5005) rfl SubB.nil))
    · subst hj10; have h := hK10; clear hK10
      refine Cod.seq ?_
      refine Cod.region [([5005], []), ([], [])] mixed (by kernel_rfl) ?_
      refine Chain.consA (StepOK.loadAt0 (k := 5005) .none tr42 rfl (.tmp rfl (fun _ => trivial))) rfl ?_
      refine Chain.consA (StepOK.assign .none (.tmp rfl (fun _ => trivial))) rfl ?_
      refine Chain.nil ?_
      refine Ends.then ?_
      refine Cod.freezeRow (g := 5006) (ts := [2]) rfl (.cons (t := 2) rfl trivial .nil) SubB.nil rfl ?_
      refine Cod.ret ?_
      obtain rfl := some_eq h
      exact Ends.ret1 (.inl rfl) Try.results22 (ResOK.tmp rfl trivial Imp.refl)

theorem slices_Equal_int_ok {s1_1 : (List Int)} {s2_1 : (List Int)} {r : Bool}  (h : slices_Equal_int s1_1 s2_1 = some r) : FSpec Try.prog 21 [rep s1_1, rep s2_1] (rep r) := by
  unfold slices_Equal_int at h
  refine FSpec.intro (n := 26) fnok21 Try.func21 rfl Try.ntmps21 rfl (fun F => ?_)
  refine Cod.seq ?_
  refine Cod.region [] mixed (by kernel_rfl) ?_
  refine Chain.cons (StepOK.assign .none .bool) rfl ?_
  refine Chain.nil ?_
  refine Ends.then ?_
  refine Cod.seq ?_
  refine Cod.seq ?_
  refine Cod.region [] mixed (by kernel_rfl) ?_
  refine Chain.cons (StepOK.move .none (.tmp rfl (fun _ => trivial))) rfl ?_
  refine Chain.cons (StepOK.len .none sl42 (.tmp rfl (fun _ => trivial))) rfl ?_
  refine Chain.cons (StepOK.move .none (.tmp rfl (fun _ => trivial))) rfl ?_
  refine Chain.cons (StepOK.len .none sl42 (.tmp rfl (fun _ => trivial))) rfl ?_
  refine Chain.cons (StepOK.neI .none (.tmp rfl (fun _ => trivial)) (.tmp rfl (fun _ => trivial))) rfl ?_
  refine Chain.nil ?_
  refine Ends.then ?_
  refine Cod.cond (t := 10) rfl trivial (fun hb1 => ?_) (fun hb1 => ?_)
  · replace h := bif_t h hb1
    refine Cod.seq ?_
    refine Cod.region [] mixed (by kernel_rfl) ?_
    refine Chain.cons (StepOK.assign .none .bool) rfl ?_
    refine Chain.nil ?_
    refine Ends.then ?_
    refine Cod.ret ?_
    refine Ends.thenRet ?_
    obtain rfl := some_eq h
    exact Ends.ret1 (.inl rfl) Try.results21 (ResOK.tmp rfl trivial Imp.refl)
  · replace h := bif_f h hb1
    refine Cod.skip ?_
    refine Ends.then ?_
    refine Cod.seq ?_
    refine Cod.seq ?_
    refine Cod.region [] mixed (by kernel_rfl) ?_
    refine Chain.cons (StepOK.move .none (.tmp rfl (fun _ => trivial))) rfl ?_
    refine Chain.cons (StepOK.len .none sl42 (.tmp rfl (fun _ => trivial))) rfl ?_
    refine Chain.cons (StepOK.move .none (.int (by decide))) rfl ?_
    refine Chain.nil ?_
    refine Ends.then ?_
    obtain ⟨o_2, h, hK2⟩ := bindR_some h
    refine Cod.thenJ (ι := Unit) (fun j_2 => []) (fun j_2 => []) (fun s => o_2 = Res.nx s) Sub.nil SubB.nil ?_ (fun j_2 hj2 => ?_)
    · skip
      refine Cod.block ?_
      refine Cod.rforEL h (fun p3_ => [(13, ⟨True, rep p3_.1⟩)]) (fun p3_ => []) (.cons (t := 13) rfl Sub.nil) SubB.nil (.cons (t := 0) rfl (.cons (t := 1) rfl (.cons (t := 12) rfl Sub.nil))) SubB.nil (fun p3_ o_3 h hD3 => ?_)
      refine Cod.seq ?_
      refine Cod.region [] mixed (by kernel_rfl) ?_
      refine Chain.cons (StepOK.lt .none (.tmp rfl (fun _ => trivial)) (.tmp rfl (fun _ => trivial))) rfl ?_
      refine Chain.nil ?_
      refine Ends.then ?_
      refine Cod.seq ?_
      refine Cod.cond (t := 14) rfl trivial (fun hb4 => ?_) (fun hb4 => ?_)
      · replace h := bif_t h hb4
        refine Cod.skip ?_
        refine Ends.then ?_
        refine Cod.seq ?_
        obtain ⟨o_5, h, hK5⟩ := bindD_some h
        unfold slices_Equal_int_L1 at h
        refine Cod.thenJ (ι := Unit) (fun j_5 => []) (fun j_5 => []) (fun s => o_5 = Res.nx s) (.cons (t := 0) rfl (.cons (t := 1) rfl (.cons (t := 12) rfl (.cons (t := 13) rfl Sub.nil)))) SubB.nil ?_ (fun j_5 hj5 => ?_)
        · skip
          refine Cod.block ?_
          refine Cod.seq ?_
          refine Cod.region [] mixed (by kernel_rfl) ?_
          refine Chain.cons (StepOK.move .none (.tmp rfl (fun _ => trivial))) rfl ?_
          refine Chain.cons (StepOK.assign .none (.tmp rfl (fun _ => trivial))) rfl ?_
          refine Chain.nil ?_
          refine Ends.then ?_
          refine Cod.seq ?_
          refine Cod.region [] mixed (by kernel_rfl) ?_
          refine Chain.cons (StepOK.move .none (.tmp rfl (fun _ => trivial))) rfl ?_
          refine Chain.cons (StepOK.move .none (.tmp rfl (fun _ => trivial))) rfl ?_
          obtain ⟨hn6, h⟩ := need_some h
          refine Chain.cons (StepOK.indexAddr .none sl42 ty3 (.tmp rfl (fun _ => trivial)) (.tmp rfl (fun _ => trivial)) (fun _ => hn6)) rfl ?_
          refine Chain.cons (StepOK.load .none ty3 (.tmp rfl (fun _ => trivial))) rfl ?_
          refine Chain.cons (StepOK.move .none (.tmp rfl (fun _ => trivial))) rfl ?_
          refine Chain.cons (StepOK.move .none (.tmp rfl (fun _ => trivial))) rfl ?_
          obtain ⟨hn7, h⟩ := need_some h
          refine Chain.cons (StepOK.indexAddr .none sl42 ty3 (.tmp rfl (fun _ => trivial)) (.tmp rfl (fun _ => trivial)) (fun _ => hn7)) rfl ?_
          refine Chain.cons (StepOK.load .none ty3 (.tmp rfl (fun _ => trivial))) rfl ?_
          refine Chain.cons (StepOK.neI .none (.tmp rfl (fun _ => trivial)) (.tmp rfl (fun _ => trivial))) rfl ?_
          refine Chain.nil ?_
          refine Ends.then ?_
          refine Cod.cond (t := 24) rfl trivial (fun hb8 => ?_) (fun hb8 => ?_)
          · replace h := bif_t h hb8
            refine Cod.seq ?_
            refine Cod.region [] mixed (by kernel_rfl) ?_
            refine Chain.cons (StepOK.assign .none .bool) rfl ?_
            refine Chain.nil ?_
            refine Ends.then ?_
            refine Cod.ret ?_
            refine Ends.blkRet ?_
            refine Ends.thenRet ?_
            refine Ends.thenRet ?_
            refine Ends.blkRet ?_
            refine Ends.thenRet ?_
            replace h := resd_ab hK5 (some_eq h)
            replace h := hD3 _ (some_eq h)
            replace h := resb_ab hK2 (some_eq h)
            obtain rfl := some_eq h
            exact Ends.ret1 (.inl rfl) Try.results21 (ResOK.tmp rfl trivial Imp.refl)
          · replace h := bif_f h hb8
            refine Cod.skip ?_
            refine Ends.blkNormal ?_
            exact Ends.join _ (some_eq h) (.cons (t := 0) rfl (.cons (t := 1) rfl (.cons (t := 12) rfl (.cons (t := 13) rfl Sub.nil)))) SubB.nil
        · have h := resd_nx hK5 hj5
          refine Cod.region [] mixed (by kernel_rfl) ?_
          refine Chain.cons (StepOK.addW .none (.tmp rfl (fun _ => trivial)) (.int (by decide))) rfl ?_
          refine Chain.cons (StepOK.move .none (.tmp rfl (fun _ => trivial))) rfl ?_
          refine Chain.nil ?_
          exact Ends.againL (some_eq h) (.cons (t := 13) rfl (.cons (t := 0) rfl (.cons (t := 1) rfl (.cons (t := 12) rfl Sub.nil)))) SubB.nil
      · replace h := bif_f h hb4
        refine Cod.exit ?_
        refine Ends.thenExit ?_
        refine Ends.thenExit ?_
        refine Ends.blkExit ?_
        replace h := hD3 _ (some_eq h)
        exact Ends.join _ (some_eq h) Sub.nil SubB.nil
    · have h := resb_nx hK2 hj2
      refine Cod.seq ?_
      refine Cod.region [] mixed (by kernel_rfl) ?_
      refine Chain.cons (StepOK.assign .none .bool) rfl ?_
      refine Chain.nil ?_
      refine Ends.then ?_
      refine Cod.ret ?_
      obtain rfl := some_eq h
      exact Ends.ret1 (.inl rfl) Try.results21 (ResOK.tmp rfl trivial Imp.refl)

theorem slices_Max_int_ok {x1 : (List Int)} {r : Int}  (h : slices_Max_int x1 = some r) : FSpec Try.prog 23 [rep x1] (rep r) := by
  unfold slices_Max_int at h
  refine FSpec.intro (n := 25) fnok23 Try.func23 rfl Try.ntmps23 rfl (fun F => ?_)
  refine Cod.seq ?_
  refine Cod.region [] mixed (by kernel_rfl) ?_
  refine Chain.cons (StepOK.assign .none (.int (by decide))) rfl ?_
  refine Chain.nil ?_
  refine Ends.then ?_
  refine Cod.seq ?_
  refine Cod.seq ?_
  refine Cod.region [] mixed (by kernel_rfl) ?_
  refine Chain.cons (StepOK.move .none (.tmp rfl (fun _ => trivial))) rfl ?_
  refine Chain.cons (StepOK.len .none sl42 (.tmp rfl (fun _ => trivial))) rfl ?_
  refine Chain.cons (StepOK.lt .none (.tmp rfl (fun _ => trivial)) (.int (by decide))) rfl ?_
  refine Chain.nil ?_
  refine Ends.then ?_
  refine Cod.cond (t := 7) rfl trivial (fun hb1 => ?_) (fun hb1 => ?_)
  · replace h := bif_t h hb1
    cases h
  · replace h := bif_f h hb1
    refine Cod.skip ?_
    refine Ends.then ?_
    refine Cod.seq ?_
    refine Cod.region [] mixed (by kernel_rfl) ?_
    refine Chain.cons (StepOK.move .none (.tmp rfl (fun _ => trivial))) rfl ?_
    obtain ⟨hn2, h⟩ := need_some h
    refine Chain.cons (StepOK.indexAddr .none sl42 ty3 (.tmp rfl (fun _ => trivial)) (.int (by decide)) (fun _ => hn2)) rfl ?_
    refine Chain.cons (StepOK.load .none ty3 (.tmp rfl (fun _ => trivial))) rfl ?_
    obtain ⟨m1, hv3, h⟩ := bnd_some h
    refine Chain.cons (StepOK.re hv3 (StepOK.assign .none (.tmp rfl (fun _ => trivial)))) rfl ?_
    refine Chain.nil ?_
    refine Ends.then ?_
    refine Cod.seq ?_
    refine Cod.seq ?_
    refine Cod.region [] mixed (by kernel_rfl) ?_
    refine Chain.cons (StepOK.assign .none (.int (by decide))) rfl ?_
    refine Chain.nil ?_
    refine Ends.then ?_
    obtain ⟨j_4, h, hK4⟩ := bind_some h
    refine Cod.thenJ (ι := Int) (fun j_4 => [(3, ⟨True, rep j_4⟩)]) (fun j_4 => []) (fun s => j_4 = s) Sub.nil SubB.nil ?_ (fun j_4' hj4 => ?_)
    · skip
      refine Cod.block ?_
      refine Cod.loopL h (fun s5_ => [(3, ⟨True, rep s5_.1⟩), (4, ⟨True, rep s5_.2⟩)]) (fun s5_ => []) (.cons (t := 3) rfl (.cons (t := 4) rfl Sub.nil)) SubB.nil (.cons (t := 0) rfl Sub.nil) SubB.nil (fun s5_ o_5 h hD5 => ?_)
      unfold slices_Max_int_L1 at h
      refine Cod.seq ?_
      refine Cod.seq ?_
      refine Cod.region [] mixed (by kernel_rfl) ?_
      refine Chain.cons (StepOK.move .none (.tmp rfl (fun _ => trivial))) rfl ?_
      refine Chain.cons (StepOK.move .none (.tmp rfl (fun _ => trivial))) rfl ?_
      refine Chain.cons (StepOK.len .none sl42 (.tmp rfl (fun _ => trivial))) rfl ?_
      refine Chain.cons (StepOK.lt .none (.tmp rfl (fun _ => trivial)) (.tmp rfl (fun _ => trivial))) rfl ?_
      refine Chain.nil ?_
      refine Ends.then ?_
      refine Cod.cond (t := 15) rfl trivial (fun hb6 => ?_) (fun hb6 => ?_)
      · replace h := bif_t h hb6
        refine Cod.skip ?_
        refine Ends.then ?_
        refine Cod.seq ?_
        refine Cod.block ?_
        refine Cod.region [] mixed (by kernel_rfl) ?_
        refine Chain.cons (StepOK.move .none (.tmp rfl (fun _ => trivial))) rfl ?_
        refine Chain.cons (StepOK.move .none (.tmp rfl (fun _ => trivial))) rfl ?_
        refine Chain.cons (StepOK.move .none (.tmp rfl (fun _ => trivial))) rfl ?_
        obtain ⟨hn7, h⟩ := need_some h
        refine Chain.cons (StepOK.indexAddr .none sl42 ty3 (.tmp rfl (fun _ => trivial)) (.tmp rfl (fun _ => trivial)) (fun _ => hn7)) rfl ?_
        refine Chain.cons (StepOK.load .none ty3 (.tmp rfl (fun _ => trivial))) rfl ?_
        refine Chain.cons (StepOK.max2 .none (.tmp rfl (fun _ => trivial)) (.tmp rfl (fun _ => trivial))) rfl ?_
        obtain ⟨m2, hv8, h⟩ := bnd_some h
        refine Chain.cons (StepOK.re hv8 (StepOK.assign .none (.tmp rfl (fun _ => trivial)))) rfl ?_
        refine Chain.nil ?_
        refine Ends.blkNormal ?_
        refine Ends.then ?_
        refine Cod.region [] mixed (by kernel_rfl) ?_
        refine Chain.cons (StepOK.move .none (.tmp rfl (fun _ => trivial))) rfl ?_
        refine Chain.cons (StepOK.addW .none (.tmp rfl (fun _ => trivial)) (.int (by decide))) rfl ?_
        obtain ⟨i1, hv9, h⟩ := bnd_some h
        refine Chain.cons (StepOK.re hv9 (StepOK.assign .none (.tmp rfl (fun _ => trivial)))) rfl ?_
        refine Chain.nil ?_
        exact Ends.againL (some_eq h) (.cons (t := 3) rfl (.cons (t := 4) rfl (.cons (t := 0) rfl Sub.nil))) SubB.nil
      · replace h := bif_f h hb6
        refine Cod.exit ?_
        refine Ends.thenExit ?_
        refine Ends.thenExit ?_
        refine Ends.blkExit ?_
        replace h := hD5 _ (some_eq h)
        exact Ends.join _ (some_eq h) (.cons (t := 3) rfl Sub.nil) SubB.nil
    · subst hj4; have h := hK4; clear hK4
      refine Cod.seq ?_
      refine Cod.region [] mixed (by kernel_rfl) ?_
      refine Chain.cons (StepOK.move .none (.tmp rfl (fun _ => trivial))) rfl ?_
      refine Chain.cons (StepOK.assign .none (.tmp rfl (fun _ => trivial))) rfl ?_
      refine Chain.nil ?_
      refine Ends.then ?_
      refine Cod.ret ?_
      obtain rfl := some_eq h
      exact Ends.ret1 (.inl rfl) Try.results23 (ResOK.tmp rfl trivial Imp.refl)

theorem ref_Depth_ok {l1 : (List Lane)} {r : Int}  (h : ref_Depth l1 = some r) : FSpec Try.prog 24 [rep l1] (rep r) := by
  unfold ref_Depth at h
  refine FSpec.intro (n := 41) fnok24 Try.func24 rfl Try.ntmps24 rfl (fun F => ?_)
  refine Cod.seq ?_
  refine Cod.region [] mixed (by kernel_rfl) ?_
  refine Chain.cons (StepOK.assign .none (.int (by decide))) rfl ?_
  refine Chain.nil ?_
  refine Ends.then ?_
  refine Cod.seq ?_
  refine Cod.region [] mixed (by kernel_rfl) ?_
  refine Chain.cons (StepOK.assign .none (.int (by decide))) rfl ?_
  refine Chain.nil ?_
  refine Ends.then ?_
  refine Cod.seq ?_
  refine Cod.seq ?_
  refine Cod.region [] mixed (by kernel_rfl) ?_
  refine Chain.cons (StepOK.move .none (.tmp rfl (fun _ => trivial))) rfl ?_
  refine Chain.cons (StepOK.len .none sl41 (.tmp rfl (fun _ => trivial))) rfl ?_
  refine Chain.cons (StepOK.move .none (.int (by decide))) rfl ?_
  refine Chain.nil ?_
  refine Ends.then ?_
  obtain ⟨j_1, h, hK1⟩ := bind_some h
  refine Cod.thenJ (ι := Int) (fun j_1 => [(3, ⟨True, rep j_1⟩)]) (fun j_1 => []) (fun s => j_1 = s) Sub.nil SubB.nil ?_ (fun j_1' hj1 => ?_)
  · skip
    refine Cod.block ?_
    refine Cod.rforL h (fun p2_ => [(11, ⟨True, rep p2_.1⟩), (3, ⟨True, rep p2_.2⟩)]) (fun p2_ => []) (.cons (t := 11) rfl (.cons (t := 3) rfl Sub.nil)) SubB.nil (.cons (t := 0) rfl (.cons (t := 9) rfl (.cons (t := 10) rfl Sub.nil))) SubB.nil (fun p2_ o_2 h hD2 => ?_)
    refine Cod.seq ?_
    refine Cod.region [] mixed (by kernel_rfl) ?_
    refine Chain.cons (StepOK.lt .none (.tmp rfl (fun _ => trivial)) (.tmp rfl (fun _ => trivial))) rfl ?_
    refine Chain.nil ?_
    refine Ends.then ?_
    refine Cod.seq ?_
    refine Cod.cond (t := 12) rfl trivial (fun hb3 => ?_) (fun hb3 => ?_)
    · replace h := bif_t h hb3
      refine Cod.skip ?_
      refine Ends.then ?_
      refine Cod.seq ?_
      obtain ⟨j_4, h, hK4⟩ := bind_some h
      unfold ref_Depth_L1 at h
      refine Cod.thenJ (ι := Int) (fun j_4 => [(3, ⟨True, rep j_4⟩)]) (fun j_4 => []) (fun s => j_4 = s) (.cons (t := 0) rfl (.cons (t := 9) rfl (.cons (t := 10) rfl (.cons (t := 11) rfl Sub.nil)))) SubB.nil ?_ (fun j_4' hj4 => ?_)
      · skip
        refine Cod.block ?_
        refine Cod.seq ?_
        refine Cod.region [([], []), ([], []), ([], [5]), ([5], [5])] mixed (by kernel_rfl) ?_
        obtain ⟨hn5, h⟩ := need_some h
        refine Chain.consA (StepOK.indexAddr .none sl41 ty46 (.tmp rfl (fun _ => trivial)) (.tmp rfl (fun _ => trivial)) (fun _ => hn5)) rfl ?_
        obtain ⟨v1, hv6, h⟩ := bnd_some h
        refine Chain.consA (StepOK.re hv6 (StepOK.load .none ty46 (.tmp rfl (fun _ => trivial)))) rfl ?_
        refine Chain.consW (StepOK.alloc zo46 rfl) rfl rfl ?_
        refine Chain.consN (StepOK.store ty46 rfl rfl (.tmp rfl (fun _ => trivial))) rfl ?_
        refine Chain.nil ?_
        refine Ends.then ?_
        refine Cod.freeze (t := 5) rfl rfl SubB.nil rfl ?_
        refine Cod.seq ?_
        refine Cod.region [] mixed (by kernel_rfl) ?_
        refine Chain.cons (StepOK.assign .none (.int (by decide))) rfl ?_
        refine Chain.nil ?_
        refine Ends.then ?_
        refine Cod.seq ?_
        refine Cod.seq ?_
        refine Cod.region [] mixed (by kernel_rfl) ?_
        refine Chain.cons (StepOK.move .none (.tmp rfl (fun _ => trivial))) rfl ?_
        refine Chain.cons (StepOK.len .none sl41 (.tmp rfl (fun _ => trivial))) rfl ?_
        refine Chain.cons (StepOK.move .none (.int (by decide))) rfl ?_
        refine Chain.nil ?_
        refine Ends.then ?_
        obtain ⟨j_7, h, hK7⟩ := bind_some h
        refine Cod.thenJ (ι := Int) (fun j_7 => [(6, ⟨True, rep j_7⟩)]) (fun j_7 => []) (fun s => j_7 = s) (.cons (t := 0) rfl (.cons (t := 3) rfl (.cons (t := 9) rfl (.cons (t := 10) rfl (.cons (t := 11) rfl Sub.nil))))) SubB.nil ?_ (fun j_7' hj7 => ?_)
        · skip
          refine Cod.block ?_
          refine Cod.rforL h (fun p8_ => [(17, ⟨True, rep p8_.1⟩), (6, ⟨True, rep p8_.2⟩)]) (fun p8_ => []) (.cons (t := 17) rfl (.cons (t := 6) rfl Sub.nil)) SubB.nil (.cons (t := 0) rfl (.cons (t := 3) rfl (.cons (t := 5) rfl (.cons (t := 9) rfl (.cons (t := 10) rfl (.cons (t := 11) rfl (.cons (t := 15) rfl (.cons (t := 16) rfl Sub.nil)))))))) SubB.nil (fun p8_ o_8 h hD8 => ?_)
          refine Cod.seq ?_
          refine Cod.region [] mixed (by kernel_rfl) ?_
          refine Chain.cons (StepOK.lt .none (.tmp rfl (fun _ => trivial)) (.tmp rfl (fun _ => trivial))) rfl ?_
          refine Chain.nil ?_
          refine Ends.then ?_
          refine Cod.seq ?_
          refine Cod.cond (t := 18) rfl trivial (fun hb9 => ?_) (fun hb9 => ?_)
          · replace h := bif_t h hb9
            refine Cod.skip ?_
            refine Ends.then ?_
            refine Cod.seq ?_
            obtain ⟨j_10, h, hK10⟩ := bind_some h
            unfold ref_Depth_L2 at h
            refine Cod.thenJ (ι := Int) (fun j_10 => [(6, ⟨True, rep j_10⟩)]) (fun j_10 => []) (fun s => j_10 = s) (.cons (t := 0) rfl (.cons (t := 3) rfl (.cons (t := 5) rfl (.cons (t := 9) rfl (.cons (t := 10) rfl (.cons (t := 11) rfl (.cons (t := 15) rfl (.cons (t := 16) rfl (.cons (t := 17) rfl Sub.nil))))))))) SubB.nil ?_ (fun j_10' hj10 => ?_)
            · skip
              refine Cod.block ?_
              refine Cod.seq ?_
              refine Cod.region [([], []), ([], []), ([], [8]), ([8], [8])] mixed (by kernel_rfl) ?_
              obtain ⟨hn11, h⟩ := need_some h
              refine Chain.consA (StepOK.indexAddr .none sl41 ty46 (.tmp rfl (fun _ => trivial)) (.tmp rfl (fun _ => trivial)) (fun _ => hn11)) rfl ?_
              obtain ⟨v2, hv12, h⟩ := bnd_some h
              refine Chain.consA (StepOK.re hv12 (StepOK.load .none ty46 (.tmp rfl (fun _ => trivial)))) rfl ?_
              refine Chain.consW (StepOK.alloc zo46 rfl) rfl rfl ?_
              refine Chain.consN (StepOK.store ty46 rfl rfl (.tmp rfl (fun _ => trivial))) rfl ?_
              refine Chain.nil ?_
              refine Ends.then ?_
              refine Cod.freeze (t := 8) rfl rfl SubB.nil rfl ?_
              refine Cod.seq ?_
              refine Cod.region [] mixed (by kernel_rfl) ?_
              refine Chain.cons (StepOK.fieldAddr .none fd46_0 hfd46_0 (.tmp rfl (fun _ => trivial))) rfl ?_
              refine Chain.cons (StepOK.load .none ty3 (.tmp rfl (fun _ => trivial))) rfl ?_
              refine Chain.cons (StepOK.fieldAddr .none fd46_0 hfd46_0 (.tmp rfl (fun _ => trivial))) rfl ?_
              refine Chain.cons (StepOK.load .none ty3 (.tmp rfl (fun _ => trivial))) rfl ?_
              refine Chain.cons (StepOK.le .none (.tmp rfl (fun _ => trivial)) (.tmp rfl (fun _ => trivial))) rfl ?_
              refine Chain.cons (StepOK.move .none (.tmp rfl (fun _ => trivial))) rfl ?_
              refine Chain.cons (StepOK.fieldAddr (.at rfl rfl) fd46_1 hfd46_1 (.tmp rfl (fun _ => trivial))) rfl ?_
              refine Chain.cons (StepOK.load (.at rfl rfl) ty3 (.tmp rfl id)) rfl ?_
              refine Chain.cons (StepOK.fieldAddr (.at rfl rfl) fd46_0 hfd46_0 (.tmp rfl (fun _ => trivial))) rfl ?_
              refine Chain.cons (StepOK.load (.at rfl rfl) ty3 (.tmp rfl id)) rfl ?_
              refine Chain.cons (StepOK.gt (.at rfl rfl) (.tmp rfl id) (.tmp rfl id)) rfl ?_
              refine Chain.cons (StepOK.pickAnd .none (.tmp rfl (fun _ => trivial)) (.tmp rfl id)) rfl ?_
              refine Chain.nil ?_
              refine Ends.then ?_
              refine Cod.cond (t := 32) rfl trivial (fun hb13 => ?_) (fun hb13 => ?_)
              · replace h := bif_t h hb13
                refine Cod.region [] mixed (by kernel_rfl) ?_
                refine Chain.cons (StepOK.move .none (.tmp rfl (fun _ => trivial))) rfl ?_
                refine Chain.cons (StepOK.addW .none (.tmp rfl (fun _ => trivial)) (.int (by decide))) rfl ?_
                obtain ⟨many1, hv14, h⟩ := bnd_some h
                refine Chain.cons (StepOK.re hv14 (StepOK.assign .none (.tmp rfl (fun _ => trivial)))) rfl ?_
                refine Chain.nil ?_
                refine Ends.blkNormal ?_
                exact Ends.join _ (some_eq h) (.cons (t := 6) rfl (.cons (t := 0) rfl (.cons (t := 3) rfl (.cons (t := 5) rfl (.cons (t := 9) rfl (.cons (t := 10) rfl (.cons (t := 11) rfl (.cons (t := 15) rfl (.cons (t := 16) rfl (.cons (t := 17) rfl Sub.nil)))))))))) SubB.nil
              · replace h := bif_f h hb13
                refine Cod.skip ?_
                refine Ends.blkNormal ?_
                exact Ends.join _ (some_eq h) (.cons (t := 6) rfl (.cons (t := 0) rfl (.cons (t := 3) rfl (.cons (t := 5) rfl (.cons (t := 9) rfl (.cons (t := 10) rfl (.cons (t := 11) rfl (.cons (t := 15) rfl (.cons (t := 16) rfl (.cons (t := 17) rfl Sub.nil)))))))))) SubB.nil
            · subst hj10; have h := hK10; clear hK10
              refine Cod.region [] mixed (by kernel_rfl) ?_
              refine Chain.cons (StepOK.addW .none (.tmp rfl (fun _ => trivial)) (.int (by decide))) rfl ?_
              refine Chain.cons (StepOK.move .none (.tmp rfl (fun _ => trivial))) rfl ?_
              refine Chain.nil ?_
              exact Ends.againL (some_eq h) (.cons (t := 17) rfl (.cons (t := 6) rfl (.cons (t := 0) rfl (.cons (t := 3) rfl (.cons (t := 5) rfl (.cons (t := 9) rfl (.cons (t := 10) rfl (.cons (t := 11) rfl (.cons (t := 15) rfl (.cons (t := 16) rfl Sub.nil)))))))))) SubB.nil
          · replace h := bif_f h hb9
            refine Cod.exit ?_
            refine Ends.thenExit ?_
            refine Ends.thenExit ?_
            refine Ends.blkExit ?_
            replace h := hD8 _ (some_eq h)
            exact Ends.join _ (some_eq h) (.cons (t := 6) rfl (.cons (t := 0) rfl (.cons (t := 3) rfl (.cons (t := 9) rfl (.cons (t := 10) rfl (.cons (t := 11) rfl Sub.nil)))))) SubB.nil
        · subst hj7; have h := hK7; clear hK7
          refine Cod.region [] mixed (by kernel_rfl) ?_
          refine Chain.cons (StepOK.move .none (.tmp rfl (fun _ => trivial))) rfl ?_
          refine Chain.cons (StepOK.move .none (.tmp rfl (fun _ => trivial))) rfl ?_
          refine Chain.cons (StepOK.max2 .none (.tmp rfl (fun _ => trivial)) (.tmp rfl (fun _ => trivial))) rfl ?_
          obtain ⟨n1, hv15, h⟩ := bnd_some h
          refine Chain.cons (StepOK.re hv15 (StepOK.assign .none (.tmp rfl (fun _ => trivial)))) rfl ?_
          refine Chain.nil ?_
          refine Ends.blkNormal ?_
          exact Ends.join _ (some_eq h) (.cons (t := 3) rfl (.cons (t := 0) rfl (.cons (t := 9) rfl (.cons (t := 10) rfl (.cons (t := 11) rfl Sub.nil))))) SubB.nil
      · subst hj4; have h := hK4; clear hK4
        refine Cod.region [] mixed (by kernel_rfl) ?_
        refine Chain.cons (StepOK.addW .none (.tmp rfl (fun _ => trivial)) (.int (by decide))) rfl ?_
        refine Chain.cons (StepOK.move .none (.tmp rfl (fun _ => trivial))) rfl ?_
        refine Chain.nil ?_
        exact Ends.againL (some_eq h) (.cons (t := 11) rfl (.cons (t := 3) rfl (.cons (t := 0) rfl (.cons (t := 9) rfl (.cons (t := 10) rfl Sub.nil))))) SubB.nil
    · replace h := bif_f h hb3
      refine Cod.exit ?_
      refine Ends.thenExit ?_
      refine Ends.thenExit ?_
      refine Ends.blkExit ?_
      replace h := hD2 _ (some_eq h)
      exact Ends.join _ (some_eq h) (.cons (t := 3) rfl Sub.nil) SubB.nil
  · subst hj1; have h := hK1; clear hK1
    refine Cod.seq ?_
    refine Cod.region [] mixed (by kernel_rfl) ?_
    refine Chain.cons (StepOK.move .none (.tmp rfl (fun _ => trivial))) rfl ?_
    refine Chain.cons (StepOK.assign .none (.tmp rfl (fun _ => trivial))) rfl ?_
    refine Chain.nil ?_
    refine Ends.then ?_
    refine Cod.ret ?_
    obtain rfl := some_eq h
    exact Ends.ret1 (.inl rfl) Try.results24 (ResOK.tmp rfl trivial Imp.refl)

theorem law_LanesMatch_ok {l1 : (List Lane)} {r : Bool}  (h : law_LanesMatch l1 = some r) : FSpec Try.prog 4 [rep l1] (rep r) := by
  unfold law_LanesMatch at h
  refine FSpec.intro (n := 84) fnok4 Try.func4 rfl Try.ntmps4 rfl (fun F => ?_)
  refine Cod.seq ?_
  refine Cod.region [] mixed (by kernel_rfl) ?_
  refine Chain.cons (StepOK.assign .none .bool) rfl ?_
  refine Chain.nil ?_
  refine Ends.then ?_
  refine Cod.seq ?_
  refine Cod.region [] mixed (by kernel_rfl) ?_
  refine Chain.cons (StepOK.move .none (.tmp rfl (fun _ => trivial))) rfl ?_
  obtain ⟨r1, hv1, h⟩ := bind_some h
  refine Chain.cons (StepOK.call .none (route_Lanes_ok hv1) (.cons (.tmp rfl (fun _ => trivial)) .nil)) rfl ?_
  refine Chain.cons (StepOK.move .none (.tmp rfl (fun _ => trivial))) rfl ?_
  refine Chain.cons (StepOK.extract .none (.tmp rfl (fun _ => trivial)) rfl) rfl ?_
  refine Chain.cons (StepOK.extract .none (.tmp rfl (fun _ => trivial)) rfl) rfl ?_
  refine Chain.cons (StepOK.assign .none (.tmp rfl (fun _ => trivial))) rfl ?_
  refine Chain.cons (StepOK.assign .none (.tmp rfl (fun _ => trivial))) rfl ?_
  refine Chain.nil ?_
  refine Ends.then ?_
  refine Cod.seq ?_
  refine Cod.region [] mixed (by kernel_rfl) ?_
  refine Chain.cons (StepOK.move .none (.tmp rfl (fun _ => trivial))) rfl ?_
  refine Chain.cons (StepOK.len .none sl41 (.tmp rfl (fun _ => trivial))) rfl ?_
  refine Chain.cons (StepOK.gt .none (.tmp rfl (fun _ => trivial)) (.int (by decide))) rfl ?_
  obtain ⟨want1, hv2, h⟩ := bind_some h
  refine Chain.cons (StepOK.call .none (ref_When_ok hv2) (.cons (.tmp rfl (fun _ => trivial)) (.cons (.int (by decide)) .nil))) rfl ?_
  refine Chain.cons (StepOK.assign .none (.tmp rfl (fun _ => trivial))) rfl ?_
  refine Chain.nil ?_
  refine Ends.then ?_
  refine Cod.seq ?_
  refine Cod.seq ?_
  refine Cod.region [] mixed (by kernel_rfl) ?_
  refine Chain.cons (StepOK.move .none (.tmp rfl (fun _ => trivial))) rfl ?_
  refine Chain.cons (StepOK.len .none sl41 (.tmp rfl (fun _ => trivial))) rfl ?_
  refine Chain.cons (StepOK.move .none (.int (by decide))) rfl ?_
  refine Chain.nil ?_
  refine Ends.then ?_
  obtain ⟨j_3, h, hK3⟩ := bind_some h
  refine Cod.thenJ (ι := Int) (fun j_3 => [(5, ⟨True, rep j_3⟩)]) (fun j_3 => []) (fun s => j_3 = s) (.cons (t := 0) rfl (.cons (t := 3) rfl (.cons (t := 4) rfl Sub.nil))) SubB.nil ?_ (fun j_3' hj3 => ?_)
  · skip
    refine Cod.block ?_
    refine Cod.rforL h (fun p4_ => [(20, ⟨True, rep p4_.1⟩), (5, ⟨True, rep p4_.2⟩)]) (fun p4_ => []) (.cons (t := 20) rfl (.cons (t := 5) rfl Sub.nil)) SubB.nil (.cons (t := 0) rfl (.cons (t := 3) rfl (.cons (t := 4) rfl (.cons (t := 18) rfl (.cons (t := 19) rfl Sub.nil))))) SubB.nil (fun p4_ o_4 h hD4 => ?_)
    refine Cod.seq ?_
    refine Cod.region [] mixed (by kernel_rfl) ?_
    refine Chain.cons (StepOK.lt .none (.tmp rfl (fun _ => trivial)) (.tmp rfl (fun _ => trivial))) rfl ?_
    refine Chain.nil ?_
    refine Ends.then ?_
    refine Cod.seq ?_
    refine Cod.cond (t := 21) rfl trivial (fun hb5 => ?_) (fun hb5 => ?_)
    · replace h := bif_t h hb5
      refine Cod.skip ?_
      refine Ends.then ?_
      refine Cod.seq ?_
      obtain ⟨j_6, h, hK6⟩ := bind_some h
      unfold law_LanesMatch_L1 at h
      refine Cod.thenJ (ι := Int) (fun j_6 => [(5, ⟨True, rep j_6⟩)]) (fun j_6 => []) (fun s => j_6 = s) (.cons (t := 0) rfl (.cons (t := 3) rfl (.cons (t := 4) rfl (.cons (t := 18) rfl (.cons (t := 19) rfl (.cons (t := 20) rfl Sub.nil)))))) SubB.nil ?_ (fun j_6' hj6 => ?_)
      · skip
        refine Cod.block ?_
        refine Cod.seq ?_
        refine Cod.region [([], []), ([], []), ([], [7]), ([7], [7])] mixed (by kernel_rfl) ?_
        obtain ⟨hn7, h⟩ := need_some h
        refine Chain.consA (StepOK.indexAddr .none sl41 ty46 (.tmp rfl (fun _ => trivial)) (.tmp rfl (fun _ => trivial)) (fun _ => hn7)) rfl ?_
        obtain ⟨v1, hv8, h⟩ := bnd_some h
        refine Chain.consA (StepOK.re hv8 (StepOK.load .none ty46 (.tmp rfl (fun _ => trivial)))) rfl ?_
        refine Chain.consW (StepOK.alloc zo46 rfl) rfl rfl ?_
        refine Chain.consN (StepOK.store ty46 rfl rfl (.tmp rfl (fun _ => trivial))) rfl ?_
        refine Chain.nil ?_
        refine Ends.then ?_
        refine Cod.freeze (t := 7) rfl rfl SubB.nil rfl ?_
        refine Cod.seq ?_
        refine Cod.region [] mixed (by kernel_rfl) ?_
        refine Chain.cons (StepOK.fieldAddr .none fd46_0 hfd46_0 (.tmp rfl (fun _ => trivial))) rfl ?_
        refine Chain.cons (StepOK.load .none ty3 (.tmp rfl (fun _ => trivial))) rfl ?_
        obtain ⟨r2, hv9, h⟩ := bind_some h
        refine Chain.cons (StepOK.call .none (ref_In_ok hv9) (.cons (.tmp rfl (fun _ => trivial)) (.cons (.int (by decide)) (.cons (.int (by decide)) .nil)))) rfl ?_
        refine Chain.cons (StepOK.not .none (.tmp rfl (fun _ => trivial))) rfl ?_
        refine Chain.cons (StepOK.move .none (.tmp rfl (fun _ => trivial))) rfl ?_
        refine Chain.cons (StepOK.fieldAddr (.at rfl rfl) fd46_1 hfd46_1 (.tmp rfl (fun _ => trivial))) rfl ?_
        refine Chain.cons (StepOK.load (.at rfl rfl) ty3 (.tmp rfl id)) rfl ?_
        obtain ⟨r3, hv10, h⟩ := bind_some h
        refine Chain.cons (StepOK.callIf (.at rfl rfl) fnok13 (fun hg => ref_In_ok ((fun hg => gd_some hv10 ((notT hg.2))) hg)) (.cons (.tmp rfl id) (.cons (.int (by decide)) (.cons (.int (by decide)) .nil))) (fun h => h)) rfl ?_
        refine Chain.cons (StepOK.not (.at rfl rfl) (.tmp rfl id)) rfl ?_
        refine Chain.cons (StepOK.pickOr .none (.tmp rfl (fun _ => trivial)) (.tmp rfl id)) rfl ?_
        refine Chain.cons (StepOK.assign .none (.tmp rfl (fun _ => trivial))) rfl ?_
        refine Chain.nil ?_
        refine Ends.then ?_
        refine Cod.region [] mixed (by kernel_rfl) ?_
        refine Chain.cons (StepOK.move .none (.tmp rfl (fun _ => trivial))) rfl ?_
        refine Chain.cons (StepOK.move .none (.tmp rfl (fun _ => trivial))) rfl ?_
        obtain ⟨r4, hv11, h⟩ := bind_some h
        refine Chain.cons (StepOK.call .none (ref_When_ok hv11) (.cons (.tmp rfl (fun _ => trivial)) (.cons (.int (by decide)) .nil))) rfl ?_
        refine Chain.cons (StepOK.fieldAddr .none fd46_0 hfd46_0 (.tmp rfl (fun _ => trivial))) rfl ?_
        refine Chain.cons (StepOK.load .none ty3 (.tmp rfl (fun _ => trivial))) rfl ?_
        refine Chain.cons (StepOK.fieldAddr .none fd46_1 hfd46_1 (.tmp rfl (fun _ => trivial))) rfl ?_
        refine Chain.cons (StepOK.load .none ty3 (.tmp rfl (fun _ => trivial))) rfl ?_
        refine Chain.cons (StepOK.ge .none (.tmp rfl (fun _ => trivial)) (.tmp rfl (fun _ => trivial))) rfl ?_
        obtain ⟨r5, hv12, h⟩ := bind_some h
        refine Chain.cons (StepOK.call .none (ref_When_ok hv12) (.cons (.tmp rfl (fun _ => trivial)) (.cons (.int (by decide)) .nil))) rfl ?_
        refine Chain.cons (StepOK.buildSlice (xs := [_, _, _]) .none sl81 ty26 hz26 (.cons (.tmp rfl (fun _ => trivial)) (.cons (.tmp rfl (fun _ => trivial)) (.cons (.tmp rfl (fun _ => trivial)) .nil))) rfl (by decide)) rfl ?_
        obtain ⟨want2, hv13, h⟩ := bind_some h
        refine Chain.cons (StepOK.call .none (ref_First_ok hv13) (.cons (.tmp rfl (fun _ => trivial)) .nil)) rfl ?_
        refine Chain.cons (StepOK.assign .none (.tmp rfl (fun _ => trivial))) rfl ?_
        refine Chain.nil ?_
        refine Ends.blkNormal ?_
        exact Ends.join _ (some_eq h) (.cons (t := 5) rfl (.cons (t := 0) rfl (.cons (t := 3) rfl (.cons (t := 4) rfl (.cons (t := 18) rfl (.cons (t := 19) rfl (.cons (t := 20) rfl Sub.nil))))))) SubB.nil
      · subst hj6; have h := hK6; clear hK6
        refine Cod.region [] mixed (by kernel_rfl) ?_
        refine Chain.cons (StepOK.addW .none (.tmp rfl (fun _ => trivial)) (.int (by decide))) rfl ?_
        refine Chain.cons (StepOK.move .none (.tmp rfl (fun _ => trivial))) rfl ?_
        refine Chain.nil ?_
        exact Ends.againL (some_eq h) (.cons (t := 20) rfl (.cons (t := 5) rfl (.cons (t := 0) rfl (.cons (t := 3) rfl (.cons (t := 4) rfl (.cons (t := 18) rfl (.cons (t := 19) rfl Sub.nil))))))) SubB.nil
    · replace h := bif_f h hb5
      refine Cod.exit ?_
      refine Ends.thenExit ?_
      refine Ends.thenExit ?_
      refine Ends.blkExit ?_
      replace h := hD4 _ (some_eq h)
      exact Ends.join _ (some_eq h) (.cons (t := 5) rfl (.cons (t := 0) rfl (.cons (t := 3) rfl (.cons (t := 4) rfl Sub.nil)))) SubB.nil
  · subst hj3; have h := hK3; clear hK3
    refine Cod.seq ?_
    refine Cod.seq ?_
    refine Cod.region [] mixed (by kernel_rfl) ?_
    obtain ⟨r6, hv14, h⟩ := bind_some h
    refine Chain.cons (StepOK.call .none (law_routes_ok hv14) .nil) rfl ?_
    refine Chain.cons (StepOK.not .none (.tmp rfl (fun _ => trivial))) rfl ?_
    refine Chain.cons (StepOK.move .none (.tmp rfl (fun _ => trivial))) rfl ?_
    refine Chain.cons (StepOK.move (.at rfl rfl) (.tmp rfl (fun _ => trivial))) rfl ?_
    refine Chain.cons (StepOK.neI (.at rfl rfl) (.tmp rfl id) (.int (by decide))) rfl ?_
    refine Chain.cons (StepOK.pickOr .none (.tmp rfl (fun _ => trivial)) (.tmp rfl id)) rfl ?_
    refine Chain.nil ?_
    refine Ends.then ?_
    refine Cod.cond (t := 51) rfl trivial (fun hb15 => ?_) (fun hb15 => ?_)
    · replace h := bif_t h hb15
      refine Cod.seq ?_
      refine Cod.region [] mixed (by kernel_rfl) ?_
      obtain ⟨r7, hv16, h⟩ := bind_some h
      refine Chain.cons (StepOK.call .none (law_routes_ok hv16) .nil) rfl ?_
      refine Chain.cons (StepOK.move .none (.tmp rfl (fun _ => trivial))) rfl ?_
      refine Chain.cons (StepOK.move (.at rfl rfl) (.tmp rfl (fun _ => trivial))) rfl ?_
      refine Chain.cons (StepOK.len (.at rfl rfl) sl42 (.tmp rfl id)) rfl ?_
      refine Chain.cons (StepOK.eqI (.at rfl rfl) (.tmp rfl id) (.int (by decide))) rfl ?_
      refine Chain.cons (StepOK.pickAnd .none (.tmp rfl (fun _ => trivial)) (.tmp rfl id)) rfl ?_
      refine Chain.cons (StepOK.move .none (.tmp rfl (fun _ => trivial))) rfl ?_
      refine Chain.cons (StepOK.move (.at rfl rfl) (.tmp rfl (fun _ => trivial))) rfl ?_
      refine Chain.cons (StepOK.move (.at rfl rfl) (.tmp rfl (fun _ => trivial))) rfl ?_
      refine Chain.cons (StepOK.eqI (.at rfl rfl) (.tmp rfl id) (.tmp rfl id)) rfl ?_
      refine Chain.cons (StepOK.pickAnd .none (.tmp rfl (fun _ => trivial)) (.tmp rfl id)) rfl ?_
      refine Chain.cons (StepOK.assign .none (.tmp rfl (fun _ => trivial))) rfl ?_
      refine Chain.nil ?_
      refine Ends.then ?_
      refine Cod.ret ?_
      refine Ends.thenRet ?_
      obtain rfl := some_eq h
      exact Ends.ret1 (.inl rfl) Try.results4 (ResOK.tmp rfl trivial Imp.refl)
    · replace h := bif_f h hb15
      refine Cod.skip ?_
      refine Ends.then ?_
      refine Cod.seq ?_
      refine Cod.region [] mixed (by kernel_rfl) ?_
      refine Chain.cons (StepOK.move .none (.tmp rfl (fun _ => trivial))) rfl ?_
      refine Chain.cons (StepOK.eqI .none (.tmp rfl (fun _ => trivial)) (.int (by decide))) rfl ?_
      refine Chain.cons (StepOK.move .none (.tmp rfl (fun _ => trivial))) rfl ?_
      refine Chain.cons (StepOK.move (.at rfl rfl) (.tmp rfl (fun _ => trivial))) rfl ?_
      refine Chain.cons (StepOK.move (.at rfl rfl) (.tmp rfl (fun _ => trivial))) rfl ?_
      obtain ⟨r8, hv17, h⟩ := bind_some h
      refine Chain.cons (StepOK.callIf (.at rfl rfl) fnok22 (fun hg => ref_LanesOf_ok ((fun hg => gd_some hv17 (hg.2)) hg)) (.cons (.tmp rfl id) .nil) (fun h => h)) rfl ?_
      obtain ⟨r9, hv18, h⟩ := bind_some h
      refine Chain.cons (StepOK.callIf (.at rfl rfl) fnok21 (fun hg => slices_Equal_int_ok ((fun hg => gd_some hv18 (hg.2)) hg)) (.cons (.tmp rfl id) (.cons (.tmp rfl id) .nil)) (fun h => h)) rfl ?_
      refine Chain.cons (StepOK.pickAnd .none (.tmp rfl (fun _ => trivial)) (.tmp rfl id)) rfl ?_
      refine Chain.cons (StepOK.move .none (.tmp rfl (fun _ => trivial))) rfl ?_
      refine Chain.cons (StepOK.move (.at rfl rfl) (.tmp rfl (fun _ => trivial))) rfl ?_
      refine Chain.cons (StepOK.len (.at rfl rfl) sl41 (.tmp rfl id)) rfl ?_
      refine Chain.cons (StepOK.eqI (.at rfl rfl) (.tmp rfl id) (.int (by decide))) rfl ?_
      refine Chain.cons (StepOK.move (.at rfl rfl) (.tmp rfl id)) rfl ?_
      refine Chain.cons (StepOK.move (.at rfl rfl) (.tmp rfl (fun _ => trivial))) rfl ?_
      obtain ⟨r10, hv19, h⟩ := bind_some h
      refine Chain.cons (StepOK.callIf (.at rfl rfl) fnok23 (fun hg => slices_Max_int_ok ((fun hg => gd_some hv19 ((andT hg.1.2 (notT hg.2)))) hg)) (.cons (.tmp rfl id) .nil) (fun h => h)) rfl ?_
      refine Chain.cons (StepOK.addW (.at rfl rfl) (.tmp rfl id) (.int (by decide))) rfl ?_
      refine Chain.cons (StepOK.move (.at rfl rfl) (.tmp rfl (fun _ => trivial))) rfl ?_
      obtain ⟨r11, hv20, h⟩ := bind_some h
      refine Chain.cons (StepOK.callIf (.at rfl rfl) fnok24 (fun hg => ref_Depth_ok ((fun hg => gd_some hv20 ((andT hg.1.2 (notT hg.2)))) hg)) (.cons (.tmp rfl id) .nil) (fun h => h)) rfl ?_
      refine Chain.cons (StepOK.eqI (.at rfl rfl) (.tmp rfl id) (.tmp rfl id)) rfl ?_
      refine Chain.cons (StepOK.pickOr (.at rfl rfl) (.tmp rfl id) (.tmp rfl id)) rfl ?_
      refine Chain.cons (StepOK.pickAnd .none (.tmp rfl (fun _ => trivial)) (.tmp rfl id)) rfl ?_
      refine Chain.cons (StepOK.assign .none (.tmp rfl (fun _ => trivial))) rfl ?_
      refine Chain.nil ?_
      refine Ends.then ?_
      refine Cod.ret ?_
      obtain rfl := some_eq h
      exact Ends.ret1 (.inl rfl) Try.results4 (ResOK.tmp rfl trivial Imp.refl)


end Go.Proofs.Ytegjicmejjfgfaa
