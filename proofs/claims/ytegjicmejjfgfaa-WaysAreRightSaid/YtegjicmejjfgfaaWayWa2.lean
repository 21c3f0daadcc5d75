/-
  The walks: what a function computes is what its plain function says (printed by a program of one's own).
-/
import Derived.Test.YtegjicmejjfgfaaWayWa1
set_option maxRecDepth 100000
set_option linter.unusedSimpArgs false
set_option linter.unusedVariables false
namespace Go.Proofs.Ytegjicmejjfgfaa
open Go Go.DB Go.RowKit

theorem route_right_ok {t1 : Task} {l1 : (List Point)} {r : Bool}  (h : route_right t1 l1 = some r) : FSpec Try.prog 70 [rep t1, rep l1] (rep r) := by
  unfold route_right at h
  refine FSpec.intro (n := 222) fnok70 Try.func70 rfl Try.ntmps70 rfl (fun F => ?_)
  refine Cod.seq ?_
  refine Cod.region [] mixed (by kernel_rfl) ?_
  refine Chain.cons (StepOK.box .none (.tmp rfl (fun _ => trivial))) rfl ?_
  refine Chain.cons (StepOK.assign .none .bool) rfl ?_
  refine Chain.nil ?_
  refine Ends.then ?_
  refine Cod.seq ?_
  refine Cod.seq ?_
  refine Cod.region [] mixed (by kernel_rfl) ?_
  refine Chain.cons (StepOK.move .none (.tmp rfl (fun _ => trivial))) rfl ?_
  obtain ⟨r1, hv1, h⟩ := bind_some h
  refine Chain.cons (StepOK.call .none (geom_CheckPath_ok hv1) (.cons (.tmp rfl (fun _ => trivial)) .nil)) rfl ?_
  refine Chain.cons (StepOK.neI .none (.tmp rfl (fun _ => trivial)) (.int (by decide))) rfl ?_
  refine Chain.cons (StepOK.move .none (.tmp rfl (fun _ => trivial))) rfl ?_
  refine Chain.cons (StepOK.move (.at rfl rfl) (.tmp rfl (fun _ => trivial))) rfl ?_
  obtain ⟨hn2, h⟩ := need_some h
  refine Chain.cons (StepOK.indexAddr (.at rfl rfl) sl22 ty53 (.tmp rfl id) (.int (by decide)) (fun hg => hn2 hg.2)) rfl ?_
  refine Chain.cons (StepOK.load (.at rfl rfl) ty53 (.tmp rfl id)) rfl ?_
  refine Chain.cons (StepOK.fieldAddr (.at rfl rfl) fd55_0 hfd55_0 (.tmp rfl (fun _ => trivial))) rfl ?_
  refine Chain.cons (StepOK.load (.at rfl rfl) ty53 (.tmp rfl id)) rfl ?_
  refine Chain.cons (StepOK.neS (.at rfl rfl) eq53 (.tmp rfl id) (.tmp rfl id)) rfl ?_
  refine Chain.cons (StepOK.pickOr .none (.tmp rfl (fun _ => trivial)) (.tmp rfl id)) rfl ?_
  refine Chain.cons (StepOK.move .none (.tmp rfl (fun _ => trivial))) rfl ?_
  refine Chain.cons (StepOK.move (.at rfl rfl) (.tmp rfl (fun _ => trivial))) rfl ?_
  refine Chain.cons (StepOK.move (.at rfl rfl) (.tmp rfl (fun _ => trivial))) rfl ?_
  refine Chain.cons (StepOK.len (.at rfl rfl) sl22 (.tmp rfl id)) rfl ?_
  refine Chain.cons (StepOK.subW (.at rfl rfl) (.tmp rfl id) (.int (by decide))) rfl ?_
  obtain ⟨hn3, h⟩ := need_some h
  refine Chain.cons (StepOK.indexAddr (.at rfl rfl) sl22 ty53 (.tmp rfl id) (.tmp rfl id) (fun hg => hn3 hg.2)) rfl ?_
  refine Chain.cons (StepOK.load (.at rfl rfl) ty53 (.tmp rfl id)) rfl ?_
  refine Chain.cons (StepOK.fieldAddr (.at rfl rfl) fd55_2 hfd55_2 (.tmp rfl (fun _ => trivial))) rfl ?_
  refine Chain.cons (StepOK.load (.at rfl rfl) ty53 (.tmp rfl id)) rfl ?_
  refine Chain.cons (StepOK.neS (.at rfl rfl) eq53 (.tmp rfl id) (.tmp rfl id)) rfl ?_
  refine Chain.cons (StepOK.pickOr .none (.tmp rfl (fun _ => trivial)) (.tmp rfl id)) rfl ?_
  refine Chain.nil ?_
  refine Ends.then ?_
  refine Cod.cond (t := 49) rfl trivial (fun hb4 => ?_) (fun hb4 => ?_)
  · replace h := bif_t h hb4
    refine Cod.seq ?_
    refine Cod.region [] mixed (by kernel_rfl) ?_
    refine Chain.cons (StepOK.assign .none .bool) rfl ?_
    refine Chain.nil ?_
    refine Ends.then ?_
    refine Cod.ret ?_
    refine Ends.thenRet ?_
    obtain rfl := some_eq h
    exact Ends.ret1 (.inl rfl) Try.results70 (ResOK.tmp rfl trivial Imp.refl)
  · replace h := bif_f h hb4
    refine Cod.skip ?_
    refine Ends.then ?_
    refine Cod.seq ?_
    refine Cod.region [] mixed (by kernel_rfl) ?_
    refine Chain.cons (StepOK.move .none (.tmp rfl (fun _ => trivial))) rfl ?_
    refine Chain.cons (StepOK.len .none sl22 (.tmp rfl (fun _ => trivial))) rfl ?_
    obtain ⟨n1, hv5, h⟩ := bnd_some h
    refine Chain.cons (StepOK.re hv5 (StepOK.assign .none (.tmp rfl (fun _ => trivial)))) rfl ?_
    refine Chain.nil ?_
    refine Ends.then ?_
    refine Cod.seq ?_
    refine Cod.seq ?_
    refine Cod.region [] mixed (by kernel_rfl) ?_
    refine Chain.cons (StepOK.assign .none (.int (by decide))) rfl ?_
    refine Chain.nil ?_
    refine Ends.then ?_
    obtain ⟨o_6, h, hK6⟩ := bindR_some h
    refine Cod.thenJ (ι := Unit) (fun j_6 => []) (fun j_6 => []) (fun s => o_6 = Res.nx s) (.cons (t := 1) rfl (.cons (t := 2) rfl (.cons (t := 5) rfl Sub.nil))) SubB.nil ?_ (fun j_6 hj6 => ?_)
    · skip
      refine Cod.block ?_
      refine Cod.loopL h (fun s7_ => [(6, ⟨True, rep s7_⟩)]) (fun s7_ => []) (.cons (t := 6) rfl Sub.nil) SubB.nil (.cons (t := 1) rfl (.cons (t := 2) rfl (.cons (t := 5) rfl Sub.nil))) SubB.nil (fun s7_ o_7 h hD7 => ?_)
      unfold route_right_L1 at h
      refine Cod.seq ?_
      refine Cod.seq ?_
      refine Cod.region [] mixed (by kernel_rfl) ?_
      refine Chain.cons (StepOK.move .none (.tmp rfl (fun _ => trivial))) rfl ?_
      refine Chain.cons (StepOK.move .none (.tmp rfl (fun _ => trivial))) rfl ?_
      refine Chain.cons (StepOK.lt .none (.tmp rfl (fun _ => trivial)) (.tmp rfl (fun _ => trivial))) rfl ?_
      refine Chain.nil ?_
      refine Ends.then ?_
      refine Cod.cond (t := 54) rfl trivial (fun hb8 => ?_) (fun hb8 => ?_)
      · replace h := bif_t h hb8
        refine Cod.skip ?_
        refine Ends.then ?_
        refine Cod.seq ?_
        refine Cod.block ?_
        refine Cod.seq ?_
        refine Cod.region [([], []), ([], []), ([], []), ([], []), ([], []), ([], []), ([], []), ([], []), ([], []), ([], []), ([], []), ([], []), ([], []), ([], []), ([], []), ([], []), ([], []), ([], []), ([], []), ([], []), ([], []), ([], [7]), ([], [8]), ([7], [7]), ([8], [8])] mixed (by kernel_rfl) ?_
        refine Chain.consA (StepOK.move .none (.tmp rfl (fun _ => trivial))) rfl ?_
        refine Chain.consA (StepOK.move .none (.tmp rfl (fun _ => trivial))) rfl ?_
        refine Chain.consA (StepOK.subW .none (.tmp rfl (fun _ => trivial)) (.int (by decide))) rfl ?_
        obtain ⟨hn9, h⟩ := need_some h
        refine Chain.consA (StepOK.indexAddr .none sl22 ty53 (.tmp rfl (fun _ => trivial)) (.tmp rfl (fun _ => trivial)) (fun _ => hn9)) rfl ?_
        refine Chain.consA (StepOK.load .none ty53 (.tmp rfl (fun _ => trivial))) rfl ?_
        refine Chain.consA (StepOK.move .none (.tmp rfl (fun _ => trivial))) rfl ?_
        refine Chain.consA (StepOK.move .none (.tmp rfl (fun _ => trivial))) rfl ?_
        refine Chain.consA (StepOK.subW .none (.tmp rfl (fun _ => trivial)) (.int (by decide))) rfl ?_
        obtain ⟨hn10, h⟩ := need_some h
        refine Chain.consA (StepOK.indexAddr .none sl22 ty53 (.tmp rfl (fun _ => trivial)) (.tmp rfl (fun _ => trivial)) (fun _ => hn10)) rfl ?_
        refine Chain.consA (StepOK.load .none ty53 (.tmp rfl (fun _ => trivial))) rfl ?_
        obtain ⟨r2, hv11, h⟩ := bind_some h
        refine Chain.consA (StepOK.call .none (route_heading_ok hv11) (.cons (.tmp rfl (fun _ => trivial)) (.cons (.tmp rfl (fun _ => trivial)) .nil))) rfl ?_
        refine Chain.consA (StepOK.move .none (.tmp rfl (fun _ => trivial))) rfl ?_
        refine Chain.consA (StepOK.move .none (.tmp rfl (fun _ => trivial))) rfl ?_
        refine Chain.consA (StepOK.subW .none (.tmp rfl (fun _ => trivial)) (.int (by decide))) rfl ?_
        obtain ⟨hn12, h⟩ := need_some h
        refine Chain.consA (StepOK.indexAddr .none sl22 ty53 (.tmp rfl (fun _ => trivial)) (.tmp rfl (fun _ => trivial)) (fun _ => hn12)) rfl ?_
        refine Chain.consA (StepOK.load .none ty53 (.tmp rfl (fun _ => trivial))) rfl ?_
        refine Chain.consA (StepOK.move .none (.tmp rfl (fun _ => trivial))) rfl ?_
        refine Chain.consA (StepOK.move .none (.tmp rfl (fun _ => trivial))) rfl ?_
        obtain ⟨hn13, h⟩ := need_some h
        refine Chain.consA (StepOK.indexAddr .none sl22 ty53 (.tmp rfl (fun _ => trivial)) (.tmp rfl (fun _ => trivial)) (fun _ => hn13)) rfl ?_
        refine Chain.consA (StepOK.load .none ty53 (.tmp rfl (fun _ => trivial))) rfl ?_
        obtain ⟨r3, hv14, h⟩ := bind_some h
        refine Chain.consA (StepOK.call .none (route_heading_ok hv14) (.cons (.tmp rfl (fun _ => trivial)) (.cons (.tmp rfl (fun _ => trivial)) .nil))) rfl ?_
        refine Chain.consW (StepOK.alloc zo53 rfl) rfl rfl ?_
        refine Chain.consW (StepOK.alloc zo53 rfl) rfl rfl ?_
        refine Chain.consN (StepOK.store ty53 rfl rfl (.tmp rfl (fun _ => trivial))) rfl ?_
        refine Chain.consN (StepOK.store ty53 rfl rfl (.tmp rfl (fun _ => trivial))) rfl ?_
        refine Chain.nil ?_
        refine Ends.then ?_
        refine Cod.freeze (t := 7) rfl rfl (.cons (t := 8) rfl SubB.nil) rfl ?_
        refine Cod.freeze (t := 8) rfl rfl SubB.nil rfl ?_
        refine Cod.seq ?_
        refine Cod.region [] mixed (by kernel_rfl) ?_
        refine Chain.cons (StepOK.load .none ty53 (.tmp rfl (fun _ => trivial))) rfl ?_
        refine Chain.cons (StepOK.load .none ty53 (.tmp rfl (fun _ => trivial))) rfl ?_
        refine Chain.cons (StepOK.eqS .none eq53 (.tmp rfl (fun _ => trivial)) (.tmp rfl (fun _ => trivial))) rfl ?_
        refine Chain.cons (StepOK.move .none (.tmp rfl (fun _ => trivial))) rfl ?_
        refine Chain.cons (StepOK.load (.at rfl rfl) ty53 (.tmp rfl (fun _ => trivial))) rfl ?_
        refine Chain.cons (StepOK.load (.at rfl rfl) ty53 (.tmp rfl (fun _ => trivial))) rfl ?_
        obtain ⟨r4, hv15, h⟩ := bind_some h
        refine Chain.cons (StepOK.callIf (.at rfl rfl) fnok101 (fun hg => route_opposite_ok ((fun hg => gd_some hv15 ((notT hg.2))) hg)) (.cons (.tmp rfl id) .nil) (fun h => h)) rfl ?_
        refine Chain.cons (StepOK.eqS (.at rfl rfl) eq53 (.tmp rfl id) (.tmp rfl id)) rfl ?_
        refine Chain.cons (StepOK.pickOr .none (.tmp rfl (fun _ => trivial)) (.tmp rfl id)) rfl ?_
        refine Chain.nil ?_
        refine Ends.then ?_
        refine Cod.cond (t := 86) rfl trivial (fun hb16 => ?_) (fun hb16 => ?_)
        · replace h := bif_t h hb16
          refine Cod.seq ?_
          refine Cod.region [] mixed (by kernel_rfl) ?_
          refine Chain.cons (StepOK.assign .none .bool) rfl ?_
          refine Chain.nil ?_
          refine Ends.then ?_
          refine Cod.ret ?_
          refine Ends.blkRet ?_
          refine Ends.thenRet ?_
          refine Ends.thenRet ?_
          refine Ends.blkRet ?_
          refine Ends.thenRet ?_
          replace h := hD7 _ (some_eq h)
          replace h := resb_ab hK6 (some_eq h)
          obtain rfl := some_eq h
          exact Ends.ret1 (.inl rfl) Try.results70 (ResOK.tmp rfl trivial Imp.refl)
        · replace h := bif_f h hb16
          refine Cod.skip ?_
          refine Ends.blkNormal ?_
          refine Ends.then ?_
          refine Cod.region [] mixed (by kernel_rfl) ?_
          refine Chain.cons (StepOK.move .none (.tmp rfl (fun _ => trivial))) rfl ?_
          refine Chain.cons (StepOK.addW .none (.tmp rfl (fun _ => trivial)) (.int (by decide))) rfl ?_
          obtain ⟨i1, hv17, h⟩ := bnd_some h
          refine Chain.cons (StepOK.re hv17 (StepOK.assign .none (.tmp rfl (fun _ => trivial)))) rfl ?_
          refine Chain.nil ?_
          exact Ends.againL (some_eq h) (.cons (t := 6) rfl (.cons (t := 1) rfl (.cons (t := 2) rfl (.cons (t := 5) rfl Sub.nil)))) SubB.nil
      · replace h := bif_f h hb8
        refine Cod.exit ?_
        refine Ends.thenExit ?_
        refine Ends.thenExit ?_
        refine Ends.blkExit ?_
        replace h := hD7 _ (some_eq h)
        exact Ends.join _ (some_eq h) (.cons (t := 1) rfl (.cons (t := 2) rfl (.cons (t := 5) rfl Sub.nil))) SubB.nil
    · have h := resb_nx hK6 hj6
      refine Cod.seq ?_
      refine Cod.region [([], []), ([], []), ([], []), ([], []), ([], []), ([], [9]), ([], [10]), ([9], [9]), ([10], [10])] mixed (by kernel_rfl) ?_
      refine Chain.consA (StepOK.load .none ty55 (.tmp rfl (fun _ => trivial))) rfl ?_
      obtain ⟨r5, hv18, h⟩ := bind_some h
      refine Chain.consA (StepOK.call .none (route_ends_ok hv18) (.cons (.tmp rfl (fun _ => trivial)) .nil)) rfl ?_
      refine Chain.consA (StepOK.move .none (.tmp rfl (fun _ => trivial))) rfl ?_
      refine Chain.consA (StepOK.extract .none (.tmp rfl (fun _ => trivial)) rfl) rfl ?_
      refine Chain.consA (StepOK.extract .none (.tmp rfl (fun _ => trivial)) rfl) rfl ?_
      refine Chain.consW (StepOK.alloc zo53 rfl) rfl rfl ?_
      refine Chain.consW (StepOK.alloc zo53 rfl) rfl rfl ?_
      refine Chain.consN (StepOK.store ty53 rfl rfl (.tmp rfl (fun _ => trivial))) rfl ?_
      refine Chain.consN (StepOK.store ty53 rfl rfl (.tmp rfl (fun _ => trivial))) rfl ?_
      refine Chain.nil ?_
      refine Ends.then ?_
      refine Cod.freeze (t := 9) rfl rfl (.cons (t := 10) rfl SubB.nil) rfl ?_
      refine Cod.freeze (t := 10) rfl rfl SubB.nil rfl ?_
      refine Cod.seq ?_
      refine Cod.region [([], []), ([], []), ([], []), ([], []), ([], []), ([], []), ([], []), ([], [11]), ([], [12]), ([11], [11]), ([12], [12])] mixed (by kernel_rfl) ?_
      refine Chain.consA (StepOK.fieldAddr .none fd55_1 hfd55_1 (.tmp rfl (fun _ => trivial))) rfl ?_
      refine Chain.consA (StepOK.load .none ty3 (.tmp rfl (fun _ => trivial))) rfl ?_
      obtain ⟨r6, hv19, h⟩ := bind_some h
      refine Chain.consA (StepOK.call .none (route_toward_ok hv19) (.cons (.tmp rfl (fun _ => trivial)) .nil)) rfl ?_
      refine Chain.consA (StepOK.fieldAddr .none fd55_3 hfd55_3 (.tmp rfl (fun _ => trivial))) rfl ?_
      refine Chain.consA (StepOK.load .none ty3 (.tmp rfl (fun _ => trivial))) rfl ?_
      obtain ⟨r7, hv20, h⟩ := bind_some h
      refine Chain.consA (StepOK.call .none (route_toward_ok hv20) (.cons (.tmp rfl (fun _ => trivial)) .nil)) rfl ?_
      obtain ⟨r8, hv21, h⟩ := bind_some h
      refine Chain.consA (StepOK.call .none (route_opposite_ok hv21) (.cons (.tmp rfl (fun _ => trivial)) .nil)) rfl ?_
      refine Chain.consW (StepOK.alloc zo53 rfl) rfl rfl ?_
      refine Chain.consW (StepOK.alloc zo53 rfl) rfl rfl ?_
      refine Chain.consN (StepOK.store ty53 rfl rfl (.tmp rfl (fun _ => trivial))) rfl ?_
      refine Chain.consN (StepOK.store ty53 rfl rfl (.tmp rfl (fun _ => trivial))) rfl ?_
      refine Chain.nil ?_
      refine Ends.then ?_
      refine Cod.freeze (t := 11) rfl rfl (.cons (t := 12) rfl SubB.nil) rfl ?_
      refine Cod.freeze (t := 12) rfl rfl SubB.nil rfl ?_
      refine Cod.seq ?_
      refine Cod.seq ?_
      refine Cod.region [] mixed (by kernel_rfl) ?_
      refine Chain.cons (StepOK.move .none (.tmp rfl (fun _ => trivial))) rfl ?_
      obtain ⟨hn22, h⟩ := need_some h
      refine Chain.cons (StepOK.indexAddr .none sl22 ty53 (.tmp rfl (fun _ => trivial)) (.int (by decide)) (fun _ => hn22)) rfl ?_
      refine Chain.cons (StepOK.load .none ty53 (.tmp rfl (fun _ => trivial))) rfl ?_
      refine Chain.cons (StepOK.move .none (.tmp rfl (fun _ => trivial))) rfl ?_
      obtain ⟨hn23, h⟩ := need_some h
      refine Chain.cons (StepOK.indexAddr .none sl22 ty53 (.tmp rfl (fun _ => trivial)) (.int (by decide)) (fun _ => hn23)) rfl ?_
      refine Chain.cons (StepOK.load .none ty53 (.tmp rfl (fun _ => trivial))) rfl ?_
      obtain ⟨r9, hv24, h⟩ := bind_some h
      refine Chain.cons (StepOK.call .none (route_heading_ok hv24) (.cons (.tmp rfl (fun _ => trivial)) (.cons (.tmp rfl (fun _ => trivial)) .nil))) rfl ?_
      refine Chain.cons (StepOK.load .none ty53 (.tmp rfl (fun _ => trivial))) rfl ?_
      refine Chain.cons (StepOK.neS .none eq53 (.tmp rfl (fun _ => trivial)) (.tmp rfl (fun _ => trivial))) rfl ?_
      refine Chain.cons (StepOK.move .none (.tmp rfl (fun _ => trivial))) rfl ?_
      refine Chain.cons (StepOK.move (.at rfl rfl) (.tmp rfl (fun _ => trivial))) rfl ?_
      refine Chain.cons (StepOK.move (.at rfl rfl) (.tmp rfl (fun _ => trivial))) rfl ?_
      refine Chain.cons (StepOK.subW (.at rfl rfl) (.tmp rfl id) (.int (by decide))) rfl ?_
      obtain ⟨hn25, h⟩ := need_some h
      refine Chain.cons (StepOK.indexAddr (.at rfl rfl) sl22 ty53 (.tmp rfl id) (.tmp rfl id) (fun hg => hn25 hg.2)) rfl ?_
      refine Chain.cons (StepOK.load (.at rfl rfl) ty53 (.tmp rfl id)) rfl ?_
      refine Chain.cons (StepOK.move (.at rfl rfl) (.tmp rfl (fun _ => trivial))) rfl ?_
      refine Chain.cons (StepOK.move (.at rfl rfl) (.tmp rfl (fun _ => trivial))) rfl ?_
      refine Chain.cons (StepOK.subW (.at rfl rfl) (.tmp rfl id) (.int (by decide))) rfl ?_
      obtain ⟨hn26, h⟩ := need_some h
      refine Chain.cons (StepOK.indexAddr (.at rfl rfl) sl22 ty53 (.tmp rfl id) (.tmp rfl id) (fun hg => hn26 hg.2)) rfl ?_
      refine Chain.cons (StepOK.load (.at rfl rfl) ty53 (.tmp rfl id)) rfl ?_
      obtain ⟨r10, hv27, h⟩ := bind_some h
      refine Chain.cons (StepOK.callIf (.at rfl rfl) fnok43 (fun hg => route_heading_ok ((fun hg => gd_some hv27 ((notT hg.2))) hg)) (.cons (.tmp rfl id) (.cons (.tmp rfl id) .nil)) (fun h => h)) rfl ?_
      refine Chain.cons (StepOK.load (.at rfl rfl) ty53 (.tmp rfl (fun _ => trivial))) rfl ?_
      refine Chain.cons (StepOK.neS (.at rfl rfl) eq53 (.tmp rfl id) (.tmp rfl id)) rfl ?_
      refine Chain.cons (StepOK.pickOr .none (.tmp rfl (fun _ => trivial)) (.tmp rfl id)) rfl ?_
      refine Chain.nil ?_
      refine Ends.then ?_
      refine Cod.cond (t := 122) rfl trivial (fun hb28 => ?_) (fun hb28 => ?_)
      · replace h := bif_t h hb28
        refine Cod.seq ?_
        refine Cod.region [] mixed (by kernel_rfl) ?_
        refine Chain.cons (StepOK.assign .none .bool) rfl ?_
        refine Chain.nil ?_
        refine Ends.then ?_
        refine Cod.ret ?_
        refine Ends.thenRet ?_
        obtain rfl := some_eq h
        exact Ends.ret1 (.inl rfl) Try.results70 (ResOK.tmp rfl trivial Imp.refl)
      · replace h := bif_f h hb28
        refine Cod.skip ?_
        refine Ends.then ?_
        refine Cod.seq ?_
        refine Cod.region [] mixed (by kernel_rfl) ?_
        refine Chain.cons (StepOK.move .none (.tmp rfl (fun _ => trivial))) rfl ?_
        obtain ⟨hn29, h⟩ := need_some h
        refine Chain.cons (StepOK.slice .none sl22 ty53 (.tmp rfl (fun _ => trivial)) rfl (.int (by decide)) (fun _ => hn29)) rfl ?_
        obtain ⟨r11, hv30, h⟩ := bind_some h
        refine Chain.cons (StepOK.call .none (geom_Length_ok hv30) (.cons (.tmp rfl (fun _ => trivial)) .nil)) rfl ?_
        refine Chain.cons (StepOK.move .none (.tmp rfl (fun _ => trivial))) rfl ?_
        refine Chain.cons (StepOK.extract .none (.tmp rfl (fun _ => trivial)) rfl) rfl ?_
        refine Chain.cons (StepOK.extract .none (.tmp rfl (fun _ => trivial)) rfl) rfl ?_
        refine Chain.cons (StepOK.assign .none (.tmp rfl (fun _ => trivial))) rfl ?_
        refine Chain.cons (StepOK.assign .none (.tmp rfl (fun _ => trivial))) rfl ?_
        refine Chain.nil ?_
        refine Ends.then ?_
        refine Cod.seq ?_
        refine Cod.region [] mixed (by kernel_rfl) ?_
        refine Chain.cons (StepOK.move .none (.tmp rfl (fun _ => trivial))) rfl ?_
        refine Chain.cons (StepOK.move .none (.tmp rfl (fun _ => trivial))) rfl ?_
        refine Chain.cons (StepOK.subW .none (.tmp rfl (fun _ => trivial)) (.int (by decide))) rfl ?_
        obtain ⟨hn31, h⟩ := need_some h
        refine Chain.cons (StepOK.slice .none sl22 ty53 (.tmp rfl (fun _ => trivial)) (.tmp rfl (fun _ => trivial)) rfl (fun _ => hn31)) rfl ?_
        obtain ⟨r12, hv32, h⟩ := bind_some h
        refine Chain.cons (StepOK.call .none (geom_Length_ok hv32) (.cons (.tmp rfl (fun _ => trivial)) .nil)) rfl ?_
        refine Chain.cons (StepOK.move .none (.tmp rfl (fun _ => trivial))) rfl ?_
        refine Chain.cons (StepOK.extract .none (.tmp rfl (fun _ => trivial)) rfl) rfl ?_
        refine Chain.cons (StepOK.extract .none (.tmp rfl (fun _ => trivial)) rfl) rfl ?_
        refine Chain.cons (StepOK.assign .none (.tmp rfl (fun _ => trivial))) rfl ?_
        refine Chain.cons (StepOK.assign .none (.tmp rfl (fun _ => trivial))) rfl ?_
        refine Chain.nil ?_
        refine Ends.then ?_
        refine Cod.seq ?_
        refine Cod.seq ?_
        refine Cod.region [] mixed (by kernel_rfl) ?_
        refine Chain.cons (StepOK.move .none (.tmp rfl (fun _ => trivial))) rfl ?_
        refine Chain.cons (StepOK.fieldAddr .none fd55_5 hfd55_5 (.tmp rfl (fun _ => trivial))) rfl ?_
        refine Chain.cons (StepOK.load .none ty3 (.tmp rfl (fun _ => trivial))) rfl ?_
        refine Chain.cons (StepOK.lt .none (.tmp rfl (fun _ => trivial)) (.tmp rfl (fun _ => trivial))) rfl ?_
        refine Chain.cons (StepOK.move .none (.tmp rfl (fun _ => trivial))) rfl ?_
        refine Chain.cons (StepOK.move (.at rfl rfl) (.tmp rfl (fun _ => trivial))) rfl ?_
        refine Chain.cons (StepOK.fieldAddr (.at rfl rfl) fd55_5 hfd55_5 (.tmp rfl (fun _ => trivial))) rfl ?_
        refine Chain.cons (StepOK.load (.at rfl rfl) ty3 (.tmp rfl id)) rfl ?_
        refine Chain.cons (StepOK.lt (.at rfl rfl) (.tmp rfl id) (.tmp rfl id)) rfl ?_
        refine Chain.cons (StepOK.pickOr .none (.tmp rfl (fun _ => trivial)) (.tmp rfl id)) rfl ?_
        refine Chain.cons (StepOK.move .none (.tmp rfl (fun _ => trivial))) rfl ?_
        refine Chain.cons (StepOK.move (.at rfl rfl) (.tmp rfl (fun _ => trivial))) rfl ?_
        refine Chain.cons (StepOK.eqI (.at rfl rfl) (.tmp rfl id) (.int (by decide))) rfl ?_
        refine Chain.cons (StepOK.move (.at rfl rfl) (.tmp rfl id)) rfl ?_
        refine Chain.cons (StepOK.move (.at rfl rfl) (.tmp rfl (fun _ => trivial))) rfl ?_
        refine Chain.cons (StepOK.fieldAddr (.at rfl rfl) fd55_5 hfd55_5 (.tmp rfl (fun _ => trivial))) rfl ?_
        refine Chain.cons (StepOK.load (.at rfl rfl) ty3 (.tmp rfl id)) rfl ?_
        refine Chain.cons (StepOK.mulW (.at rfl rfl) (.int (by decide)) (.tmp rfl id)) rfl ?_
        refine Chain.cons (StepOK.lt (.at rfl rfl) (.tmp rfl id) (.tmp rfl id)) rfl ?_
        refine Chain.cons (StepOK.pickAnd (.at rfl rfl) (.tmp rfl id) (.tmp rfl id)) rfl ?_
        refine Chain.cons (StepOK.pickOr .none (.tmp rfl (fun _ => trivial)) (.tmp rfl id)) rfl ?_
        refine Chain.nil ?_
        refine Ends.then ?_
        refine Cod.cond (t := 157) rfl trivial (fun hb33 => ?_) (fun hb33 => ?_)
        · replace h := bif_t h hb33
          refine Cod.seq ?_
          refine Cod.region [] mixed (by kernel_rfl) ?_
          refine Chain.cons (StepOK.assign .none .bool) rfl ?_
          refine Chain.nil ?_
          refine Ends.then ?_
          refine Cod.ret ?_
          refine Ends.thenRet ?_
          obtain rfl := some_eq h
          exact Ends.ret1 (.inl rfl) Try.results70 (ResOK.tmp rfl trivial Imp.refl)
        · replace h := bif_f h hb33
          refine Cod.skip ?_
          refine Ends.then ?_
          refine Cod.seq ?_
          refine Cod.region [] mixed (by kernel_rfl) ?_
          refine Chain.cons (StepOK.load .none ty55 (.tmp rfl (fun _ => trivial))) rfl ?_
          obtain ⟨walls1, hv34, h⟩ := bind_some h
          refine Chain.cons (StepOK.call .none (route_zones_ok hv34) (.cons (.tmp rfl (fun _ => trivial)) .nil)) rfl ?_
          refine Chain.cons (StepOK.assign .none (.tmp rfl (fun _ => trivial))) rfl ?_
          refine Chain.nil ?_
          refine Ends.then ?_
          refine Cod.seq ?_
          refine Cod.region [([], []), ([], [161]), ([161], [18, 161])] mixed (by kernel_rfl) ?_
          refine Chain.consA (StepOK.move .none (.tmp rfl (fun _ => trivial))) rfl ?_
          obtain ⟨way1, hv35, h⟩ := bind_some h
          refine Chain.consW (StepOK.callO [] (slices_Clone_Point_ok hv35) (.cons (.tmp rfl (fun _ => trivial)) .nil) .nil rfl (by decide) (by decide) (by intro d h; cases h; decide)) rfl rfl ?_
          refine Chain.consW (StepOK.passRow rfl (.tmp rfl)) rfl rfl ?_
          refine Chain.nil ?_
          refine Ends.then ?_
          refine Cod.nameRow (t := 18) (g := 5001) rfl rfl rfl (fun s5001 => ?_)
          refine Cod.seq ?_
          refine Cod.region [([], []), ([], []), ([], []), ([], []), ([], []), ([], []), ([5001], []), ([5001], [5001]), ([5001], []), ([5001], [5001])] mixed (by kernel_rfl) ?_
          refine Chain.consA (StepOK.move .none (.tmp rfl (fun _ => trivial))) rfl ?_
          refine Chain.consA (StepOK.move .none (.tmp rfl (fun _ => trivial))) rfl ?_
          refine Chain.consA (StepOK.move .none (.tmp rfl (fun _ => trivial))) rfl ?_
          refine Chain.consA (StepOK.subW .none (.tmp rfl (fun _ => trivial)) (.int (by decide))) rfl ?_
          refine Chain.consA (StepOK.load .none ty53 (.tmp rfl (fun _ => trivial))) rfl ?_
          refine Chain.consA (StepOK.load .none ty53 (.tmp rfl (fun _ => trivial))) rfl ?_
          obtain ⟨hn36, h⟩ := need_some h
          refine Chain.consA (StepOK.indexAddrO (k := 5001) .none sl22 ty53 (.tmp rfl (fun _ => trivial)) rfl (.int (by decide)) (fun _ => hn36)) rfl ?_
          refine Chain.consN (StepOK.storeElem0 (k := 5001) ty53 (.tmp rfl (fun _ => trivial)) rfl (.tmp rfl (fun _ => trivial)) hn36) rfl ?_
          obtain ⟨hn37, h⟩ := need_some h
          refine Chain.consA (StepOK.indexAddrO (k := 5001) .none sl22 ty53 (.tmp rfl (fun _ => trivial)) rfl (.tmp rfl (fun _ => trivial)) (fun _ => hn37)) rfl ?_
          refine Chain.consN (StepOK.storeElem0 (k := 5001) ty53 (.tmp rfl (fun _ => trivial)) rfl (.tmp rfl (fun _ => trivial)) hn37) rfl ?_
          refine Chain.nil ?_
          refine Ends.then ?_
          refine Cod.freezeRow (g := 5001) (ts := [18]) rfl (.cons (t := 18) rfl trivial .nil) SubB.nil rfl ?_
          refine Cod.seq ?_
          refine Cod.seq ?_
          refine Cod.region [] mixed (by kernel_rfl) ?_
          refine Chain.cons (StepOK.assign .none (.int (by decide))) rfl ?_
          refine Chain.nil ?_
          refine Ends.then ?_
          obtain ⟨o_38, h, hK38⟩ := bindR_some h
          refine Cod.thenJ (ι := Unit) (fun j_38 => []) (fun j_38 => []) (fun s => o_38 = Res.nx s) (.cons (t := 1) rfl (.cons (t := 2) rfl (.cons (t := 5) rfl Sub.nil))) SubB.nil ?_ (fun j_38 hj38 => ?_)
          · skip
            refine Cod.block ?_
            refine Cod.loopL h (fun s39_ => [(19, ⟨True, rep s39_⟩)]) (fun s39_ => []) (.cons (t := 19) rfl Sub.nil) SubB.nil (.cons (t := 1) rfl (.cons (t := 2) rfl (.cons (t := 5) rfl (.cons (t := 17) rfl (.cons (t := 18) rfl Sub.nil))))) SubB.nil (fun s39_ o_39 h hD39 => ?_)
            unfold route_right_L2 at h
            refine Cod.seq ?_
            refine Cod.seq ?_
            refine Cod.region [] mixed (by kernel_rfl) ?_
            refine Chain.cons (StepOK.move .none (.tmp rfl (fun _ => trivial))) rfl ?_
            refine Chain.cons (StepOK.move .none (.tmp rfl (fun _ => trivial))) rfl ?_
            refine Chain.cons (StepOK.lt .none (.tmp rfl (fun _ => trivial)) (.tmp rfl (fun _ => trivial))) rfl ?_
            refine Chain.nil ?_
            refine Ends.then ?_
            refine Cod.cond (t := 172) rfl trivial (fun hb40 => ?_) (fun hb40 => ?_)
            · replace h := bif_t h hb40
              refine Cod.skip ?_
              refine Ends.then ?_
              refine Cod.seq ?_
              refine Cod.block ?_
              refine Cod.seq ?_
              refine Cod.region [] mixed (by kernel_rfl) ?_
              refine Chain.cons (StepOK.move .none (.tmp rfl (fun _ => trivial))) rfl ?_
              refine Chain.cons (StepOK.move .none (.tmp rfl (fun _ => trivial))) rfl ?_
              refine Chain.cons (StepOK.move .none (.tmp rfl (fun _ => trivial))) rfl ?_
              refine Chain.cons (StepOK.subW .none (.tmp rfl (fun _ => trivial)) (.int (by decide))) rfl ?_
              obtain ⟨hn41, h⟩ := need_some h
              refine Chain.cons (StepOK.indexAddr .none sl22 ty53 (.tmp rfl (fun _ => trivial)) (.tmp rfl (fun _ => trivial)) (fun _ => hn41)) rfl ?_
              refine Chain.cons (StepOK.load .none ty53 (.tmp rfl (fun _ => trivial))) rfl ?_
              refine Chain.cons (StepOK.move .none (.tmp rfl (fun _ => trivial))) rfl ?_
              refine Chain.cons (StepOK.move .none (.tmp rfl (fun _ => trivial))) rfl ?_
              obtain ⟨hn42, h⟩ := need_some h
              refine Chain.cons (StepOK.indexAddr .none sl22 ty53 (.tmp rfl (fun _ => trivial)) (.tmp rfl (fun _ => trivial)) (fun _ => hn42)) rfl ?_
              refine Chain.cons (StepOK.load .none ty53 (.tmp rfl (fun _ => trivial))) rfl ?_
              obtain ⟨r13, hv43, h⟩ := bind_some h
              refine Chain.cons (StepOK.call .none (route_free_ok hv43) (.cons (.tmp rfl (fun _ => trivial)) (.cons (.tmp rfl (fun _ => trivial)) (.cons (.tmp rfl (fun _ => trivial)) .nil)))) rfl ?_
              refine Chain.cons (StepOK.not .none (.tmp rfl (fun _ => trivial))) rfl ?_
              refine Chain.nil ?_
              refine Ends.then ?_
              refine Cod.cond (t := 186) rfl trivial (fun hb44 => ?_) (fun hb44 => ?_)
              · replace h := bif_t h hb44
                refine Cod.seq ?_
                refine Cod.region [] mixed (by kernel_rfl) ?_
                refine Chain.cons (StepOK.assign .none .bool) rfl ?_
                refine Chain.nil ?_
                refine Ends.then ?_
                refine Cod.ret ?_
                refine Ends.blkRet ?_
                refine Ends.thenRet ?_
                refine Ends.thenRet ?_
                refine Ends.blkRet ?_
                refine Ends.thenRet ?_
                replace h := hD39 _ (some_eq h)
                replace h := resb_ab hK38 (some_eq h)
                obtain rfl := some_eq h
                exact Ends.ret1 (.inl rfl) Try.results70 (ResOK.tmp rfl trivial Imp.refl)
              · replace h := bif_f h hb44
                refine Cod.skip ?_
                refine Ends.blkNormal ?_
                refine Ends.then ?_
                refine Cod.region [] mixed (by kernel_rfl) ?_
                refine Chain.cons (StepOK.move .none (.tmp rfl (fun _ => trivial))) rfl ?_
                refine Chain.cons (StepOK.addW .none (.tmp rfl (fun _ => trivial)) (.int (by decide))) rfl ?_
                obtain ⟨i2, hv45, h⟩ := bnd_some h
                refine Chain.cons (StepOK.re hv45 (StepOK.assign .none (.tmp rfl (fun _ => trivial)))) rfl ?_
                refine Chain.nil ?_
                exact Ends.againL (some_eq h) (.cons (t := 19) rfl (.cons (t := 1) rfl (.cons (t := 2) rfl (.cons (t := 5) rfl (.cons (t := 17) rfl (.cons (t := 18) rfl Sub.nil)))))) SubB.nil
            · replace h := bif_f h hb40
              refine Cod.exit ?_
              refine Ends.thenExit ?_
              refine Ends.thenExit ?_
              refine Ends.blkExit ?_
              replace h := hD39 _ (some_eq h)
              exact Ends.join _ (some_eq h) (.cons (t := 1) rfl (.cons (t := 2) rfl (.cons (t := 5) rfl Sub.nil))) SubB.nil
          · have h := resb_nx hK38 hj38
            refine Cod.seq ?_
            refine Cod.region [] mixed (by kernel_rfl) ?_
            refine Chain.cons (StepOK.load .none ty55 (.tmp rfl (fun _ => trivial))) rfl ?_
            obtain ⟨r14, hv46, h⟩ := bind_some h
            refine Chain.cons (StepOK.call .none (route_lines_ok hv46) (.cons (.tmp rfl (fun _ => trivial)) .nil)) rfl ?_
            refine Chain.cons (StepOK.move .none (.tmp rfl (fun _ => trivial))) rfl ?_
            refine Chain.cons (StepOK.extract .none (.tmp rfl (fun _ => trivial)) rfl) rfl ?_
            refine Chain.cons (StepOK.extract .none (.tmp rfl (fun _ => trivial)) rfl) rfl ?_
            refine Chain.cons (StepOK.assign .none (.tmp rfl (fun _ => trivial))) rfl ?_
            refine Chain.cons (StepOK.assign .none (.tmp rfl (fun _ => trivial))) rfl ?_
            refine Chain.nil ?_
            refine Ends.then ?_
            refine Cod.seq ?_
            refine Cod.seq ?_
            refine Cod.region [] mixed (by kernel_rfl) ?_
            refine Chain.cons (StepOK.move .none (.tmp rfl (fun _ => trivial))) rfl ?_
            refine Chain.cons (StepOK.move .none (.tmp rfl (fun _ => trivial))) rfl ?_
            refine Chain.cons (StepOK.subW .none (.tmp rfl (fun _ => trivial)) (.int (by decide))) rfl ?_
            obtain ⟨hn47, h⟩ := need_some h
            obtain ⟨v1, hv48, h⟩ := bnd_some h
            refine Chain.cons (StepOK.re hv48 (StepOK.slice .none sl22 ty53 (.tmp rfl (fun _ => trivial)) (.int (by decide)) (.tmp rfl (fun _ => trivial)) (fun _ => hn47))) rfl ?_
            refine Chain.cons (StepOK.len .none sl22 (.tmp rfl (fun _ => trivial))) rfl ?_
            refine Chain.cons (StepOK.move .none (.int (by decide))) rfl ?_
            refine Chain.nil ?_
            refine Ends.then ?_
            obtain ⟨o_49, h, hK49⟩ := bindR_some h
            refine Cod.thenJ (ι := Unit) (fun j_49 => []) (fun j_49 => []) (fun s => o_49 = Res.nx s) Sub.nil SubB.nil ?_ (fun j_49 hj49 => ?_)
            · skip
              refine Cod.block ?_
              refine Cod.rforEL h (fun p50_ => [(197, ⟨True, rep p50_.1⟩)]) (fun p50_ => []) (.cons (t := 197) rfl Sub.nil) SubB.nil (.cons (t := 20) rfl (.cons (t := 21) rfl (.cons (t := 195) rfl (.cons (t := 196) rfl Sub.nil)))) SubB.nil (fun p50_ o_50 h hD50 => ?_)
              refine Cod.seq ?_
              refine Cod.region [] mixed (by kernel_rfl) ?_
              refine Chain.cons (StepOK.lt .none (.tmp rfl (fun _ => trivial)) (.tmp rfl (fun _ => trivial))) rfl ?_
              refine Chain.nil ?_
              refine Ends.then ?_
              refine Cod.seq ?_
              refine Cod.cond (t := 198) rfl trivial (fun hb51 => ?_) (fun hb51 => ?_)
              · replace h := bif_t h hb51
                refine Cod.skip ?_
                refine Ends.then ?_
                refine Cod.seq ?_
                obtain ⟨o_52, h, hK52⟩ := bindD_some h
                unfold route_right_L3 at h
                refine Cod.thenJ (ι := Unit) (fun j_52 => []) (fun j_52 => []) (fun s => o_52 = Res.nx s) (.cons (t := 20) rfl (.cons (t := 21) rfl (.cons (t := 195) rfl (.cons (t := 196) rfl (.cons (t := 197) rfl Sub.nil))))) SubB.nil ?_ (fun j_52 hj52 => ?_)
                · skip
                  refine Cod.block ?_
                  refine Cod.seq ?_
                  refine Cod.region [([], []), ([], []), ([], [23]), ([23], [23])] mixed (by kernel_rfl) ?_
                  obtain ⟨hn53, h⟩ := need_some h
                  refine Chain.consA (StepOK.indexAddr .none sl22 ty53 (.tmp rfl (fun _ => trivial)) (.tmp rfl (fun _ => trivial)) (fun _ => hn53)) rfl ?_
                  obtain ⟨v2, hv54, h⟩ := bnd_some h
                  refine Chain.consA (StepOK.re hv54 (StepOK.load .none ty53 (.tmp rfl (fun _ => trivial)))) rfl ?_
                  refine Chain.consW (StepOK.alloc zo53 rfl) rfl rfl ?_
                  refine Chain.consN (StepOK.store ty53 rfl rfl (.tmp rfl (fun _ => trivial))) rfl ?_
                  refine Chain.nil ?_
                  refine Ends.then ?_
                  refine Cod.freeze (t := 23) rfl rfl SubB.nil rfl ?_
                  refine Cod.seq ?_
                  refine Cod.region [] mixed (by kernel_rfl) ?_
                  refine Chain.cons (StepOK.move .none (.tmp rfl (fun _ => trivial))) rfl ?_
                  refine Chain.cons (StepOK.fieldAddr .none fd53_0 hfd53_0 (.tmp rfl (fun _ => trivial))) rfl ?_
                  refine Chain.cons (StepOK.load .none ty3 (.tmp rfl (fun _ => trivial))) rfl ?_
                  obtain ⟨r15, hv55, h⟩ := bind_some h
                  refine Chain.cons (StepOK.call .none (slices_BinarySearch_int_ok hv55) (.cons (.tmp rfl (fun _ => trivial)) (.cons (.tmp rfl (fun _ => trivial)) .nil))) rfl ?_
                  refine Chain.cons (StepOK.move .none (.tmp rfl (fun _ => trivial))) rfl ?_
                  refine Chain.cons (StepOK.extract .none (.tmp rfl (fun _ => trivial)) rfl) rfl ?_
                  refine Chain.cons (StepOK.extract .none (.tmp rfl (fun _ => trivial)) rfl) rfl ?_
                  refine Chain.cons (StepOK.assign .none (.tmp rfl (fun _ => trivial))) rfl ?_
                  refine Chain.cons (StepOK.assign .none (.tmp rfl (fun _ => trivial))) rfl ?_
                  refine Chain.nil ?_
                  refine Ends.then ?_
                  refine Cod.seq ?_
                  refine Cod.region [] mixed (by kernel_rfl) ?_
                  refine Chain.cons (StepOK.move .none (.tmp rfl (fun _ => trivial))) rfl ?_
                  refine Chain.cons (StepOK.fieldAddr .none fd53_1 hfd53_1 (.tmp rfl (fun _ => trivial))) rfl ?_
                  refine Chain.cons (StepOK.load .none ty3 (.tmp rfl (fun _ => trivial))) rfl ?_
                  obtain ⟨r16, hv56, h⟩ := bind_some h
                  refine Chain.cons (StepOK.call .none (slices_BinarySearch_int_ok hv56) (.cons (.tmp rfl (fun _ => trivial)) (.cons (.tmp rfl (fun _ => trivial)) .nil))) rfl ?_
                  refine Chain.cons (StepOK.move .none (.tmp rfl (fun _ => trivial))) rfl ?_
                  refine Chain.cons (StepOK.extract .none (.tmp rfl (fun _ => trivial)) rfl) rfl ?_
                  refine Chain.cons (StepOK.extract .none (.tmp rfl (fun _ => trivial)) rfl) rfl ?_
                  refine Chain.cons (StepOK.assign .none (.tmp rfl (fun _ => trivial))) rfl ?_
                  refine Chain.cons (StepOK.assign .none (.tmp rfl (fun _ => trivial))) rfl ?_
                  refine Chain.nil ?_
                  refine Ends.then ?_
                  refine Cod.seq ?_
                  refine Cod.region [] mixed (by kernel_rfl) ?_
                  refine Chain.cons (StepOK.move .none (.tmp rfl (fun _ => trivial))) rfl ?_
                  refine Chain.cons (StepOK.not .none (.tmp rfl (fun _ => trivial))) rfl ?_
                  refine Chain.cons (StepOK.move .none (.tmp rfl (fun _ => trivial))) rfl ?_
                  refine Chain.cons (StepOK.move (.at rfl rfl) (.tmp rfl (fun _ => trivial))) rfl ?_
                  refine Chain.cons (StepOK.not (.at rfl rfl) (.tmp rfl id)) rfl ?_
                  refine Chain.cons (StepOK.pickOr .none (.tmp rfl (fun _ => trivial)) (.tmp rfl id)) rfl ?_
                  refine Chain.nil ?_
                  refine Ends.then ?_
                  refine Cod.cond (t := 220) rfl trivial (fun hb57 => ?_) (fun hb57 => ?_)
                  · replace h := bif_t h hb57
                    refine Cod.seq ?_
                    refine Cod.region [] mixed (by kernel_rfl) ?_
                    refine Chain.cons (StepOK.assign .none .bool) rfl ?_
                    refine Chain.nil ?_
                    refine Ends.then ?_
                    refine Cod.ret ?_
                    refine Ends.blkRet ?_
                    refine Ends.thenRet ?_
                    refine Ends.thenRet ?_
                    refine Ends.blkRet ?_
                    refine Ends.thenRet ?_
                    replace h := resd_ab hK52 (some_eq h)
                    replace h := hD50 _ (some_eq h)
                    replace h := resb_ab hK49 (some_eq h)
                    obtain rfl := some_eq h
                    exact Ends.ret1 (.inl rfl) Try.results70 (ResOK.tmp rfl trivial Imp.refl)
                  · replace h := bif_f h hb57
                    refine Cod.skip ?_
                    refine Ends.blkNormal ?_
                    exact Ends.join _ (some_eq h) (.cons (t := 20) rfl (.cons (t := 21) rfl (.cons (t := 195) rfl (.cons (t := 196) rfl (.cons (t := 197) rfl Sub.nil))))) SubB.nil
                · have h := resd_nx hK52 hj52
                  refine Cod.region [] mixed (by kernel_rfl) ?_
                  refine Chain.cons (StepOK.addW .none (.tmp rfl (fun _ => trivial)) (.int (by decide))) rfl ?_
                  refine Chain.cons (StepOK.move .none (.tmp rfl (fun _ => trivial))) rfl ?_
                  refine Chain.nil ?_
                  exact Ends.againL (some_eq h) (.cons (t := 197) rfl (.cons (t := 20) rfl (.cons (t := 21) rfl (.cons (t := 195) rfl (.cons (t := 196) rfl Sub.nil))))) SubB.nil
              · replace h := bif_f h hb51
                refine Cod.exit ?_
                refine Ends.thenExit ?_
                refine Ends.thenExit ?_
                refine Ends.blkExit ?_
                replace h := hD50 _ (some_eq h)
                exact Ends.join _ (some_eq h) Sub.nil SubB.nil
            · have h := resb_nx hK49 hj49
              refine Cod.seq ?_
              refine Cod.region [] mixed (by kernel_rfl) ?_
              refine Chain.cons (StepOK.assign .none .bool) rfl ?_
              refine Chain.nil ?_
              refine Ends.then ?_
              refine Cod.ret ?_
              obtain rfl := some_eq h
              exact Ends.ret1 (.inl rfl) Try.results70 (ResOK.tmp rfl trivial Imp.refl)

theorem route_Right_ok {t1 : Task} {l1 : (List Point)} {r : (Bool × Int)}  (h : route_Right t1 l1 = some r) : FSpec Try.prog 26 [rep t1, rep l1] (tup [rep r.1, rep r.2]) := by
  unfold route_Right at h
  refine FSpec.intro (n := 21) fnok26 Try.func26 rfl Try.ntmps26 rfl (fun F => ?_)
  refine Cod.seq ?_
  refine Cod.region [] mixed (by kernel_rfl) ?_
  refine Chain.cons (StepOK.box .none (.tmp rfl (fun _ => trivial))) rfl ?_
  refine Chain.cons (StepOK.assign .none .bool) rfl ?_
  refine Chain.cons (StepOK.assign .none (.int (by decide))) rfl ?_
  refine Chain.nil ?_
  refine Ends.then ?_
  refine Cod.seq ?_
  refine Cod.seq ?_
  refine Cod.region [] mixed (by kernel_rfl) ?_
  refine Chain.cons (StepOK.load .none ty55 (.tmp rfl (fun _ => trivial))) rfl ?_
  obtain ⟨e1, hv1, h⟩ := bind_some h
  refine Chain.cons (StepOK.call .none (route_Check_ok hv1) (.cons (.tmp rfl (fun _ => trivial)) .nil)) rfl ?_
  refine Chain.cons (StepOK.assign .none (.tmp rfl (fun _ => trivial))) rfl ?_
  refine Chain.nil ?_
  refine Ends.then ?_
  refine Cod.seq ?_
  refine Cod.region [] mixed (by kernel_rfl) ?_
  refine Chain.cons (StepOK.move .none (.tmp rfl (fun _ => trivial))) rfl ?_
  refine Chain.cons (StepOK.neI .none (.tmp rfl (fun _ => trivial)) (.int (by decide))) rfl ?_
  refine Chain.nil ?_
  refine Ends.then ?_
  refine Cod.cond (t := 11) rfl trivial (fun hb2 => ?_) (fun hb2 => ?_)
  · replace h := bif_t h hb2
    refine Cod.seq ?_
    refine Cod.region [] mixed (by kernel_rfl) ?_
    refine Chain.cons (StepOK.move .none (.tmp rfl (fun _ => trivial))) rfl ?_
    refine Chain.cons (StepOK.assign .none .bool) rfl ?_
    refine Chain.cons (StepOK.assign .none (.tmp rfl (fun _ => trivial))) rfl ?_
    refine Chain.nil ?_
    refine Ends.then ?_
    refine Cod.ret ?_
    refine Ends.thenRet ?_
    obtain rfl := some_eq h
    exact Ends.ret2 (.inl rfl) Try.results26 (ResOK.tmp rfl trivial Imp.refl) (ResOK.tmp rfl trivial Imp.refl)
  · replace h := bif_f h hb2
    refine Cod.skip ?_
    refine Ends.then ?_
    refine Cod.seq ?_
    refine Cod.seq ?_
    refine Cod.region [] mixed (by kernel_rfl) ?_
    refine Chain.cons (StepOK.move .none (.tmp rfl (fun _ => trivial))) rfl ?_
    obtain ⟨e2, hv3, h⟩ := bind_some h
    refine Chain.cons (StepOK.call .none (geom_CheckPoints_ok hv3) (.cons (.tmp rfl (fun _ => trivial)) .nil)) rfl ?_
    refine Chain.cons (StepOK.assign .none (.tmp rfl (fun _ => trivial))) rfl ?_
    refine Chain.nil ?_
    refine Ends.then ?_
    refine Cod.seq ?_
    refine Cod.region [] mixed (by kernel_rfl) ?_
    refine Chain.cons (StepOK.move .none (.tmp rfl (fun _ => trivial))) rfl ?_
    refine Chain.cons (StepOK.neI .none (.tmp rfl (fun _ => trivial)) (.int (by decide))) rfl ?_
    refine Chain.nil ?_
    refine Ends.then ?_
    refine Cod.cond (t := 16) rfl trivial (fun hb4 => ?_) (fun hb4 => ?_)
    · replace h := bif_t h hb4
      refine Cod.seq ?_
      refine Cod.region [] mixed (by kernel_rfl) ?_
      refine Chain.cons (StepOK.move .none (.tmp rfl (fun _ => trivial))) rfl ?_
      refine Chain.cons (StepOK.assign .none .bool) rfl ?_
      refine Chain.cons (StepOK.assign .none (.tmp rfl (fun _ => trivial))) rfl ?_
      refine Chain.nil ?_
      refine Ends.then ?_
      refine Cod.ret ?_
      refine Ends.thenRet ?_
      obtain rfl := some_eq h
      exact Ends.ret2 (.inl rfl) Try.results26 (ResOK.tmp rfl trivial Imp.refl) (ResOK.tmp rfl trivial Imp.refl)
    · replace h := bif_f h hb4
      refine Cod.skip ?_
      refine Ends.then ?_
      refine Cod.seq ?_
      refine Cod.region [] mixed (by kernel_rfl) ?_
      refine Chain.cons (StepOK.load .none ty55 (.tmp rfl (fun _ => trivial))) rfl ?_
      refine Chain.cons (StepOK.move .none (.tmp rfl (fun _ => trivial))) rfl ?_
      obtain ⟨r1, hv5, h⟩ := bind_some h
      refine Chain.cons (StepOK.call .none (route_right_ok hv5) (.cons (.tmp rfl (fun _ => trivial)) (.cons (.tmp rfl (fun _ => trivial)) .nil))) rfl ?_
      refine Chain.cons (StepOK.assign .none (.tmp rfl (fun _ => trivial))) rfl ?_
      refine Chain.cons (StepOK.assign .none (.int (by decide))) rfl ?_
      refine Chain.nil ?_
      refine Ends.then ?_
      refine Cod.ret ?_
      obtain rfl := some_eq h
      exact Ends.ret2 (.inl rfl) Try.results26 (ResOK.tmp rfl trivial Imp.refl) (ResOK.tmp rfl trivial Imp.refl)

theorem law_routes_ok  {r : Bool}  (h : law_routes  = some r) : FSpec Try.prog 17 [] (rep r) := by
  unfold law_routes at h
  refine FSpec.intro (n := 12) fnok17 Try.func17 rfl Try.ntmps17 rfl (fun F => ?_)
  refine Cod.seq ?_
  refine Cod.region [] mixed (by kernel_rfl) ?_
  refine Chain.cons (StepOK.assign .none .bool) rfl ?_
  refine Chain.nil ?_
  refine Ends.then ?_
  refine Cod.seq ?_
  refine Cod.region [([], []), ([], []), ([], [1]), ([1], [1])] mixed (by kernel_rfl) ?_
  refine Chain.consA (StepOK.buildF (y := (⟨9, (0 : Int)⟩ : Point)) .none bu53 zc53 rfl (.cons (.int (by decide)) .nil) (.cons rfl sf53_0 .nil)) rfl ?_
  obtain ⟨v1, hv1, h⟩ := bnd_some h
  refine Chain.consA (StepOK.re hv1 (StepOK.buildF (y := (⟨(⟨(0 : Int), (0 : Int)⟩ : Point), 2, (⟨9, (0 : Int)⟩ : Point), 4, ([] : (List Box)), 1⟩ : Task)) .none bu55 zc55 rfl (.cons (.int (by decide)) (.cons (.tmp rfl (fun _ => trivial)) (.cons (.int (by decide)) (.cons (.int (by decide)) .nil)))) (.cons rfl sf55_1 (.cons rfl sf55_2 (.cons rfl sf55_3 (.cons rfl sf55_5 .nil)))))) rfl ?_
  refine Chain.consW (StepOK.alloc zo55 rfl) rfl rfl ?_
  refine Chain.consN (StepOK.store ty55 rfl rfl (.tmp rfl (fun _ => trivial))) rfl ?_
  refine Chain.nil ?_
  refine Ends.then ?_
  refine Cod.freeze (t := 1) rfl rfl SubB.nil rfl ?_
  refine Cod.seq ?_
  refine Cod.region [] mixed (by kernel_rfl) ?_
  refine Chain.cons (StepOK.load .none ty55 (.tmp rfl (fun _ => trivial))) rfl ?_
  obtain ⟨r1, hv2, h⟩ := bind_some h
  refine Chain.cons (StepOK.call .none (route_Check_ok hv2) (.cons (.tmp rfl (fun _ => trivial)) .nil)) rfl ?_
  refine Chain.cons (StepOK.eqI .none (.tmp rfl (fun _ => trivial)) (.int (by decide))) rfl ?_
  refine Chain.cons (StepOK.move .none (.tmp rfl (fun _ => trivial))) rfl ?_
  refine Chain.cons (StepOK.buildF (y := (⟨(⟨(0 : Int), (0 : Int)⟩ : Point), (0 : Int), (⟨(0 : Int), (0 : Int)⟩ : Point), (0 : Int), ([] : (List Box)), (0 : Int)⟩ : Task)) (.at rfl rfl) bu55 zc55 rfl .nil .nil) rfl ?_
  obtain ⟨r2, hv3, h⟩ := bind_some h
  refine Chain.cons (StepOK.callIf (.at rfl rfl) fnok27 (fun hg => route_Check_ok ((fun hg => gd_some hv3 (hg.2)) hg)) (.cons (.tmp rfl id) .nil) (fun h => h)) rfl ?_
  refine Chain.cons (StepOK.eqI (.at rfl rfl) (.tmp rfl id) (.int (by decide))) rfl ?_
  refine Chain.cons (StepOK.pickAnd .none (.tmp rfl (fun _ => trivial)) (.tmp rfl id)) rfl ?_
  refine Chain.cons (StepOK.assign .none (.tmp rfl (fun _ => trivial))) rfl ?_
  refine Chain.nil ?_
  refine Ends.then ?_
  refine Cod.ret ?_
  obtain rfl := some_eq h
  exact Ends.ret1 (.inl rfl) Try.results17 (ResOK.tmp rfl trivial Imp.refl)

theorem ref_PointsError_ok {l1 : (List Point)} {r : Int}  (h : ref_PointsError l1 = some r) : FSpec Try.prog 29 [rep l1] (rep r) := by
  unfold ref_PointsError at h
  refine FSpec.intro (n := 21) fnok29 Try.func29 rfl Try.ntmps29 rfl (fun F => ?_)
  refine Cod.seq ?_
  refine Cod.region [] mixed (by kernel_rfl) ?_
  refine Chain.cons (StepOK.assign .none (.int (by decide))) rfl ?_
  refine Chain.nil ?_
  refine Ends.then ?_
  refine Cod.seq ?_
  refine Cod.seq ?_
  refine Cod.region [] mixed (by kernel_rfl) ?_
  refine Chain.cons (StepOK.move .none (.tmp rfl (fun _ => trivial))) rfl ?_
  refine Chain.cons (StepOK.len .none sl22 (.tmp rfl (fun _ => trivial))) rfl ?_
  refine Chain.cons (StepOK.gt .none (.tmp rfl (fun _ => trivial)) (.int (by decide))) rfl ?_
  refine Chain.nil ?_
  refine Ends.then ?_
  refine Cod.cond (t := 8) rfl trivial (fun hb1 => ?_) (fun hb1 => ?_)
  · replace h := bif_t h hb1
    refine Cod.seq ?_
    refine Cod.region [] mixed (by kernel_rfl) ?_
    refine Chain.cons (StepOK.assign .none (.int (by decide))) rfl ?_
    refine Chain.nil ?_
    refine Ends.then ?_
    refine Cod.ret ?_
    refine Ends.thenRet ?_
    obtain rfl := some_eq h
    exact Ends.ret1 (.inl rfl) Try.results29 (ResOK.tmp rfl trivial Imp.refl)
  · replace h := bif_f h hb1
    refine Cod.skip ?_
    refine Ends.then ?_
    refine Cod.seq ?_
    refine Cod.seq ?_
    refine Cod.region [] mixed (by kernel_rfl) ?_
    refine Chain.cons (StepOK.move .none (.tmp rfl (fun _ => trivial))) rfl ?_
    refine Chain.cons (StepOK.len .none sl22 (.tmp rfl (fun _ => trivial))) rfl ?_
    refine Chain.cons (StepOK.move .none (.int (by decide))) rfl ?_
    refine Chain.nil ?_
    refine Ends.then ?_
    obtain ⟨o_2, h, hK2⟩ := bindR_some h
    refine Cod.thenJ (ι := Unit) (fun j_2 => []) (fun j_2 => []) (fun s => o_2 = Res.nx s) Sub.nil SubB.nil ?_ (fun j_2 hj2 => ?_)
    · skip
      refine Cod.block ?_
      refine Cod.rforEL h (fun p3_ => [(11, ⟨True, rep p3_.1⟩)]) (fun p3_ => []) (.cons (t := 11) rfl Sub.nil) SubB.nil (.cons (t := 9) rfl (.cons (t := 10) rfl Sub.nil)) SubB.nil (fun p3_ o_3 h hD3 => ?_)
      refine Cod.seq ?_
      refine Cod.region [] mixed (by kernel_rfl) ?_
      refine Chain.cons (StepOK.lt .none (.tmp rfl (fun _ => trivial)) (.tmp rfl (fun _ => trivial))) rfl ?_
      refine Chain.nil ?_
      refine Ends.then ?_
      refine Cod.seq ?_
      refine Cod.cond (t := 12) rfl trivial (fun hb4 => ?_) (fun hb4 => ?_)
      · replace h := bif_t h hb4
        refine Cod.skip ?_
        refine Ends.then ?_
        refine Cod.seq ?_
        obtain ⟨o_5, h, hK5⟩ := bindD_some h
        unfold ref_PointsError_L1 at h
        refine Cod.thenJ (ι := Unit) (fun j_5 => []) (fun j_5 => []) (fun s => o_5 = Res.nx s) (.cons (t := 9) rfl (.cons (t := 10) rfl (.cons (t := 11) rfl Sub.nil))) SubB.nil ?_ (fun j_5 hj5 => ?_)
        · skip
          refine Cod.block ?_
          refine Cod.seq ?_
          refine Cod.region [([], []), ([], []), ([], [4]), ([4], [4])] mixed (by kernel_rfl) ?_
          obtain ⟨hn6, h⟩ := need_some h
          refine Chain.consA (StepOK.indexAddr .none sl22 ty53 (.tmp rfl (fun _ => trivial)) (.tmp rfl (fun _ => trivial)) (fun _ => hn6)) rfl ?_
          obtain ⟨v1, hv7, h⟩ := bnd_some h
          refine Chain.consA (StepOK.re hv7 (StepOK.load .none ty53 (.tmp rfl (fun _ => trivial)))) rfl ?_
          refine Chain.consW (StepOK.alloc zo53 rfl) rfl rfl ?_
          refine Chain.consN (StepOK.store ty53 rfl rfl (.tmp rfl (fun _ => trivial))) rfl ?_
          refine Chain.nil ?_
          refine Ends.then ?_
          refine Cod.freeze (t := 4) rfl rfl SubB.nil rfl ?_
          refine Cod.seq ?_
          refine Cod.region [] mixed (by kernel_rfl) ?_
          refine Chain.cons (StepOK.load .none ty53 (.tmp rfl (fun _ => trivial))) rfl ?_
          obtain ⟨e1, hv8, h⟩ := bind_some h
          refine Chain.cons (StepOK.call .none (ref_PointError_ok hv8) (.cons (.tmp rfl (fun _ => trivial)) .nil)) rfl ?_
          refine Chain.cons (StepOK.assign .none (.tmp rfl (fun _ => trivial))) rfl ?_
          refine Chain.nil ?_
          refine Ends.then ?_
          refine Cod.seq ?_
          refine Cod.region [] mixed (by kernel_rfl) ?_
          refine Chain.cons (StepOK.move .none (.tmp rfl (fun _ => trivial))) rfl ?_
          refine Chain.cons (StepOK.neI .none (.tmp rfl (fun _ => trivial)) (.int (by decide))) rfl ?_
          refine Chain.nil ?_
          refine Ends.then ?_
          refine Cod.cond (t := 18) rfl trivial (fun hb9 => ?_) (fun hb9 => ?_)
          · replace h := bif_t h hb9
            refine Cod.seq ?_
            refine Cod.region [] mixed (by kernel_rfl) ?_
            refine Chain.cons (StepOK.move .none (.tmp rfl (fun _ => trivial))) rfl ?_
            refine Chain.cons (StepOK.assign .none (.tmp rfl (fun _ => trivial))) rfl ?_
            refine Chain.nil ?_
            refine Ends.then ?_
            refine Cod.ret ?_
            refine Ends.blkRet ?_
            refine Ends.thenRet ?_
            refine Ends.thenRet ?_
            refine Ends.blkRet ?_
            refine Ends.thenRet ?_
            replace h := resd_ab hK5 (some_eq h)
            replace h := hD3 _ (some_eq h)
            replace h := resb_ab hK2 (some_eq h)
            obtain rfl := some_eq h
            exact Ends.ret1 (.inl rfl) Try.results29 (ResOK.tmp rfl trivial Imp.refl)
          · replace h := bif_f h hb9
            refine Cod.skip ?_
            refine Ends.blkNormal ?_
            exact Ends.join _ (some_eq h) (.cons (t := 9) rfl (.cons (t := 10) rfl (.cons (t := 11) rfl Sub.nil))) SubB.nil
        · have h := resd_nx hK5 hj5
          refine Cod.region [] mixed (by kernel_rfl) ?_
          refine Chain.cons (StepOK.addW .none (.tmp rfl (fun _ => trivial)) (.int (by decide))) rfl ?_
          refine Chain.cons (StepOK.move .none (.tmp rfl (fun _ => trivial))) rfl ?_
          refine Chain.nil ?_
          exact Ends.againL (some_eq h) (.cons (t := 11) rfl (.cons (t := 9) rfl (.cons (t := 10) rfl Sub.nil))) SubB.nil
      · replace h := bif_f h hb4
        refine Cod.exit ?_
        refine Ends.thenExit ?_
        refine Ends.thenExit ?_
        refine Ends.blkExit ?_
        replace h := hD3 _ (some_eq h)
        exact Ends.join _ (some_eq h) Sub.nil SubB.nil
    · have h := resb_nx hK2 hj2
      refine Cod.seq ?_
      refine Cod.region [] mixed (by kernel_rfl) ?_
      refine Chain.cons (StepOK.assign .none (.int (by decide))) rfl ?_
      refine Chain.nil ?_
      refine Ends.then ?_
      refine Cod.ret ?_
      obtain rfl := some_eq h
      exact Ends.ret1 (.inl rfl) Try.results29 (ResOK.tmp rfl trivial Imp.refl)

theorem ref_IsRight_ok {l1 : (List Point)} {r : Bool}  (h : ref_IsRight l1 = some r) : FSpec Try.prog 48 [rep l1] (rep r) := by
  unfold ref_IsRight at h
  refine FSpec.intro (n := 38) fnok48 Try.func48 rfl Try.ntmps48 rfl (fun F => ?_)
  refine Cod.seq ?_
  refine Cod.region [] mixed (by kernel_rfl) ?_
  refine Chain.cons (StepOK.assign .none .bool) rfl ?_
  refine Chain.nil ?_
  refine Ends.then ?_
  refine Cod.seq ?_
  refine Cod.seq ?_
  refine Cod.region [] mixed (by kernel_rfl) ?_
  refine Chain.cons (StepOK.assign .none (.int (by decide))) rfl ?_
  refine Chain.nil ?_
  refine Ends.then ?_
  obtain ⟨o_1, h, hK1⟩ := bindR_some h
  refine Cod.thenJ (ι := Unit) (fun j_1 => []) (fun j_1 => []) (fun s => o_1 = Res.nx s) (.cons (t := 0) rfl Sub.nil) SubB.nil ?_ (fun j_1 hj1 => ?_)
  · skip
    refine Cod.block ?_
    refine Cod.loopL h (fun s2_ => [(3, ⟨True, rep s2_⟩)]) (fun s2_ => []) (.cons (t := 3) rfl Sub.nil) SubB.nil (.cons (t := 0) rfl Sub.nil) SubB.nil (fun s2_ o_2 h hD2 => ?_)
    unfold ref_IsRight_L1 at h
    refine Cod.seq ?_
    refine Cod.seq ?_
    refine Cod.region [] mixed (by kernel_rfl) ?_
    refine Chain.cons (StepOK.move .none (.tmp rfl (fun _ => trivial))) rfl ?_
    refine Chain.cons (StepOK.move .none (.tmp rfl (fun _ => trivial))) rfl ?_
    refine Chain.cons (StepOK.len .none sl22 (.tmp rfl (fun _ => trivial))) rfl ?_
    refine Chain.cons (StepOK.lt .none (.tmp rfl (fun _ => trivial)) (.tmp rfl (fun _ => trivial))) rfl ?_
    refine Chain.nil ?_
    refine Ends.then ?_
    refine Cod.cond (t := 7) rfl trivial (fun hb3 => ?_) (fun hb3 => ?_)
    · replace h := bif_t h hb3
      refine Cod.skip ?_
      refine Ends.then ?_
      refine Cod.seq ?_
      refine Cod.block ?_
      refine Cod.seq ?_
      refine Cod.region [] mixed (by kernel_rfl) ?_
      refine Chain.cons (StepOK.move .none (.tmp rfl (fun _ => trivial))) rfl ?_
      refine Chain.cons (StepOK.move .none (.tmp rfl (fun _ => trivial))) rfl ?_
      obtain ⟨hn4, h⟩ := need_some h
      refine Chain.cons (StepOK.indexAddr .none sl22 ty53 (.tmp rfl (fun _ => trivial)) (.tmp rfl (fun _ => trivial)) (fun _ => hn4)) rfl ?_
      refine Chain.cons (StepOK.fieldAddr .none fd53_0 hfd53_0 (.tmp rfl (fun _ => trivial))) rfl ?_
      refine Chain.cons (StepOK.load .none ty3 (.tmp rfl (fun _ => trivial))) rfl ?_
      refine Chain.cons (StepOK.move .none (.tmp rfl (fun _ => trivial))) rfl ?_
      refine Chain.cons (StepOK.move .none (.tmp rfl (fun _ => trivial))) rfl ?_
      refine Chain.cons (StepOK.subW .none (.tmp rfl (fun _ => trivial)) (.int (by decide))) rfl ?_
      obtain ⟨hn5, h⟩ := need_some h
      refine Chain.cons (StepOK.indexAddr .none sl22 ty53 (.tmp rfl (fun _ => trivial)) (.tmp rfl (fun _ => trivial)) (fun _ => hn5)) rfl ?_
      refine Chain.cons (StepOK.fieldAddr .none fd53_0 hfd53_0 (.tmp rfl (fun _ => trivial))) rfl ?_
      refine Chain.cons (StepOK.load .none ty3 (.tmp rfl (fun _ => trivial))) rfl ?_
      refine Chain.cons (StepOK.eqI .none (.tmp rfl (fun _ => trivial)) (.tmp rfl (fun _ => trivial))) rfl ?_
      refine Chain.cons (StepOK.move .none (.tmp rfl (fun _ => trivial))) rfl ?_
      refine Chain.cons (StepOK.move .none (.tmp rfl (fun _ => trivial))) rfl ?_
      obtain ⟨hn6, h⟩ := need_some h
      refine Chain.cons (StepOK.indexAddr .none sl22 ty53 (.tmp rfl (fun _ => trivial)) (.tmp rfl (fun _ => trivial)) (fun _ => hn6)) rfl ?_
      refine Chain.cons (StepOK.fieldAddr .none fd53_1 hfd53_1 (.tmp rfl (fun _ => trivial))) rfl ?_
      refine Chain.cons (StepOK.load .none ty3 (.tmp rfl (fun _ => trivial))) rfl ?_
      refine Chain.cons (StepOK.move .none (.tmp rfl (fun _ => trivial))) rfl ?_
      refine Chain.cons (StepOK.move .none (.tmp rfl (fun _ => trivial))) rfl ?_
      refine Chain.cons (StepOK.subW .none (.tmp rfl (fun _ => trivial)) (.int (by decide))) rfl ?_
      obtain ⟨hn7, h⟩ := need_some h
      refine Chain.cons (StepOK.indexAddr .none sl22 ty53 (.tmp rfl (fun _ => trivial)) (.tmp rfl (fun _ => trivial)) (fun _ => hn7)) rfl ?_
      refine Chain.cons (StepOK.fieldAddr .none fd53_1 hfd53_1 (.tmp rfl (fun _ => trivial))) rfl ?_
      refine Chain.cons (StepOK.load .none ty3 (.tmp rfl (fun _ => trivial))) rfl ?_
      refine Chain.cons (StepOK.eqI .none (.tmp rfl (fun _ => trivial)) (.tmp rfl (fun _ => trivial))) rfl ?_
      refine Chain.cons (StepOK.eqS .none (eqAt_bool Try.underlying4) (.tmp rfl (fun _ => trivial)) (.tmp rfl (fun _ => trivial))) rfl ?_
      refine Chain.nil ?_
      refine Ends.then ?_
      refine Cod.cond (t := 34) rfl trivial (fun hb8 => ?_) (fun hb8 => ?_)
      · replace h := bif_t h hb8
        refine Cod.seq ?_
        refine Cod.region [] mixed (by kernel_rfl) ?_
        refine Chain.cons (StepOK.assign .none .bool) rfl ?_
        refine Chain.nil ?_
        refine Ends.then ?_
        refine Cod.ret ?_
        refine Ends.blkRet ?_
        refine Ends.thenRet ?_
        refine Ends.thenRet ?_
        refine Ends.blkRet ?_
        refine Ends.thenRet ?_
        replace h := hD2 _ (some_eq h)
        replace h := resb_ab hK1 (some_eq h)
        obtain rfl := some_eq h
        exact Ends.ret1 (.inl rfl) Try.results48 (ResOK.tmp rfl trivial Imp.refl)
      · replace h := bif_f h hb8
        refine Cod.skip ?_
        refine Ends.blkNormal ?_
        refine Ends.then ?_
        refine Cod.region [] mixed (by kernel_rfl) ?_
        refine Chain.cons (StepOK.move .none (.tmp rfl (fun _ => trivial))) rfl ?_
        refine Chain.cons (StepOK.addW .none (.tmp rfl (fun _ => trivial)) (.int (by decide))) rfl ?_
        obtain ⟨i1, hv9, h⟩ := bnd_some h
        refine Chain.cons (StepOK.re hv9 (StepOK.assign .none (.tmp rfl (fun _ => trivial)))) rfl ?_
        refine Chain.nil ?_
        exact Ends.againL (some_eq h) (.cons (t := 3) rfl (.cons (t := 0) rfl Sub.nil)) SubB.nil
    · replace h := bif_f h hb3
      refine Cod.exit ?_
      refine Ends.thenExit ?_
      refine Ends.thenExit ?_
      refine Ends.blkExit ?_
      replace h := hD2 _ (some_eq h)
      exact Ends.join _ (some_eq h) (.cons (t := 0) rfl Sub.nil) SubB.nil
  · have h := resb_nx hK1 hj1
    refine Cod.seq ?_
    refine Cod.region [] mixed (by kernel_rfl) ?_
    refine Chain.cons (StepOK.move .none (.tmp rfl (fun _ => trivial))) rfl ?_
    refine Chain.cons (StepOK.len .none sl22 (.tmp rfl (fun _ => trivial))) rfl ?_
    refine Chain.cons (StepOK.gt .none (.tmp rfl (fun _ => trivial)) (.int (by decide))) rfl ?_
    refine Chain.cons (StepOK.assign .none (.tmp rfl (fun _ => trivial))) rfl ?_
    refine Chain.nil ?_
    refine Ends.then ?_
    refine Cod.ret ?_
    obtain rfl := some_eq h
    exact Ends.ret1 (.inl rfl) Try.results48 (ResOK.tmp rfl trivial Imp.refl)

theorem ref_Sign_ok {n1 : Int} {r : Int}  (h : ref_Sign n1 = some r) : FSpec Try.prog 104 [rep n1] (rep r) := by
  unfold ref_Sign at h
  refine FSpec.intro (n := 6) fnok104 Try.func104 rfl Try.ntmps104 rfl (fun F => ?_)
  refine Cod.seq ?_
  refine Cod.region [] mixed (by kernel_rfl) ?_
  refine Chain.cons (StepOK.assign .none (.int (by decide))) rfl ?_
  refine Chain.nil ?_
  refine Ends.then ?_
  refine Cod.seq ?_
  refine Cod.region [] mixed (by kernel_rfl) ?_
  refine Chain.cons (StepOK.move .none (.tmp rfl (fun _ => trivial))) rfl ?_
  refine Chain.cons (StepOK.max2 .none (.tmp rfl (fun _ => trivial)) (.int (by decide))) rfl ?_
  refine Chain.cons (StepOK.min2 .none (.tmp rfl (fun _ => trivial)) (.int (by decide))) rfl ?_
  refine Chain.cons (StepOK.assign .none (.tmp rfl (fun _ => trivial))) rfl ?_
  refine Chain.nil ?_
  refine Ends.then ?_
  refine Cod.ret ?_
  obtain rfl := some_eq h
  exact Ends.ret1 (.inl rfl) Try.results104 (ResOK.tmp rfl trivial Imp.refl)

theorem ref_way_ok {a1 : Point} {b1 : Point} {r : Point}  (h : ref_way a1 b1 = some r) : FSpec Try.prog 76 [rep a1, rep b1] (rep r) := by
  unfold ref_way at h
  refine FSpec.intro (n := 18) fnok76 Try.func76 rfl Try.ntmps76 rfl (fun F => ?_)
  refine Cod.seq ?_
  refine Cod.region [([], []), ([], []), ([], [4])] mixed (by kernel_rfl) ?_
  refine Chain.consA (StepOK.box .none (.tmp rfl (fun _ => trivial))) rfl ?_
  refine Chain.consA (StepOK.box .none (.tmp rfl (fun _ => trivial))) rfl ?_
  refine Chain.consW (StepOK.alloc zo53 rfl) rfl rfl ?_
  refine Chain.nil ?_
  refine Ends.then ?_
  obtain ⟨v1, hv1, h⟩ := bnd_some h
  refine Cod.reB (t := 4) rfl (congrArg (cont 53) hv1) ?_
  refine Cod.nameBox (t := 4) (g := 5001) rfl rfl (fun m5001 => ?_)
  refine Cod.seq ?_
  refine Cod.region [([], []), ([], []), ([], []), ([], []), ([], []), ([], []), ([], []), ([], []), ([], []), ([], []), ([], []), ([], []), ([], []), ([5001], [5001])] mixed (by kernel_rfl) ?_
  refine Chain.consA (StepOK.fieldAddr .none fd53_0 hfd53_0 (.tmp rfl (fun _ => trivial))) rfl ?_
  refine Chain.consA (StepOK.load .none ty3 (.tmp rfl (fun _ => trivial))) rfl ?_
  refine Chain.consA (StepOK.fieldAddr .none fd53_0 hfd53_0 (.tmp rfl (fun _ => trivial))) rfl ?_
  refine Chain.consA (StepOK.load .none ty3 (.tmp rfl (fun _ => trivial))) rfl ?_
  refine Chain.consA (StepOK.subW .none (.tmp rfl (fun _ => trivial)) (.tmp rfl (fun _ => trivial))) rfl ?_
  obtain ⟨r1, hv2, h⟩ := bind_some h
  refine Chain.consA (StepOK.call .none (ref_Sign_ok hv2) (.cons (.tmp rfl (fun _ => trivial)) .nil)) rfl ?_
  refine Chain.consA (StepOK.fieldAddr .none fd53_1 hfd53_1 (.tmp rfl (fun _ => trivial))) rfl ?_
  refine Chain.consA (StepOK.load .none ty3 (.tmp rfl (fun _ => trivial))) rfl ?_
  refine Chain.consA (StepOK.fieldAddr .none fd53_1 hfd53_1 (.tmp rfl (fun _ => trivial))) rfl ?_
  refine Chain.consA (StepOK.load .none ty3 (.tmp rfl (fun _ => trivial))) rfl ?_
  refine Chain.consA (StepOK.subW .none (.tmp rfl (fun _ => trivial)) (.tmp rfl (fun _ => trivial))) rfl ?_
  obtain ⟨r2, hv3, h⟩ := bind_some h
  refine Chain.consA (StepOK.call .none (ref_Sign_ok hv3) (.cons (.tmp rfl (fun _ => trivial)) .nil)) rfl ?_
  obtain ⟨v2, hv4, h⟩ := bnd_some h
  refine Chain.consA (StepOK.re hv4 (StepOK.buildF (y := (⟨r1, r2⟩ : Point)) .none bu53 zc53 rfl (.cons (.tmp rfl (fun _ => trivial)) (.cons (.tmp rfl (fun _ => trivial)) .nil)) (.cons rfl sf53_0 (.cons rfl sf53_1 .nil)))) rfl ?_
  refine Chain.consN (StepOK.storeAt0 (g := 5001) ty53 rfl (.tmp rfl (fun _ => trivial)) (.tmp rfl (fun _ => trivial))) rfl ?_
  refine Chain.nil ?_
  refine Ends.then ?_
  refine Cod.freezeBox (g := 5001) (ts := [4]) rfl (.cons (t := 4) rfl trivial .nil) SubB.nil rfl ?_
  refine Cod.ret ?_
  obtain rfl := some_eq h
  exact Ends.ret1 (.inl rfl) Try.results76 (ResOK.cellR ty53 rfl trivial Imp.refl)

theorem ref_TidyOf_ok {l1 : (List Point)} {r : (List Point)}  (h : ref_TidyOf l1 = some r) : FSpec Try.prog 74 [rep l1] (rep r) := by
  unfold ref_TidyOf at h
  refine FSpec.intro (n := 45) fnok74 Try.func74 rfl Try.ntmps74 rfl (fun F => ?_)
  refine Cod.seq ?_
  refine Cod.region [] mixed (by kernel_rfl) ?_
  refine Chain.cons (StepOK.assign .none (.const (x := ([] : (List Point))) (fun M w => ⟨_, ⟨none, 0, rfl, Nat.le_refl _, by decide, rfl⟩, rfl⟩))) rfl ?_
  refine Chain.nil ?_
  refine Ends.then ?_
  refine Cod.seq ?_
  refine Cod.region [([], [3])] mixed (by kernel_rfl) ?_
  refine Chain.consW (StepOK.nilRow (T := 53) (α := Point) rfl) rfl rfl ?_
  refine Chain.nil ?_
  refine Ends.then ?_
  refine Cod.nameRow (t := 3) (g := 5001) rfl rfl rfl (fun s5001 => ?_)
  refine Cod.seq ?_
  refine Cod.seq ?_
  refine Cod.region [] mixed (by kernel_rfl) ?_
  refine Chain.cons (StepOK.move .none (.tmp rfl (fun _ => trivial))) rfl ?_
  refine Chain.cons (StepOK.len .none sl22 (.tmp rfl (fun _ => trivial))) rfl ?_
  refine Chain.cons (StepOK.move .none (.int (by decide))) rfl ?_
  refine Chain.nil ?_
  refine Ends.then ?_
  obtain ⟨j_1, h, hK1⟩ := bind_some h
  refine Cod.thenJ (ι := (List Point)) (fun j_1 => []) (fun j_1 => [(3, some (rowV 53 j_1))]) (fun s => j_1 = s) Sub.nil SubB.nil ?_ (fun j_1' hj1 => ?_)
  · skip
    refine Cod.block ?_
    refine Cod.anon (t := 3) (g := 5001) rfl rfl trivial rfl ?_
    refine Cod.rforL h (fun p2_ => [(8, ⟨True, rep p2_.1⟩)]) (fun p2_ => [(3, some (rowV 53 p2_.2))]) (.cons (t := 8) rfl Sub.nil) (.cons (t := 3) rfl SubB.nil) (.cons (t := 0) rfl (.cons (t := 6) rfl (.cons (t := 7) rfl Sub.nil))) SubB.nil (fun p2_ o_2 h hD2 => ?_)
    refine Cod.nameRow (t := 3) (g := 5002) rfl rfl rfl (fun s5002 => ?_)
    refine Cod.seq ?_
    refine Cod.region [] mixed (by kernel_rfl) ?_
    refine Chain.cons (StepOK.lt .none (.tmp rfl (fun _ => trivial)) (.tmp rfl (fun _ => trivial))) rfl ?_
    refine Chain.nil ?_
    refine Ends.then ?_
    refine Cod.seq ?_
    refine Cod.cond (t := 9) rfl trivial (fun hb3 => ?_) (fun hb3 => ?_)
    · replace h := bif_t h hb3
      refine Cod.skip ?_
      refine Ends.then ?_
      refine Cod.seq ?_
      obtain ⟨j_4, h, hK4⟩ := bind_some h
      unfold ref_TidyOf_L1 at h
      refine Cod.thenJ (ι := (List Point)) (fun j_4 => []) (fun j_4 => [(3, some (rowV 53 j_4))]) (fun s => j_4 = s) (.cons (t := 0) rfl (.cons (t := 6) rfl (.cons (t := 7) rfl (.cons (t := 8) rfl Sub.nil)))) SubB.nil ?_ (fun j_4' hj4 => ?_)
      · skip
        refine Cod.block ?_
        refine Cod.seq ?_
        refine Cod.region [([], []), ([], []), ([], []), ([], [5]), ([], []), ([5], [5])] mixed (by kernel_rfl) ?_
        refine Chain.consA (StepOK.move .none (.tmp rfl (fun _ => trivial))) rfl ?_
        obtain ⟨hn5, h⟩ := need_some h
        refine Chain.consA (StepOK.indexAddr .none sl22 ty53 (.tmp rfl (fun _ => trivial)) (.tmp rfl (fun _ => trivial)) (fun _ => hn5)) rfl ?_
        obtain ⟨v1, hv6, h⟩ := bnd_some h
        refine Chain.consA (StepOK.re hv6 (StepOK.load .none ty53 (.tmp rfl (fun _ => trivial)))) rfl ?_
        refine Chain.consW (StepOK.alloc zo53 rfl) rfl rfl ?_
        refine Chain.consA (StepOK.assign .none (.tmp rfl (fun _ => trivial))) rfl ?_
        refine Chain.consN (StepOK.store ty53 rfl rfl (.tmp rfl (fun _ => trivial))) rfl ?_
        refine Chain.nil ?_
        refine Ends.then ?_
        refine Cod.freeze (t := 5) rfl rfl (.cons (t := 5002) rfl SubB.nil) rfl ?_
        refine Cod.seq ?_
        refine Cod.seq ?_
        refine Cod.region [] mixed (by kernel_rfl) ?_
        refine Chain.cons (StepOK.move .none (.tmp rfl (fun _ => trivial))) rfl ?_
        refine Chain.cons (StepOK.gt .none (.tmp rfl (fun _ => trivial)) (.int (by decide))) rfl ?_
        refine Chain.cons (StepOK.move .none (.tmp rfl (fun _ => trivial))) rfl ?_
        refine Chain.cons (StepOK.move (.at rfl rfl) (.tmp rfl (fun _ => trivial))) rfl ?_
        refine Chain.cons (StepOK.addW (.at rfl rfl) (.tmp rfl id) (.int (by decide))) rfl ?_
        refine Chain.cons (StepOK.move (.at rfl rfl) (.tmp rfl (fun _ => trivial))) rfl ?_
        refine Chain.cons (StepOK.len (.at rfl rfl) sl22 (.tmp rfl id)) rfl ?_
        refine Chain.cons (StepOK.lt (.at rfl rfl) (.tmp rfl id) (.tmp rfl id)) rfl ?_
        refine Chain.cons (StepOK.pickAnd .none (.tmp rfl (fun _ => trivial)) (.tmp rfl id)) rfl ?_
        refine Chain.cons (StepOK.move .none (.tmp rfl (fun _ => trivial))) rfl ?_
        refine Chain.cons (StepOK.move (.at rfl rfl) (.tmp rfl (fun _ => trivial))) rfl ?_
        refine Chain.cons (StepOK.move (.at rfl rfl) (.tmp rfl (fun _ => trivial))) rfl ?_
        refine Chain.cons (StepOK.subW (.at rfl rfl) (.tmp rfl id) (.int (by decide))) rfl ?_
        obtain ⟨hn7, h⟩ := need_some h
        refine Chain.cons (StepOK.indexAddr (.at rfl rfl) sl22 ty53 (.tmp rfl id) (.tmp rfl id) (fun hg => hn7 hg.2)) rfl ?_
        refine Chain.cons (StepOK.load (.at rfl rfl) ty53 (.tmp rfl id)) rfl ?_
        refine Chain.cons (StepOK.load (.at rfl rfl) ty53 (.tmp rfl (fun _ => trivial))) rfl ?_
        obtain ⟨r1, hv8, h⟩ := bind_some h
        refine Chain.cons (StepOK.callIf (.at rfl rfl) fnok76 (fun hg => ref_way_ok ((fun hg => gd_some hv8 (hg.2)) hg)) (.cons (.tmp rfl id) (.cons (.tmp rfl id) .nil)) (fun h => h)) rfl ?_
        refine Chain.cons (StepOK.load (.at rfl rfl) ty53 (.tmp rfl (fun _ => trivial))) rfl ?_
        refine Chain.cons (StepOK.move (.at rfl rfl) (.tmp rfl (fun _ => trivial))) rfl ?_
        refine Chain.cons (StepOK.move (.at rfl rfl) (.tmp rfl (fun _ => trivial))) rfl ?_
        refine Chain.cons (StepOK.addW (.at rfl rfl) (.tmp rfl id) (.int (by decide))) rfl ?_
        obtain ⟨hn9, h⟩ := need_some h
        refine Chain.cons (StepOK.indexAddr (.at rfl rfl) sl22 ty53 (.tmp rfl id) (.tmp rfl id) (fun hg => hn9 hg.2)) rfl ?_
        refine Chain.cons (StepOK.load (.at rfl rfl) ty53 (.tmp rfl id)) rfl ?_
        obtain ⟨r2, hv10, h⟩ := bind_some h
        refine Chain.cons (StepOK.callIf (.at rfl rfl) fnok76 (fun hg => ref_way_ok ((fun hg => gd_some hv10 (hg.2)) hg)) (.cons (.tmp rfl id) (.cons (.tmp rfl id) .nil)) (fun h => h)) rfl ?_
        refine Chain.cons (StepOK.eqS (.at rfl rfl) eq53 (.tmp rfl id) (.tmp rfl id)) rfl ?_
        refine Chain.cons (StepOK.pickAnd .none (.tmp rfl (fun _ => trivial)) (.tmp rfl id)) rfl ?_
        refine Chain.nil ?_
        refine Ends.then ?_
        refine Cod.cond (t := 38) rfl trivial (fun hb11 => ?_) (fun hb11 => ?_)
        · replace h := bif_t h hb11
          refine Cod.exit ?_
          refine Ends.thenExit ?_
          refine Ends.blkExit ?_
          refine Ends.anon (t := 3) (g := 5002) rfl rfl trivial rfl ?_
          exact Ends.join _ (some_eq h) (.cons (t := 0) rfl (.cons (t := 6) rfl (.cons (t := 7) rfl (.cons (t := 8) rfl Sub.nil)))) (.cons (t := 3) rfl SubB.nil)
        · replace h := bif_f h hb11
          refine Cod.skip ?_
          refine Ends.then ?_
          refine Cod.region [([], []), ([], []), ([], []), ([5002], [42, 5002]), ([42], [3, 42])] mixed (by kernel_rfl) ?_
          refine Chain.consA (StepOK.move .none (.tmp rfl (fun _ => trivial))) rfl ?_
          refine Chain.consA (StepOK.load .none ty53 (.tmp rfl (fun _ => trivial))) rfl ?_
          refine Chain.consA (StepOK.buildSlice (xs := [_]) .none sl22 ty53 hz53 (.cons (.tmp rfl (fun _ => trivial)) .nil) rfl (by decide)) rfl ?_
          obtain ⟨hn12, h⟩ := need_some h
          refine Chain.consW (StepOK.append (k := 5002) rk22 rfl (.told (.tmp rfl (fun _ => trivial)) rfl) (.tmp rfl (fun _ => trivial)) hn12) rfl rfl ?_
          refine Chain.consW (StepOK.passRow rfl (.tmp rfl)) rfl rfl ?_
          refine Chain.nil ?_
          refine Ends.blkNormal ?_
          exact Ends.join _ (some_eq h) (.cons (t := 0) rfl (.cons (t := 6) rfl (.cons (t := 7) rfl (.cons (t := 8) rfl Sub.nil)))) (.cons (t := 3) rfl SubB.nil)
      · subst hj4; have h := hK4; clear hK4
        refine Cod.nameRow (t := 3) (g := 5003) rfl rfl rfl (fun s5003 => ?_)
        refine Cod.region [] mixed (by kernel_rfl) ?_
        refine Chain.cons (StepOK.addW .none (.tmp rfl (fun _ => trivial)) (.int (by decide))) rfl ?_
        refine Chain.cons (StepOK.move .none (.tmp rfl (fun _ => trivial))) rfl ?_
        refine Chain.nil ?_
        refine Ends.anon (t := 3) (g := 5003) rfl rfl trivial rfl ?_
        exact Ends.againL (some_eq h) (.cons (t := 8) rfl (.cons (t := 0) rfl (.cons (t := 6) rfl (.cons (t := 7) rfl Sub.nil)))) (.cons (t := 3) rfl SubB.nil)
    · replace h := bif_f h hb3
      refine Cod.exit ?_
      refine Ends.thenExit ?_
      refine Ends.thenExit ?_
      refine Ends.blkExit ?_
      refine Ends.anon (t := 3) (g := 5002) rfl rfl trivial rfl ?_
      replace h := hD2 _ (some_eq h)
      exact Ends.join _ (some_eq h) Sub.nil (.cons (t := 3) rfl SubB.nil)
  · subst hj1; have h := hK1; clear hK1
    refine Cod.freezeRowA (t := 3) rfl rfl SubB.nil rfl ?_
    refine Cod.seq ?_
    refine Cod.region [] mixed (by kernel_rfl) ?_
    refine Chain.cons (StepOK.move .none (.tmp rfl (fun _ => trivial))) rfl ?_
    refine Chain.cons (StepOK.assign .none (.tmp rfl (fun _ => trivial))) rfl ?_
    refine Chain.nil ?_
    refine Ends.then ?_
    refine Cod.ret ?_
    obtain rfl := some_eq h
    exact Ends.ret1 (.inl rfl) Try.results74 (ResOK.tmp rfl trivial Imp.refl)

theorem slices_Equal_Point_ok {s1_1 : (List Point)} {s2_1 : (List Point)} {r : Bool}  (h : slices_Equal_Point s1_1 s2_1 = some r) : FSpec Try.prog 40 [rep s1_1, rep s2_1] (rep r) := by
  unfold slices_Equal_Point at h
  refine FSpec.intro (n := 26) fnok40 Try.func40 rfl Try.ntmps40 rfl (fun F => ?_)
  refine Cod.seq ?_
  refine Cod.region [] mixed (by kernel_rfl) ?_
  refine Chain.cons (StepOK.assign .none .bool) rfl ?_
  refine Chain.nil ?_
  refine Ends.then ?_
  refine Cod.seq ?_
  refine Cod.seq ?_
  refine Cod.region [] mixed (by kernel_rfl) ?_
  refine Chain.cons (StepOK.move .none (.tmp rfl (fun _ => trivial))) rfl ?_
  refine Chain.cons (StepOK.len .none sl22 (.tmp rfl (fun _ => trivial))) rfl ?_
  refine Chain.cons (StepOK.move .none (.tmp rfl (fun _ => trivial))) rfl ?_
  refine Chain.cons (StepOK.len .none sl22 (.tmp rfl (fun _ => trivial))) rfl ?_
  refine Chain.cons (StepOK.neI .none (.tmp rfl (fun _ => trivial)) (.tmp rfl (fun _ => trivial))) rfl ?_
  refine Chain.nil ?_
  refine Ends.then ?_
  refine Cod.cond (t := 10) rfl trivial (fun hb1 => ?_) (fun hb1 => ?_)
  · replace h := bif_t h hb1
    refine Cod.seq ?_
    refine Cod.region [] mixed (by kernel_rfl) ?_
    refine Chain.cons (StepOK.assign .none .bool) rfl ?_
    refine Chain.nil ?_
    refine Ends.then ?_
    refine Cod.ret ?_
    refine Ends.thenRet ?_
    obtain rfl := some_eq h
    exact Ends.ret1 (.inl rfl) Try.results40 (ResOK.tmp rfl trivial Imp.refl)
  · replace h := bif_f h hb1
    refine Cod.skip ?_
    refine Ends.then ?_
    refine Cod.seq ?_
    refine Cod.seq ?_
    refine Cod.region [] mixed (by kernel_rfl) ?_
    refine Chain.cons (StepOK.move .none (.tmp rfl (fun _ => trivial))) rfl ?_
    refine Chain.cons (StepOK.len .none sl22 (.tmp rfl (fun _ => trivial))) rfl ?_
    refine Chain.cons (StepOK.move .none (.int (by decide))) rfl ?_
    refine Chain.nil ?_
    refine Ends.then ?_
    obtain ⟨o_2, h, hK2⟩ := bindR_some h
    refine Cod.thenJ (ι := Unit) (fun j_2 => []) (fun j_2 => []) (fun s => o_2 = Res.nx s) Sub.nil SubB.nil ?_ (fun j_2 hj2 => ?_)
    · skip
      refine Cod.block ?_
      refine Cod.rforEL h (fun p3_ => [(13, ⟨True, rep p3_.1⟩)]) (fun p3_ => []) (.cons (t := 13) rfl Sub.nil) SubB.nil (.cons (t := 0) rfl (.cons (t := 1) rfl (.cons (t := 12) rfl Sub.nil))) SubB.nil (fun p3_ o_3 h hD3 => ?_)
      refine Cod.seq ?_
      refine Cod.region [] mixed (by kernel_rfl) ?_
      refine Chain.cons (StepOK.lt .none (.tmp rfl (fun _ => trivial)) (.tmp rfl (fun _ => trivial))) rfl ?_
      refine Chain.nil ?_
      refine Ends.then ?_
      refine Cod.seq ?_
      refine Cod.cond (t := 14) rfl trivial (fun hb4 => ?_) (fun hb4 => ?_)
      · replace h := bif_t h hb4
        refine Cod.skip ?_
        refine Ends.then ?_
        refine Cod.seq ?_
        obtain ⟨o_5, h, hK5⟩ := bindD_some h
        unfold slices_Equal_Point_L1 at h
        refine Cod.thenJ (ι := Unit) (fun j_5 => []) (fun j_5 => []) (fun s => o_5 = Res.nx s) (.cons (t := 0) rfl (.cons (t := 1) rfl (.cons (t := 12) rfl (.cons (t := 13) rfl Sub.nil)))) SubB.nil ?_ (fun j_5 hj5 => ?_)
        · skip
          refine Cod.block ?_
          refine Cod.seq ?_
          refine Cod.region [] mixed (by kernel_rfl) ?_
          refine Chain.cons (StepOK.move .none (.tmp rfl (fun _ => trivial))) rfl ?_
          refine Chain.cons (StepOK.assign .none (.tmp rfl (fun _ => trivial))) rfl ?_
          refine Chain.nil ?_
          refine Ends.then ?_
          refine Cod.seq ?_
          refine Cod.region [] mixed (by kernel_rfl) ?_
          refine Chain.cons (StepOK.move .none (.tmp rfl (fun _ => trivial))) rfl ?_
          refine Chain.cons (StepOK.move .none (.tmp rfl (fun _ => trivial))) rfl ?_
          obtain ⟨hn6, h⟩ := need_some h
          refine Chain.cons (StepOK.indexAddr .none sl22 ty53 (.tmp rfl (fun _ => trivial)) (.tmp rfl (fun _ => trivial)) (fun _ => hn6)) rfl ?_
          refine Chain.cons (StepOK.load .none ty53 (.tmp rfl (fun _ => trivial))) rfl ?_
          refine Chain.cons (StepOK.move .none (.tmp rfl (fun _ => trivial))) rfl ?_
          refine Chain.cons (StepOK.move .none (.tmp rfl (fun _ => trivial))) rfl ?_
          obtain ⟨hn7, h⟩ := need_some h
          refine Chain.cons (StepOK.indexAddr .none sl22 ty53 (.tmp rfl (fun _ => trivial)) (.tmp rfl (fun _ => trivial)) (fun _ => hn7)) rfl ?_
          refine Chain.cons (StepOK.load .none ty53 (.tmp rfl (fun _ => trivial))) rfl ?_
          refine Chain.cons (StepOK.neS .none eq53 (.tmp rfl (fun _ => trivial)) (.tmp rfl (fun _ => trivial))) rfl ?_
          refine Chain.nil ?_
          refine Ends.then ?_
          refine Cod.cond (t := 24) rfl trivial (fun hb8 => ?_) (fun hb8 => ?_)
          · replace h := bif_t h hb8
            refine Cod.seq ?_
            refine Cod.region [] mixed (by kernel_rfl) ?_
            refine Chain.cons (StepOK.assign .none .bool) rfl ?_
            refine Chain.nil ?_
            refine Ends.then ?_
            refine Cod.ret ?_
            refine Ends.blkRet ?_
            refine Ends.thenRet ?_
            refine Ends.thenRet ?_
            refine Ends.blkRet ?_
            refine Ends.thenRet ?_
            replace h := resd_ab hK5 (some_eq h)
            replace h := hD3 _ (some_eq h)
            replace h := resb_ab hK2 (some_eq h)
            obtain rfl := some_eq h
            exact Ends.ret1 (.inl rfl) Try.results40 (ResOK.tmp rfl trivial Imp.refl)
          · replace h := bif_f h hb8
            refine Cod.skip ?_
            refine Ends.blkNormal ?_
            exact Ends.join _ (some_eq h) (.cons (t := 0) rfl (.cons (t := 1) rfl (.cons (t := 12) rfl (.cons (t := 13) rfl Sub.nil)))) SubB.nil
        · have h := resd_nx hK5 hj5
          refine Cod.region [] mixed (by kernel_rfl) ?_
          refine Chain.cons (StepOK.addW .none (.tmp rfl (fun _ => trivial)) (.int (by decide))) rfl ?_
          refine Chain.cons (StepOK.move .none (.tmp rfl (fun _ => trivial))) rfl ?_
          refine Chain.nil ?_
          exact Ends.againL (some_eq h) (.cons (t := 13) rfl (.cons (t := 0) rfl (.cons (t := 1) rfl (.cons (t := 12) rfl Sub.nil)))) SubB.nil
      · replace h := bif_f h hb4
        refine Cod.exit ?_
        refine Ends.thenExit ?_
        refine Ends.thenExit ?_
        refine Ends.blkExit ?_
        replace h := hD3 _ (some_eq h)
        exact Ends.join _ (some_eq h) Sub.nil SubB.nil
    · have h := resb_nx hK2 hj2
      refine Cod.seq ?_
      refine Cod.region [] mixed (by kernel_rfl) ?_
      refine Chain.cons (StepOK.assign .none .bool) rfl ?_
      refine Chain.nil ?_
      refine Ends.then ?_
      refine Cod.ret ?_
      obtain rfl := some_eq h
      exact Ends.ret1 (.inl rfl) Try.results40 (ResOK.tmp rfl trivial Imp.refl)

theorem ref_Abs_ok {n1 : Int} {r : Int}  (h : ref_Abs n1 = some r) : FSpec Try.prog 56 [rep n1] (rep r) := by
  unfold ref_Abs at h
  refine FSpec.intro (n := 7) fnok56 Try.func56 rfl Try.ntmps56 rfl (fun F => ?_)
  refine Cod.seq ?_
  refine Cod.region [] mixed (by kernel_rfl) ?_
  refine Chain.cons (StepOK.assign .none (.int (by decide))) rfl ?_
  refine Chain.nil ?_
  refine Ends.then ?_
  refine Cod.seq ?_
  refine Cod.region [] mixed (by kernel_rfl) ?_
  refine Chain.cons (StepOK.move .none (.tmp rfl (fun _ => trivial))) rfl ?_
  refine Chain.cons (StepOK.move .none (.tmp rfl (fun _ => trivial))) rfl ?_
  refine Chain.cons (StepOK.negW .none (.tmp rfl (fun _ => trivial))) rfl ?_
  refine Chain.cons (StepOK.max2 .none (.tmp rfl (fun _ => trivial)) (.tmp rfl (fun _ => trivial))) rfl ?_
  refine Chain.cons (StepOK.assign .none (.tmp rfl (fun _ => trivial))) rfl ?_
  refine Chain.nil ?_
  refine Ends.then ?_
  refine Cod.ret ?_
  obtain rfl := some_eq h
  exact Ends.ret1 (.inl rfl) Try.results56 (ResOK.tmp rfl trivial Imp.refl)

theorem ref_Far_ok {a1 : Point} {b1 : Point} {r : Int}  (h : ref_Far a1 b1 = some r) : FSpec Try.prog 50 [rep a1, rep b1] (rep r) := by
  unfold ref_Far at h
  refine FSpec.intro (n := 18) fnok50 Try.func50 rfl Try.ntmps50 rfl (fun F => ?_)
  refine Cod.seq ?_
  refine Cod.region [] mixed (by kernel_rfl) ?_
  refine Chain.cons (StepOK.box .none (.tmp rfl (fun _ => trivial))) rfl ?_
  refine Chain.cons (StepOK.box .none (.tmp rfl (fun _ => trivial))) rfl ?_
  refine Chain.cons (StepOK.assign .none (.int (by decide))) rfl ?_
  refine Chain.nil ?_
  refine Ends.then ?_
  refine Cod.seq ?_
  refine Cod.region [] mixed (by kernel_rfl) ?_
  refine Chain.cons (StepOK.fieldAddr .none fd53_0 hfd53_0 (.tmp rfl (fun _ => trivial))) rfl ?_
  refine Chain.cons (StepOK.load .none ty3 (.tmp rfl (fun _ => trivial))) rfl ?_
  refine Chain.cons (StepOK.fieldAddr .none fd53_0 hfd53_0 (.tmp rfl (fun _ => trivial))) rfl ?_
  refine Chain.cons (StepOK.load .none ty3 (.tmp rfl (fun _ => trivial))) rfl ?_
  refine Chain.cons (StepOK.subW .none (.tmp rfl (fun _ => trivial)) (.tmp rfl (fun _ => trivial))) rfl ?_
  obtain ⟨r1, hv1, h⟩ := bind_some h
  refine Chain.cons (StepOK.call .none (ref_Abs_ok hv1) (.cons (.tmp rfl (fun _ => trivial)) .nil)) rfl ?_
  refine Chain.cons (StepOK.fieldAddr .none fd53_1 hfd53_1 (.tmp rfl (fun _ => trivial))) rfl ?_
  refine Chain.cons (StepOK.load .none ty3 (.tmp rfl (fun _ => trivial))) rfl ?_
  refine Chain.cons (StepOK.fieldAddr .none fd53_1 hfd53_1 (.tmp rfl (fun _ => trivial))) rfl ?_
  refine Chain.cons (StepOK.load .none ty3 (.tmp rfl (fun _ => trivial))) rfl ?_
  refine Chain.cons (StepOK.subW .none (.tmp rfl (fun _ => trivial)) (.tmp rfl (fun _ => trivial))) rfl ?_
  obtain ⟨r2, hv2, h⟩ := bind_some h
  refine Chain.cons (StepOK.call .none (ref_Abs_ok hv2) (.cons (.tmp rfl (fun _ => trivial)) .nil)) rfl ?_
  refine Chain.cons (StepOK.addW .none (.tmp rfl (fun _ => trivial)) (.tmp rfl (fun _ => trivial))) rfl ?_
  refine Chain.cons (StepOK.assign .none (.tmp rfl (fun _ => trivial))) rfl ?_
  refine Chain.nil ?_
  refine Ends.then ?_
  refine Cod.ret ?_
  obtain rfl := some_eq h
  exact Ends.ret1 (.inl rfl) Try.results50 (ResOK.tmp rfl trivial Imp.refl)

theorem ref_gridLines_1_ok {l1 : (List Int)} {r : (List Int)}  (h : ref_gridLines_1 l1 = some r) : FSpec Try.prog 105 [rep l1] (rep r) := by
  unfold ref_gridLines_1 at h
  refine FSpec.intro (n := 37) fnok105 Try.func105 rfl Try.ntmps105 rfl (fun F => ?_)
  refine Cod.seq ?_
  refine Cod.region [] mixed (by kernel_rfl) ?_
  refine Chain.cons (StepOK.assign .none (.const (x := ([] : (List Int))) (fun M w => ⟨_, ⟨none, 0, rfl, Nat.le_refl _, by decide, rfl⟩, rfl⟩))) rfl ?_
  refine Chain.nil ?_
  refine Ends.then ?_
  refine Cod.seq ?_
  refine Cod.region [([], [3])] mixed (by kernel_rfl) ?_
  refine Chain.consW (StepOK.nilRow (T := 3) (α := Int) rfl) rfl rfl ?_
  refine Chain.nil ?_
  refine Ends.then ?_
  refine Cod.nameRow (t := 3) (g := 5001) rfl rfl rfl (fun s5001 => ?_)
  refine Cod.seq ?_
  refine Cod.seq ?_
  refine Cod.region [] mixed (by kernel_rfl) ?_
  refine Chain.cons (StepOK.move .none (.tmp rfl (fun _ => trivial))) rfl ?_
  refine Chain.cons (StepOK.len .none sl42 (.tmp rfl (fun _ => trivial))) rfl ?_
  refine Chain.cons (StepOK.move .none (.int (by decide))) rfl ?_
  refine Chain.nil ?_
  refine Ends.then ?_
  obtain ⟨j_1, h, hK1⟩ := bind_some h
  refine Cod.thenJ (ι := (List Int)) (fun j_1 => []) (fun j_1 => [(3, some (rowV 3 j_1))]) (fun s => j_1 = s) Sub.nil SubB.nil ?_ (fun j_1' hj1 => ?_)
  · skip
    refine Cod.block ?_
    refine Cod.anon (t := 3) (g := 5001) rfl rfl trivial rfl ?_
    refine Cod.rforL h (fun p2_ => [(10, ⟨True, rep p2_.1⟩)]) (fun p2_ => [(3, some (rowV 3 p2_.2))]) (.cons (t := 10) rfl Sub.nil) (.cons (t := 3) rfl SubB.nil) (.cons (t := 8) rfl (.cons (t := 9) rfl Sub.nil)) SubB.nil (fun p2_ o_2 h hD2 => ?_)
    refine Cod.nameRow (t := 3) (g := 5002) rfl rfl rfl (fun s5002 => ?_)
    refine Cod.seq ?_
    refine Cod.region [] mixed (by kernel_rfl) ?_
    refine Chain.cons (StepOK.lt .none (.tmp rfl (fun _ => trivial)) (.tmp rfl (fun _ => trivial))) rfl ?_
    refine Chain.nil ?_
    refine Ends.then ?_
    refine Cod.seq ?_
    refine Cod.cond (t := 11) rfl trivial (fun hb3 => ?_) (fun hb3 => ?_)
    · replace h := bif_t h hb3
      refine Cod.skip ?_
      refine Ends.then ?_
      refine Cod.seq ?_
      obtain ⟨j_4, h, hK4⟩ := bind_some h
      unfold ref_gridLines_1_L1 at h
      refine Cod.thenJ (ι := (List Int)) (fun j_4 => []) (fun j_4 => [(3, some (rowV 3 j_4))]) (fun s => j_4 = s) (.cons (t := 8) rfl (.cons (t := 9) rfl (.cons (t := 10) rfl Sub.nil))) SubB.nil ?_ (fun j_4' hj4 => ?_)
      · skip
        refine Cod.block ?_
        refine Cod.seq ?_
        refine Cod.region [] mixed (by kernel_rfl) ?_
        obtain ⟨hn5, h⟩ := need_some h
        refine Chain.cons (StepOK.indexAddr .none sl42 ty3 (.tmp rfl (fun _ => trivial)) (.tmp rfl (fun _ => trivial)) (fun _ => hn5)) rfl ?_
        refine Chain.cons (StepOK.load .none ty3 (.tmp rfl (fun _ => trivial))) rfl ?_
        obtain ⟨n1, hv6, h⟩ := bnd_some h
        refine Chain.cons (StepOK.re hv6 (StepOK.assign .none (.tmp rfl (fun _ => trivial)))) rfl ?_
        refine Chain.nil ?_
        refine Ends.then ?_
        refine Cod.seq ?_
        refine Cod.region [] mixed (by kernel_rfl) ?_
        refine Chain.cons (StepOK.move .none (.tmp rfl (fun _ => trivial))) rfl ?_
        refine Chain.cons (StepOK.subW .none (.tmp rfl (fun _ => trivial)) (.int (by decide))) rfl ?_
        refine Chain.cons (StepOK.move .none (.tmp rfl (fun _ => trivial))) rfl ?_
        refine Chain.cons (StepOK.move .none (.tmp rfl (fun _ => trivial))) rfl ?_
        refine Chain.cons (StepOK.addW .none (.tmp rfl (fun _ => trivial)) (.int (by decide))) rfl ?_
        obtain ⟨v1, hv7, h⟩ := bnd_some h
        refine Chain.cons (StepOK.re hv7 (StepOK.buildSlice (xs := [_, _, _]) .none sl42 ty3 hz3 (.cons (.tmp rfl (fun _ => trivial)) (.cons (.tmp rfl (fun _ => trivial)) (.cons (.tmp rfl (fun _ => trivial)) .nil))) rfl (by decide))) rfl ?_
        refine Chain.cons (StepOK.len .none sl42 (.tmp rfl (fun _ => trivial))) rfl ?_
        refine Chain.cons (StepOK.move .none (.int (by decide))) rfl ?_
        refine Chain.nil ?_
        refine Ends.then ?_
        refine Cod.block ?_
        refine Cod.anon (t := 3) (g := 5002) rfl rfl trivial rfl ?_
        refine Cod.rforL h (fun p8_ => [(21, ⟨True, rep p8_.1⟩)]) (fun p8_ => [(3, some (rowV 3 p8_.2))]) (.cons (t := 21) rfl Sub.nil) (.cons (t := 3) rfl SubB.nil) (.cons (t := 8) rfl (.cons (t := 9) rfl (.cons (t := 10) rfl (.cons (t := 19) rfl (.cons (t := 20) rfl Sub.nil))))) SubB.nil (fun p8_ o_8 h hD8 => ?_)
        refine Cod.nameRow (t := 3) (g := 5003) rfl rfl rfl (fun s5003 => ?_)
        refine Cod.seq ?_
        refine Cod.region [] mixed (by kernel_rfl) ?_
        refine Chain.cons (StepOK.lt .none (.tmp rfl (fun _ => trivial)) (.tmp rfl (fun _ => trivial))) rfl ?_
        refine Chain.nil ?_
        refine Ends.then ?_
        refine Cod.seq ?_
        refine Cod.cond (t := 22) rfl trivial (fun hb9 => ?_) (fun hb9 => ?_)
        · replace h := bif_t h hb9
          refine Cod.skip ?_
          refine Ends.then ?_
          refine Cod.seq ?_
          obtain ⟨j_10, h, hK10⟩ := bind_some h
          unfold ref_gridLines_1_L2 at h
          refine Cod.thenJ (ι := (List Int)) (fun j_10 => []) (fun j_10 => [(3, some (rowV 3 j_10))]) (fun s => j_10 = s) (.cons (t := 8) rfl (.cons (t := 9) rfl (.cons (t := 10) rfl (.cons (t := 19) rfl (.cons (t := 20) rfl (.cons (t := 21) rfl Sub.nil)))))) SubB.nil ?_ (fun j_10' hj10 => ?_)
          · skip
            refine Cod.block ?_
            refine Cod.seq ?_
            refine Cod.region [] mixed (by kernel_rfl) ?_
            obtain ⟨hn11, h⟩ := need_some h
            refine Chain.cons (StepOK.indexAddr .none sl42 ty3 (.tmp rfl (fun _ => trivial)) (.tmp rfl (fun _ => trivial)) (fun _ => hn11)) rfl ?_
            refine Chain.cons (StepOK.load .none ty3 (.tmp rfl (fun _ => trivial))) rfl ?_
            obtain ⟨k1, hv12, h⟩ := bnd_some h
            refine Chain.cons (StepOK.re hv12 (StepOK.assign .none (.tmp rfl (fun _ => trivial)))) rfl ?_
            refine Chain.nil ?_
            refine Ends.then ?_
            refine Cod.seq ?_
            refine Cod.region [] mixed (by kernel_rfl) ?_
            refine Chain.cons (StepOK.move .none (.tmp rfl (fun _ => trivial))) rfl ?_
            obtain ⟨r1, hv13, h⟩ := bind_some h
            refine Chain.cons (StepOK.call .none (ref_In_ok hv13) (.cons (.tmp rfl (fun _ => trivial)) (.cons (.int (by decide)) (.cons (.int (by decide)) .nil)))) rfl ?_
            refine Chain.nil ?_
            refine Ends.then ?_
            refine Cod.cond (t := 26) rfl trivial (fun hb14 => ?_) (fun hb14 => ?_)
            · replace h := bif_t h hb14
              refine Cod.region [([], []), ([], []), ([], []), ([5003], [30, 5003]), ([30], [3, 30])] mixed (by kernel_rfl) ?_
              refine Chain.consA (StepOK.move .none (.tmp rfl (fun _ => trivial))) rfl ?_
              refine Chain.consA (StepOK.move .none (.tmp rfl (fun _ => trivial))) rfl ?_
              refine Chain.consA (StepOK.buildSlice (xs := [_]) .none sl42 ty3 hz3 (.cons (.tmp rfl (fun _ => trivial)) .nil) rfl (by decide)) rfl ?_
              obtain ⟨hn15, h⟩ := need_some h
              refine Chain.consW (StepOK.append (k := 5003) rk42 rfl (.told (.tmp rfl (fun _ => trivial)) rfl) (.tmp rfl (fun _ => trivial)) hn15) rfl rfl ?_
              refine Chain.consWD (StepOK.passRow rfl (.tmp rfl)) rfl rfl ?_
              refine Chain.nil ?_
              refine Ends.blkNormal ?_
              exact Ends.join _ (some_eq h) (.cons (t := 8) rfl (.cons (t := 9) rfl (.cons (t := 10) rfl (.cons (t := 19) rfl (.cons (t := 20) rfl (.cons (t := 21) rfl Sub.nil)))))) (.cons (t := 3) rfl SubB.nil)
            · replace h := bif_f h hb14
              refine Cod.skip ?_
              refine Ends.blkNormal ?_
              refine Ends.anon (t := 3) (g := 5003) rfl rfl trivial rfl ?_
              exact Ends.join _ (some_eq h) (.cons (t := 8) rfl (.cons (t := 9) rfl (.cons (t := 10) rfl (.cons (t := 19) rfl (.cons (t := 20) rfl (.cons (t := 21) rfl Sub.nil)))))) (.cons (t := 3) rfl SubB.nil)
          · subst hj10; have h := hK10; clear hK10
            refine Cod.nameRow (t := 3) (g := 5004) rfl rfl rfl (fun s5004 => ?_)
            refine Cod.region [] mixed (by kernel_rfl) ?_
            refine Chain.cons (StepOK.addW .none (.tmp rfl (fun _ => trivial)) (.int (by decide))) rfl ?_
            refine Chain.cons (StepOK.move .none (.tmp rfl (fun _ => trivial))) rfl ?_
            refine Chain.nil ?_
            refine Ends.anon (t := 3) (g := 5004) rfl rfl trivial rfl ?_
            exact Ends.againL (some_eq h) (.cons (t := 21) rfl (.cons (t := 8) rfl (.cons (t := 9) rfl (.cons (t := 10) rfl (.cons (t := 19) rfl (.cons (t := 20) rfl Sub.nil)))))) (.cons (t := 3) rfl SubB.nil)
        · replace h := bif_f h hb9
          refine Cod.exit ?_
          refine Ends.thenExit ?_
          refine Ends.thenExit ?_
          refine Ends.blkExit ?_
          refine Ends.blkNormal ?_
          refine Ends.anon (t := 3) (g := 5003) rfl rfl trivial rfl ?_
          replace h := hD8 _ (some_eq h)
          exact Ends.join _ (some_eq h) (.cons (t := 8) rfl (.cons (t := 9) rfl (.cons (t := 10) rfl Sub.nil))) (.cons (t := 3) rfl SubB.nil)
      · subst hj4; have h := hK4; clear hK4
        refine Cod.nameRow (t := 3) (g := 5005) rfl rfl rfl (fun s5005 => ?_)
        refine Cod.region [] mixed (by kernel_rfl) ?_
        refine Chain.cons (StepOK.addW .none (.tmp rfl (fun _ => trivial)) (.int (by decide))) rfl ?_
        refine Chain.cons (StepOK.move .none (.tmp rfl (fun _ => trivial))) rfl ?_
        refine Chain.nil ?_
        refine Ends.anon (t := 3) (g := 5005) rfl rfl trivial rfl ?_
        exact Ends.againL (some_eq h) (.cons (t := 10) rfl (.cons (t := 8) rfl (.cons (t := 9) rfl Sub.nil))) (.cons (t := 3) rfl SubB.nil)
    · replace h := bif_f h hb3
      refine Cod.exit ?_
      refine Ends.thenExit ?_
      refine Ends.thenExit ?_
      refine Ends.blkExit ?_
      refine Ends.anon (t := 3) (g := 5002) rfl rfl trivial rfl ?_
      replace h := hD2 _ (some_eq h)
      exact Ends.join _ (some_eq h) Sub.nil (.cons (t := 3) rfl SubB.nil)
  · subst hj1; have h := hK1; clear hK1
    refine Cod.nameRow (t := 3) (g := 5006) rfl rfl rfl (fun s5006 => ?_)
    refine Cod.seq ?_
    refine Cod.region [([], []), ([5006], [5006])] mixed (by kernel_rfl) ?_
    refine Chain.consA (StepOK.move .none (.tmp rfl (fun _ => trivial))) rfl ?_
    obtain ⟨r2, hv16, h⟩ := bind_some h
    refine Chain.consW (StepOK.callO [5006] (slices_Sort_int_ok hv16) (.cons (.tmp rfl (fun _ => trivial)) .nil) (.cons (k := 5006) rfl .nil) rfl (by decide) (by decide) (by intro d h; cases h; decide)) rfl rfl ?_
    refine Chain.nil ?_
    refine Ends.then ?_
    refine Cod.seq ?_
    refine Cod.region [([], []), ([5006], [5006, 36]), ([36], [2, 36])] mixed (by kernel_rfl) ?_
    refine Chain.consA (StepOK.move .none (.tmp rfl (fun _ => trivial))) rfl ?_
    obtain ⟨r3, hv17, h⟩ := bind_some h
    refine Chain.consW (StepOK.callO [5006] (slices_Compact_int_ok hv17) (.cons (.tmp rfl (fun _ => trivial)) .nil) (.cons (k := 5006) rfl .nil) rfl (by decide) (by decide) (by intro d h; cases h; decide)) rfl rfl ?_
    refine Chain.consW (StepOK.passRow rfl (.tmp rfl)) rfl rfl ?_
    refine Chain.nil ?_
    refine Ends.then ?_
    refine Cod.freezeRowA (t := 2) rfl rfl SubB.nil rfl ?_
    refine Cod.ret ?_
    obtain rfl := some_eq h
    exact Ends.ret1 (.inl rfl) Try.results105 (ResOK.tmp rfl trivial Imp.refl)

theorem ref_gridLines_ok {t1 : Task} {r : ((List Int) × (List Int))}  (h : ref_gridLines t1 = some r) : FSpec Try.prog 77 [rep t1] (tup [rep r.1, rep r.2]) := by
  unfold ref_gridLines at h
  refine FSpec.intro (n := 70) fnok77 Try.func77 rfl Try.ntmps77 rfl (fun F => ?_)
  refine Cod.seq ?_
  refine Cod.region [] mixed (by kernel_rfl) ?_
  refine Chain.cons (StepOK.box .none (.tmp rfl (fun _ => trivial))) rfl ?_
  refine Chain.cons (StepOK.assign .none (.const (x := ([] : (List Int))) (fun M w => ⟨_, ⟨none, 0, rfl, Nat.le_refl _, by decide, rfl⟩, rfl⟩))) rfl ?_
  refine Chain.cons (StepOK.assign .none (.const (x := ([] : (List Int))) (fun M w => ⟨_, ⟨none, 0, rfl, Nat.le_refl _, by decide, rfl⟩, rfl⟩))) rfl ?_
  refine Chain.nil ?_
  refine Ends.then ?_
  refine Cod.seq ?_
  refine Cod.region [([], []), ([], []), ([], []), ([], []), ([], []), ([], [4]), ([], [5]), ([4], [4]), ([5], [5])] mixed (by kernel_rfl) ?_
  refine Chain.consA (StepOK.load .none ty55 (.tmp rfl (fun _ => trivial))) rfl ?_
  obtain ⟨r1, hv1, h⟩ := bind_some h
  refine Chain.consA (StepOK.call .none (ref_Ends_ok hv1) (.cons (.tmp rfl (fun _ => trivial)) .nil)) rfl ?_
  refine Chain.consA (StepOK.move .none (.tmp rfl (fun _ => trivial))) rfl ?_
  refine Chain.consA (StepOK.extract .none (.tmp rfl (fun _ => trivial)) rfl) rfl ?_
  refine Chain.consA (StepOK.extract .none (.tmp rfl (fun _ => trivial)) rfl) rfl ?_
  refine Chain.consW (StepOK.alloc zo53 rfl) rfl rfl ?_
  refine Chain.consW (StepOK.alloc zo53 rfl) rfl rfl ?_
  refine Chain.consN (StepOK.store ty53 rfl rfl (.tmp rfl (fun _ => trivial))) rfl ?_
  refine Chain.consN (StepOK.store ty53 rfl rfl (.tmp rfl (fun _ => trivial))) rfl ?_
  refine Chain.nil ?_
  refine Ends.then ?_
  refine Cod.freeze (t := 4) rfl rfl (.cons (t := 5) rfl SubB.nil) rfl ?_
  refine Cod.freeze (t := 5) rfl rfl SubB.nil rfl ?_
  refine Cod.seq ?_
  refine Cod.region [([], []), ([], []), ([], []), ([], []), ([], [18]), ([], []), ([], []), ([], []), ([], []), ([], [23]), ([18], [2, 18]), ([23], [3, 23])] mixed (by kernel_rfl) ?_
  refine Chain.consA (StepOK.fieldAddr .none fd53_0 hfd53_0 (.tmp rfl (fun _ => trivial))) rfl ?_
  refine Chain.consA (StepOK.load .none ty3 (.tmp rfl (fun _ => trivial))) rfl ?_
  refine Chain.consA (StepOK.fieldAddr .none fd53_0 hfd53_0 (.tmp rfl (fun _ => trivial))) rfl ?_
  refine Chain.consA (StepOK.load .none ty3 (.tmp rfl (fun _ => trivial))) rfl ?_
  refine Chain.consW (StepOK.buildSliceO (xs := [_, _]) rfl sl42 ty3 hz3 (.cons (.tmp rfl (fun _ => trivial)) (.cons (.tmp rfl (fun _ => trivial)) .nil)) rfl (by decide)) rfl rfl ?_
  refine Chain.consA (StepOK.fieldAddr .none fd53_1 hfd53_1 (.tmp rfl (fun _ => trivial))) rfl ?_
  refine Chain.consA (StepOK.load .none ty3 (.tmp rfl (fun _ => trivial))) rfl ?_
  refine Chain.consA (StepOK.fieldAddr .none fd53_1 hfd53_1 (.tmp rfl (fun _ => trivial))) rfl ?_
  refine Chain.consA (StepOK.load .none ty3 (.tmp rfl (fun _ => trivial))) rfl ?_
  refine Chain.consW (StepOK.buildSliceO (xs := [_, _]) rfl sl42 ty3 hz3 (.cons (.tmp rfl (fun _ => trivial)) (.cons (.tmp rfl (fun _ => trivial)) .nil)) rfl (by decide)) rfl rfl ?_
  refine Chain.consW (StepOK.passRow rfl (.tmp rfl)) rfl rfl ?_
  refine Chain.consW (StepOK.passRow rfl (.tmp rfl)) rfl rfl ?_
  refine Chain.nil ?_
  refine Ends.then ?_
  obtain ⟨xs1, hv2, h⟩ := bnd_some h
  refine Cod.reB (t := 2) rfl (congrArg (rowV 3) hv2) ?_
  obtain ⟨ys1, hv3, h⟩ := bnd_some h
  refine Cod.reB (t := 3) rfl (congrArg (rowV 3) hv3) ?_
  refine Cod.nameRow (t := 2) (g := 5001) rfl rfl rfl (fun s5001 => ?_)
  refine Cod.nameRow (t := 3) (g := 5002) rfl rfl rfl (fun s5002 => ?_)
  refine Cod.seq ?_
  refine Cod.seq ?_
  refine Cod.region [] mixed (by kernel_rfl) ?_
  refine Chain.cons (StepOK.fieldAddr .none fd55_4 hfd55_4 (.tmp rfl (fun _ => trivial))) rfl ?_
  refine Chain.cons (StepOK.load .none ty23 (.tmp rfl (fun _ => trivial))) rfl ?_
  refine Chain.cons (StepOK.len .none sl23 (.tmp rfl (fun _ => trivial))) rfl ?_
  refine Chain.cons (StepOK.move .none (.int (by decide))) rfl ?_
  refine Chain.nil ?_
  refine Ends.then ?_
  obtain ⟨j_4, h, hK4⟩ := bind_some h
  refine Cod.thenJ (ι := ((List Int) × (List Int))) (fun j_4 => []) (fun j_4 => [(2, some (rowV 3 j_4.1)), (3, some (rowV 3 j_4.2))]) (fun s => j_4 = s) Sub.nil SubB.nil ?_ (fun j_4' hj4 => ?_)
  · skip
    refine Cod.block ?_
    refine Cod.anon (t := 2) (g := 5001) rfl rfl trivial rfl ?_
    refine Cod.anon (t := 3) (g := 5002) rfl rfl trivial rfl ?_
    refine Cod.rforL h (fun p5_ => [(27, ⟨True, rep p5_.1⟩)]) (fun p5_ => [(2, some (rowV 3 p5_.2.1)), (3, some (rowV 3 p5_.2.2))]) (.cons (t := 27) rfl Sub.nil) (.cons (t := 2) rfl (.cons (t := 3) rfl SubB.nil)) (.cons (t := 1) rfl (.cons (t := 25) rfl (.cons (t := 26) rfl Sub.nil))) SubB.nil (fun p5_ o_5 h hD5 => ?_)
    refine Cod.nameRow (t := 2) (g := 5003) rfl rfl rfl (fun s5003 => ?_)
    refine Cod.nameRow (t := 3) (g := 5004) rfl rfl rfl (fun s5004 => ?_)
    refine Cod.seq ?_
    refine Cod.region [] mixed (by kernel_rfl) ?_
    refine Chain.cons (StepOK.lt .none (.tmp rfl (fun _ => trivial)) (.tmp rfl (fun _ => trivial))) rfl ?_
    refine Chain.nil ?_
    refine Ends.then ?_
    refine Cod.seq ?_
    refine Cod.cond (t := 28) rfl trivial (fun hb6 => ?_) (fun hb6 => ?_)
    · replace h := bif_t h hb6
      refine Cod.skip ?_
      refine Ends.then ?_
      refine Cod.seq ?_
      obtain ⟨j_7, h, hK7⟩ := bind_some h
      unfold ref_gridLines_L1 at h
      refine Cod.thenJ (ι := ((List Int) × (List Int))) (fun j_7 => []) (fun j_7 => [(2, some (rowV 3 j_7.1)), (3, some (rowV 3 j_7.2))]) (fun s => j_7 = s) (.cons (t := 1) rfl (.cons (t := 25) rfl (.cons (t := 26) rfl (.cons (t := 27) rfl Sub.nil)))) SubB.nil ?_ (fun j_7' hj7 => ?_)
      · skip
        refine Cod.block ?_
        refine Cod.seq ?_
        refine Cod.region [([], []), ([], []), ([], [7]), ([7], [7])] mixed (by kernel_rfl) ?_
        obtain ⟨hn8, h⟩ := need_some h
        refine Chain.consA (StepOK.indexAddr .none sl23 ty25 (.tmp rfl (fun _ => trivial)) (.tmp rfl (fun _ => trivial)) (fun _ => hn8)) rfl ?_
        obtain ⟨v1, hv9, h⟩ := bnd_some h
        refine Chain.consA (StepOK.re hv9 (StepOK.load .none ty25 (.tmp rfl (fun _ => trivial)))) rfl ?_
        refine Chain.consW (StepOK.alloc zo25 rfl) rfl rfl ?_
        refine Chain.consN (StepOK.store ty25 rfl rfl (.tmp rfl (fun _ => trivial))) rfl ?_
        refine Chain.nil ?_
        refine Ends.then ?_
        refine Cod.freeze (t := 7) rfl rfl (.cons (t := 5003) rfl (.cons (t := 5004) rfl SubB.nil)) rfl ?_
        refine Cod.seq ?_
        refine Cod.region [([], []), ([], []), ([], []), ([], []), ([], []), ([], []), ([], []), ([], []), ([], []), ([], []), ([], []), ([], []), ([], []), ([], []), ([], []), ([5003], [46, 5003]), ([46], [2, 46])] mixed (by kernel_rfl) ?_
        refine Chain.consA (StepOK.move .none (.tmp rfl (fun _ => trivial))) rfl ?_
        refine Chain.consA (StepOK.fieldAddr .none fd25_0 hfd25_0 (.tmp rfl (fun _ => trivial))) rfl ?_
        refine Chain.consA (StepOK.load .none ty3 (.tmp rfl (fun _ => trivial))) rfl ?_
        refine Chain.consA (StepOK.fieldAddr .none fd55_5 hfd55_5 (.tmp rfl (fun _ => trivial))) rfl ?_
        refine Chain.consA (StepOK.load .none ty3 (.tmp rfl (fun _ => trivial))) rfl ?_
        refine Chain.consA (StepOK.subW .none (.tmp rfl (fun _ => trivial)) (.tmp rfl (fun _ => trivial))) rfl ?_
        refine Chain.consA (StepOK.fieldAddr .none fd25_0 hfd25_0 (.tmp rfl (fun _ => trivial))) rfl ?_
        refine Chain.consA (StepOK.load .none ty3 (.tmp rfl (fun _ => trivial))) rfl ?_
        refine Chain.consA (StepOK.fieldAddr .none fd25_2 hfd25_2 (.tmp rfl (fun _ => trivial))) rfl ?_
        refine Chain.consA (StepOK.load .none ty3 (.tmp rfl (fun _ => trivial))) rfl ?_
        refine Chain.consA (StepOK.addW .none (.tmp rfl (fun _ => trivial)) (.tmp rfl (fun _ => trivial))) rfl ?_
        refine Chain.consA (StepOK.fieldAddr .none fd55_5 hfd55_5 (.tmp rfl (fun _ => trivial))) rfl ?_
        refine Chain.consA (StepOK.load .none ty3 (.tmp rfl (fun _ => trivial))) rfl ?_
        refine Chain.consA (StepOK.addW .none (.tmp rfl (fun _ => trivial)) (.tmp rfl (fun _ => trivial))) rfl ?_
        refine Chain.consA (StepOK.buildSlice (xs := [_, _]) .none sl42 ty3 hz3 (.cons (.tmp rfl (fun _ => trivial)) (.cons (.tmp rfl (fun _ => trivial)) .nil)) rfl (by decide)) rfl ?_
        obtain ⟨hn10, h⟩ := need_some h
        refine Chain.consW (StepOK.append (k := 5003) rk42 rfl (.told (.tmp rfl (fun _ => trivial)) rfl) (.tmp rfl (fun _ => trivial)) hn10) rfl rfl ?_
        refine Chain.consW (StepOK.passRow rfl (.tmp rfl)) rfl rfl ?_
        refine Chain.nil ?_
        refine Ends.then ?_
        obtain ⟨xs2, hv11, h⟩ := bnd_some h
        refine Cod.reB (t := 2) rfl (congrArg (rowV 3) hv11) ?_
        refine Cod.nameRow (t := 2) (g := 5005) rfl rfl rfl (fun s5005 => ?_)
        refine Cod.region [([], []), ([], []), ([], []), ([], []), ([], []), ([], []), ([], []), ([], []), ([], []), ([], []), ([], []), ([], []), ([], []), ([], []), ([], []), ([5004], [62, 5004]), ([62], [3, 62])] mixed (by kernel_rfl) ?_
        refine Chain.consA (StepOK.move .none (.tmp rfl (fun _ => trivial))) rfl ?_
        refine Chain.consA (StepOK.fieldAddr .none fd25_1 hfd25_1 (.tmp rfl (fun _ => trivial))) rfl ?_
        refine Chain.consA (StepOK.load .none ty3 (.tmp rfl (fun _ => trivial))) rfl ?_
        refine Chain.consA (StepOK.fieldAddr .none fd55_5 hfd55_5 (.tmp rfl (fun _ => trivial))) rfl ?_
        refine Chain.consA (StepOK.load .none ty3 (.tmp rfl (fun _ => trivial))) rfl ?_
        refine Chain.consA (StepOK.subW .none (.tmp rfl (fun _ => trivial)) (.tmp rfl (fun _ => trivial))) rfl ?_
        refine Chain.consA (StepOK.fieldAddr .none fd25_1 hfd25_1 (.tmp rfl (fun _ => trivial))) rfl ?_
        refine Chain.consA (StepOK.load .none ty3 (.tmp rfl (fun _ => trivial))) rfl ?_
        refine Chain.consA (StepOK.fieldAddr .none fd25_3 hfd25_3 (.tmp rfl (fun _ => trivial))) rfl ?_
        refine Chain.consA (StepOK.load .none ty3 (.tmp rfl (fun _ => trivial))) rfl ?_
        refine Chain.consA (StepOK.addW .none (.tmp rfl (fun _ => trivial)) (.tmp rfl (fun _ => trivial))) rfl ?_
        refine Chain.consA (StepOK.fieldAddr .none fd55_5 hfd55_5 (.tmp rfl (fun _ => trivial))) rfl ?_
        refine Chain.consA (StepOK.load .none ty3 (.tmp rfl (fun _ => trivial))) rfl ?_
        refine Chain.consA (StepOK.addW .none (.tmp rfl (fun _ => trivial)) (.tmp rfl (fun _ => trivial))) rfl ?_
        refine Chain.consA (StepOK.buildSlice (xs := [_, _]) .none sl42 ty3 hz3 (.cons (.tmp rfl (fun _ => trivial)) (.cons (.tmp rfl (fun _ => trivial)) .nil)) rfl (by decide)) rfl ?_
        obtain ⟨hn12, h⟩ := need_some h
        refine Chain.consW (StepOK.append (k := 5004) rk42 rfl (.told (.tmp rfl (fun _ => trivial)) rfl) (.tmp rfl (fun _ => trivial)) hn12) rfl rfl ?_
        refine Chain.consW (StepOK.passRow rfl (.tmp rfl)) rfl rfl ?_
        refine Chain.nil ?_
        refine Ends.blkNormal ?_
        refine Ends.anon (t := 2) (g := 5005) rfl rfl trivial rfl ?_
        exact Ends.join _ (some_eq h) (.cons (t := 1) rfl (.cons (t := 25) rfl (.cons (t := 26) rfl (.cons (t := 27) rfl Sub.nil)))) (.cons (t := 2) rfl (.cons (t := 3) rfl SubB.nil))
      · subst hj7; have h := hK7; clear hK7
        refine Cod.nameRow (t := 2) (g := 5006) rfl rfl rfl (fun s5006 => ?_)
        refine Cod.nameRow (t := 3) (g := 5007) rfl rfl rfl (fun s5007 => ?_)
        refine Cod.region [] mixed (by kernel_rfl) ?_
        refine Chain.cons (StepOK.addW .none (.tmp rfl (fun _ => trivial)) (.int (by decide))) rfl ?_
        refine Chain.cons (StepOK.move .none (.tmp rfl (fun _ => trivial))) rfl ?_
        refine Chain.nil ?_
        refine Ends.anon (t := 2) (g := 5006) rfl rfl trivial rfl ?_
        refine Ends.anon (t := 3) (g := 5007) rfl rfl trivial rfl ?_
        exact Ends.againL (some_eq h) (.cons (t := 27) rfl (.cons (t := 1) rfl (.cons (t := 25) rfl (.cons (t := 26) rfl Sub.nil)))) (.cons (t := 2) rfl (.cons (t := 3) rfl SubB.nil))
    · replace h := bif_f h hb6
      refine Cod.exit ?_
      refine Ends.thenExit ?_
      refine Ends.thenExit ?_
      refine Ends.blkExit ?_
      refine Ends.anon (t := 2) (g := 5003) rfl rfl trivial rfl ?_
      refine Ends.anon (t := 3) (g := 5004) rfl rfl trivial rfl ?_
      replace h := hD5 _ (some_eq h)
      exact Ends.join _ (some_eq h) Sub.nil (.cons (t := 2) rfl (.cons (t := 3) rfl SubB.nil))
  · subst hj4; have h := hK4; clear hK4
    refine Cod.freezeRowA (t := 2) rfl rfl (.cons (t := 3) rfl SubB.nil) rfl ?_
    refine Cod.freezeRowA (t := 3) rfl rfl SubB.nil rfl ?_
    refine Cod.seq ?_
    refine Cod.region [] mixed (by kernel_rfl) ?_
    refine Chain.cons (StepOK.assign .none (Opd.func (ι := (List Int) × (List Int)) (pre := fun i => ref_gridLines_1 i.1 = some i.2) (Ss := fun i => [rep i.1]) (S := fun i => rep i.2) fnok105 (fun i h => ref_gridLines_1_ok h))) rfl ?_
    refine Chain.nil ?_
    refine Ends.then ?_
    refine Cod.seq ?_
    refine Cod.region [] mixed (by kernel_rfl) ?_
    refine Chain.cons (StepOK.move .none (.tmp rfl (fun _ => trivial))) rfl ?_
    refine Chain.cons (StepOK.move .none (.tmp rfl (fun _ => trivial))) rfl ?_
    obtain ⟨xs3, hv13, h⟩ := bind_some h
    refine Chain.cons (StepOK.callV (j_4.1, xs3) .none (.tmp rfl (fun _ => trivial)) (fun _ => hv13) (.cons (.tmp rfl (fun _ => trivial)) .nil)) rfl ?_
    refine Chain.cons (StepOK.move .none (.tmp rfl (fun _ => trivial))) rfl ?_
    refine Chain.cons (StepOK.move .none (.tmp rfl (fun _ => trivial))) rfl ?_
    obtain ⟨ys2, hv14, h⟩ := bind_some h
    refine Chain.cons (StepOK.callV (j_4.2, ys2) .none (.tmp rfl (fun _ => trivial)) (fun _ => hv14) (.cons (.tmp rfl (fun _ => trivial)) .nil)) rfl ?_
    refine Chain.cons (StepOK.assign .none (.tmp rfl (fun _ => trivial))) rfl ?_
    refine Chain.cons (StepOK.assign .none (.tmp rfl (fun _ => trivial))) rfl ?_
    refine Chain.nil ?_
    refine Ends.then ?_
    refine Cod.ret ?_
    obtain rfl := some_eq h
    exact Ends.ret2 (.inl rfl) Try.results77 (ResOK.tmp rfl trivial Imp.refl) (ResOK.tmp rfl trivial Imp.refl)

theorem ref_blocked_1_ok {w1 : Box} {c0_1 : Task} {c1_1 : Point} {c2_1 : Point} {r : Bool}  (h : ref_blocked_1 w1 c0_1 c1_1 c2_1 = some r) : FSpec Try.prog 110 [rep w1, ref c0_1, ref c1_1, ref c2_1] (rep r) := by
  unfold ref_blocked_1 at h
  refine FSpec.intro (n := 70) fnok110 Try.func110 rfl Try.ntmps110 rfl (fun F => ?_)
  refine Cod.seq ?_
  refine Cod.region [] mixed (by kernel_rfl) ?_
  refine Chain.cons (StepOK.box .none (.tmp rfl (fun _ => trivial))) rfl ?_
  refine Chain.cons (StepOK.assign .none .bool) rfl ?_
  refine Chain.nil ?_
  refine Ends.then ?_
  refine Cod.seq ?_
  refine Cod.region [] mixed (by kernel_rfl) ?_
  refine Chain.cons (StepOK.fieldAddr .none fd25_0 hfd25_0 (.tmp rfl (fun _ => trivial))) rfl ?_
  refine Chain.cons (StepOK.load .none ty3 (.tmp rfl (fun _ => trivial))) rfl ?_
  refine Chain.cons (StepOK.fieldAddr .none fd55_5 hfd55_5 (.tmp rfl (fun _ => trivial))) rfl ?_
  refine Chain.cons (StepOK.load .none ty3 (.tmp rfl (fun _ => trivial))) rfl ?_
  refine Chain.cons (StepOK.subW .none (.tmp rfl (fun _ => trivial)) (.tmp rfl (fun _ => trivial))) rfl ?_
  refine Chain.cons (StepOK.fieldAddr .none fd25_1 hfd25_1 (.tmp rfl (fun _ => trivial))) rfl ?_
  refine Chain.cons (StepOK.load .none ty3 (.tmp rfl (fun _ => trivial))) rfl ?_
  refine Chain.cons (StepOK.fieldAddr .none fd55_5 hfd55_5 (.tmp rfl (fun _ => trivial))) rfl ?_
  refine Chain.cons (StepOK.load .none ty3 (.tmp rfl (fun _ => trivial))) rfl ?_
  refine Chain.cons (StepOK.subW .none (.tmp rfl (fun _ => trivial)) (.tmp rfl (fun _ => trivial))) rfl ?_
  refine Chain.cons (StepOK.fieldAddr .none fd25_0 hfd25_0 (.tmp rfl (fun _ => trivial))) rfl ?_
  refine Chain.cons (StepOK.load .none ty3 (.tmp rfl (fun _ => trivial))) rfl ?_
  refine Chain.cons (StepOK.fieldAddr .none fd25_2 hfd25_2 (.tmp rfl (fun _ => trivial))) rfl ?_
  refine Chain.cons (StepOK.load .none ty3 (.tmp rfl (fun _ => trivial))) rfl ?_
  refine Chain.cons (StepOK.addW .none (.tmp rfl (fun _ => trivial)) (.tmp rfl (fun _ => trivial))) rfl ?_
  refine Chain.cons (StepOK.fieldAddr .none fd55_5 hfd55_5 (.tmp rfl (fun _ => trivial))) rfl ?_
  refine Chain.cons (StepOK.load .none ty3 (.tmp rfl (fun _ => trivial))) rfl ?_
  refine Chain.cons (StepOK.addW .none (.tmp rfl (fun _ => trivial)) (.tmp rfl (fun _ => trivial))) rfl ?_
  refine Chain.cons (StepOK.fieldAddr .none fd25_1 hfd25_1 (.tmp rfl (fun _ => trivial))) rfl ?_
  refine Chain.cons (StepOK.load .none ty3 (.tmp rfl (fun _ => trivial))) rfl ?_
  refine Chain.cons (StepOK.fieldAddr .none fd25_3 hfd25_3 (.tmp rfl (fun _ => trivial))) rfl ?_
  refine Chain.cons (StepOK.load .none ty3 (.tmp rfl (fun _ => trivial))) rfl ?_
  refine Chain.cons (StepOK.addW .none (.tmp rfl (fun _ => trivial)) (.tmp rfl (fun _ => trivial))) rfl ?_
  refine Chain.cons (StepOK.fieldAddr .none fd55_5 hfd55_5 (.tmp rfl (fun _ => trivial))) rfl ?_
  refine Chain.cons (StepOK.load .none ty3 (.tmp rfl (fun _ => trivial))) rfl ?_
  refine Chain.cons (StepOK.addW .none (.tmp rfl (fun _ => trivial)) (.tmp rfl (fun _ => trivial))) rfl ?_
  refine Chain.cons (StepOK.assign .none (.tmp rfl (fun _ => trivial))) rfl ?_
  refine Chain.cons (StepOK.assign .none (.tmp rfl (fun _ => trivial))) rfl ?_
  refine Chain.cons (StepOK.assign .none (.tmp rfl (fun _ => trivial))) rfl ?_
  refine Chain.cons (StepOK.assign .none (.tmp rfl (fun _ => trivial))) rfl ?_
  refine Chain.nil ?_
  refine Ends.then ?_
  refine Cod.seq ?_
  refine Cod.region [] mixed (by kernel_rfl) ?_
  refine Chain.cons (StepOK.fieldAddr .none fd53_0 hfd53_0 (.tmp rfl (fun _ => trivial))) rfl ?_
  refine Chain.cons (StepOK.load .none ty3 (.tmp rfl (fun _ => trivial))) rfl ?_
  refine Chain.cons (StepOK.fieldAddr .none fd53_0 hfd53_0 (.tmp rfl (fun _ => trivial))) rfl ?_
  refine Chain.cons (StepOK.load .none ty3 (.tmp rfl (fun _ => trivial))) rfl ?_
  refine Chain.cons (StepOK.max2 .none (.tmp rfl (fun _ => trivial)) (.tmp rfl (fun _ => trivial))) rfl ?_
  refine Chain.cons (StepOK.move .none (.tmp rfl (fun _ => trivial))) rfl ?_
  refine Chain.cons (StepOK.gt .none (.tmp rfl (fun _ => trivial)) (.tmp rfl (fun _ => trivial))) rfl ?_
  refine Chain.cons (StepOK.move .none (.tmp rfl (fun _ => trivial))) rfl ?_
  refine Chain.cons (StepOK.fieldAddr (.at rfl rfl) fd53_0 hfd53_0 (.tmp rfl (fun _ => trivial))) rfl ?_
  refine Chain.cons (StepOK.load (.at rfl rfl) ty3 (.tmp rfl id)) rfl ?_
  refine Chain.cons (StepOK.fieldAddr (.at rfl rfl) fd53_0 hfd53_0 (.tmp rfl (fun _ => trivial))) rfl ?_
  refine Chain.cons (StepOK.load (.at rfl rfl) ty3 (.tmp rfl id)) rfl ?_
  refine Chain.cons (StepOK.min2 (.at rfl rfl) (.tmp rfl id) (.tmp rfl id)) rfl ?_
  refine Chain.cons (StepOK.move (.at rfl rfl) (.tmp rfl (fun _ => trivial))) rfl ?_
  refine Chain.cons (StepOK.lt (.at rfl rfl) (.tmp rfl id) (.tmp rfl id)) rfl ?_
  refine Chain.cons (StepOK.pickAnd .none (.tmp rfl (fun _ => trivial)) (.tmp rfl id)) rfl ?_
  refine Chain.cons (StepOK.move .none (.tmp rfl (fun _ => trivial))) rfl ?_
  refine Chain.cons (StepOK.fieldAddr (.at rfl rfl) fd53_1 hfd53_1 (.tmp rfl (fun _ => trivial))) rfl ?_
  refine Chain.cons (StepOK.load (.at rfl rfl) ty3 (.tmp rfl id)) rfl ?_
  refine Chain.cons (StepOK.fieldAddr (.at rfl rfl) fd53_1 hfd53_1 (.tmp rfl (fun _ => trivial))) rfl ?_
  refine Chain.cons (StepOK.load (.at rfl rfl) ty3 (.tmp rfl id)) rfl ?_
  refine Chain.cons (StepOK.max2 (.at rfl rfl) (.tmp rfl id) (.tmp rfl id)) rfl ?_
  refine Chain.cons (StepOK.move (.at rfl rfl) (.tmp rfl (fun _ => trivial))) rfl ?_
  refine Chain.cons (StepOK.gt (.at rfl rfl) (.tmp rfl id) (.tmp rfl id)) rfl ?_
  refine Chain.cons (StepOK.pickAnd .none (.tmp rfl (fun _ => trivial)) (.tmp rfl id)) rfl ?_
  refine Chain.cons (StepOK.move .none (.tmp rfl (fun _ => trivial))) rfl ?_
  refine Chain.cons (StepOK.fieldAddr (.at rfl rfl) fd53_1 hfd53_1 (.tmp rfl (fun _ => trivial))) rfl ?_
  refine Chain.cons (StepOK.load (.at rfl rfl) ty3 (.tmp rfl id)) rfl ?_
  refine Chain.cons (StepOK.fieldAddr (.at rfl rfl) fd53_1 hfd53_1 (.tmp rfl (fun _ => trivial))) rfl ?_
  refine Chain.cons (StepOK.load (.at rfl rfl) ty3 (.tmp rfl id)) rfl ?_
  refine Chain.cons (StepOK.min2 (.at rfl rfl) (.tmp rfl id) (.tmp rfl id)) rfl ?_
  refine Chain.cons (StepOK.move (.at rfl rfl) (.tmp rfl (fun _ => trivial))) rfl ?_
  refine Chain.cons (StepOK.lt (.at rfl rfl) (.tmp rfl id) (.tmp rfl id)) rfl ?_
  refine Chain.cons (StepOK.pickAnd .none (.tmp rfl (fun _ => trivial)) (.tmp rfl id)) rfl ?_
  refine Chain.cons (StepOK.assign .none (.tmp rfl (fun _ => trivial))) rfl ?_
  refine Chain.nil ?_
  refine Ends.then ?_
  refine Cod.ret ?_
  obtain rfl := some_eq h
  exact Ends.ret1 (.inl rfl) Try.results110 (ResOK.tmp rfl trivial Imp.refl)

theorem slices_IndexFunc_Box_ok {s1 : (List Box)} {f1 : (Box → Option Bool)} {r : Int}  (h : slices_IndexFunc_Box s1 f1 = some r) : FSpec Try.prog 97 [rep s1, fn1 Try.prog (rep (α := Bool)) f1] (rep r) := by
  unfold slices_IndexFunc_Box at h
  refine FSpec.intro (n := 19) fnok97 Try.func97 rfl Try.ntmps97 rfl (fun F => ?_)
  refine Cod.seq ?_
  refine Cod.region [] mixed (by kernel_rfl) ?_
  refine Chain.cons (StepOK.assign .none (.int (by decide))) rfl ?_
  refine Chain.nil ?_
  refine Ends.then ?_
  refine Cod.seq ?_
  refine Cod.seq ?_
  refine Cod.region [] mixed (by kernel_rfl) ?_
  refine Chain.cons (StepOK.move .none (.tmp rfl (fun _ => trivial))) rfl ?_
  refine Chain.cons (StepOK.len .none sl23 (.tmp rfl (fun _ => trivial))) rfl ?_
  refine Chain.cons (StepOK.move .none (.int (by decide))) rfl ?_
  refine Chain.nil ?_
  refine Ends.then ?_
  obtain ⟨o_1, h, hK1⟩ := bindR_some h
  refine Cod.thenJ (ι := Unit) (fun j_1 => []) (fun j_1 => []) (fun s => o_1 = Res.nx s) Sub.nil SubB.nil ?_ (fun j_1 hj1 => ?_)
  · skip
    refine Cod.block ?_
    refine Cod.rforEL h (fun p2_ => [(8, ⟨True, rep p2_.1⟩)]) (fun p2_ => []) (.cons (t := 8) rfl Sub.nil) SubB.nil (.cons (t := 0) rfl (.cons (t := 1) rfl (.cons (t := 7) rfl Sub.nil))) SubB.nil (fun p2_ o_2 h hD2 => ?_)
    refine Cod.seq ?_
    refine Cod.region [] mixed (by kernel_rfl) ?_
    refine Chain.cons (StepOK.lt .none (.tmp rfl (fun _ => trivial)) (.tmp rfl (fun _ => trivial))) rfl ?_
    refine Chain.nil ?_
    refine Ends.then ?_
    refine Cod.seq ?_
    refine Cod.cond (t := 9) rfl trivial (fun hb3 => ?_) (fun hb3 => ?_)
    · replace h := bif_t h hb3
      refine Cod.skip ?_
      refine Ends.then ?_
      refine Cod.seq ?_
      obtain ⟨o_4, h, hK4⟩ := bindD_some h
      unfold slices_IndexFunc_Box_L1 at h
      refine Cod.thenJ (ι := Unit) (fun j_4 => []) (fun j_4 => []) (fun s => o_4 = Res.nx s) (.cons (t := 0) rfl (.cons (t := 1) rfl (.cons (t := 7) rfl (.cons (t := 8) rfl Sub.nil)))) SubB.nil ?_ (fun j_4 hj4 => ?_)
      · skip
        refine Cod.block ?_
        refine Cod.seq ?_
        refine Cod.region [] mixed (by kernel_rfl) ?_
        refine Chain.cons (StepOK.move .none (.tmp rfl (fun _ => trivial))) rfl ?_
        refine Chain.cons (StepOK.assign .none (.tmp rfl (fun _ => trivial))) rfl ?_
        refine Chain.nil ?_
        refine Ends.then ?_
        refine Cod.seq ?_
        refine Cod.region [] mixed (by kernel_rfl) ?_
        refine Chain.cons (StepOK.move .none (.tmp rfl (fun _ => trivial))) rfl ?_
        refine Chain.cons (StepOK.move .none (.tmp rfl (fun _ => trivial))) rfl ?_
        refine Chain.cons (StepOK.move .none (.tmp rfl (fun _ => trivial))) rfl ?_
        obtain ⟨hn5, h⟩ := need_some h
        refine Chain.cons (StepOK.indexAddr .none sl23 ty25 (.tmp rfl (fun _ => trivial)) (.tmp rfl (fun _ => trivial)) (fun _ => hn5)) rfl ?_
        refine Chain.cons (StepOK.load .none ty25 (.tmp rfl (fun _ => trivial))) rfl ?_
        obtain ⟨r1, hv6, h⟩ := bind_some h
        refine Chain.cons (StepOK.callV (gx s1 p2_.1, r1) .none (.tmp rfl (fun _ => trivial)) (fun _ => hv6) (.cons (.tmp rfl (fun _ => trivial)) .nil)) rfl ?_
        refine Chain.nil ?_
        refine Ends.then ?_
        refine Cod.cond (t := 16) rfl trivial (fun hb7 => ?_) (fun hb7 => ?_)
        · replace h := bif_t h hb7
          refine Cod.seq ?_
          refine Cod.region [] mixed (by kernel_rfl) ?_
          refine Chain.cons (StepOK.move .none (.tmp rfl (fun _ => trivial))) rfl ?_
          refine Chain.cons (StepOK.assign .none (.tmp rfl (fun _ => trivial))) rfl ?_
          refine Chain.nil ?_
          refine Ends.then ?_
          refine Cod.ret ?_
          refine Ends.blkRet ?_
          refine Ends.thenRet ?_
          refine Ends.thenRet ?_
          refine Ends.blkRet ?_
          refine Ends.thenRet ?_
          replace h := resd_ab hK4 (some_eq h)
          replace h := hD2 _ (some_eq h)
          replace h := resb_ab hK1 (some_eq h)
          obtain rfl := some_eq h
          exact Ends.ret1 (.inl rfl) Try.results97 (ResOK.tmp rfl trivial Imp.refl)
        · replace h := bif_f h hb7
          refine Cod.skip ?_
          refine Ends.blkNormal ?_
          exact Ends.join _ (some_eq h) (.cons (t := 0) rfl (.cons (t := 1) rfl (.cons (t := 7) rfl (.cons (t := 8) rfl Sub.nil)))) SubB.nil
      · have h := resd_nx hK4 hj4
        refine Cod.region [] mixed (by kernel_rfl) ?_
        refine Chain.cons (StepOK.addW .none (.tmp rfl (fun _ => trivial)) (.int (by decide))) rfl ?_
        refine Chain.cons (StepOK.move .none (.tmp rfl (fun _ => trivial))) rfl ?_
        refine Chain.nil ?_
        exact Ends.againL (some_eq h) (.cons (t := 8) rfl (.cons (t := 0) rfl (.cons (t := 1) rfl (.cons (t := 7) rfl Sub.nil)))) SubB.nil
    · replace h := bif_f h hb3
      refine Cod.exit ?_
      refine Ends.thenExit ?_
      refine Ends.thenExit ?_
      refine Ends.blkExit ?_
      replace h := hD2 _ (some_eq h)
      exact Ends.join _ (some_eq h) Sub.nil SubB.nil
  · have h := resb_nx hK1 hj1
    refine Cod.seq ?_
    refine Cod.region [] mixed (by kernel_rfl) ?_
    refine Chain.cons (StepOK.assign .none (.int (by decide))) rfl ?_
    refine Chain.nil ?_
    refine Ends.then ?_
    refine Cod.ret ?_
    obtain rfl := some_eq h
    exact Ends.ret1 (.inl rfl) Try.results97 (ResOK.tmp rfl trivial Imp.refl)

theorem slices_ContainsFunc_Box_ok {s1 : (List Box)} {f1 : (Box → Option Bool)} {r : Bool}  (h : slices_ContainsFunc_Box s1 f1 = some r) : FSpec Try.prog 53 [rep s1, fn1 Try.prog (rep (α := Bool)) f1] (rep r) := by
  unfold slices_ContainsFunc_Box at h
  refine FSpec.intro (n := 9) fnok53 Try.func53 rfl Try.ntmps53 rfl (fun F => ?_)
  refine Cod.seq ?_
  refine Cod.region [] mixed (by kernel_rfl) ?_
  refine Chain.cons (StepOK.assign .none .bool) rfl ?_
  refine Chain.nil ?_
  refine Ends.then ?_
  refine Cod.seq ?_
  refine Cod.region [] mixed (by kernel_rfl) ?_
  refine Chain.cons (StepOK.move .none (.tmp rfl (fun _ => trivial))) rfl ?_
  refine Chain.cons (StepOK.move .none (.tmp rfl (fun _ => trivial))) rfl ?_
  obtain ⟨r1, hv1, h⟩ := bind_some h
  refine Chain.cons (StepOK.call .none (slices_IndexFunc_Box_ok hv1) (.cons (.tmp rfl (fun _ => trivial)) (.cons (.tmp rfl (fun _ => trivial)) .nil))) rfl ?_
  refine Chain.cons (StepOK.ge .none (.tmp rfl (fun _ => trivial)) (.int (by decide))) rfl ?_
  refine Chain.cons (StepOK.assign .none (.tmp rfl (fun _ => trivial))) rfl ?_
  refine Chain.nil ?_
  refine Ends.then ?_
  refine Cod.ret ?_
  obtain rfl := some_eq h
  exact Ends.ret1 (.inl rfl) Try.results53 (ResOK.tmp rfl trivial Imp.refl)

theorem ref_blocked_ok {t1 : Task} {a1 : Point} {b1 : Point} {r : Bool}  (h : ref_blocked t1 a1 b1 = some r) : FSpec Try.prog 80 [rep t1, rep a1, rep b1] (rep r) := by
  unfold ref_blocked at h
  refine FSpec.intro (n := 11) fnok80 Try.func80 rfl Try.ntmps80 rfl (fun F => ?_)
  refine Cod.seq ?_
  refine Cod.region [] mixed (by kernel_rfl) ?_
  refine Chain.cons (StepOK.box .none (.tmp rfl (fun _ => trivial))) rfl ?_
  refine Chain.cons (StepOK.box .none (.tmp rfl (fun _ => trivial))) rfl ?_
  refine Chain.cons (StepOK.box .none (.tmp rfl (fun _ => trivial))) rfl ?_
  refine Chain.cons (StepOK.assign .none .bool) rfl ?_
  refine Chain.nil ?_
  refine Ends.then ?_
  refine Cod.seq ?_
  refine Cod.region [] mixed (by kernel_rfl) ?_
  refine Chain.cons (StepOK.fieldAddr .none fd55_4 hfd55_4 (.tmp rfl (fun _ => trivial))) rfl ?_
  refine Chain.cons (StepOK.load .none ty23 (.tmp rfl (fun _ => trivial))) rfl ?_
  refine Chain.cons (StepOK.makeFunc (ι := Box × Bool) (pre := fun i => (fun x0 => ref_blocked_1 x0 t1 a1 b1) i.1 = some i.2) (Ss := fun i => [rep i.1]) (S := fun i => rep i.2) .none fnok110 (fun i h => ref_blocked_1_ok h) (.cons (.tmp rfl (fun _ => trivial)) (.cons (.tmp rfl (fun _ => trivial)) (.cons (.tmp rfl (fun _ => trivial)) .nil)))) rfl ?_
  obtain ⟨r1, hv1, h⟩ := bind_some h
  refine Chain.cons (StepOK.call .none (slices_ContainsFunc_Box_ok hv1) (.cons (.tmp rfl (fun _ => trivial)) (.cons (.tmp rfl (fun _ => trivial)) .nil))) rfl ?_
  refine Chain.cons (StepOK.assign .none (.tmp rfl (fun _ => trivial))) rfl ?_
  refine Chain.nil ?_
  refine Ends.then ?_
  refine Cod.ret ?_
  obtain rfl := some_eq h
  exact Ends.ret1 (.inl rfl) Try.results80 (ResOK.tmp rfl trivial Imp.refl)

theorem ref_IsWay_ok {t1 : Task} {l1 : (List Point)} {r : Bool}  (h : ref_IsWay t1 l1 = some r) : FSpec Try.prog 31 [rep t1, rep l1] (rep r) := by
  unfold ref_IsWay at h
  refine FSpec.intro (n := 215) fnok31 Try.func31 rfl Try.ntmps31 rfl (fun F => ?_)
  refine Cod.seq ?_
  refine Cod.region [] mixed (by kernel_rfl) ?_
  refine Chain.cons (StepOK.box .none (.tmp rfl (fun _ => trivial))) rfl ?_
  refine Chain.cons (StepOK.assign .none .bool) rfl ?_
  refine Chain.nil ?_
  refine Ends.then ?_
  refine Cod.seq ?_
  refine Cod.region [] mixed (by kernel_rfl) ?_
  refine Chain.cons (StepOK.move .none (.tmp rfl (fun _ => trivial))) rfl ?_
  refine Chain.cons (StepOK.len .none sl22 (.tmp rfl (fun _ => trivial))) rfl ?_
  obtain ⟨n1, hv1, h⟩ := bnd_some h
  refine Chain.cons (StepOK.re hv1 (StepOK.assign .none (.tmp rfl (fun _ => trivial)))) rfl ?_
  refine Chain.nil ?_
  refine Ends.then ?_
  refine Cod.seq ?_
  refine Cod.seq ?_
  refine Cod.region [] mixed (by kernel_rfl) ?_
  refine Chain.cons (StepOK.move .none (.tmp rfl (fun _ => trivial))) rfl ?_
  obtain ⟨r1, hv2, h⟩ := bind_some h
  refine Chain.cons (StepOK.call .none (ref_IsRight_ok hv2) (.cons (.tmp rfl (fun _ => trivial)) .nil)) rfl ?_
  refine Chain.cons (StepOK.not .none (.tmp rfl (fun _ => trivial))) rfl ?_
  refine Chain.cons (StepOK.move .none (.tmp rfl (fun _ => trivial))) rfl ?_
  refine Chain.cons (StepOK.move (.at rfl rfl) (.tmp rfl (fun _ => trivial))) rfl ?_
  obtain ⟨hn3, h⟩ := need_some h
  refine Chain.cons (StepOK.indexAddr (.at rfl rfl) sl22 ty53 (.tmp rfl id) (.int (by decide)) (fun hg => hn3 hg.2)) rfl ?_
  refine Chain.cons (StepOK.load (.at rfl rfl) ty53 (.tmp rfl id)) rfl ?_
  refine Chain.cons (StepOK.fieldAddr (.at rfl rfl) fd55_0 hfd55_0 (.tmp rfl (fun _ => trivial))) rfl ?_
  refine Chain.cons (StepOK.load (.at rfl rfl) ty53 (.tmp rfl id)) rfl ?_
  refine Chain.cons (StepOK.neS (.at rfl rfl) eq53 (.tmp rfl id) (.tmp rfl id)) rfl ?_
  refine Chain.cons (StepOK.pickOr .none (.tmp rfl (fun _ => trivial)) (.tmp rfl id)) rfl ?_
  refine Chain.cons (StepOK.move .none (.tmp rfl (fun _ => trivial))) rfl ?_
  refine Chain.cons (StepOK.move (.at rfl rfl) (.tmp rfl (fun _ => trivial))) rfl ?_
  refine Chain.cons (StepOK.move (.at rfl rfl) (.tmp rfl (fun _ => trivial))) rfl ?_
  refine Chain.cons (StepOK.subW (.at rfl rfl) (.tmp rfl id) (.int (by decide))) rfl ?_
  obtain ⟨hn4, h⟩ := need_some h
  refine Chain.cons (StepOK.indexAddr (.at rfl rfl) sl22 ty53 (.tmp rfl id) (.tmp rfl id) (fun hg => hn4 hg.2)) rfl ?_
  refine Chain.cons (StepOK.load (.at rfl rfl) ty53 (.tmp rfl id)) rfl ?_
  refine Chain.cons (StepOK.fieldAddr (.at rfl rfl) fd55_2 hfd55_2 (.tmp rfl (fun _ => trivial))) rfl ?_
  refine Chain.cons (StepOK.load (.at rfl rfl) ty53 (.tmp rfl id)) rfl ?_
  refine Chain.cons (StepOK.neS (.at rfl rfl) eq53 (.tmp rfl id) (.tmp rfl id)) rfl ?_
  refine Chain.cons (StepOK.pickOr .none (.tmp rfl (fun _ => trivial)) (.tmp rfl id)) rfl ?_
  refine Chain.cons (StepOK.move .none (.tmp rfl (fun _ => trivial))) rfl ?_
  refine Chain.cons (StepOK.move (.at rfl rfl) (.tmp rfl (fun _ => trivial))) rfl ?_
  obtain ⟨r2, hv5, h⟩ := bind_some h
  refine Chain.cons (StepOK.callIf (.at rfl rfl) fnok74 (fun hg => ref_TidyOf_ok ((fun hg => gd_some hv5 ((notT hg.2))) hg)) (.cons (.tmp rfl id) .nil) (fun h => h)) rfl ?_
  refine Chain.cons (StepOK.move (.at rfl rfl) (.tmp rfl (fun _ => trivial))) rfl ?_
  obtain ⟨r3, hv6, h⟩ := bind_some h
  refine Chain.cons (StepOK.callIf (.at rfl rfl) fnok40 (fun hg => slices_Equal_Point_ok ((fun hg => gd_some hv6 ((notT hg.2))) hg)) (.cons (.tmp rfl id) (.cons (.tmp rfl id) .nil)) (fun h => h)) rfl ?_
  refine Chain.cons (StepOK.not (.at rfl rfl) (.tmp rfl id)) rfl ?_
  refine Chain.cons (StepOK.pickOr .none (.tmp rfl (fun _ => trivial)) (.tmp rfl id)) rfl ?_
  refine Chain.nil ?_
  refine Ends.then ?_
  refine Cod.cond (t := 47) rfl trivial (fun hb7 => ?_) (fun hb7 => ?_)
  · replace h := bif_t h hb7
    refine Cod.seq ?_
    refine Cod.region [] mixed (by kernel_rfl) ?_
    refine Chain.cons (StepOK.assign .none .bool) rfl ?_
    refine Chain.nil ?_
    refine Ends.then ?_
    refine Cod.ret ?_
    refine Ends.thenRet ?_
    obtain rfl := some_eq h
    exact Ends.ret1 (.inl rfl) Try.results31 (ResOK.tmp rfl trivial Imp.refl)
  · replace h := bif_f h hb7
    refine Cod.skip ?_
    refine Ends.then ?_
    refine Cod.seq ?_
    refine Cod.seq ?_
    refine Cod.region [] mixed (by kernel_rfl) ?_
    refine Chain.cons (StepOK.assign .none (.int (by decide))) rfl ?_
    refine Chain.nil ?_
    refine Ends.then ?_
    obtain ⟨o_8, h, hK8⟩ := bindR_some h
    refine Cod.thenJ (ι := Unit) (fun j_8 => []) (fun j_8 => []) (fun s => o_8 = Res.nx s) (.cons (t := 1) rfl (.cons (t := 2) rfl (.cons (t := 5) rfl Sub.nil))) SubB.nil ?_ (fun j_8 hj8 => ?_)
    · skip
      refine Cod.block ?_
      refine Cod.loopL h (fun s9_ => [(6, ⟨True, rep s9_⟩)]) (fun s9_ => []) (.cons (t := 6) rfl Sub.nil) SubB.nil (.cons (t := 1) rfl (.cons (t := 2) rfl (.cons (t := 5) rfl Sub.nil))) SubB.nil (fun s9_ o_9 h hD9 => ?_)
      unfold ref_IsWay_L1 at h
      refine Cod.seq ?_
      refine Cod.seq ?_
      refine Cod.region [] mixed (by kernel_rfl) ?_
      refine Chain.cons (StepOK.move .none (.tmp rfl (fun _ => trivial))) rfl ?_
      refine Chain.cons (StepOK.addW .none (.tmp rfl (fun _ => trivial)) (.int (by decide))) rfl ?_
      refine Chain.cons (StepOK.move .none (.tmp rfl (fun _ => trivial))) rfl ?_
      refine Chain.cons (StepOK.lt .none (.tmp rfl (fun _ => trivial)) (.tmp rfl (fun _ => trivial))) rfl ?_
      refine Chain.nil ?_
      refine Ends.then ?_
      refine Cod.cond (t := 51) rfl trivial (fun hb10 => ?_) (fun hb10 => ?_)
      · replace h := bif_t h hb10
        refine Cod.skip ?_
        refine Ends.then ?_
        refine Cod.seq ?_
        refine Cod.block ?_
        refine Cod.seq ?_
        refine Cod.region [] mixed (by kernel_rfl) ?_
        refine Chain.cons (StepOK.move .none (.tmp rfl (fun _ => trivial))) rfl ?_
        refine Chain.cons (StepOK.move .none (.tmp rfl (fun _ => trivial))) rfl ?_
        refine Chain.cons (StepOK.subW .none (.tmp rfl (fun _ => trivial)) (.int (by decide))) rfl ?_
        obtain ⟨hn11, h⟩ := need_some h
        refine Chain.cons (StepOK.indexAddr .none sl22 ty53 (.tmp rfl (fun _ => trivial)) (.tmp rfl (fun _ => trivial)) (fun _ => hn11)) rfl ?_
        refine Chain.cons (StepOK.fieldAddr .none fd53_0 hfd53_0 (.tmp rfl (fun _ => trivial))) rfl ?_
        refine Chain.cons (StepOK.load .none ty3 (.tmp rfl (fun _ => trivial))) rfl ?_
        refine Chain.cons (StepOK.move .none (.tmp rfl (fun _ => trivial))) rfl ?_
        refine Chain.cons (StepOK.move .none (.tmp rfl (fun _ => trivial))) rfl ?_
        obtain ⟨hn12, h⟩ := need_some h
        refine Chain.cons (StepOK.indexAddr .none sl22 ty53 (.tmp rfl (fun _ => trivial)) (.tmp rfl (fun _ => trivial)) (fun _ => hn12)) rfl ?_
        refine Chain.cons (StepOK.fieldAddr .none fd53_0 hfd53_0 (.tmp rfl (fun _ => trivial))) rfl ?_
        refine Chain.cons (StepOK.load .none ty3 (.tmp rfl (fun _ => trivial))) rfl ?_
        refine Chain.cons (StepOK.eqI .none (.tmp rfl (fun _ => trivial)) (.tmp rfl (fun _ => trivial))) rfl ?_
        refine Chain.cons (StepOK.move .none (.tmp rfl (fun _ => trivial))) rfl ?_
        refine Chain.cons (StepOK.move .none (.tmp rfl (fun _ => trivial))) rfl ?_
        obtain ⟨hn13, h⟩ := need_some h
        refine Chain.cons (StepOK.indexAddr .none sl22 ty53 (.tmp rfl (fun _ => trivial)) (.tmp rfl (fun _ => trivial)) (fun _ => hn13)) rfl ?_
        refine Chain.cons (StepOK.fieldAddr .none fd53_0 hfd53_0 (.tmp rfl (fun _ => trivial))) rfl ?_
        refine Chain.cons (StepOK.load .none ty3 (.tmp rfl (fun _ => trivial))) rfl ?_
        refine Chain.cons (StepOK.move .none (.tmp rfl (fun _ => trivial))) rfl ?_
        refine Chain.cons (StepOK.move .none (.tmp rfl (fun _ => trivial))) rfl ?_
        refine Chain.cons (StepOK.addW .none (.tmp rfl (fun _ => trivial)) (.int (by decide))) rfl ?_
        obtain ⟨hn14, h⟩ := need_some h
        refine Chain.cons (StepOK.indexAddr .none sl22 ty53 (.tmp rfl (fun _ => trivial)) (.tmp rfl (fun _ => trivial)) (fun _ => hn14)) rfl ?_
        refine Chain.cons (StepOK.fieldAddr .none fd53_0 hfd53_0 (.tmp rfl (fun _ => trivial))) rfl ?_
        refine Chain.cons (StepOK.load .none ty3 (.tmp rfl (fun _ => trivial))) rfl ?_
        refine Chain.cons (StepOK.eqI .none (.tmp rfl (fun _ => trivial)) (.tmp rfl (fun _ => trivial))) rfl ?_
        refine Chain.cons (StepOK.eqS .none (eqAt_bool Try.underlying4) (.tmp rfl (fun _ => trivial)) (.tmp rfl (fun _ => trivial))) rfl ?_
        refine Chain.nil ?_
        refine Ends.then ?_
        refine Cod.cond (t := 78) rfl trivial (fun hb15 => ?_) (fun hb15 => ?_)
        · replace h := bif_t h hb15
          refine Cod.seq ?_
          refine Cod.region [] mixed (by kernel_rfl) ?_
          refine Chain.cons (StepOK.assign .none .bool) rfl ?_
          refine Chain.nil ?_
          refine Ends.then ?_
          refine Cod.ret ?_
          refine Ends.blkRet ?_
          refine Ends.thenRet ?_
          refine Ends.thenRet ?_
          refine Ends.blkRet ?_
          refine Ends.thenRet ?_
          replace h := hD9 _ (some_eq h)
          replace h := resb_ab hK8 (some_eq h)
          obtain rfl := some_eq h
          exact Ends.ret1 (.inl rfl) Try.results31 (ResOK.tmp rfl trivial Imp.refl)
        · replace h := bif_f h hb15
          refine Cod.skip ?_
          refine Ends.blkNormal ?_
          refine Ends.then ?_
          refine Cod.region [] mixed (by kernel_rfl) ?_
          refine Chain.cons (StepOK.move .none (.tmp rfl (fun _ => trivial))) rfl ?_
          refine Chain.cons (StepOK.addW .none (.tmp rfl (fun _ => trivial)) (.int (by decide))) rfl ?_
          obtain ⟨i1, hv16, h⟩ := bnd_some h
          refine Chain.cons (StepOK.re hv16 (StepOK.assign .none (.tmp rfl (fun _ => trivial)))) rfl ?_
          refine Chain.nil ?_
          exact Ends.againL (some_eq h) (.cons (t := 6) rfl (.cons (t := 1) rfl (.cons (t := 2) rfl (.cons (t := 5) rfl Sub.nil)))) SubB.nil
      · replace h := bif_f h hb10
        refine Cod.exit ?_
        refine Ends.thenExit ?_
        refine Ends.thenExit ?_
        refine Ends.blkExit ?_
        replace h := hD9 _ (some_eq h)
        exact Ends.join _ (some_eq h) (.cons (t := 1) rfl (.cons (t := 2) rfl (.cons (t := 5) rfl Sub.nil))) SubB.nil
    · have h := resb_nx hK8 hj8
      refine Cod.seq ?_
      refine Cod.region [([], []), ([], []), ([], []), ([], [7]), ([7], [7])] mixed (by kernel_rfl) ?_
      refine Chain.consA (StepOK.fieldAddr .none fd55_3 hfd55_3 (.tmp rfl (fun _ => trivial))) rfl ?_
      refine Chain.consA (StepOK.load .none ty3 (.tmp rfl (fun _ => trivial))) rfl ?_
      obtain ⟨r4, hv17, h⟩ := bind_some h
      refine Chain.consA (StepOK.call .none (ref_toward_ok hv17) (.cons (.tmp rfl (fun _ => trivial)) .nil)) rfl ?_
      refine Chain.consW (StepOK.alloc zo53 rfl) rfl rfl ?_
      refine Chain.consN (StepOK.store ty53 rfl rfl (.tmp rfl (fun _ => trivial))) rfl ?_
      refine Chain.nil ?_
      refine Ends.then ?_
      refine Cod.freeze (t := 7) rfl rfl SubB.nil rfl ?_
      refine Cod.seq ?_
      refine Cod.seq ?_
      refine Cod.region [] mixed (by kernel_rfl) ?_
      refine Chain.cons (StepOK.move .none (.tmp rfl (fun _ => trivial))) rfl ?_
      obtain ⟨hn18, h⟩ := need_some h
      refine Chain.cons (StepOK.indexAddr .none sl22 ty53 (.tmp rfl (fun _ => trivial)) (.int (by decide)) (fun _ => hn18)) rfl ?_
      refine Chain.cons (StepOK.load .none ty53 (.tmp rfl (fun _ => trivial))) rfl ?_
      refine Chain.cons (StepOK.move .none (.tmp rfl (fun _ => trivial))) rfl ?_
      obtain ⟨hn19, h⟩ := need_some h
      refine Chain.cons (StepOK.indexAddr .none sl22 ty53 (.tmp rfl (fun _ => trivial)) (.int (by decide)) (fun _ => hn19)) rfl ?_
      refine Chain.cons (StepOK.load .none ty53 (.tmp rfl (fun _ => trivial))) rfl ?_
      obtain ⟨r5, hv20, h⟩ := bind_some h
      refine Chain.cons (StepOK.call .none (ref_way_ok hv20) (.cons (.tmp rfl (fun _ => trivial)) (.cons (.tmp rfl (fun _ => trivial)) .nil))) rfl ?_
      refine Chain.cons (StepOK.fieldAddr .none fd55_1 hfd55_1 (.tmp rfl (fun _ => trivial))) rfl ?_
      refine Chain.cons (StepOK.load .none ty3 (.tmp rfl (fun _ => trivial))) rfl ?_
      obtain ⟨r6, hv21, h⟩ := bind_some h
      refine Chain.cons (StepOK.call .none (ref_toward_ok hv21) (.cons (.tmp rfl (fun _ => trivial)) .nil)) rfl ?_
      refine Chain.cons (StepOK.neS .none eq53 (.tmp rfl (fun _ => trivial)) (.tmp rfl (fun _ => trivial))) rfl ?_
      refine Chain.cons (StepOK.move .none (.tmp rfl (fun _ => trivial))) rfl ?_
      refine Chain.cons (StepOK.move (.at rfl rfl) (.tmp rfl (fun _ => trivial))) rfl ?_
      refine Chain.cons (StepOK.move (.at rfl rfl) (.tmp rfl (fun _ => trivial))) rfl ?_
      refine Chain.cons (StepOK.subW (.at rfl rfl) (.tmp rfl id) (.int (by decide))) rfl ?_
      obtain ⟨hn22, h⟩ := need_some h
      refine Chain.cons (StepOK.indexAddr (.at rfl rfl) sl22 ty53 (.tmp rfl id) (.tmp rfl id) (fun hg => hn22 hg.2)) rfl ?_
      refine Chain.cons (StepOK.load (.at rfl rfl) ty53 (.tmp rfl id)) rfl ?_
      refine Chain.cons (StepOK.move (.at rfl rfl) (.tmp rfl (fun _ => trivial))) rfl ?_
      refine Chain.cons (StepOK.move (.at rfl rfl) (.tmp rfl (fun _ => trivial))) rfl ?_
      refine Chain.cons (StepOK.subW (.at rfl rfl) (.tmp rfl id) (.int (by decide))) rfl ?_
      obtain ⟨hn23, h⟩ := need_some h
      refine Chain.cons (StepOK.indexAddr (.at rfl rfl) sl22 ty53 (.tmp rfl id) (.tmp rfl id) (fun hg => hn23 hg.2)) rfl ?_
      refine Chain.cons (StepOK.load (.at rfl rfl) ty53 (.tmp rfl id)) rfl ?_
      obtain ⟨r7, hv24, h⟩ := bind_some h
      refine Chain.cons (StepOK.callIf (.at rfl rfl) fnok76 (fun hg => ref_way_ok ((fun hg => gd_some hv24 ((notT hg.2))) hg)) (.cons (.tmp rfl id) (.cons (.tmp rfl id) .nil)) (fun h => h)) rfl ?_
      refine Chain.cons (StepOK.load (.at rfl rfl) ty53 (.tmp rfl (fun _ => trivial))) rfl ?_
      refine Chain.cons (StepOK.neS (.at rfl rfl) eq53 (.tmp rfl id) (.tmp rfl id)) rfl ?_
      refine Chain.cons (StepOK.pickOr .none (.tmp rfl (fun _ => trivial)) (.tmp rfl id)) rfl ?_
      refine Chain.nil ?_
      refine Ends.then ?_
      refine Cod.cond (t := 107) rfl trivial (fun hb25 => ?_) (fun hb25 => ?_)
      · replace h := bif_t h hb25
        refine Cod.seq ?_
        refine Cod.region [] mixed (by kernel_rfl) ?_
        refine Chain.cons (StepOK.assign .none .bool) rfl ?_
        refine Chain.nil ?_
        refine Ends.then ?_
        refine Cod.ret ?_
        refine Ends.thenRet ?_
        obtain rfl := some_eq h
        exact Ends.ret1 (.inl rfl) Try.results31 (ResOK.tmp rfl trivial Imp.refl)
      · replace h := bif_f h hb25
        refine Cod.skip ?_
        refine Ends.then ?_
        refine Cod.seq ?_
        refine Cod.seq ?_
        refine Cod.region [] mixed (by kernel_rfl) ?_
        refine Chain.cons (StepOK.move .none (.tmp rfl (fun _ => trivial))) rfl ?_
        refine Chain.cons (StepOK.eqI .none (.tmp rfl (fun _ => trivial)) (.int (by decide))) rfl ?_
        refine Chain.cons (StepOK.move .none (.tmp rfl (fun _ => trivial))) rfl ?_
        refine Chain.cons (StepOK.move (.at rfl rfl) (.tmp rfl (fun _ => trivial))) rfl ?_
        obtain ⟨hn26, h⟩ := need_some h
        refine Chain.cons (StepOK.indexAddr (.at rfl rfl) sl22 ty53 (.tmp rfl id) (.int (by decide)) (fun hg => hn26 hg.2)) rfl ?_
        refine Chain.cons (StepOK.load (.at rfl rfl) ty53 (.tmp rfl id)) rfl ?_
        refine Chain.cons (StepOK.move (.at rfl rfl) (.tmp rfl (fun _ => trivial))) rfl ?_
        obtain ⟨hn27, h⟩ := need_some h
        refine Chain.cons (StepOK.indexAddr (.at rfl rfl) sl22 ty53 (.tmp rfl id) (.int (by decide)) (fun hg => hn27 hg.2)) rfl ?_
        refine Chain.cons (StepOK.load (.at rfl rfl) ty53 (.tmp rfl id)) rfl ?_
        obtain ⟨r8, hv28, h⟩ := bind_some h
        refine Chain.cons (StepOK.callIf (.at rfl rfl) fnok50 (fun hg => ref_Far_ok ((fun hg => gd_some hv28 (hg.2)) hg)) (.cons (.tmp rfl id) (.cons (.tmp rfl id) .nil)) (fun h => h)) rfl ?_
        refine Chain.cons (StepOK.fieldAddr (.at rfl rfl) fd55_5 hfd55_5 (.tmp rfl (fun _ => trivial))) rfl ?_
        refine Chain.cons (StepOK.load (.at rfl rfl) ty3 (.tmp rfl id)) rfl ?_
        refine Chain.cons (StepOK.mulW (.at rfl rfl) (.int (by decide)) (.tmp rfl id)) rfl ?_
        refine Chain.cons (StepOK.lt (.at rfl rfl) (.tmp rfl id) (.tmp rfl id)) rfl ?_
        refine Chain.cons (StepOK.pickAnd .none (.tmp rfl (fun _ => trivial)) (.tmp rfl id)) rfl ?_
        refine Chain.cons (StepOK.move .none (.tmp rfl (fun _ => trivial))) rfl ?_
        refine Chain.cons (StepOK.move (.at rfl rfl) (.tmp rfl (fun _ => trivial))) rfl ?_
        obtain ⟨hn29, h⟩ := need_some h
        refine Chain.cons (StepOK.indexAddr (.at rfl rfl) sl22 ty53 (.tmp rfl id) (.int (by decide)) (fun hg => hn29 hg.2)) rfl ?_
        refine Chain.cons (StepOK.load (.at rfl rfl) ty53 (.tmp rfl id)) rfl ?_
        refine Chain.cons (StepOK.move (.at rfl rfl) (.tmp rfl (fun _ => trivial))) rfl ?_
        obtain ⟨hn30, h⟩ := need_some h
        refine Chain.cons (StepOK.indexAddr (.at rfl rfl) sl22 ty53 (.tmp rfl id) (.int (by decide)) (fun hg => hn30 hg.2)) rfl ?_
        refine Chain.cons (StepOK.load (.at rfl rfl) ty53 (.tmp rfl id)) rfl ?_
        obtain ⟨r9, hv31, h⟩ := bind_some h
        refine Chain.cons (StepOK.callIf (.at rfl rfl) fnok50 (fun hg => ref_Far_ok ((fun hg => gd_some hv31 ((notT hg.2))) hg)) (.cons (.tmp rfl id) (.cons (.tmp rfl id) .nil)) (fun h => h)) rfl ?_
        refine Chain.cons (StepOK.fieldAddr (.at rfl rfl) fd55_5 hfd55_5 (.tmp rfl (fun _ => trivial))) rfl ?_
        refine Chain.cons (StepOK.load (.at rfl rfl) ty3 (.tmp rfl id)) rfl ?_
        refine Chain.cons (StepOK.lt (.at rfl rfl) (.tmp rfl id) (.tmp rfl id)) rfl ?_
        refine Chain.cons (StepOK.pickOr .none (.tmp rfl (fun _ => trivial)) (.tmp rfl id)) rfl ?_
        refine Chain.cons (StepOK.move .none (.tmp rfl (fun _ => trivial))) rfl ?_
        refine Chain.cons (StepOK.move (.at rfl rfl) (.tmp rfl (fun _ => trivial))) rfl ?_
        refine Chain.cons (StepOK.move (.at rfl rfl) (.tmp rfl (fun _ => trivial))) rfl ?_
        refine Chain.cons (StepOK.subW (.at rfl rfl) (.tmp rfl id) (.int (by decide))) rfl ?_
        obtain ⟨hn32, h⟩ := need_some h
        refine Chain.cons (StepOK.indexAddr (.at rfl rfl) sl22 ty53 (.tmp rfl id) (.tmp rfl id) (fun hg => hn32 hg.2)) rfl ?_
        refine Chain.cons (StepOK.load (.at rfl rfl) ty53 (.tmp rfl id)) rfl ?_
        refine Chain.cons (StepOK.move (.at rfl rfl) (.tmp rfl (fun _ => trivial))) rfl ?_
        refine Chain.cons (StepOK.move (.at rfl rfl) (.tmp rfl (fun _ => trivial))) rfl ?_
        refine Chain.cons (StepOK.subW (.at rfl rfl) (.tmp rfl id) (.int (by decide))) rfl ?_
        obtain ⟨hn33, h⟩ := need_some h
        refine Chain.cons (StepOK.indexAddr (.at rfl rfl) sl22 ty53 (.tmp rfl id) (.tmp rfl id) (fun hg => hn33 hg.2)) rfl ?_
        refine Chain.cons (StepOK.load (.at rfl rfl) ty53 (.tmp rfl id)) rfl ?_
        obtain ⟨r10, hv34, h⟩ := bind_some h
        refine Chain.cons (StepOK.callIf (.at rfl rfl) fnok50 (fun hg => ref_Far_ok ((fun hg => gd_some hv34 ((notT hg.2))) hg)) (.cons (.tmp rfl id) (.cons (.tmp rfl id) .nil)) (fun h => h)) rfl ?_
        refine Chain.cons (StepOK.fieldAddr (.at rfl rfl) fd55_5 hfd55_5 (.tmp rfl (fun _ => trivial))) rfl ?_
        refine Chain.cons (StepOK.load (.at rfl rfl) ty3 (.tmp rfl id)) rfl ?_
        refine Chain.cons (StepOK.lt (.at rfl rfl) (.tmp rfl id) (.tmp rfl id)) rfl ?_
        refine Chain.cons (StepOK.pickOr .none (.tmp rfl (fun _ => trivial)) (.tmp rfl id)) rfl ?_
        refine Chain.nil ?_
        refine Ends.then ?_
        refine Cod.cond (t := 150) rfl trivial (fun hb35 => ?_) (fun hb35 => ?_)
        · replace h := bif_t h hb35
          refine Cod.seq ?_
          refine Cod.region [] mixed (by kernel_rfl) ?_
          refine Chain.cons (StepOK.assign .none .bool) rfl ?_
          refine Chain.nil ?_
          refine Ends.then ?_
          refine Cod.ret ?_
          refine Ends.thenRet ?_
          obtain rfl := some_eq h
          exact Ends.ret1 (.inl rfl) Try.results31 (ResOK.tmp rfl trivial Imp.refl)
        · replace h := bif_f h hb35
          refine Cod.skip ?_
          refine Ends.then ?_
          refine Cod.seq ?_
          refine Cod.region [] mixed (by kernel_rfl) ?_
          refine Chain.cons (StepOK.load .none ty55 (.tmp rfl (fun _ => trivial))) rfl ?_
          obtain ⟨r11, hv36, h⟩ := bind_some h
          refine Chain.cons (StepOK.call .none (ref_gridLines_ok hv36) (.cons (.tmp rfl (fun _ => trivial)) .nil)) rfl ?_
          refine Chain.cons (StepOK.move .none (.tmp rfl (fun _ => trivial))) rfl ?_
          refine Chain.cons (StepOK.extract .none (.tmp rfl (fun _ => trivial)) rfl) rfl ?_
          refine Chain.cons (StepOK.extract .none (.tmp rfl (fun _ => trivial)) rfl) rfl ?_
          refine Chain.cons (StepOK.assign .none (.tmp rfl (fun _ => trivial))) rfl ?_
          refine Chain.cons (StepOK.assign .none (.tmp rfl (fun _ => trivial))) rfl ?_
          refine Chain.nil ?_
          refine Ends.then ?_
          refine Cod.seq ?_
          refine Cod.seq ?_
          refine Cod.region [] mixed (by kernel_rfl) ?_
          refine Chain.cons (StepOK.move .none (.tmp rfl (fun _ => trivial))) rfl ?_
          refine Chain.cons (StepOK.move .none (.tmp rfl (fun _ => trivial))) rfl ?_
          refine Chain.cons (StepOK.subW .none (.tmp rfl (fun _ => trivial)) (.int (by decide))) rfl ?_
          obtain ⟨hn37, h⟩ := need_some h
          obtain ⟨v1, hv38, h⟩ := bnd_some h
          refine Chain.cons (StepOK.re hv38 (StepOK.slice .none sl22 ty53 (.tmp rfl (fun _ => trivial)) (.int (by decide)) (.tmp rfl (fun _ => trivial)) (fun _ => hn37))) rfl ?_
          refine Chain.cons (StepOK.len .none sl22 (.tmp rfl (fun _ => trivial))) rfl ?_
          refine Chain.cons (StepOK.move .none (.int (by decide))) rfl ?_
          refine Chain.nil ?_
          refine Ends.then ?_
          obtain ⟨o_39, h, hK39⟩ := bindR_some h
          refine Cod.thenJ (ι := Unit) (fun j_39 => []) (fun j_39 => []) (fun s => o_39 = Res.nx s) (.cons (t := 1) rfl (.cons (t := 2) rfl (.cons (t := 5) rfl Sub.nil))) SubB.nil ?_ (fun j_39 hj39 => ?_)
          · skip
            refine Cod.block ?_
            refine Cod.rforEL h (fun p40_ => [(161, ⟨True, rep p40_.1⟩)]) (fun p40_ => []) (.cons (t := 161) rfl Sub.nil) SubB.nil (.cons (t := 1) rfl (.cons (t := 2) rfl (.cons (t := 5) rfl (.cons (t := 8) rfl (.cons (t := 9) rfl (.cons (t := 159) rfl (.cons (t := 160) rfl Sub.nil))))))) SubB.nil (fun p40_ o_40 h hD40 => ?_)
            refine Cod.seq ?_
            refine Cod.region [] mixed (by kernel_rfl) ?_
            refine Chain.cons (StepOK.lt .none (.tmp rfl (fun _ => trivial)) (.tmp rfl (fun _ => trivial))) rfl ?_
            refine Chain.nil ?_
            refine Ends.then ?_
            refine Cod.seq ?_
            refine Cod.cond (t := 162) rfl trivial (fun hb41 => ?_) (fun hb41 => ?_)
            · replace h := bif_t h hb41
              refine Cod.skip ?_
              refine Ends.then ?_
              refine Cod.seq ?_
              obtain ⟨o_42, h, hK42⟩ := bindD_some h
              unfold ref_IsWay_L2 at h
              refine Cod.thenJ (ι := Unit) (fun j_42 => []) (fun j_42 => []) (fun s => o_42 = Res.nx s) (.cons (t := 1) rfl (.cons (t := 2) rfl (.cons (t := 5) rfl (.cons (t := 8) rfl (.cons (t := 9) rfl (.cons (t := 159) rfl (.cons (t := 160) rfl (.cons (t := 161) rfl Sub.nil)))))))) SubB.nil ?_ (fun j_42 hj42 => ?_)
              · skip
                refine Cod.block ?_
                refine Cod.seq ?_
                refine Cod.region [([], []), ([], []), ([], [11]), ([11], [11])] mixed (by kernel_rfl) ?_
                obtain ⟨hn43, h⟩ := need_some h
                refine Chain.consA (StepOK.indexAddr .none sl22 ty53 (.tmp rfl (fun _ => trivial)) (.tmp rfl (fun _ => trivial)) (fun _ => hn43)) rfl ?_
                obtain ⟨v2, hv44, h⟩ := bnd_some h
                refine Chain.consA (StepOK.re hv44 (StepOK.load .none ty53 (.tmp rfl (fun _ => trivial)))) rfl ?_
                refine Chain.consW (StepOK.alloc zo53 rfl) rfl rfl ?_
                refine Chain.consN (StepOK.store ty53 rfl rfl (.tmp rfl (fun _ => trivial))) rfl ?_
                refine Chain.nil ?_
                refine Ends.then ?_
                refine Cod.freeze (t := 11) rfl rfl SubB.nil rfl ?_
                refine Cod.seq ?_
                refine Cod.region [] mixed (by kernel_rfl) ?_
                refine Chain.cons (StepOK.move .none (.tmp rfl (fun _ => trivial))) rfl ?_
                refine Chain.cons (StepOK.fieldAddr .none fd53_0 hfd53_0 (.tmp rfl (fun _ => trivial))) rfl ?_
                refine Chain.cons (StepOK.load .none ty3 (.tmp rfl (fun _ => trivial))) rfl ?_
                obtain ⟨r12, hv45, h⟩ := bind_some h
                refine Chain.cons (StepOK.call .none (slices_BinarySearch_int_ok hv45) (.cons (.tmp rfl (fun _ => trivial)) (.cons (.tmp rfl (fun _ => trivial)) .nil))) rfl ?_
                refine Chain.cons (StepOK.move .none (.tmp rfl (fun _ => trivial))) rfl ?_
                refine Chain.cons (StepOK.extract .none (.tmp rfl (fun _ => trivial)) rfl) rfl ?_
                refine Chain.cons (StepOK.extract .none (.tmp rfl (fun _ => trivial)) rfl) rfl ?_
                refine Chain.cons (StepOK.assign .none (.tmp rfl (fun _ => trivial))) rfl ?_
                refine Chain.cons (StepOK.assign .none (.tmp rfl (fun _ => trivial))) rfl ?_
                refine Chain.nil ?_
                refine Ends.then ?_
                refine Cod.seq ?_
                refine Cod.region [] mixed (by kernel_rfl) ?_
                refine Chain.cons (StepOK.move .none (.tmp rfl (fun _ => trivial))) rfl ?_
                refine Chain.cons (StepOK.fieldAddr .none fd53_1 hfd53_1 (.tmp rfl (fun _ => trivial))) rfl ?_
                refine Chain.cons (StepOK.load .none ty3 (.tmp rfl (fun _ => trivial))) rfl ?_
                obtain ⟨r13, hv46, h⟩ := bind_some h
                refine Chain.cons (StepOK.call .none (slices_BinarySearch_int_ok hv46) (.cons (.tmp rfl (fun _ => trivial)) (.cons (.tmp rfl (fun _ => trivial)) .nil))) rfl ?_
                refine Chain.cons (StepOK.move .none (.tmp rfl (fun _ => trivial))) rfl ?_
                refine Chain.cons (StepOK.extract .none (.tmp rfl (fun _ => trivial)) rfl) rfl ?_
                refine Chain.cons (StepOK.extract .none (.tmp rfl (fun _ => trivial)) rfl) rfl ?_
                refine Chain.cons (StepOK.assign .none (.tmp rfl (fun _ => trivial))) rfl ?_
                refine Chain.cons (StepOK.assign .none (.tmp rfl (fun _ => trivial))) rfl ?_
                refine Chain.nil ?_
                refine Ends.then ?_
                refine Cod.seq ?_
                refine Cod.region [] mixed (by kernel_rfl) ?_
                refine Chain.cons (StepOK.move .none (.tmp rfl (fun _ => trivial))) rfl ?_
                refine Chain.cons (StepOK.not .none (.tmp rfl (fun _ => trivial))) rfl ?_
                refine Chain.cons (StepOK.move .none (.tmp rfl (fun _ => trivial))) rfl ?_
                refine Chain.cons (StepOK.move (.at rfl rfl) (.tmp rfl (fun _ => trivial))) rfl ?_
                refine Chain.cons (StepOK.not (.at rfl rfl) (.tmp rfl id)) rfl ?_
                refine Chain.cons (StepOK.pickOr .none (.tmp rfl (fun _ => trivial)) (.tmp rfl id)) rfl ?_
                refine Chain.nil ?_
                refine Ends.then ?_
                refine Cod.cond (t := 184) rfl trivial (fun hb47 => ?_) (fun hb47 => ?_)
                · replace h := bif_t h hb47
                  refine Cod.seq ?_
                  refine Cod.region [] mixed (by kernel_rfl) ?_
                  refine Chain.cons (StepOK.assign .none .bool) rfl ?_
                  refine Chain.nil ?_
                  refine Ends.then ?_
                  refine Cod.ret ?_
                  refine Ends.blkRet ?_
                  refine Ends.thenRet ?_
                  refine Ends.thenRet ?_
                  refine Ends.blkRet ?_
                  refine Ends.thenRet ?_
                  replace h := resd_ab hK42 (some_eq h)
                  replace h := hD40 _ (some_eq h)
                  replace h := resb_ab hK39 (some_eq h)
                  obtain rfl := some_eq h
                  exact Ends.ret1 (.inl rfl) Try.results31 (ResOK.tmp rfl trivial Imp.refl)
                · replace h := bif_f h hb47
                  refine Cod.skip ?_
                  refine Ends.blkNormal ?_
                  exact Ends.join _ (some_eq h) (.cons (t := 1) rfl (.cons (t := 2) rfl (.cons (t := 5) rfl (.cons (t := 8) rfl (.cons (t := 9) rfl (.cons (t := 159) rfl (.cons (t := 160) rfl (.cons (t := 161) rfl Sub.nil)))))))) SubB.nil
              · have h := resd_nx hK42 hj42
                refine Cod.region [] mixed (by kernel_rfl) ?_
                refine Chain.cons (StepOK.addW .none (.tmp rfl (fun _ => trivial)) (.int (by decide))) rfl ?_
                refine Chain.cons (StepOK.move .none (.tmp rfl (fun _ => trivial))) rfl ?_
                refine Chain.nil ?_
                exact Ends.againL (some_eq h) (.cons (t := 161) rfl (.cons (t := 1) rfl (.cons (t := 2) rfl (.cons (t := 5) rfl (.cons (t := 8) rfl (.cons (t := 9) rfl (.cons (t := 159) rfl (.cons (t := 160) rfl Sub.nil)))))))) SubB.nil
            · replace h := bif_f h hb41
              refine Cod.exit ?_
              refine Ends.thenExit ?_
              refine Ends.thenExit ?_
              refine Ends.blkExit ?_
              replace h := hD40 _ (some_eq h)
              exact Ends.join _ (some_eq h) (.cons (t := 1) rfl (.cons (t := 2) rfl (.cons (t := 5) rfl Sub.nil))) SubB.nil
          · have h := resb_nx hK39 hj39
            refine Cod.seq ?_
            refine Cod.region [([], []), ([], [187]), ([187], [16, 187])] mixed (by kernel_rfl) ?_
            refine Chain.consA (StepOK.move .none (.tmp rfl (fun _ => trivial))) rfl ?_
            obtain ⟨m1, hv48, h⟩ := bind_some h
            refine Chain.consW (StepOK.callO [] (slices_Clone_Point_ok hv48) (.cons (.tmp rfl (fun _ => trivial)) .nil) .nil rfl (by decide) (by decide) (by intro d h; cases h; decide)) rfl rfl ?_
            refine Chain.consW (StepOK.passRow rfl (.tmp rfl)) rfl rfl ?_
            refine Chain.nil ?_
            refine Ends.then ?_
            refine Cod.nameRow (t := 16) (g := 5001) rfl rfl rfl (fun s5001 => ?_)
            refine Cod.seq ?_
            refine Cod.region [([], []), ([], []), ([], []), ([], []), ([], []), ([], []), ([], []), ([], []), ([], []), ([5001], []), ([5001], [5001]), ([5001], []), ([5001], [5001])] mixed (by kernel_rfl) ?_
            refine Chain.consA (StepOK.move .none (.tmp rfl (fun _ => trivial))) rfl ?_
            refine Chain.consA (StepOK.move .none (.tmp rfl (fun _ => trivial))) rfl ?_
            refine Chain.consA (StepOK.move .none (.tmp rfl (fun _ => trivial))) rfl ?_
            refine Chain.consA (StepOK.subW .none (.tmp rfl (fun _ => trivial)) (.int (by decide))) rfl ?_
            refine Chain.consA (StepOK.load .none ty55 (.tmp rfl (fun _ => trivial))) rfl ?_
            obtain ⟨r14, hv49, h⟩ := bind_some h
            refine Chain.consA (StepOK.call .none (ref_Ends_ok hv49) (.cons (.tmp rfl (fun _ => trivial)) .nil)) rfl ?_
            refine Chain.consA (StepOK.move .none (.tmp rfl (fun _ => trivial))) rfl ?_
            refine Chain.consA (StepOK.extract .none (.tmp rfl (fun _ => trivial)) rfl) rfl ?_
            refine Chain.consA (StepOK.extract .none (.tmp rfl (fun _ => trivial)) rfl) rfl ?_
            obtain ⟨hn50, h⟩ := need_some h
            refine Chain.consA (StepOK.indexAddrO (k := 5001) .none sl22 ty53 (.tmp rfl (fun _ => trivial)) rfl (.int (by decide)) (fun _ => hn50)) rfl ?_
            refine Chain.consN (StepOK.storeElem0 (k := 5001) ty53 (.tmp rfl (fun _ => trivial)) rfl (.tmp rfl (fun _ => trivial)) hn50) rfl ?_
            obtain ⟨hn51, h⟩ := need_some h
            refine Chain.consA (StepOK.indexAddrO (k := 5001) .none sl22 ty53 (.tmp rfl (fun _ => trivial)) rfl (.tmp rfl (fun _ => trivial)) (fun _ => hn51)) rfl ?_
            refine Chain.consN (StepOK.storeElem0 (k := 5001) ty53 (.tmp rfl (fun _ => trivial)) rfl (.tmp rfl (fun _ => trivial)) hn51) rfl ?_
            refine Chain.nil ?_
            refine Ends.then ?_
            refine Cod.freezeRow (g := 5001) (ts := [16]) rfl (.cons (t := 16) rfl trivial .nil) SubB.nil rfl ?_
            refine Cod.seq ?_
            refine Cod.seq ?_
            refine Cod.region [] mixed (by kernel_rfl) ?_
            refine Chain.cons (StepOK.assign .none (.int (by decide))) rfl ?_
            refine Chain.nil ?_
            refine Ends.then ?_
            obtain ⟨o_52, h, hK52⟩ := bindR_some h
            refine Cod.thenJ (ι := Unit) (fun j_52 => []) (fun j_52 => []) (fun s => o_52 = Res.nx s) Sub.nil SubB.nil ?_ (fun j_52 hj52 => ?_)
            · skip
              refine Cod.block ?_
              refine Cod.loopL h (fun s53_ => [(17, ⟨True, rep s53_⟩)]) (fun s53_ => []) (.cons (t := 17) rfl Sub.nil) SubB.nil (.cons (t := 2) rfl (.cons (t := 5) rfl (.cons (t := 16) rfl Sub.nil))) SubB.nil (fun s53_ o_53 h hD53 => ?_)
              unfold ref_IsWay_L3 at h
              refine Cod.seq ?_
              refine Cod.seq ?_
              refine Cod.region [] mixed (by kernel_rfl) ?_
              refine Chain.cons (StepOK.move .none (.tmp rfl (fun _ => trivial))) rfl ?_
              refine Chain.cons (StepOK.move .none (.tmp rfl (fun _ => trivial))) rfl ?_
              refine Chain.cons (StepOK.lt .none (.tmp rfl (fun _ => trivial)) (.tmp rfl (fun _ => trivial))) rfl ?_
              refine Chain.nil ?_
              refine Ends.then ?_
              refine Cod.cond (t := 201) rfl trivial (fun hb54 => ?_) (fun hb54 => ?_)
              · replace h := bif_t h hb54
                refine Cod.skip ?_
                refine Ends.then ?_
                refine Cod.seq ?_
                refine Cod.block ?_
                refine Cod.seq ?_
                refine Cod.region [] mixed (by kernel_rfl) ?_
                refine Chain.cons (StepOK.load .none ty55 (.tmp rfl (fun _ => trivial))) rfl ?_
                refine Chain.cons (StepOK.move .none (.tmp rfl (fun _ => trivial))) rfl ?_
                refine Chain.cons (StepOK.move .none (.tmp rfl (fun _ => trivial))) rfl ?_
                refine Chain.cons (StepOK.subW .none (.tmp rfl (fun _ => trivial)) (.int (by decide))) rfl ?_
                obtain ⟨hn55, h⟩ := need_some h
                refine Chain.cons (StepOK.indexAddr .none sl22 ty53 (.tmp rfl (fun _ => trivial)) (.tmp rfl (fun _ => trivial)) (fun _ => hn55)) rfl ?_
                refine Chain.cons (StepOK.load .none ty53 (.tmp rfl (fun _ => trivial))) rfl ?_
                refine Chain.cons (StepOK.move .none (.tmp rfl (fun _ => trivial))) rfl ?_
                refine Chain.cons (StepOK.move .none (.tmp rfl (fun _ => trivial))) rfl ?_
                obtain ⟨hn56, h⟩ := need_some h
                refine Chain.cons (StepOK.indexAddr .none sl22 ty53 (.tmp rfl (fun _ => trivial)) (.tmp rfl (fun _ => trivial)) (fun _ => hn56)) rfl ?_
                refine Chain.cons (StepOK.load .none ty53 (.tmp rfl (fun _ => trivial))) rfl ?_
                obtain ⟨r15, hv57, h⟩ := bind_some h
                refine Chain.cons (StepOK.call .none (ref_blocked_ok hv57) (.cons (.tmp rfl (fun _ => trivial)) (.cons (.tmp rfl (fun _ => trivial)) (.cons (.tmp rfl (fun _ => trivial)) .nil)))) rfl ?_
                refine Chain.nil ?_
                refine Ends.then ?_
                refine Cod.cond (t := 214) rfl trivial (fun hb58 => ?_) (fun hb58 => ?_)
                · replace h := bif_t h hb58
                  refine Cod.seq ?_
                  refine Cod.region [] mixed (by kernel_rfl) ?_
                  refine Chain.cons (StepOK.assign .none .bool) rfl ?_
                  refine Chain.nil ?_
                  refine Ends.then ?_
                  refine Cod.ret ?_
                  refine Ends.blkRet ?_
                  refine Ends.thenRet ?_
                  refine Ends.thenRet ?_
                  refine Ends.blkRet ?_
                  refine Ends.thenRet ?_
                  replace h := hD53 _ (some_eq h)
                  replace h := resb_ab hK52 (some_eq h)
                  obtain rfl := some_eq h
                  exact Ends.ret1 (.inl rfl) Try.results31 (ResOK.tmp rfl trivial Imp.refl)
                · replace h := bif_f h hb58
                  refine Cod.skip ?_
                  refine Ends.blkNormal ?_
                  refine Ends.then ?_
                  refine Cod.region [] mixed (by kernel_rfl) ?_
                  refine Chain.cons (StepOK.move .none (.tmp rfl (fun _ => trivial))) rfl ?_
                  refine Chain.cons (StepOK.addW .none (.tmp rfl (fun _ => trivial)) (.int (by decide))) rfl ?_
                  obtain ⟨i2, hv59, h⟩ := bnd_some h
                  refine Chain.cons (StepOK.re hv59 (StepOK.assign .none (.tmp rfl (fun _ => trivial)))) rfl ?_
                  refine Chain.nil ?_
                  exact Ends.againL (some_eq h) (.cons (t := 17) rfl (.cons (t := 2) rfl (.cons (t := 5) rfl (.cons (t := 16) rfl Sub.nil)))) SubB.nil
              · replace h := bif_f h hb54
                refine Cod.exit ?_
                refine Ends.thenExit ?_
                refine Ends.thenExit ?_
                refine Ends.blkExit ?_
                replace h := hD53 _ (some_eq h)
                exact Ends.join _ (some_eq h) Sub.nil SubB.nil
            · have h := resb_nx hK52 hj52
              refine Cod.seq ?_
              refine Cod.region [] mixed (by kernel_rfl) ?_
              refine Chain.cons (StepOK.assign .none .bool) rfl ?_
              refine Chain.nil ?_
              refine Ends.then ?_
              refine Cod.ret ?_
              obtain rfl := some_eq h
              exact Ends.ret1 (.inl rfl) Try.results31 (ResOK.tmp rfl trivial Imp.refl)

theorem law_WaysAreRight_1_ok {c0_1 : Task} {c1_1 : (List Point)} {r : Bool}  (h : law_WaysAreRight_1 c0_1 c1_1 = some r) : FSpec Try.prog 30 [ref c0_1, ref c1_1] (rep r) := by
  unfold law_WaysAreRight_1 at h
  refine FSpec.intro (n := 6) fnok30 Try.func30 rfl Try.ntmps30 rfl (fun F => ?_)
  refine Cod.seq ?_
  refine Cod.region [] mixed (by kernel_rfl) ?_
  refine Chain.cons (StepOK.assign .none .bool) rfl ?_
  refine Chain.nil ?_
  refine Ends.then ?_
  refine Cod.seq ?_
  refine Cod.region [] mixed (by kernel_rfl) ?_
  refine Chain.cons (StepOK.load .none ty55 (.tmp rfl (fun _ => trivial))) rfl ?_
  refine Chain.cons (StepOK.load .none ty22 (.tmp rfl (fun _ => trivial))) rfl ?_
  obtain ⟨r1, hv1, h⟩ := bind_some h
  refine Chain.cons (StepOK.call .none (ref_IsWay_ok hv1) (.cons (.tmp rfl (fun _ => trivial)) (.cons (.tmp rfl (fun _ => trivial)) .nil))) rfl ?_
  refine Chain.cons (StepOK.assign .none (.tmp rfl (fun _ => trivial))) rfl ?_
  refine Chain.nil ?_
  refine Ends.then ?_
  refine Cod.ret ?_
  obtain rfl := some_eq h
  exact Ends.ret1 (.inl rfl) Try.results30 (ResOK.tmp rfl trivial Imp.refl)

theorem law_is_bool_ok {got1 : Bool} {e1 : Int} {want1 : Int} {right1 : (Option Bool)} {r : Bool}  (h : law_is_bool got1 e1 want1 right1 = some r) : FSpec Try.prog 28 [rep got1, rep e1, rep want1, fn0 Try.prog (rep (α := Bool)) right1] (rep r) := by
  unfold law_is_bool at h
  refine FSpec.intro (n := 28) fnok28 Try.func28 rfl Try.ntmps28 rfl (fun F => ?_)
  refine Cod.seq ?_
  refine Cod.region [] mixed (by kernel_rfl) ?_
  refine Chain.cons (StepOK.assign .none .bool) rfl ?_
  refine Chain.nil ?_
  refine Ends.then ?_
  refine Cod.seq ?_
  refine Cod.region [] mixed (by kernel_rfl) ?_
  refine Chain.cons (StepOK.assign .none .bool) rfl ?_
  refine Chain.nil ?_
  refine Ends.then ?_
  refine Cod.seq ?_
  refine Cod.seq ?_
  refine Cod.region [] mixed (by kernel_rfl) ?_
  refine Chain.cons (StepOK.move .none (.tmp rfl (fun _ => trivial))) rfl ?_
  refine Chain.cons (StepOK.neI .none (.tmp rfl (fun _ => trivial)) (.int (by decide))) rfl ?_
  refine Chain.nil ?_
  refine Ends.then ?_
  refine Cod.cond (t := 11) rfl trivial (fun hb1 => ?_) (fun hb1 => ?_)
  · replace h := bif_t h hb1
    refine Cod.seq ?_
    refine Cod.region [] mixed (by kernel_rfl) ?_
    refine Chain.cons (StepOK.move .none (.tmp rfl (fun _ => trivial))) rfl ?_
    refine Chain.cons (StepOK.move .none (.tmp rfl (fun _ => trivial))) rfl ?_
    refine Chain.cons (StepOK.eqS .none (eqAt_bool Try.underlying4) (.tmp rfl (fun _ => trivial)) (.tmp rfl (fun _ => trivial))) rfl ?_
    refine Chain.cons (StepOK.move .none (.tmp rfl (fun _ => trivial))) rfl ?_
    refine Chain.cons (StepOK.move (.at rfl rfl) (.tmp rfl (fun _ => trivial))) rfl ?_
    refine Chain.cons (StepOK.move (.at rfl rfl) (.tmp rfl (fun _ => trivial))) rfl ?_
    refine Chain.cons (StepOK.eqI (.at rfl rfl) (.tmp rfl id) (.tmp rfl id)) rfl ?_
    refine Chain.cons (StepOK.pickAnd .none (.tmp rfl (fun _ => trivial)) (.tmp rfl id)) rfl ?_
    refine Chain.cons (StepOK.assign .none (.tmp rfl (fun _ => trivial))) rfl ?_
    refine Chain.nil ?_
    refine Ends.then ?_
    refine Cod.ret ?_
    refine Ends.thenRet ?_
    obtain rfl := some_eq h
    exact Ends.ret1 (.inl rfl) Try.results28 (ResOK.tmp rfl trivial Imp.refl)
  · replace h := bif_f h hb1
    refine Cod.skip ?_
    refine Ends.then ?_
    refine Cod.seq ?_
    refine Cod.region [] mixed (by kernel_rfl) ?_
    refine Chain.cons (StepOK.move .none (.tmp rfl (fun _ => trivial))) rfl ?_
    refine Chain.cons (StepOK.eqI .none (.tmp rfl (fun _ => trivial)) (.int (by decide))) rfl ?_
    refine Chain.cons (StepOK.move .none (.tmp rfl (fun _ => trivial))) rfl ?_
    refine Chain.cons (StepOK.move (.at rfl rfl) (.tmp rfl (fun _ => trivial))) rfl ?_
    refine Chain.cons (StepOK.move (.at rfl rfl) (.tmp rfl (fun _ => trivial))) rfl ?_
    obtain ⟨r1, hv2, h⟩ := bind_some h
    refine Chain.cons (StepOK.callV _ (.at rfl rfl) (.tmp rfl id) (fun hg => gd_some hv2 (hg.2)) .nil) rfl ?_
    refine Chain.cons (StepOK.eqS (.at rfl rfl) (eqAt_bool Try.underlying4) (.tmp rfl id) (.tmp rfl id)) rfl ?_
    refine Chain.cons (StepOK.pickAnd .none (.tmp rfl (fun _ => trivial)) (.tmp rfl id)) rfl ?_
    refine Chain.cons (StepOK.assign .none (.tmp rfl (fun _ => trivial))) rfl ?_
    refine Chain.nil ?_
    refine Ends.then ?_
    refine Cod.ret ?_
    obtain rfl := some_eq h
    exact Ends.ret1 (.inl rfl) Try.results28 (ResOK.tmp rfl trivial Imp.refl)

theorem law_WaysAreRight_ok {t1 : Task} {l1 : (List Point)} {r : Bool}  (h : law_WaysAreRight t1 l1 = some r) : FSpec Try.prog 5 [rep t1, rep l1] (rep r) := by
  unfold law_WaysAreRight at h
  refine FSpec.intro (n := 34) fnok5 Try.func5 rfl Try.ntmps5 rfl (fun F => ?_)
  refine Cod.seq ?_
  refine Cod.region [] mixed (by kernel_rfl) ?_
  refine Chain.cons (StepOK.box .none (.tmp rfl (fun _ => trivial))) rfl ?_
  refine Chain.cons (StepOK.box .none (.tmp rfl (fun _ => trivial))) rfl ?_
  refine Chain.cons (StepOK.assign .none .bool) rfl ?_
  refine Chain.nil ?_
  refine Ends.then ?_
  refine Cod.seq ?_
  refine Cod.region [] mixed (by kernel_rfl) ?_
  refine Chain.cons (StepOK.load .none ty55 (.tmp rfl (fun _ => trivial))) rfl ?_
  obtain ⟨own1, hv1, h⟩ := bind_some h
  refine Chain.cons (StepOK.call .none (ref_TaskError_ok hv1) (.cons (.tmp rfl (fun _ => trivial)) .nil)) rfl ?_
  refine Chain.cons (StepOK.assign .none (.tmp rfl (fun _ => trivial))) rfl ?_
  refine Chain.nil ?_
  refine Ends.then ?_
  refine Cod.seq ?_
  refine Cod.region [] mixed (by kernel_rfl) ?_
  refine Chain.cons (StepOK.load .none ty55 (.tmp rfl (fun _ => trivial))) rfl ?_
  refine Chain.cons (StepOK.load .none ty22 (.tmp rfl (fun _ => trivial))) rfl ?_
  obtain ⟨r1, hv2, h⟩ := bind_some h
  refine Chain.cons (StepOK.call .none (route_Right_ok hv2) (.cons (.tmp rfl (fun _ => trivial)) (.cons (.tmp rfl (fun _ => trivial)) .nil))) rfl ?_
  refine Chain.cons (StepOK.move .none (.tmp rfl (fun _ => trivial))) rfl ?_
  refine Chain.cons (StepOK.extract .none (.tmp rfl (fun _ => trivial)) rfl) rfl ?_
  refine Chain.cons (StepOK.extract .none (.tmp rfl (fun _ => trivial)) rfl) rfl ?_
  refine Chain.cons (StepOK.assign .none (.tmp rfl (fun _ => trivial))) rfl ?_
  refine Chain.cons (StepOK.assign .none (.tmp rfl (fun _ => trivial))) rfl ?_
  refine Chain.nil ?_
  refine Ends.then ?_
  refine Cod.seq ?_
  refine Cod.region [] mixed (by kernel_rfl) ?_
  obtain ⟨r2, hv3, h⟩ := bind_some h
  refine Chain.cons (StepOK.call .none (law_routes_ok hv3) .nil) rfl ?_
  refine Chain.cons (StepOK.move .none (.tmp rfl (fun _ => trivial))) rfl ?_
  refine Chain.cons (StepOK.load (.at rfl rfl) ty55 (.tmp rfl (fun _ => trivial))) rfl ?_
  obtain ⟨r3, hv4, h⟩ := bind_some h
  refine Chain.cons (StepOK.callIf (.at rfl rfl) fnok27 (fun hg => route_Check_ok ((fun hg => gd_some hv4 (hg.2)) hg)) (.cons (.tmp rfl id) .nil) (fun h => h)) rfl ?_
  refine Chain.cons (StepOK.move (.at rfl rfl) (.tmp rfl (fun _ => trivial))) rfl ?_
  refine Chain.cons (StepOK.eqI (.at rfl rfl) (.tmp rfl id) (.tmp rfl id)) rfl ?_
  refine Chain.cons (StepOK.pickAnd .none (.tmp rfl (fun _ => trivial)) (.tmp rfl id)) rfl ?_
  refine Chain.cons (StepOK.move .none (.tmp rfl (fun _ => trivial))) rfl ?_
  refine Chain.cons (StepOK.move (.at rfl rfl) (.tmp rfl (fun _ => trivial))) rfl ?_
  refine Chain.cons (StepOK.move (.at rfl rfl) (.tmp rfl (fun _ => trivial))) rfl ?_
  refine Chain.cons (StepOK.move (.at rfl rfl) (.tmp rfl (fun _ => trivial))) rfl ?_
  refine Chain.cons (StepOK.load (.at rfl rfl) ty22 (.tmp rfl (fun _ => trivial))) rfl ?_
  obtain ⟨r4, hv5, h⟩ := bind_some h
  refine Chain.cons (StepOK.callIf (.at rfl rfl) fnok29 (fun hg => ref_PointsError_ok ((fun hg => gd_some hv5 (hg.2)) hg)) (.cons (.tmp rfl id) .nil) (fun h => h)) rfl ?_
  refine Chain.cons (StepOK.buildSlice (xs := [_, _]) (.at rfl rfl) sl81 ty26 hz26 (.cons (.tmp rfl id) (.cons (.tmp rfl id) .nil)) rfl (by decide)) rfl ?_
  obtain ⟨r5, hv6, h⟩ := bind_some h
  refine Chain.cons (StepOK.callIf (.at rfl rfl) fnok10 (fun hg => ref_First_ok ((fun hg => gd_some hv6 (hg.2)) hg)) (.cons (.tmp rfl id) .nil) (fun h => h)) rfl ?_
  refine Chain.cons (StepOK.makeFunc (ι := Bool) (pre := fun i => (law_WaysAreRight_1 t1 l1)  = some i) (Ss := fun i => []) (S := fun i => rep i) (.at rfl rfl) fnok30 (fun i h => law_WaysAreRight_1_ok h) (.cons (.tmp rfl (fun _ => trivial)) (.cons (.tmp rfl (fun _ => trivial)) .nil))) rfl ?_
  obtain ⟨r6, hv7, h⟩ := bind_some h
  refine Chain.cons (StepOK.callIf (.at rfl rfl) fnok28 (fun hg => law_is_bool_ok ((fun hg => gd_some hv7 (hg.2)) hg)) (.cons (.tmp rfl id) (.cons (.tmp rfl id) (.cons (.tmp rfl id) (.cons (.tmp rfl id) .nil)))) (fun h => h)) rfl ?_
  refine Chain.cons (StepOK.pickAnd .none (.tmp rfl (fun _ => trivial)) (.tmp rfl id)) rfl ?_
  refine Chain.cons (StepOK.assign .none (.tmp rfl (fun _ => trivial))) rfl ?_
  refine Chain.nil ?_
  refine Ends.then ?_
  refine Cod.ret ?_
  obtain rfl := some_eq h
  exact Ends.ret1 (.inl rfl) Try.results5 (ResOK.tmp rfl trivial Imp.refl)


end Go.Proofs.Ytegjicmejjfgfaa
