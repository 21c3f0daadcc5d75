/-
  The walks: what a function computes is what its plain function says (printed by a program of one's own).
-/
import Derived.Test.YtakkmmhjohadaaaTdmWa1
set_option maxRecDepth 100000
set_option linter.unusedSimpArgs false
set_option linter.unusedVariables false
namespace Go.Proofs.Ytakkmmhjohadaaa
open Go Go.DB Go.RowKit

theorem ref_TreeError_ok {t1 : (List Branch)} {r : Int}  (h : ref_TreeError t1 = some r) : FSpec Try.prog 30 [rep t1] (rep r) := by
  unfold ref_TreeError at h
  refine FSpec.intro (n := 96) fnok30 Try.func30 rfl Try.ntmps30 rfl (fun F => ?_)
  refine Cod.seq ?_
  refine Cod.region [] mixed (by kernel_rfl) ?_
  refine Chain.cons (StepOK.assign .none (.int (by decide))) rfl ?_
  refine Chain.nil ?_
  refine Ends.then ?_
  refine Cod.seq ?_
  refine Cod.seq ?_
  refine Cod.region [] mixed (by kernel_rfl) ?_
  refine Chain.cons (StepOK.move .none (.tmp rfl (fun _ => trivial))) rfl ?_
  refine Chain.cons (StepOK.len .none sl56 (.tmp rfl (fun _ => trivial))) rfl ?_
  refine Chain.cons (StepOK.eqI .none (.tmp rfl (fun _ => trivial)) (.int (by decide))) rfl ?_
  obtain ⟨r1, hv1, h⟩ := bind_some h
  refine Chain.cons (StepOK.call .none (ref_When_ok hv1) (.cons (.tmp rfl (fun _ => trivial)) (.cons (.int (by decide)) .nil))) rfl ?_
  refine Chain.cons (StepOK.move .none (.tmp rfl (fun _ => trivial))) rfl ?_
  refine Chain.cons (StepOK.len .none sl56 (.tmp rfl (fun _ => trivial))) rfl ?_
  refine Chain.cons (StepOK.gt .none (.tmp rfl (fun _ => trivial)) (.int (by decide))) rfl ?_
  obtain ⟨r2, hv2, h⟩ := bind_some h
  refine Chain.cons (StepOK.call .none (ref_When_ok hv2) (.cons (.tmp rfl (fun _ => trivial)) (.cons (.int (by decide)) .nil))) rfl ?_
  refine Chain.cons (StepOK.buildSlice (xs := [_, _]) .none sl87 ty24 hz24 (.cons (.tmp rfl (fun _ => trivial)) (.cons (.tmp rfl (fun _ => trivial)) .nil)) rfl (by decide)) rfl ?_
  obtain ⟨e1, hv3, h⟩ := bind_some h
  refine Chain.cons (StepOK.call .none (ref_First_ok hv3) (.cons (.tmp rfl (fun _ => trivial)) .nil)) rfl ?_
  refine Chain.cons (StepOK.assign .none (.tmp rfl (fun _ => trivial))) rfl ?_
  refine Chain.nil ?_
  refine Ends.then ?_
  refine Cod.seq ?_
  refine Cod.region [] mixed (by kernel_rfl) ?_
  refine Chain.cons (StepOK.move .none (.tmp rfl (fun _ => trivial))) rfl ?_
  refine Chain.cons (StepOK.neI .none (.tmp rfl (fun _ => trivial)) (.int (by decide))) rfl ?_
  refine Chain.nil ?_
  refine Ends.then ?_
  refine Cod.cond (t := 24) rfl trivial (fun hb4 => ?_) (fun hb4 => ?_)
  · replace h := bif_t h hb4
    refine Cod.seq ?_
    refine Cod.region [] mixed (by kernel_rfl) ?_
    refine Chain.cons (StepOK.move .none (.tmp rfl (fun _ => trivial))) rfl ?_
    refine Chain.cons (StepOK.assign .none (.tmp rfl (fun _ => trivial))) rfl ?_
    refine Chain.nil ?_
    refine Ends.then ?_
    refine Cod.ret ?_
    refine Ends.thenRet ?_
    obtain rfl := some_eq h
    exact Ends.ret1 (.inl rfl) Try.results30 (ResOK.tmp rfl trivial Imp.refl)
  · replace h := bif_f h hb4
    refine Cod.skip ?_
    refine Ends.then ?_
    refine Cod.seq ?_
    refine Cod.region [([], []), ([], []), ([], [28]), ([28], [4, 28])] mixed (by kernel_rfl) ?_
    refine Chain.consA (StepOK.move .none (.tmp rfl (fun _ => trivial))) rfl ?_
    obtain ⟨v1, hv5, h⟩ := bnd_some h
    refine Chain.consA (StepOK.re hv5 (StepOK.len .none sl56 (.tmp rfl (fun _ => trivial)))) rfl ?_
    obtain ⟨hn6, h⟩ := need_some h
    refine Chain.consW (StepOK.makeSlice rk100 zo4 rfl (.tmp rfl (fun _ => trivial)) (.tmp rfl (fun _ => trivial)) hn6) rfl rfl ?_
    refine Chain.consW (StepOK.passRow rfl (.tmp rfl)) rfl rfl ?_
    refine Chain.nil ?_
    refine Ends.then ?_
    obtain ⟨kid1, hv7, h⟩ := bnd_some h
    refine Cod.reB (t := 4) rfl (congrArg (rowV 4) hv7) ?_
    refine Cod.nameRow (t := 4) (g := 5001) rfl rfl rfl (fun s5001 => ?_)
    refine Cod.seq ?_
    refine Cod.seq ?_
    refine Cod.region [] mixed (by kernel_rfl) ?_
    refine Chain.cons (StepOK.move .none (.tmp rfl (fun _ => trivial))) rfl ?_
    refine Chain.cons (StepOK.len .none sl56 (.tmp rfl (fun _ => trivial))) rfl ?_
    refine Chain.cons (StepOK.move .none (.int (by decide))) rfl ?_
    refine Chain.nil ?_
    refine Ends.then ?_
    obtain ⟨o_8, h, hK8⟩ := bindR_some h
    refine Cod.thenJ (ι := (List Bool)) (fun j_8 => []) (fun j_8 => [(5001, some (CPred.at s5001 (rowV 4 j_8)))]) (fun s => o_8 = Res.nx s) (.cons (t := 0) rfl (.cons (t := 4) rfl Sub.nil)) SubB.nil ?_ (fun j_8 hj8 => ?_)
    · skip
      refine Cod.block ?_
      refine Cod.rforEL h (fun p9_ => [(31, ⟨True, rep p9_.1⟩)]) (fun p9_ => [(5001, some (CPred.at s5001 (rowV 4 p9_.2)))]) (.cons (t := 31) rfl Sub.nil) (.cons (t := 5001) rfl SubB.nil) (.cons (t := 0) rfl (.cons (t := 4) rfl (.cons (t := 29) rfl (.cons (t := 30) rfl Sub.nil)))) SubB.nil (fun p9_ o_9 h hD9 => ?_)
      refine Cod.seq ?_
      refine Cod.region [] mixed (by kernel_rfl) ?_
      refine Chain.cons (StepOK.lt .none (.tmp rfl (fun _ => trivial)) (.tmp rfl (fun _ => trivial))) rfl ?_
      refine Chain.nil ?_
      refine Ends.then ?_
      refine Cod.seq ?_
      refine Cod.cond (t := 32) rfl trivial (fun hb10 => ?_) (fun hb10 => ?_)
      · replace h := bif_t h hb10
        refine Cod.skip ?_
        refine Ends.then ?_
        refine Cod.seq ?_
        obtain ⟨o_11, h, hK11⟩ := bindD_some h
        unfold ref_TreeError_L1 at h
        refine Cod.thenJ (ι := (List Bool)) (fun j_11 => []) (fun j_11 => [(5001, some (CPred.at s5001 (rowV 4 j_11)))]) (fun s => o_11 = Res.nx s) (.cons (t := 0) rfl (.cons (t := 4) rfl (.cons (t := 29) rfl (.cons (t := 30) rfl (.cons (t := 31) rfl Sub.nil))))) SubB.nil ?_ (fun j_11 hj11 => ?_)
        · skip
          refine Cod.block ?_
          refine Cod.seq ?_
          refine Cod.region [([], []), ([], []), ([], [6]), ([6], [6])] mixed (by kernel_rfl) ?_
          obtain ⟨hn12, h⟩ := need_some h
          refine Chain.consA (StepOK.indexAddr .none sl56 ty67 (.tmp rfl (fun _ => trivial)) (.tmp rfl (fun _ => trivial)) (fun _ => hn12)) rfl ?_
          obtain ⟨v2, hv13, h⟩ := bnd_some h
          refine Chain.consA (StepOK.re hv13 (StepOK.load .none ty67 (.tmp rfl (fun _ => trivial)))) rfl ?_
          refine Chain.consW (StepOK.alloc zo67 rfl) rfl rfl ?_
          refine Chain.consN (StepOK.store ty67 rfl rfl (.tmp rfl (fun _ => trivial))) rfl ?_
          refine Chain.nil ?_
          refine Ends.then ?_
          refine Cod.freeze (t := 6) rfl rfl (.cons (t := 5001) rfl SubB.nil) rfl ?_
          refine Cod.seq ?_
          refine Cod.seq ?_
          refine Cod.region [] mixed (by kernel_rfl) ?_
          refine Chain.cons (StepOK.fieldAddr .none fd67_0 hfd67_0 (.tmp rfl (fun _ => trivial))) rfl ?_
          refine Chain.cons (StepOK.load .none ty3 (.tmp rfl (fun _ => trivial))) rfl ?_
          obtain ⟨r3, hv14, h⟩ := bind_some h
          refine Chain.cons (StepOK.call .none (ref_In_ok hv14) (.cons (.tmp rfl (fun _ => trivial)) (.cons (.int (by decide)) (.cons (.int (by decide)) .nil)))) rfl ?_
          refine Chain.cons (StepOK.not .none (.tmp rfl (fun _ => trivial))) rfl ?_
          refine Chain.cons (StepOK.move .none (.tmp rfl (fun _ => trivial))) rfl ?_
          refine Chain.cons (StepOK.fieldAddr (.at rfl rfl) fd67_1 hfd67_1 (.tmp rfl (fun _ => trivial))) rfl ?_
          refine Chain.cons (StepOK.load (.at rfl rfl) ty3 (.tmp rfl id)) rfl ?_
          obtain ⟨r4, hv15, h⟩ := bind_some h
          refine Chain.cons (StepOK.callIf (.at rfl rfl) fnok16 (fun hg => ref_In_ok ((fun hg => gd_some hv15 ((notT hg.2))) hg)) (.cons (.tmp rfl id) (.cons (.int (by decide)) (.cons (.int (by decide)) .nil))) (fun h => h)) rfl ?_
          refine Chain.cons (StepOK.not (.at rfl rfl) (.tmp rfl id)) rfl ?_
          refine Chain.cons (StepOK.pickOr .none (.tmp rfl (fun _ => trivial)) (.tmp rfl id)) rfl ?_
          refine Chain.nil ?_
          refine Ends.then ?_
          refine Cod.cond (t := 44) rfl trivial (fun hb16 => ?_) (fun hb16 => ?_)
          · replace h := bif_t h hb16
            refine Cod.seq ?_
            refine Cod.region [] mixed (by kernel_rfl) ?_
            refine Chain.cons (StepOK.assign .none (.int (by decide))) rfl ?_
            refine Chain.nil ?_
            refine Ends.then ?_
            refine Cod.ret ?_
            refine Ends.thenRet ?_
            refine Ends.blkRet ?_
            refine Ends.thenRet ?_
            refine Ends.thenRet ?_
            refine Ends.blkRet ?_
            refine Ends.thenRet ?_
            replace h := resd_ab hK11 (some_eq h)
            replace h := hD9 _ (some_eq h)
            replace h := resb_ab hK8 (some_eq h)
            obtain rfl := some_eq h
            exact Ends.ret1 (.inl rfl) Try.results30 (ResOK.tmp rfl trivial Imp.refl)
          · replace h := bif_f h hb16
            refine Cod.skip ?_
            refine Ends.then ?_
            refine Cod.seq ?_
            refine Cod.region [] mixed (by kernel_rfl) ?_
            refine Chain.cons (StepOK.fieldAddr .none fd67_2 hfd67_2 (.tmp rfl (fun _ => trivial))) rfl ?_
            refine Chain.cons (StepOK.load .none ty23 (.tmp rfl (fun _ => trivial))) rfl ?_
            refine Chain.cons (StepOK.len .none sl23 (.tmp rfl (fun _ => trivial))) rfl ?_
            refine Chain.cons (StepOK.move .none (.int (by decide))) rfl ?_
            refine Chain.nil ?_
            refine Ends.then ?_
            refine Cod.block ?_
            refine Cod.rforEL h (fun p17_ => [(48, ⟨True, rep p17_.1⟩)]) (fun p17_ => [(5001, some (CPred.at s5001 (rowV 4 p17_.2)))]) (.cons (t := 48) rfl Sub.nil) (.cons (t := 5001) rfl SubB.nil) (.cons (t := 0) rfl (.cons (t := 4) rfl (.cons (t := 29) rfl (.cons (t := 30) rfl (.cons (t := 31) rfl (.cons (t := 46) rfl (.cons (t := 47) rfl Sub.nil))))))) SubB.nil (fun p17_ o_17 h hD17 => ?_)
            refine Cod.seq ?_
            refine Cod.region [] mixed (by kernel_rfl) ?_
            refine Chain.cons (StepOK.lt .none (.tmp rfl (fun _ => trivial)) (.tmp rfl (fun _ => trivial))) rfl ?_
            refine Chain.nil ?_
            refine Ends.then ?_
            refine Cod.seq ?_
            refine Cod.cond (t := 49) rfl trivial (fun hb18 => ?_) (fun hb18 => ?_)
            · replace h := bif_t h hb18
              refine Cod.skip ?_
              refine Ends.then ?_
              refine Cod.seq ?_
              obtain ⟨o_19, h, hK19⟩ := bindD_some h
              unfold ref_TreeError_L2 at h
              refine Cod.thenJ (ι := (List Bool)) (fun j_19 => []) (fun j_19 => [(5001, some (CPred.at s5001 (rowV 4 j_19)))]) (fun s => o_19 = Res.nx s) (.cons (t := 0) rfl (.cons (t := 4) rfl (.cons (t := 29) rfl (.cons (t := 30) rfl (.cons (t := 31) rfl (.cons (t := 46) rfl (.cons (t := 47) rfl (.cons (t := 48) rfl Sub.nil)))))))) SubB.nil ?_ (fun j_19 hj19 => ?_)
              · skip
                refine Cod.block ?_
                refine Cod.seq ?_
                refine Cod.region [] mixed (by kernel_rfl) ?_
                obtain ⟨hn20, h⟩ := need_some h
                refine Chain.cons (StepOK.indexAddr .none sl23 ty3 (.tmp rfl (fun _ => trivial)) (.tmp rfl (fun _ => trivial)) (fun _ => hn20)) rfl ?_
                refine Chain.cons (StepOK.load .none ty3 (.tmp rfl (fun _ => trivial))) rfl ?_
                obtain ⟨k1, hv21, h⟩ := bnd_some h
                refine Chain.cons (StepOK.re hv21 (StepOK.assign .none (.tmp rfl (fun _ => trivial)))) rfl ?_
                refine Chain.nil ?_
                refine Ends.then ?_
                refine Cod.seq ?_
                refine Cod.seq ?_
                refine Cod.region [] mixed (by kernel_rfl) ?_
                refine Chain.cons (StepOK.move .none (.tmp rfl (fun _ => trivial))) rfl ?_
                refine Chain.cons (StepOK.move .none (.tmp rfl (fun _ => trivial))) rfl ?_
                refine Chain.cons (StepOK.len .none sl56 (.tmp rfl (fun _ => trivial))) rfl ?_
                refine Chain.cons (StepOK.subW .none (.tmp rfl (fun _ => trivial)) (.int (by decide))) rfl ?_
                obtain ⟨r5, hv22, h⟩ := bind_some h
                refine Chain.cons (StepOK.call .none (ref_In_ok hv22) (.cons (.tmp rfl (fun _ => trivial)) (.cons (.int (by decide)) (.cons (.tmp rfl (fun _ => trivial)) .nil)))) rfl ?_
                refine Chain.cons (StepOK.not .none (.tmp rfl (fun _ => trivial))) rfl ?_
                refine Chain.nil ?_
                refine Ends.then ?_
                refine Cod.cond (t := 57) rfl trivial (fun hb23 => ?_) (fun hb23 => ?_)
                · replace h := bif_t h hb23
                  refine Cod.seq ?_
                  refine Cod.region [] mixed (by kernel_rfl) ?_
                  refine Chain.cons (StepOK.assign .none (.int (by decide))) rfl ?_
                  refine Chain.nil ?_
                  refine Ends.then ?_
                  refine Cod.ret ?_
                  refine Ends.thenRet ?_
                  refine Ends.blkRet ?_
                  refine Ends.thenRet ?_
                  refine Ends.thenRet ?_
                  refine Ends.blkRet ?_
                  refine Ends.blkRet ?_
                  refine Ends.thenRet ?_
                  refine Ends.thenRet ?_
                  refine Ends.blkRet ?_
                  refine Ends.thenRet ?_
                  replace h := resd_ab hK19 (some_eq h)
                  replace h := hD17 _ (some_eq h)
                  replace h := resd_ab hK11 (some_eq h)
                  replace h := hD9 _ (some_eq h)
                  replace h := resb_ab hK8 (some_eq h)
                  obtain rfl := some_eq h
                  exact Ends.ret1 (.inl rfl) Try.results30 (ResOK.tmp rfl trivial Imp.refl)
                · replace h := bif_f h hb23
                  refine Cod.skip ?_
                  refine Ends.then ?_
                  refine Cod.seq ?_
                  refine Cod.seq ?_
                  refine Cod.region [([], []), ([], []), ([], []), ([], []), ([], []), ([5001], []), ([5001], []), ([], []), ([], []), ([], []), ([], [])] mixed (by kernel_rfl) ?_
                  refine Chain.consA (StepOK.move .none (.tmp rfl (fun _ => trivial))) rfl ?_
                  refine Chain.consA (StepOK.eqI .none (.tmp rfl (fun _ => trivial)) (.int (by decide))) rfl ?_
                  obtain ⟨r6, hv24, h⟩ := bind_some h
                  refine Chain.consA (StepOK.call .none (ref_When_ok hv24) (.cons (.tmp rfl (fun _ => trivial)) (.cons (.int (by decide)) .nil))) rfl ?_
                  refine Chain.consA (StepOK.move .none (.tmp rfl (fun _ => trivial))) rfl ?_
                  refine Chain.consA (StepOK.move .none (.tmp rfl (fun _ => trivial))) rfl ?_
                  obtain ⟨hn25, h⟩ := need_some h
                  refine Chain.consA (StepOK.indexAddrO (k := 5001) .none sl100 ty4 (.tmp rfl (fun _ => trivial)) rfl (.tmp rfl (fun _ => trivial)) (fun _ => hn25)) rfl ?_
                  refine Chain.consA (StepOK.loadElem0 (k := 5001) .none ty4 (.tmp rfl (fun _ => trivial)) rfl (fun _ => hn25)) rfl ?_
                  obtain ⟨r7, hv26, h⟩ := bind_some h
                  refine Chain.consA (StepOK.call .none (ref_When_ok hv26) (.cons (.tmp rfl (fun _ => trivial)) (.cons (.int (by decide)) .nil))) rfl ?_
                  refine Chain.consA (StepOK.buildSlice (xs := [_, _]) .none sl87 ty24 hz24 (.cons (.tmp rfl (fun _ => trivial)) (.cons (.tmp rfl (fun _ => trivial)) .nil)) rfl (by decide)) rfl ?_
                  obtain ⟨e2, hv27, h⟩ := bind_some h
                  refine Chain.consA (StepOK.call .none (ref_First_ok hv27) (.cons (.tmp rfl (fun _ => trivial)) .nil)) rfl ?_
                  refine Chain.consA (StepOK.assign .none (.tmp rfl (fun _ => trivial))) rfl ?_
                  refine Chain.nil ?_
                  refine Ends.then ?_
                  refine Cod.seq ?_
                  refine Cod.region [] mixed (by kernel_rfl) ?_
                  refine Chain.cons (StepOK.move .none (.tmp rfl (fun _ => trivial))) rfl ?_
                  refine Chain.cons (StepOK.neI .none (.tmp rfl (fun _ => trivial)) (.int (by decide))) rfl ?_
                  refine Chain.nil ?_
                  refine Ends.then ?_
                  refine Cod.cond (t := 69) rfl trivial (fun hb28 => ?_) (fun hb28 => ?_)
                  · replace h := bif_t h hb28
                    refine Cod.seq ?_
                    refine Cod.region [] mixed (by kernel_rfl) ?_
                    refine Chain.cons (StepOK.move .none (.tmp rfl (fun _ => trivial))) rfl ?_
                    refine Chain.cons (StepOK.assign .none (.tmp rfl (fun _ => trivial))) rfl ?_
                    refine Chain.nil ?_
                    refine Ends.then ?_
                    refine Cod.ret ?_
                    refine Ends.thenRet ?_
                    refine Ends.blkRet ?_
                    refine Ends.thenRet ?_
                    refine Ends.thenRet ?_
                    refine Ends.blkRet ?_
                    refine Ends.blkRet ?_
                    refine Ends.thenRet ?_
                    refine Ends.thenRet ?_
                    refine Ends.blkRet ?_
                    refine Ends.thenRet ?_
                    replace h := resd_ab hK19 (some_eq h)
                    replace h := hD17 _ (some_eq h)
                    replace h := resd_ab hK11 (some_eq h)
                    replace h := hD9 _ (some_eq h)
                    replace h := resb_ab hK8 (some_eq h)
                    obtain rfl := some_eq h
                    exact Ends.ret1 (.inl rfl) Try.results30 (ResOK.tmp rfl trivial Imp.refl)
                  · replace h := bif_f h hb28
                    refine Cod.skip ?_
                    refine Ends.then ?_
                    refine Cod.region [([], []), ([], []), ([5001], []), ([5001], [5001])] mixed (by kernel_rfl) ?_
                    refine Chain.consA (StepOK.move .none (.tmp rfl (fun _ => trivial))) rfl ?_
                    refine Chain.consA (StepOK.move .none (.tmp rfl (fun _ => trivial))) rfl ?_
                    obtain ⟨hn29, h⟩ := need_some h
                    refine Chain.consA (StepOK.indexAddrO (k := 5001) .none sl100 ty4 (.tmp rfl (fun _ => trivial)) rfl (.tmp rfl (fun _ => trivial)) (fun _ => hn29)) rfl ?_
                    refine Chain.consN (StepOK.storeElem0 (k := 5001) ty4 (.tmp rfl (fun _ => trivial)) rfl .bool hn29) rfl ?_
                    refine Chain.nil ?_
                    refine Ends.blkNormal ?_
                    exact Ends.join _ (some_eq h) (.cons (t := 0) rfl (.cons (t := 4) rfl (.cons (t := 29) rfl (.cons (t := 30) rfl (.cons (t := 31) rfl (.cons (t := 46) rfl (.cons (t := 47) rfl (.cons (t := 48) rfl Sub.nil)))))))) (.cons (t := 5001) rfl SubB.nil)
              · have h := resd_nx hK19 hj19
                refine Cod.region [] mixed (by kernel_rfl) ?_
                refine Chain.cons (StepOK.addW .none (.tmp rfl (fun _ => trivial)) (.int (by decide))) rfl ?_
                refine Chain.cons (StepOK.move .none (.tmp rfl (fun _ => trivial))) rfl ?_
                refine Chain.nil ?_
                exact Ends.againL (some_eq h) (.cons (t := 48) rfl (.cons (t := 0) rfl (.cons (t := 4) rfl (.cons (t := 29) rfl (.cons (t := 30) rfl (.cons (t := 31) rfl (.cons (t := 46) rfl (.cons (t := 47) rfl Sub.nil)))))))) (.cons (t := 5001) rfl SubB.nil)
            · replace h := bif_f h hb18
              refine Cod.exit ?_
              refine Ends.thenExit ?_
              refine Ends.thenExit ?_
              refine Ends.blkExit ?_
              refine Ends.blkNormal ?_
              replace h := hD17 _ (some_eq h)
              exact Ends.join _ (some_eq h) (.cons (t := 0) rfl (.cons (t := 4) rfl (.cons (t := 29) rfl (.cons (t := 30) rfl (.cons (t := 31) rfl Sub.nil))))) (.cons (t := 5001) rfl SubB.nil)
        · have h := resd_nx hK11 hj11
          refine Cod.region [] mixed (by kernel_rfl) ?_
          refine Chain.cons (StepOK.addW .none (.tmp rfl (fun _ => trivial)) (.int (by decide))) rfl ?_
          refine Chain.cons (StepOK.move .none (.tmp rfl (fun _ => trivial))) rfl ?_
          refine Chain.nil ?_
          exact Ends.againL (some_eq h) (.cons (t := 31) rfl (.cons (t := 0) rfl (.cons (t := 4) rfl (.cons (t := 29) rfl (.cons (t := 30) rfl Sub.nil))))) (.cons (t := 5001) rfl SubB.nil)
      · replace h := bif_f h hb10
        refine Cod.exit ?_
        refine Ends.thenExit ?_
        refine Ends.thenExit ?_
        refine Ends.blkExit ?_
        replace h := hD9 _ (some_eq h)
        exact Ends.join _ (some_eq h) (.cons (t := 0) rfl (.cons (t := 4) rfl Sub.nil)) (.cons (t := 5001) rfl SubB.nil)
    · have h := resb_nx hK8 hj8
      refine Cod.freezeRow (g := 5001) (ts := [4]) rfl (.cons (t := 4) rfl trivial .nil) SubB.nil rfl ?_
      refine Cod.seq ?_
      refine Cod.seq ?_
      refine Cod.region [] mixed (by kernel_rfl) ?_
      refine Chain.cons (StepOK.move .none (.tmp rfl (fun _ => trivial))) rfl ?_
      obtain ⟨hn30, h⟩ := need_some h
      refine Chain.cons (StepOK.slice .none sl100 ty4 (.tmp rfl (fun _ => trivial)) (.int (by decide)) rfl (fun _ => hn30)) rfl ?_
      obtain ⟨r8, hv31, h⟩ := bind_some h
      refine Chain.cons (StepOK.call .none (slices_Contains_bool_ok hv31) (.cons (.tmp rfl (fun _ => trivial)) (.cons .bool .nil))) rfl ?_
      refine Chain.nil ?_
      refine Ends.then ?_
      refine Cod.cond (t := 78) rfl trivial (fun hb32 => ?_) (fun hb32 => ?_)
      · replace h := bif_t h hb32
        refine Cod.seq ?_
        refine Cod.region [] mixed (by kernel_rfl) ?_
        refine Chain.cons (StepOK.assign .none (.int (by decide))) rfl ?_
        refine Chain.nil ?_
        refine Ends.then ?_
        refine Cod.ret ?_
        refine Ends.thenRet ?_
        obtain rfl := some_eq h
        exact Ends.ret1 (.inl rfl) Try.results30 (ResOK.tmp rfl trivial Imp.refl)
      · replace h := bif_f h hb32
        refine Cod.skip ?_
        refine Ends.then ?_
        refine Cod.seq ?_
        refine Cod.region [] mixed (by kernel_rfl) ?_
        refine Chain.cons (StepOK.assign .none (.int (by decide))) rfl ?_
        refine Chain.nil ?_
        refine Ends.then ?_
        refine Cod.seq ?_
        refine Cod.seq ?_
        refine Cod.region [] mixed (by kernel_rfl) ?_
        refine Chain.cons (StepOK.move .none (.tmp rfl (fun _ => trivial))) rfl ?_
        obtain ⟨r9, hv33, h⟩ := bind_some h
        refine Chain.cons (StepOK.call .none (ref_LevelsOf_ok hv33) (.cons (.tmp rfl (fun _ => trivial)) .nil)) rfl ?_
        refine Chain.cons (StepOK.len .none sl64 (.tmp rfl (fun _ => trivial))) rfl ?_
        refine Chain.cons (StepOK.move .none (.int (by decide))) rfl ?_
        refine Chain.nil ?_
        refine Ends.then ?_
        obtain ⟨j_34, h, hK34⟩ := bind_some h
        refine Cod.thenJ (ι := Int) (fun j_34 => [(10, ⟨True, rep j_34⟩)]) (fun j_34 => []) (fun s => j_34 = s) (.cons (t := 0) rfl Sub.nil) SubB.nil ?_ (fun j_34' hj34 => ?_)
        · skip
          refine Cod.block ?_
          refine Cod.rforL h (fun p35_ => [(82, ⟨True, rep p35_.1⟩), (10, ⟨True, rep p35_.2⟩)]) (fun p35_ => []) (.cons (t := 82) rfl (.cons (t := 10) rfl Sub.nil)) SubB.nil (.cons (t := 0) rfl (.cons (t := 80) rfl (.cons (t := 81) rfl Sub.nil))) SubB.nil (fun p35_ o_35 h hD35 => ?_)
          refine Cod.seq ?_
          refine Cod.region [] mixed (by kernel_rfl) ?_
          refine Chain.cons (StepOK.lt .none (.tmp rfl (fun _ => trivial)) (.tmp rfl (fun _ => trivial))) rfl ?_
          refine Chain.nil ?_
          refine Ends.then ?_
          refine Cod.seq ?_
          refine Cod.cond (t := 83) rfl trivial (fun hb36 => ?_) (fun hb36 => ?_)
          · replace h := bif_t h hb36
            refine Cod.skip ?_
            refine Ends.then ?_
            refine Cod.seq ?_
            obtain ⟨j_37, h, hK37⟩ := bind_some h
            unfold ref_TreeError_L3 at h
            refine Cod.thenJ (ι := Int) (fun j_37 => [(10, ⟨True, rep j_37⟩)]) (fun j_37 => []) (fun s => j_37 = s) (.cons (t := 0) rfl (.cons (t := 80) rfl (.cons (t := 81) rfl (.cons (t := 82) rfl Sub.nil)))) SubB.nil ?_ (fun j_37' hj37 => ?_)
            · skip
              refine Cod.block ?_
              refine Cod.seq ?_
              refine Cod.region [] mixed (by kernel_rfl) ?_
              obtain ⟨hn38, h⟩ := need_some h
              refine Chain.cons (StepOK.indexAddr .none sl64 ty23 (.tmp rfl (fun _ => trivial)) (.tmp rfl (fun _ => trivial)) (fun _ => hn38)) rfl ?_
              refine Chain.cons (StepOK.load .none ty23 (.tmp rfl (fun _ => trivial))) rfl ?_
              refine Chain.cons (StepOK.assign .none (.tmp rfl (fun _ => trivial))) rfl ?_
              refine Chain.nil ?_
              refine Ends.then ?_
              refine Cod.region [] mixed (by kernel_rfl) ?_
              refine Chain.cons (StepOK.move .none (.tmp rfl (fun _ => trivial))) rfl ?_
              refine Chain.cons (StepOK.move .none (.tmp rfl (fun _ => trivial))) rfl ?_
              refine Chain.cons (StepOK.len .none sl23 (.tmp rfl (fun _ => trivial))) rfl ?_
              refine Chain.cons (StepOK.addW .none (.tmp rfl (fun _ => trivial)) (.tmp rfl (fun _ => trivial))) rfl ?_
              obtain ⟨many1, hv39, h⟩ := bnd_some h
              refine Chain.cons (StepOK.re hv39 (StepOK.assign .none (.tmp rfl (fun _ => trivial)))) rfl ?_
              refine Chain.nil ?_
              refine Ends.blkNormal ?_
              exact Ends.join _ (some_eq h) (.cons (t := 10) rfl (.cons (t := 0) rfl (.cons (t := 80) rfl (.cons (t := 81) rfl (.cons (t := 82) rfl Sub.nil))))) SubB.nil
            · subst hj37; have h := hK37; clear hK37
              refine Cod.region [] mixed (by kernel_rfl) ?_
              refine Chain.cons (StepOK.addW .none (.tmp rfl (fun _ => trivial)) (.int (by decide))) rfl ?_
              refine Chain.cons (StepOK.move .none (.tmp rfl (fun _ => trivial))) rfl ?_
              refine Chain.nil ?_
              exact Ends.againL (some_eq h) (.cons (t := 82) rfl (.cons (t := 10) rfl (.cons (t := 0) rfl (.cons (t := 80) rfl (.cons (t := 81) rfl Sub.nil))))) SubB.nil
          · replace h := bif_f h hb36
            refine Cod.exit ?_
            refine Ends.thenExit ?_
            refine Ends.thenExit ?_
            refine Ends.blkExit ?_
            replace h := hD35 _ (some_eq h)
            exact Ends.join _ (some_eq h) (.cons (t := 10) rfl (.cons (t := 0) rfl Sub.nil)) SubB.nil
        · subst hj34; have h := hK34; clear hK34
          refine Cod.seq ?_
          refine Cod.region [] mixed (by kernel_rfl) ?_
          refine Chain.cons (StepOK.move .none (.tmp rfl (fun _ => trivial))) rfl ?_
          refine Chain.cons (StepOK.move .none (.tmp rfl (fun _ => trivial))) rfl ?_
          refine Chain.cons (StepOK.len .none sl56 (.tmp rfl (fun _ => trivial))) rfl ?_
          refine Chain.cons (StepOK.neI .none (.tmp rfl (fun _ => trivial)) (.tmp rfl (fun _ => trivial))) rfl ?_
          obtain ⟨r10, hv40, h⟩ := bind_some h
          refine Chain.cons (StepOK.call .none (ref_When_ok hv40) (.cons (.tmp rfl (fun _ => trivial)) (.cons (.int (by decide)) .nil))) rfl ?_
          refine Chain.cons (StepOK.assign .none (.tmp rfl (fun _ => trivial))) rfl ?_
          refine Chain.nil ?_
          refine Ends.then ?_
          refine Cod.ret ?_
          obtain rfl := some_eq h
          exact Ends.ret1 (.inl rfl) Try.results30 (ResOK.tmp rfl trivial Imp.refl)

theorem law_trees_ok  {r : Bool}  (h : law_trees  = some r) : FSpec Try.prog 22 [] (rep r) := by
  unfold law_trees at h
  refine FSpec.intro (n := 9) fnok22 Try.func22 rfl Try.ntmps22 rfl (fun F => ?_)
  refine Cod.seq ?_
  refine Cod.region [] mixed (by kernel_rfl) ?_
  refine Chain.cons (StepOK.assign .none .bool) rfl ?_
  refine Chain.nil ?_
  refine Ends.then ?_
  refine Cod.seq ?_
  refine Cod.region [] mixed (by kernel_rfl) ?_
  refine Chain.cons (StepOK.buildF (y := (⟨1, 1, ([] : (List Int))⟩ : Branch)) .none bu67 zc67 rfl (.cons (.int (by decide)) (.cons (.int (by decide)) .nil)) (.cons rfl sf67_0 (.cons rfl sf67_1 .nil))) rfl ?_
  refine Chain.cons (StepOK.buildSlice (xs := [_]) .none sl56 ty67 hz67 (.cons (.tmp rfl (fun _ => trivial)) .nil) rfl (by decide)) rfl ?_
  obtain ⟨r1, hv1, h⟩ := bind_some h
  refine Chain.cons (StepOK.call .none (tree_Check_ok hv1) (.cons (.tmp rfl (fun _ => trivial)) .nil)) rfl ?_
  refine Chain.cons (StepOK.eqI .none (.tmp rfl (fun _ => trivial)) (.int (by decide))) rfl ?_
  refine Chain.cons (StepOK.move .none (.tmp rfl (fun _ => trivial))) rfl ?_
  obtain ⟨r2, hv2, h⟩ := bind_some h
  refine Chain.cons (StepOK.callIf (.at rfl rfl) fnok39 (fun hg => tree_Check_ok ((fun hg => gd_some hv2 (hg.2)) hg)) (.cons (.const (x := ([] : (List Branch))) (fun M w => ⟨_, ⟨none, 0, rfl, Nat.le_refl _, by decide, rfl⟩, rfl⟩)) .nil) (fun h => h)) rfl ?_
  refine Chain.cons (StepOK.eqI (.at rfl rfl) (.tmp rfl id) (.int (by decide))) rfl ?_
  refine Chain.cons (StepOK.pickAnd .none (.tmp rfl (fun _ => trivial)) (.tmp rfl id)) rfl ?_
  refine Chain.cons (StepOK.assign .none (.tmp rfl (fun _ => trivial))) rfl ?_
  refine Chain.nil ?_
  refine Ends.then ?_
  refine Cod.ret ?_
  obtain rfl := some_eq h
  exact Ends.ret1 (.inl rfl) Try.results22 (ResOK.tmp rfl trivial Imp.refl)

theorem ref_Down_ok {a1 : Int} {b1 : Int} {r : Int}  (h : ref_Down a1 b1 = some r) : FSpec Try.prog 83 [rep a1, rep b1] (rep r) := by
  unfold ref_Down at h
  refine FSpec.intro (n := 17) fnok83 Try.func83 rfl Try.ntmps83 rfl (fun F => ?_)
  refine Cod.seq ?_
  refine Cod.region [] mixed (by kernel_rfl) ?_
  refine Chain.cons (StepOK.assign .none (.int (by decide))) rfl ?_
  refine Chain.nil ?_
  refine Ends.then ?_
  refine Cod.seq ?_
  refine Cod.region [] mixed (by kernel_rfl) ?_
  refine Chain.cons (StepOK.move .none (.tmp rfl (fun _ => trivial))) rfl ?_
  refine Chain.cons (StepOK.move .none (.tmp rfl (fun _ => trivial))) rfl ?_
  obtain ⟨hn1, h⟩ := need_some h
  refine Chain.cons (StepOK.quo .none (.tmp rfl (fun _ => trivial)) (.tmp rfl (fun _ => trivial)) (fun _ => hn1)) rfl ?_
  obtain ⟨q1, hv2, h⟩ := bnd_some h
  refine Chain.cons (StepOK.re hv2 (StepOK.assign .none (.tmp rfl (fun _ => trivial)))) rfl ?_
  refine Chain.nil ?_
  refine Ends.then ?_
  refine Cod.seq ?_
  refine Cod.seq ?_
  refine Cod.region [] mixed (by kernel_rfl) ?_
  refine Chain.cons (StepOK.move .none (.tmp rfl (fun _ => trivial))) rfl ?_
  refine Chain.cons (StepOK.move .none (.tmp rfl (fun _ => trivial))) rfl ?_
  refine Chain.cons (StepOK.mulW .none (.tmp rfl (fun _ => trivial)) (.tmp rfl (fun _ => trivial))) rfl ?_
  refine Chain.cons (StepOK.move .none (.tmp rfl (fun _ => trivial))) rfl ?_
  refine Chain.cons (StepOK.gt .none (.tmp rfl (fun _ => trivial)) (.tmp rfl (fun _ => trivial))) rfl ?_
  refine Chain.nil ?_
  refine Ends.then ?_
  obtain ⟨j_3, h, hK3⟩ := bind_some h
  refine Cod.thenJ (ι := Int) (fun j_3 => [(5, ⟨True, rep j_3⟩)]) (fun j_3 => []) (fun s => j_3 = s) Sub.nil SubB.nil ?_ (fun j_3' hj3 => ?_)
  · skip
    refine Cod.cond (t := 13) rfl trivial (fun hb4 => ?_) (fun hb4 => ?_)
    · replace h := bif_t h hb4
      refine Cod.region [] mixed (by kernel_rfl) ?_
      refine Chain.cons (StepOK.move .none (.tmp rfl (fun _ => trivial))) rfl ?_
      refine Chain.cons (StepOK.subW .none (.tmp rfl (fun _ => trivial)) (.int (by decide))) rfl ?_
      obtain ⟨q2, hv5, h⟩ := bnd_some h
      refine Chain.cons (StepOK.re hv5 (StepOK.assign .none (.tmp rfl (fun _ => trivial)))) rfl ?_
      refine Chain.nil ?_
      exact Ends.join _ (some_eq h) (.cons (t := 5) rfl Sub.nil) SubB.nil
    · replace h := bif_f h hb4
      refine Cod.skip ?_
      exact Ends.join _ (some_eq h) (.cons (t := 5) rfl Sub.nil) SubB.nil
  · subst hj3; have h := hK3; clear hK3
    refine Cod.seq ?_
    refine Cod.region [] mixed (by kernel_rfl) ?_
    refine Chain.cons (StepOK.move .none (.tmp rfl (fun _ => trivial))) rfl ?_
    refine Chain.cons (StepOK.assign .none (.tmp rfl (fun _ => trivial))) rfl ?_
    refine Chain.nil ?_
    refine Ends.then ?_
    refine Cod.ret ?_
    obtain rfl := some_eq h
    exact Ends.ret1 (.inl rfl) Try.results83 (ResOK.tmp rfl trivial Imp.refl)

theorem ref_drawing_okS {self : ((List Branch) × Int × Int) → Option Ref_drawn} (hself : ∀  (x : ((List Branch) × Int × Int)) (r : Ref_drawn), self x = some r → FSpec Try.prog 69 [rep x.1, rep x.2.1, rep x.2.2] (rep r))  {x : ((List Branch) × Int × Int)} {r : Ref_drawn} (h : ref_drawing_body self x = some r) : FSpec Try.prog 69 [rep x.1, rep x.2.1, rep x.2.2] (rep r) := by
  unfold ref_drawing_body at h
  refine FSpec.intro (n := 162) fnok69 Try.func69 rfl Try.ntmps69 rfl (fun F => ?_)
  refine Cod.seq ?_
  refine Cod.region [([], [6])] mixed (by kernel_rfl) ?_
  refine Chain.consW (StepOK.alloc zo104 rfl) rfl rfl ?_
  refine Chain.nil ?_
  refine Ends.then ?_
  obtain ⟨v1, hv1, h⟩ := bnd_some h
  refine Cod.reB (t := 6) rfl (congrArg (cont 104) hv1) ?_
  refine Cod.nameBox (t := 6) (g := 5001) rfl rfl (fun m5001 => ?_)
  refine Cod.seq ?_
  refine Cod.region [([], [23]), ([], [24]), ([], []), ([24], [24]), ([24], [26, 24]), ([23, 26], [27, 23, 26]), ([], [7]), ([7, 27], [7, 27])] mixed (by kernel_rfl) ?_
  refine Chain.consW (StepOK.makeMap (K := Int) (V := Int) rfl) rfl rfl ?_
  refine Chain.consW (StepOK.makeMap (K := Int) (V := Int) rfl) rfl rfl ?_
  refine Chain.consA (StepOK.move .none (.tmp rfl (fun _ => trivial))) rfl ?_
  refine Chain.consN (StepOK.mapInsert (q := 24) mo102 rfl (.tmp rfl (fun _ => trivial)) (.int (by decide))) rfl ?_
  refine Chain.consW (StepOK.passRowM rfl (.tmp rfl)) rfl rfl ?_
  refine Chain.consW (StepOK.buildG2 (t1 := 23) (t2 := 26) oneMap oneMap (mk := (fun z1 z2 => (⟨⟨z1⟩, ⟨z2⟩⟩ : Ref_drawn_o01))) bu104 zvc_Ref_drawn_o01 rfl rfl rfl rfl rfl rfl rfl rfl rfl (fun _ _ => (.cons (.tmp rfl (fun _ => trivial)) (.cons (.tmp rfl (fun _ => trivial)) .nil))) (fun _ _ => (.cons rfl sv_Ref_drawn_o01_0 (.cons rfl sv_Ref_drawn_o01_1 .nil)))) rfl rfl ?_
  refine Chain.consW (StepOK.alloc zv_Ref_drawn_o01 rfl) rfl rfl ?_
  refine Chain.consN (StepOK.storeG2 (t := 27) (k := 7) (mk := (fun z1 z2 => (⟨⟨z1⟩, ⟨z2⟩⟩ : Ref_drawn_o01))) ty104 rfl rfl rfl rfl rfl rfl rfl) rfl ?_
  refine Chain.nil ?_
  refine Ends.then ?_
  refine Cod.nameAt (t := 7) (g := 5002) rfl rfl (isBox_deep fun _ => (isBox_deep fun _ => isBox_cont)) rfl (fun m5002 => ?_)
  refine Cod.open (k := 5002) (g := 5003) rfl rfl (fun s5003 => ?_)
  refine Cod.open (k := 5002) (g := 5004) rfl rfl (fun s5004 => ?_)
  refine Cod.seq ?_
  refine Cod.seq ?_
  refine Cod.region [] mixed (by kernel_rfl) ?_
  refine Chain.cons (StepOK.move .none (.tmp rfl (fun _ => trivial))) rfl ?_
  refine Chain.cons (StepOK.move .none (.tmp rfl (fun _ => trivial))) rfl ?_
  obtain ⟨hn2, h⟩ := need_some h
  refine Chain.cons (StepOK.indexAddr .none sl56 ty67 (.tmp rfl (fun _ => trivial)) (.tmp rfl (fun _ => trivial)) (fun _ => hn2)) rfl ?_
  refine Chain.cons (StepOK.fieldAddr .none fd67_2 hfd67_2 (.tmp rfl (fun _ => trivial))) rfl ?_
  refine Chain.cons (StepOK.load .none ty23 (.tmp rfl (fun _ => trivial))) rfl ?_
  refine Chain.cons (StepOK.len .none sl23 (.tmp rfl (fun _ => trivial))) rfl ?_
  refine Chain.cons (StepOK.eqI .none (.tmp rfl (fun _ => trivial)) (.int (by decide))) rfl ?_
  refine Chain.nil ?_
  refine Ends.then ?_
  obtain ⟨c1, hv3, h⟩ := bnd_some h
  refine Cod.reB (t := 5003) rfl (congrArg (fun y => CPred.at s5003 (mapV y)) hv3) ?_
  obtain ⟨c2, hv4, h⟩ := bnd_some h
  refine Cod.reB (t := 5004) rfl (congrArg (fun y => CPred.at s5004 (mapV y)) hv4) ?_
  refine Cod.cond (t := 34) rfl trivial (fun hb5 => ?_) (fun hb5 => ?_)
  · replace h := bif_t h hb5
    refine Cod.seq ?_
    refine Cod.region [([], []), ([5002], []), ([], []), ([5003], [5003])] mixed (by kernel_rfl) ?_
    refine Chain.consA (StepOK.fieldPtr .none fd104_0 (.tmp rfl (fun _ => trivial))) rfl ?_
    refine Chain.consA (StepOK.loadAt (k := 5002) .none tr102 rfl (.tmp rfl (fun _ => trivial)) hv_Ref_drawn_o01_0) rfl ?_
    refine Chain.consA (StepOK.move .none (.tmp rfl (fun _ => trivial))) rfl ?_
    refine Chain.consN (StepOK.mapUpdate (q := 5003) mo102 (.tmp rfl (fun _ => trivial)) rfl (.tmp rfl (fun _ => trivial)) (.int (by decide))) rfl ?_
    refine Chain.nil ?_
    refine Ends.then ?_
    refine Cod.close (k := 5002) (g := 5004) (fun z => cont 104 (⟨⟨s5003⟩, ⟨z⟩⟩ : Ref_drawn_o01)) rfl rfl rfl ?_
    refine Cod.close (k := 5002) (g := 5003) (fun z => deep (fun z0 => cont 104 (⟨⟨z⟩, ⟨z0⟩⟩ : Ref_drawn_o01)) (mapV c2)) rfl rfl rfl ?_
    refine Cod.freezeAt (g := 5002) (S := ref ((⟨c1.set x.2.1 0, c2⟩ : Ref_drawn) : Ref_drawn)) (ts := [7]) rfl (.cons (t := 7) rfl trivial .nil) (.cons (t := 5001) rfl SubB.nil) rfl (fun M D w h hms => deep_ref2 (mk := (fun s1_ s2_ => (⟨⟨s1_⟩, ⟨s2_⟩⟩ : Ref_drawn_o01))) (y := ((⟨c1.set x.2.1 0, c2⟩ : Ref_drawn) : Ref_drawn)) frzMap frzMap rfl (fun M s1_ s2_ cs w hc g1 g2 => by obtain ⟨c0, q0, e0, h0, h1⟩ := hc; exact ⟨c0, q0, e0, raw_cells rfl rfl h0 g1, raw_cells rfl rfl h1 g2⟩) M D w h hms) ?_
    refine Cod.seq ?_
    refine Cod.region [([], []), ([5001], [5001])] mixed (by kernel_rfl) ?_
    obtain ⟨v2, hv6, h⟩ := bnd_some h
    refine Chain.consA (StepOK.re hv6 (StepOK.load .none ty104 (.tmp rfl (fun _ => trivial)))) rfl ?_
    refine Chain.consN (StepOK.storeAt0 (g := 5001) ty104 rfl (.tmp rfl (fun _ => trivial)) (.tmp rfl (fun _ => trivial))) rfl ?_
    refine Chain.nil ?_
    refine Ends.then ?_
    refine Cod.freezeBox (g := 5001) (ts := [6]) rfl (.cons (t := 6) rfl trivial .nil) SubB.nil rfl ?_
    refine Cod.ret ?_
    refine Ends.thenRet ?_
    obtain rfl := some_eq h
    exact Ends.ret1 (.inl rfl) Try.results69 (ResOK.cellR ty104 rfl trivial Imp.refl)
  · replace h := bif_f h hb5
    refine Cod.skip ?_
    refine Ends.then ?_
    refine Cod.seq ?_
    refine Cod.seq ?_
    refine Cod.region [] mixed (by kernel_rfl) ?_
    refine Chain.cons (StepOK.move .none (.tmp rfl (fun _ => trivial))) rfl ?_
    refine Chain.cons (StepOK.move .none (.tmp rfl (fun _ => trivial))) rfl ?_
    obtain ⟨hn7, h⟩ := need_some h
    refine Chain.cons (StepOK.indexAddr .none sl56 ty67 (.tmp rfl (fun _ => trivial)) (.tmp rfl (fun _ => trivial)) (fun _ => hn7)) rfl ?_
    refine Chain.cons (StepOK.fieldAddr .none fd67_2 hfd67_2 (.tmp rfl (fun _ => trivial))) rfl ?_
    obtain ⟨v3, hv8, h⟩ := bnd_some h
    refine Chain.cons (StepOK.re hv8 (StepOK.load .none ty23 (.tmp rfl (fun _ => trivial)))) rfl ?_
    refine Chain.cons (StepOK.len .none sl23 (.tmp rfl (fun _ => trivial))) rfl ?_
    refine Chain.cons (StepOK.move .none (.int (by decide))) rfl ?_
    refine Chain.nil ?_
    refine Ends.then ?_
    obtain ⟨j_9, h, hK9⟩ := bind_some h
    refine Cod.thenJ (ι := ((GMap Int Int) × (GMap Int Int))) (fun j_9 => []) (fun j_9 => [(5003, some (CPred.at s5003 (mapV j_9.1))), (5004, some (CPred.at s5004 (mapV j_9.2)))]) (fun s => j_9 = s) (.cons (t := 0) rfl (.cons (t := 1) rfl (.cons (t := 6) rfl (.cons (t := 7) rfl Sub.nil)))) (.cons (t := 5001) rfl (.cons (t := 5002) rfl SubB.nil)) ?_ (fun j_9' hj9 => ?_)
    · skip
      refine Cod.block ?_
      refine Cod.rforL h (fun p10_ => [(45, ⟨True, rep p10_.1⟩)]) (fun p10_ => [(5003, some (CPred.at s5003 (mapV p10_.2.1))), (5004, some (CPred.at s5004 (mapV p10_.2.2)))]) (.cons (t := 45) rfl Sub.nil) (.cons (t := 5003) rfl (.cons (t := 5004) rfl SubB.nil)) (.cons (t := 0) rfl (.cons (t := 1) rfl (.cons (t := 2) rfl (.cons (t := 6) rfl (.cons (t := 7) rfl (.cons (t := 43) rfl (.cons (t := 44) rfl Sub.nil))))))) (.cons (t := 5001) rfl (.cons (t := 5002) rfl SubB.nil)) (fun p10_ o_10 h hD10 => ?_)
      refine Cod.seq ?_
      refine Cod.region [] mixed (by kernel_rfl) ?_
      refine Chain.cons (StepOK.lt .none (.tmp rfl (fun _ => trivial)) (.tmp rfl (fun _ => trivial))) rfl ?_
      refine Chain.nil ?_
      refine Ends.then ?_
      refine Cod.seq ?_
      refine Cod.cond (t := 46) rfl trivial (fun hb11 => ?_) (fun hb11 => ?_)
      · replace h := bif_t h hb11
        refine Cod.skip ?_
        refine Ends.then ?_
        refine Cod.seq ?_
        obtain ⟨j_12, h, hK12⟩ := bind_some h
        unfold ref_drawing_L1 at h
        refine Cod.thenJ (ι := ((GMap Int Int) × (GMap Int Int))) (fun j_12 => []) (fun j_12 => [(5003, some (CPred.at s5003 (mapV j_12.1))), (5004, some (CPred.at s5004 (mapV j_12.2)))]) (fun s => j_12 = s) (.cons (t := 0) rfl (.cons (t := 1) rfl (.cons (t := 2) rfl (.cons (t := 6) rfl (.cons (t := 7) rfl (.cons (t := 43) rfl (.cons (t := 44) rfl (.cons (t := 45) rfl Sub.nil)))))))) (.cons (t := 5001) rfl (.cons (t := 5002) rfl SubB.nil)) ?_ (fun j_12' hj12 => ?_)
        · skip
          refine Cod.block ?_
          refine Cod.seq ?_
          refine Cod.region [] mixed (by kernel_rfl) ?_
          obtain ⟨hn13, h⟩ := need_some h
          refine Chain.cons (StepOK.indexAddr .none sl23 ty3 (.tmp rfl (fun _ => trivial)) (.tmp rfl (fun _ => trivial)) (fun _ => hn13)) rfl ?_
          refine Chain.cons (StepOK.load .none ty3 (.tmp rfl (fun _ => trivial))) rfl ?_
          refine Chain.cons (StepOK.assign .none (.tmp rfl (fun _ => trivial))) rfl ?_
          refine Chain.nil ?_
          refine Ends.then ?_
          refine Cod.seq ?_
          refine Cod.region [([], []), ([], []), ([], []), ([], []), ([], [10]), ([10], [10])] mixed (by kernel_rfl) ?_
          refine Chain.consA (StepOK.move .none (.tmp rfl (fun _ => trivial))) rfl ?_
          refine Chain.consA (StepOK.move .none (.tmp rfl (fun _ => trivial))) rfl ?_
          refine Chain.consA (StepOK.move .none (.tmp rfl (fun _ => trivial))) rfl ?_
          obtain ⟨r1, hv14, h⟩ := bind_some h
          refine Chain.consA (StepOK.call .none (hself _ _ hv14) (.cons (.tmp rfl (fun _ => trivial)) (.cons (.tmp rfl (fun _ => trivial)) (.cons (.tmp rfl (fun _ => trivial)) .nil)))) rfl ?_
          refine Chain.consW (StepOK.alloc zo104 rfl) rfl rfl ?_
          refine Chain.consN (StepOK.store ty104 rfl rfl (.tmp rfl (fun _ => trivial))) rfl ?_
          refine Chain.nil ?_
          refine Ends.then ?_
          refine Cod.freeze (t := 10) rfl rfl (.cons (t := 5001) rfl (.cons (t := 5002) rfl (.cons (t := 5003) rfl (.cons (t := 5004) rfl SubB.nil)))) rfl ?_
          refine Cod.seq ?_
          refine Cod.region [] mixed (by kernel_rfl) ?_
          refine Chain.cons (StepOK.assign .none (.int (by decide))) rfl ?_
          refine Chain.cons (StepOK.assign .none .bool) rfl ?_
          refine Chain.nil ?_
          refine Ends.then ?_
          refine Cod.seq ?_
          refine Cod.seq ?_
          refine Cod.region [([], []), ([], []), ([], [55])] mixed (by kernel_rfl) ?_
          refine Chain.consA (StepOK.fieldAddr .none fd104_0 hfd104_0 (.tmp rfl (fun _ => trivial))) rfl ?_
          refine Chain.consA (StepOK.load .none ty102 (.tmp rfl (fun _ => trivial))) rfl ?_
          refine Chain.consW (StepOK.rangeMap Try.underlying102 rfl (.tmp rfl (fun _ => trivial))) rfl rfl ?_
          refine Chain.nil ?_
          refine Ends.then ?_
          refine Cod.nameAt (t := 55) (g := 5005) rfl rfl isBox_iterF rfl (fun m5005 => ?_)
          obtain ⟨j_15, h, hK15⟩ := bind_some h
          refine Cod.thenJ (ι := (Int × Bool)) (fun j_15 => [(11, ⟨True, rep j_15.1⟩), (12, ⟨True, rep j_15.2⟩)]) (fun j_15 => []) (fun s => j_15 = s) (.cons (t := 0) rfl (.cons (t := 1) rfl (.cons (t := 2) rfl (.cons (t := 6) rfl (.cons (t := 7) rfl (.cons (t := 10) rfl (.cons (t := 43) rfl (.cons (t := 44) rfl (.cons (t := 45) rfl (.cons (t := 55) rfl Sub.nil)))))))))) (.cons (t := 5001) rfl (.cons (t := 5002) rfl (.cons (t := 5003) rfl (.cons (t := 5004) rfl SubB.nil)))) ?_ (fun j_15' hj15 => ?_)
          · skip
            refine Cod.block ?_
            refine Cod.listsF (q := 5005) rfl (fun hf16 => ?_)
            refine Cod.mrangeL h hf16 (fun p16_ => [(11, ⟨True, rep p16_.2.1⟩), (12, ⟨True, rep p16_.2.2⟩)]) (fun p16_ => [(5005, some (CPred.at (ptr m5005 0) (iterF r1.x p16_.1)))]) (.cons (t := 11) rfl (.cons (t := 12) rfl Sub.nil)) (.cons (t := 5005) rfl SubB.nil) (.cons (t := 0) rfl (.cons (t := 1) rfl (.cons (t := 2) rfl (.cons (t := 6) rfl (.cons (t := 7) rfl (.cons (t := 10) rfl (.cons (t := 43) rfl (.cons (t := 44) rfl (.cons (t := 45) rfl (.cons (t := 55) rfl Sub.nil)))))))))) (.cons (t := 5001) rfl (.cons (t := 5002) rfl (.cons (t := 5003) rfl (.cons (t := 5004) rfl SubB.nil)))) (fun p16_ H16 => ?_)
            refine Cod.seq ?_
            refine Cod.region [([5005], [56, 5005]), ([56], [57, 56])] mixed (by kernel_rfl) ?_
            refine Chain.consW (StepOK.nextF (k := 5005) rfl rfl (.tmp rfl (fun _ => trivial))) rfl rfl ?_
            refine Chain.consW (StepOK.nextedOk (d := 56) rfl rfl) rfl rfl ?_
            refine Chain.nil ?_
            refine Ends.then ?_
            refine Cod.openNext (t := 57) (k := 5005) rfl rfl rfl (fun o16_ ho16 => ?_)
            obtain ⟨out16_, h, hD16⟩ := H16 o16_ ho16
            refine Cod.againM (fun s' hs' => ⟨o16_, ho16, h.trans (congrArg some hs')⟩) ?_
            refine Cod.seq ?_
            cases o16_ with
            | some x16_ =>
              replace h := mstep_some h
              refine Cod.condT (t := 57) rfl trivial rfl ?_
              refine Cod.skip ?_
              refine Ends.then ?_
              obtain ⟨j_17, h, hK17⟩ := bind_some h
              unfold ref_drawing_L2 at h
              refine Cod.tailJ (ι := (Int × Bool)) (fun j_17 => [(11, ⟨True, rep j_17.1⟩), (12, ⟨True, rep j_17.2⟩)]) (fun j_17 => []) (fun s => j_17 = s) (.cons (t := 0) rfl (.cons (t := 1) rfl (.cons (t := 2) rfl (.cons (t := 6) rfl (.cons (t := 7) rfl (.cons (t := 10) rfl (.cons (t := 43) rfl (.cons (t := 44) rfl (.cons (t := 45) rfl (.cons (t := 55) rfl Sub.nil)))))))))) (.cons (t := 5001) rfl (.cons (t := 5002) rfl (.cons (t := 5003) rfl (.cons (t := 5004) rfl (.cons (t := 5005) rfl SubB.nil))))) ?_ (fun j_17' hj17 => ?_)
              · skip
                refine Cod.block ?_
                refine Cod.seq ?_
                refine Cod.region [([5005], []), ([], []), ([], []), ([], []), ([], [])] mixed (by kernel_rfl) ?_
                refine Chain.consA (StepOK.entryF (k := 5005) (p := p16_.1) (y := x16_) rfl (.tmp rfl (fun _ => trivial))) rfl ?_
                refine Chain.consA (StepOK.extract .none (.tmp rfl (fun _ => trivial)) rfl) rfl ?_
                refine Chain.consA (StepOK.extract .none (.tmp rfl (fun _ => trivial)) rfl) rfl ?_
                refine Chain.consA (StepOK.assign .none (.tmp rfl (fun _ => trivial))) rfl ?_
                refine Chain.consA (StepOK.assign .none (.tmp rfl (fun _ => trivial))) rfl ?_
                refine Chain.nil ?_
                refine Ends.then ?_
                refine Cod.seq ?_
                refine Cod.pin (q := 5003) rfl (fun b18_ es18_ ck18_ l18_ => ?_)
                refine Cod.region [([], []), ([5002], []), ([5003], [63])] mixed (by kernel_rfl) ?_
                refine Chain.consA (StepOK.fieldPtr .none fd104_0 (.tmp rfl (fun _ => trivial))) rfl ?_
                refine Chain.consA (StepOK.loadAt (k := 5002) .none tr102 rfl (.tmp rfl (fun _ => trivial)) hv_Ref_drawn_o01_0) rfl ?_
                refine Chain.consW (StepOK.rangeMapO (q := 5003) Try.underlying102 rfl (.tmp rfl (fun _ => trivial)) rfl) rfl rfl ?_
                refine Chain.nil ?_
                refine Ends.then ?_
                refine Cod.nameAt (t := 63) (g := 5006) rfl rfl isBox_iterO rfl (fun m5006 => ?_)
                refine Cod.block ?_
                refine Cod.listsO (q := 5003) rfl (fun hf19 => ?_)
                refine Cod.mrangeL h hf19 (fun p19_ => [(11, ⟨True, rep p19_.2.1⟩), (12, ⟨True, rep p19_.2.2⟩)]) (fun p19_ => [(5006, some (CPred.at (ptr m5006 0) (iterO b18_ es18_ ck18_ l18_ p19_.1)))]) (.cons (t := 11) rfl (.cons (t := 12) rfl Sub.nil)) (.cons (t := 5006) rfl SubB.nil) (.cons (t := 0) rfl (.cons (t := 1) rfl (.cons (t := 2) rfl (.cons (t := 6) rfl (.cons (t := 7) rfl (.cons (t := 10) rfl (.cons (t := 13) rfl (.cons (t := 14) rfl (.cons (t := 43) rfl (.cons (t := 44) rfl (.cons (t := 45) rfl (.cons (t := 55) rfl (.cons (t := 63) rfl Sub.nil))))))))))))) (.cons (t := 5001) rfl (.cons (t := 5002) rfl (.cons (t := 5003) rfl (.cons (t := 5004) rfl (.cons (t := 5005) rfl SubB.nil))))) (fun p19_ H19 => ?_)
                refine Cod.seq ?_
                refine Cod.region [([5006, 5003], [64, 5006]), ([64], [65, 64])] mixed (by kernel_rfl) ?_
                refine Chain.consW (StepOK.nextO (k := 5006) (q := 5003) rfl rfl rfl (.tmp rfl (fun _ => trivial)) rfl) rfl rfl ?_
                refine Chain.consW (StepOK.nextedOk (d := 64) rfl rfl) rfl rfl ?_
                refine Chain.nil ?_
                refine Ends.then ?_
                refine Cod.openNext (t := 65) (k := 5006) rfl rfl rfl (fun o19_ ho19 => ?_)
                obtain ⟨out19_, h, hD19⟩ := H19 o19_ ho19
                refine Cod.againM (fun s' hs' => ⟨o19_, ho19, h.trans (congrArg some hs')⟩) ?_
                refine Cod.seq ?_
                cases o19_ with
                | some x19_ =>
                  replace h := mstep_some h
                  refine Cod.condT (t := 65) rfl trivial rfl ?_
                  refine Cod.skip ?_
                  refine Ends.then ?_
                  obtain ⟨j_20, h, hK20⟩ := bind_some h
                  unfold ref_drawing_L3 at h
                  refine Cod.tailJ (ι := (Int × Bool)) (fun j_20 => [(11, ⟨True, rep j_20.1⟩), (12, ⟨True, rep j_20.2⟩)]) (fun j_20 => []) (fun s => j_20 = s) (.cons (t := 0) rfl (.cons (t := 1) rfl (.cons (t := 2) rfl (.cons (t := 6) rfl (.cons (t := 7) rfl (.cons (t := 10) rfl (.cons (t := 13) rfl (.cons (t := 14) rfl (.cons (t := 43) rfl (.cons (t := 44) rfl (.cons (t := 45) rfl (.cons (t := 55) rfl (.cons (t := 63) rfl Sub.nil))))))))))))) (.cons (t := 5001) rfl (.cons (t := 5002) rfl (.cons (t := 5003) rfl (.cons (t := 5004) rfl (.cons (t := 5005) rfl (.cons (t := 5006) rfl SubB.nil)))))) ?_ (fun j_20' hj20 => ?_)
                  · skip
                    refine Cod.block ?_
                    refine Cod.seq ?_
                    refine Cod.region [([5006, 5003], []), ([], []), ([], []), ([], []), ([], [])] mixed (by kernel_rfl) ?_
                    refine Chain.consA (StepOK.entryO (k := 5006) (q := 5003) (p := p19_.1) (y := x19_) rfl rfl (.tmp rfl (fun _ => trivial))) rfl ?_
                    refine Chain.consA (StepOK.extract .none (.tmp rfl (fun _ => trivial)) rfl) rfl ?_
                    refine Chain.consA (StepOK.extract .none (.tmp rfl (fun _ => trivial)) rfl) rfl ?_
                    refine Chain.consA (StepOK.assign .none (.tmp rfl (fun _ => trivial))) rfl ?_
                    refine Chain.consA (StepOK.assign .none (.tmp rfl (fun _ => trivial))) rfl ?_
                    refine Chain.nil ?_
                    refine Ends.then ?_
                    refine Cod.seq ?_
                    refine Cod.region [([], []), ([], []), ([], []), ([], []), ([], []), ([], []), ([5002], []), ([], []), ([5004], []), ([], [])] mixed (by kernel_rfl) ?_
                    refine Chain.consA (StepOK.fieldAddr .none fd104_1 hfd104_1 (.tmp rfl (fun _ => trivial))) rfl ?_
                    refine Chain.consA (StepOK.load .none ty102 (.tmp rfl (fun _ => trivial))) rfl ?_
                    refine Chain.consA (StepOK.move .none (.tmp rfl (fun _ => trivial))) rfl ?_
                    refine Chain.consA (StepOK.lookup .none mo102 zo3 (.tmp rfl (fun _ => trivial)) (.tmp rfl (fun _ => trivial))) rfl ?_
                    refine Chain.consA (StepOK.addW .none (.tmp rfl (fun _ => trivial)) (.int (by decide))) rfl ?_
                    refine Chain.consA (StepOK.fieldPtr .none fd104_1 (.tmp rfl (fun _ => trivial))) rfl ?_
                    refine Chain.consA (StepOK.loadAt (k := 5002) .none tr102 rfl (.tmp rfl (fun _ => trivial)) hv_Ref_drawn_o01_1) rfl ?_
                    refine Chain.consA (StepOK.move .none (.tmp rfl (fun _ => trivial))) rfl ?_
                    refine Chain.consA (StepOK.lookupO (q := 5004) .none mo102 zo3 ownMap_self (.told (.tmp rfl (fun _ => trivial)) rfl) (.tmp rfl (fun _ => trivial))) rfl ?_
                    refine Chain.consA (StepOK.eqI .none (.tmp rfl (fun _ => trivial)) (.tmp rfl (fun _ => trivial))) rfl ?_
                    refine Chain.nil ?_
                    refine Ends.then ?_
                    refine Cod.cond (t := 78) rfl trivial (fun hb21 => ?_) (fun hb21 => ?_)
                    · replace h := bif_t h hb21
                      refine Cod.seq ?_
                      refine Cod.region [] mixed (by kernel_rfl) ?_
                      refine Chain.cons (StepOK.move .none (.tmp rfl (fun _ => trivial))) rfl ?_
                      refine Chain.cons (StepOK.move .none (.tmp rfl (fun _ => trivial))) rfl ?_
                      refine Chain.cons (StepOK.move .none (.tmp rfl (fun _ => trivial))) rfl ?_
                      obtain ⟨hn22, h⟩ := need_some h
                      refine Chain.cons (StepOK.indexAddr .none sl56 ty67 (.tmp rfl (fun _ => trivial)) (.tmp rfl (fun _ => trivial)) (fun _ => hn22)) rfl ?_
                      refine Chain.cons (StepOK.fieldAddr .none fd67_0 hfd67_0 (.tmp rfl (fun _ => trivial))) rfl ?_
                      refine Chain.cons (StepOK.load .none ty3 (.tmp rfl (fun _ => trivial))) rfl ?_
                      refine Chain.cons (StepOK.addW .none (.tmp rfl (fun _ => trivial)) (.tmp rfl (fun _ => trivial))) rfl ?_
                      refine Chain.cons (StepOK.move .none (.tmp rfl (fun _ => trivial))) rfl ?_
                      refine Chain.cons (StepOK.addW .none (.tmp rfl (fun _ => trivial)) (.tmp rfl (fun _ => trivial))) rfl ?_
                      refine Chain.cons (StepOK.move .none (.tmp rfl (fun _ => trivial))) rfl ?_
                      refine Chain.cons (StepOK.subW .none (.tmp rfl (fun _ => trivial)) (.tmp rfl (fun _ => trivial))) rfl ?_
                      obtain ⟨s1, hv23, h⟩ := bnd_some h
                      refine Chain.cons (StepOK.re hv23 (StepOK.assign .none (.tmp rfl (fun _ => trivial)))) rfl ?_
                      refine Chain.nil ?_
                      refine Ends.then ?_
                      refine Cod.seq ?_
                      refine Cod.region [] mixed (by kernel_rfl) ?_
                      refine Chain.cons (StepOK.move .none (.tmp rfl (fun _ => trivial))) rfl ?_
                      refine Chain.cons (StepOK.not .none (.tmp rfl (fun _ => trivial))) rfl ?_
                      refine Chain.cons (StepOK.move .none (.tmp rfl (fun _ => trivial))) rfl ?_
                      refine Chain.cons (StepOK.move (.at rfl rfl) (.tmp rfl (fun _ => trivial))) rfl ?_
                      refine Chain.cons (StepOK.move (.at rfl rfl) (.tmp rfl (fun _ => trivial))) rfl ?_
                      refine Chain.cons (StepOK.gt (.at rfl rfl) (.tmp rfl id) (.tmp rfl id)) rfl ?_
                      refine Chain.cons (StepOK.pickOr .none (.tmp rfl (fun _ => trivial)) (.tmp rfl id)) rfl ?_
                      refine Chain.nil ?_
                      refine Ends.then ?_
                      refine Cod.cond (t := 96) rfl trivial (fun hb24 => ?_) (fun hb24 => ?_)
                      · replace h := bif_t h hb24
                        refine Cod.region [] mixed (by kernel_rfl) ?_
                        refine Chain.cons (StepOK.move .none (.tmp rfl (fun _ => trivial))) rfl ?_
                        refine Chain.cons (StepOK.assign .none (.tmp rfl (fun _ => trivial))) rfl ?_
                        refine Chain.cons (StepOK.assign .none .bool) rfl ?_
                        refine Chain.nil ?_
                        refine Ends.blkNormal ?_
                        exact Ends.join _ (some_eq h) (.cons (t := 11) rfl (.cons (t := 12) rfl (.cons (t := 0) rfl (.cons (t := 1) rfl (.cons (t := 2) rfl (.cons (t := 6) rfl (.cons (t := 7) rfl (.cons (t := 10) rfl (.cons (t := 13) rfl (.cons (t := 14) rfl (.cons (t := 43) rfl (.cons (t := 44) rfl (.cons (t := 45) rfl (.cons (t := 55) rfl (.cons (t := 63) rfl Sub.nil))))))))))))))) (.cons (t := 5001) rfl (.cons (t := 5002) rfl (.cons (t := 5003) rfl (.cons (t := 5004) rfl (.cons (t := 5005) rfl (.cons (t := 5006) rfl SubB.nil))))))
                      · replace h := bif_f h hb24
                        refine Cod.skip ?_
                        refine Ends.blkNormal ?_
                        exact Ends.join _ (some_eq h) (.cons (t := 11) rfl (.cons (t := 12) rfl (.cons (t := 0) rfl (.cons (t := 1) rfl (.cons (t := 2) rfl (.cons (t := 6) rfl (.cons (t := 7) rfl (.cons (t := 10) rfl (.cons (t := 13) rfl (.cons (t := 14) rfl (.cons (t := 43) rfl (.cons (t := 44) rfl (.cons (t := 45) rfl (.cons (t := 55) rfl (.cons (t := 63) rfl Sub.nil))))))))))))))) (.cons (t := 5001) rfl (.cons (t := 5002) rfl (.cons (t := 5003) rfl (.cons (t := 5004) rfl (.cons (t := 5005) rfl (.cons (t := 5006) rfl SubB.nil))))))
                    · replace h := bif_f h hb21
                      refine Cod.skip ?_
                      refine Ends.blkNormal ?_
                      exact Ends.join _ (some_eq h) (.cons (t := 11) rfl (.cons (t := 12) rfl (.cons (t := 0) rfl (.cons (t := 1) rfl (.cons (t := 2) rfl (.cons (t := 6) rfl (.cons (t := 7) rfl (.cons (t := 10) rfl (.cons (t := 13) rfl (.cons (t := 14) rfl (.cons (t := 43) rfl (.cons (t := 44) rfl (.cons (t := 45) rfl (.cons (t := 55) rfl (.cons (t := 63) rfl Sub.nil))))))))))))))) (.cons (t := 5001) rfl (.cons (t := 5002) rfl (.cons (t := 5003) rfl (.cons (t := 5004) rfl (.cons (t := 5005) rfl (.cons (t := 5006) rfl SubB.nil))))))
                  · subst hj20; have h := hK20; clear hK20
                    exact Ends.againL (some_eq h) (.cons (t := 11) rfl (.cons (t := 12) rfl (.cons (t := 0) rfl (.cons (t := 1) rfl (.cons (t := 2) rfl (.cons (t := 6) rfl (.cons (t := 7) rfl (.cons (t := 10) rfl (.cons (t := 13) rfl (.cons (t := 14) rfl (.cons (t := 43) rfl (.cons (t := 44) rfl (.cons (t := 45) rfl (.cons (t := 55) rfl (.cons (t := 63) rfl Sub.nil))))))))))))))) (.cons (t := 5006) rfl (.cons (t := 5001) rfl (.cons (t := 5002) rfl (.cons (t := 5003) rfl (.cons (t := 5004) rfl (.cons (t := 5005) rfl SubB.nil))))))
                | none =>
                  replace h := mstep_none h
                  refine Cod.condF (t := 65) rfl trivial rfl ?_
                  refine Cod.exit ?_
                  refine Ends.thenExit ?_
                  refine Ends.thenExit ?_
                  refine Ends.blkExit ?_
                  refine Ends.blkNormal ?_
                  refine Ends.unpin (q := 5003) rfl ?_
                  replace h := hD19 _ (some_eq h)
                  exact Ends.join _ (some_eq h) (.cons (t := 11) rfl (.cons (t := 12) rfl (.cons (t := 0) rfl (.cons (t := 1) rfl (.cons (t := 2) rfl (.cons (t := 6) rfl (.cons (t := 7) rfl (.cons (t := 10) rfl (.cons (t := 43) rfl (.cons (t := 44) rfl (.cons (t := 45) rfl (.cons (t := 55) rfl Sub.nil)))))))))))) (.cons (t := 5001) rfl (.cons (t := 5002) rfl (.cons (t := 5003) rfl (.cons (t := 5004) rfl (.cons (t := 5005) rfl SubB.nil)))))
              · subst hj17; have h := hK17; clear hK17
                exact Ends.againL (some_eq h) (.cons (t := 11) rfl (.cons (t := 12) rfl (.cons (t := 0) rfl (.cons (t := 1) rfl (.cons (t := 2) rfl (.cons (t := 6) rfl (.cons (t := 7) rfl (.cons (t := 10) rfl (.cons (t := 43) rfl (.cons (t := 44) rfl (.cons (t := 45) rfl (.cons (t := 55) rfl Sub.nil)))))))))))) (.cons (t := 5005) rfl (.cons (t := 5001) rfl (.cons (t := 5002) rfl (.cons (t := 5003) rfl (.cons (t := 5004) rfl SubB.nil)))))
            | none =>
              replace h := mstep_none h
              refine Cod.condF (t := 57) rfl trivial rfl ?_
              refine Cod.exit ?_
              refine Ends.thenExit ?_
              refine Ends.thenExit ?_
              refine Ends.blkExit ?_
              replace h := hD16 _ (some_eq h)
              exact Ends.join _ (some_eq h) (.cons (t := 11) rfl (.cons (t := 12) rfl (.cons (t := 0) rfl (.cons (t := 1) rfl (.cons (t := 2) rfl (.cons (t := 6) rfl (.cons (t := 7) rfl (.cons (t := 10) rfl (.cons (t := 43) rfl (.cons (t := 44) rfl (.cons (t := 45) rfl (.cons (t := 55) rfl Sub.nil)))))))))))) (.cons (t := 5001) rfl (.cons (t := 5002) rfl (.cons (t := 5003) rfl (.cons (t := 5004) rfl SubB.nil))))
          · subst hj15; have h := hK15; clear hK15
            refine Cod.seq ?_
            refine Cod.region [([], []), ([], []), ([], [100])] mixed (by kernel_rfl) ?_
            refine Chain.consA (StepOK.fieldAddr .none fd104_0 hfd104_0 (.tmp rfl (fun _ => trivial))) rfl ?_
            refine Chain.consA (StepOK.load .none ty102 (.tmp rfl (fun _ => trivial))) rfl ?_
            refine Chain.consW (StepOK.rangeMap Try.underlying102 rfl (.tmp rfl (fun _ => trivial))) rfl rfl ?_
            refine Chain.nil ?_
            refine Ends.then ?_
            refine Cod.nameAt (t := 100) (g := 5007) rfl rfl isBox_iterF rfl (fun m5007 => ?_)
            refine Cod.block ?_
            refine Cod.listsF (q := 5007) rfl (fun hf25 => ?_)
            refine Cod.mrangeL h hf25 (fun p25_ => []) (fun p25_ => [(5007, some (CPred.at (ptr m5007 0) (iterF r1.x p25_.1))), (5003, some (CPred.at s5003 (mapV p25_.2.1))), (5004, some (CPred.at s5004 (mapV p25_.2.2)))]) Sub.nil (.cons (t := 5007) rfl (.cons (t := 5003) rfl (.cons (t := 5004) rfl SubB.nil))) (.cons (t := 0) rfl (.cons (t := 1) rfl (.cons (t := 2) rfl (.cons (t := 6) rfl (.cons (t := 7) rfl (.cons (t := 10) rfl (.cons (t := 11) rfl (.cons (t := 43) rfl (.cons (t := 44) rfl (.cons (t := 45) rfl (.cons (t := 100) rfl Sub.nil))))))))))) (.cons (t := 5001) rfl (.cons (t := 5002) rfl SubB.nil)) (fun p25_ H25 => ?_)
            refine Cod.seq ?_
            refine Cod.region [([5007], [101, 5007]), ([101], [102, 101])] mixed (by kernel_rfl) ?_
            refine Chain.consW (StepOK.nextF (k := 5007) rfl rfl (.tmp rfl (fun _ => trivial))) rfl rfl ?_
            refine Chain.consW (StepOK.nextedOk (d := 101) rfl rfl) rfl rfl ?_
            refine Chain.nil ?_
            refine Ends.then ?_
            refine Cod.openNext (t := 102) (k := 5007) rfl rfl rfl (fun o25_ ho25 => ?_)
            obtain ⟨out25_, h, hD25⟩ := H25 o25_ ho25
            refine Cod.againM (fun s' hs' => ⟨o25_, ho25, h.trans (congrArg some hs')⟩) ?_
            refine Cod.seq ?_
            cases o25_ with
            | some x25_ =>
              replace h := mstep_some h
              refine Cod.condT (t := 102) rfl trivial rfl ?_
              refine Cod.skip ?_
              refine Ends.then ?_
              obtain ⟨j_26, h, hK26⟩ := bind_some h
              unfold ref_drawing_L4 at h
              refine Cod.tailJ (ι := ((GMap Int Int) × (GMap Int Int))) (fun j_26 => []) (fun j_26 => [(5003, some (CPred.at s5003 (mapV j_26.1))), (5004, some (CPred.at s5004 (mapV j_26.2)))]) (fun s => j_26 = s) (.cons (t := 0) rfl (.cons (t := 1) rfl (.cons (t := 2) rfl (.cons (t := 6) rfl (.cons (t := 7) rfl (.cons (t := 10) rfl (.cons (t := 11) rfl (.cons (t := 43) rfl (.cons (t := 44) rfl (.cons (t := 45) rfl (.cons (t := 100) rfl Sub.nil))))))))))) (.cons (t := 5001) rfl (.cons (t := 5002) rfl (.cons (t := 5007) rfl SubB.nil))) ?_ (fun j_26' hj26 => ?_)
              · skip
                refine Cod.block ?_
                refine Cod.seq ?_
                refine Cod.region [([5007], []), ([], []), ([], []), ([], []), ([], [])] mixed (by kernel_rfl) ?_
                refine Chain.consA (StepOK.entryF (k := 5007) (p := p25_.1) (y := x25_) rfl (.tmp rfl (fun _ => trivial))) rfl ?_
                refine Chain.consA (StepOK.extract .none (.tmp rfl (fun _ => trivial)) rfl) rfl ?_
                refine Chain.consA (StepOK.extract .none (.tmp rfl (fun _ => trivial)) rfl) rfl ?_
                refine Chain.consA (StepOK.assign .none (.tmp rfl (fun _ => trivial))) rfl ?_
                refine Chain.consA (StepOK.assign .none (.tmp rfl (fun _ => trivial))) rfl ?_
                refine Chain.nil ?_
                refine Ends.then ?_
                refine Cod.region [([], []), ([5002], []), ([], []), ([], []), ([5002], []), ([], []), ([], []), ([], []), ([], []), ([], []), ([], []), ([], []), ([], []), ([], []), ([5003], [5003]), ([5004], [5004])] mixed (by kernel_rfl) ?_
                refine Chain.consA (StepOK.fieldPtr .none fd104_0 (.tmp rfl (fun _ => trivial))) rfl ?_
                refine Chain.consA (StepOK.loadAt (k := 5002) .none tr102 rfl (.tmp rfl (fun _ => trivial)) hv_Ref_drawn_o01_0) rfl ?_
                refine Chain.consA (StepOK.move .none (.tmp rfl (fun _ => trivial))) rfl ?_
                refine Chain.consA (StepOK.fieldPtr .none fd104_1 (.tmp rfl (fun _ => trivial))) rfl ?_
                refine Chain.consA (StepOK.loadAt (k := 5002) .none tr102 rfl (.tmp rfl (fun _ => trivial)) hv_Ref_drawn_o01_1) rfl ?_
                refine Chain.consA (StepOK.move .none (.tmp rfl (fun _ => trivial))) rfl ?_
                refine Chain.consA (StepOK.move .none (.tmp rfl (fun _ => trivial))) rfl ?_
                refine Chain.consA (StepOK.move .none (.tmp rfl (fun _ => trivial))) rfl ?_
                refine Chain.consA (StepOK.addW .none (.tmp rfl (fun _ => trivial)) (.tmp rfl (fun _ => trivial))) rfl ?_
                refine Chain.consA (StepOK.fieldAddr .none fd104_1 hfd104_1 (.tmp rfl (fun _ => trivial))) rfl ?_
                refine Chain.consA (StepOK.load .none ty102 (.tmp rfl (fun _ => trivial))) rfl ?_
                refine Chain.consA (StepOK.move .none (.tmp rfl (fun _ => trivial))) rfl ?_
                refine Chain.consA (StepOK.lookup .none mo102 zo3 (.tmp rfl (fun _ => trivial)) (.tmp rfl (fun _ => trivial))) rfl ?_
                refine Chain.consA (StepOK.addW .none (.tmp rfl (fun _ => trivial)) (.int (by decide))) rfl ?_
                refine Chain.consN (StepOK.mapUpdate (q := 5003) mo102 (.tmp rfl (fun _ => trivial)) rfl (.tmp rfl (fun _ => trivial)) (.tmp rfl (fun _ => trivial))) rfl ?_
                refine Chain.consN (StepOK.mapUpdate (q := 5004) mo102 (.tmp rfl (fun _ => trivial)) rfl (.tmp rfl (fun _ => trivial)) (.tmp rfl (fun _ => trivial))) rfl ?_
                refine Chain.nil ?_
                refine Ends.blkNormal ?_
                exact Ends.join _ (some_eq h) (.cons (t := 0) rfl (.cons (t := 1) rfl (.cons (t := 2) rfl (.cons (t := 6) rfl (.cons (t := 7) rfl (.cons (t := 10) rfl (.cons (t := 11) rfl (.cons (t := 43) rfl (.cons (t := 44) rfl (.cons (t := 45) rfl (.cons (t := 100) rfl Sub.nil))))))))))) (.cons (t := 5003) rfl (.cons (t := 5004) rfl (.cons (t := 5001) rfl (.cons (t := 5002) rfl (.cons (t := 5007) rfl SubB.nil)))))
              · subst hj26; have h := hK26; clear hK26
                exact Ends.againL (some_eq h) (.cons (t := 0) rfl (.cons (t := 1) rfl (.cons (t := 2) rfl (.cons (t := 6) rfl (.cons (t := 7) rfl (.cons (t := 10) rfl (.cons (t := 11) rfl (.cons (t := 43) rfl (.cons (t := 44) rfl (.cons (t := 45) rfl (.cons (t := 100) rfl Sub.nil))))))))))) (.cons (t := 5007) rfl (.cons (t := 5003) rfl (.cons (t := 5004) rfl (.cons (t := 5001) rfl (.cons (t := 5002) rfl SubB.nil)))))
            | none =>
              replace h := mstep_none h
              refine Cod.condF (t := 102) rfl trivial rfl ?_
              refine Cod.exit ?_
              refine Ends.thenExit ?_
              refine Ends.thenExit ?_
              refine Ends.blkExit ?_
              refine Ends.blkNormal ?_
              replace h := hD25 _ (some_eq h)
              exact Ends.join _ (some_eq h) (.cons (t := 0) rfl (.cons (t := 1) rfl (.cons (t := 2) rfl (.cons (t := 6) rfl (.cons (t := 7) rfl (.cons (t := 43) rfl (.cons (t := 44) rfl (.cons (t := 45) rfl Sub.nil)))))))) (.cons (t := 5003) rfl (.cons (t := 5004) rfl (.cons (t := 5001) rfl (.cons (t := 5002) rfl SubB.nil))))
        · subst hj12; have h := hK12; clear hK12
          refine Cod.region [] mixed (by kernel_rfl) ?_
          refine Chain.cons (StepOK.addW .none (.tmp rfl (fun _ => trivial)) (.int (by decide))) rfl ?_
          refine Chain.cons (StepOK.move .none (.tmp rfl (fun _ => trivial))) rfl ?_
          refine Chain.nil ?_
          exact Ends.againL (some_eq h) (.cons (t := 45) rfl (.cons (t := 0) rfl (.cons (t := 1) rfl (.cons (t := 2) rfl (.cons (t := 6) rfl (.cons (t := 7) rfl (.cons (t := 43) rfl (.cons (t := 44) rfl Sub.nil)))))))) (.cons (t := 5003) rfl (.cons (t := 5004) rfl (.cons (t := 5001) rfl (.cons (t := 5002) rfl SubB.nil))))
      · replace h := bif_f h hb11
        refine Cod.exit ?_
        refine Ends.thenExit ?_
        refine Ends.thenExit ?_
        refine Ends.blkExit ?_
        replace h := hD10 _ (some_eq h)
        exact Ends.join _ (some_eq h) (.cons (t := 0) rfl (.cons (t := 1) rfl (.cons (t := 6) rfl (.cons (t := 7) rfl Sub.nil)))) (.cons (t := 5003) rfl (.cons (t := 5004) rfl (.cons (t := 5001) rfl (.cons (t := 5002) rfl SubB.nil))))
    · subst hj9; have h := hK9; clear hK9
      refine Cod.seq ?_
      refine Cod.region [] mixed (by kernel_rfl) ?_
      refine Chain.cons (StepOK.move .none (.tmp rfl (fun _ => trivial))) rfl ?_
      refine Chain.cons (StepOK.move .none (.tmp rfl (fun _ => trivial))) rfl ?_
      obtain ⟨hn27, h⟩ := need_some h
      refine Chain.cons (StepOK.indexAddr .none sl56 ty67 (.tmp rfl (fun _ => trivial)) (.tmp rfl (fun _ => trivial)) (fun _ => hn27)) rfl ?_
      refine Chain.cons (StepOK.fieldAddr .none fd67_2 hfd67_2 (.tmp rfl (fun _ => trivial))) rfl ?_
      refine Chain.cons (StepOK.load .none ty23 (.tmp rfl (fun _ => trivial))) rfl ?_
      obtain ⟨kids1, hv28, h⟩ := bnd_some h
      refine Chain.cons (StepOK.re hv28 (StepOK.assign .none (.tmp rfl (fun _ => trivial)))) rfl ?_
      refine Chain.nil ?_
      refine Ends.then ?_
      refine Cod.seq ?_
      refine Cod.region [] mixed (by kernel_rfl) ?_
      refine Chain.cons (StepOK.move .none (.tmp rfl (fun _ => trivial))) rfl ?_
      obtain ⟨hn29, h⟩ := need_some h
      refine Chain.cons (StepOK.indexAddr .none sl23 ty3 (.tmp rfl (fun _ => trivial)) (.int (by decide)) (fun _ => hn29)) rfl ?_
      refine Chain.cons (StepOK.load .none ty3 (.tmp rfl (fun _ => trivial))) rfl ?_
      refine Chain.cons (StepOK.move .none (.tmp rfl (fun _ => trivial))) rfl ?_
      refine Chain.cons (StepOK.move .none (.tmp rfl (fun _ => trivial))) rfl ?_
      refine Chain.cons (StepOK.len .none sl23 (.tmp rfl (fun _ => trivial))) rfl ?_
      refine Chain.cons (StepOK.subW .none (.tmp rfl (fun _ => trivial)) (.int (by decide))) rfl ?_
      obtain ⟨hn30, h⟩ := need_some h
      refine Chain.cons (StepOK.indexAddr .none sl23 ty3 (.tmp rfl (fun _ => trivial)) (.tmp rfl (fun _ => trivial)) (fun _ => hn30)) rfl ?_
      refine Chain.cons (StepOK.load .none ty3 (.tmp rfl (fun _ => trivial))) rfl ?_
      refine Chain.cons (StepOK.assign .none (.tmp rfl (fun _ => trivial))) rfl ?_
      obtain ⟨last1, hv31, h⟩ := bnd_some h
      refine Chain.cons (StepOK.re hv31 (StepOK.assign .none (.tmp rfl (fun _ => trivial)))) rfl ?_
      refine Chain.nil ?_
      refine Ends.then ?_
      refine Cod.seq ?_
      refine Cod.region [([], []), ([5002], []), ([], []), ([], []), ([5002], []), ([], []), ([5003], []), ([], []), ([5002], []), ([], []), ([5003], []), ([], []), ([], []), ([], []), ([], []), ([], []), ([], []), ([], []), ([], []), ([], []), ([], []), ([], []), ([], []), ([], []), ([], []), ([], []), ([5003], [5003])] mixed (by kernel_rfl) ?_
      refine Chain.consA (StepOK.fieldPtr .none fd104_0 (.tmp rfl (fun _ => trivial))) rfl ?_
      refine Chain.consA (StepOK.loadAt (k := 5002) .none tr102 rfl (.tmp rfl (fun _ => trivial)) hv_Ref_drawn_o01_0) rfl ?_
      refine Chain.consA (StepOK.move .none (.tmp rfl (fun _ => trivial))) rfl ?_
      refine Chain.consA (StepOK.fieldPtr .none fd104_0 (.tmp rfl (fun _ => trivial))) rfl ?_
      refine Chain.consA (StepOK.loadAt (k := 5002) .none tr102 rfl (.tmp rfl (fun _ => trivial)) hv_Ref_drawn_o01_0) rfl ?_
      refine Chain.consA (StepOK.move .none (.tmp rfl (fun _ => trivial))) rfl ?_
      refine Chain.consA (StepOK.lookupO (q := 5003) .none mo102 zo3 ownMap_self (.told (.tmp rfl (fun _ => trivial)) rfl) (.tmp rfl (fun _ => trivial))) rfl ?_
      refine Chain.consA (StepOK.fieldPtr .none fd104_0 (.tmp rfl (fun _ => trivial))) rfl ?_
      refine Chain.consA (StepOK.loadAt (k := 5002) .none tr102 rfl (.tmp rfl (fun _ => trivial)) hv_Ref_drawn_o01_0) rfl ?_
      refine Chain.consA (StepOK.move .none (.tmp rfl (fun _ => trivial))) rfl ?_
      refine Chain.consA (StepOK.lookupO (q := 5003) .none mo102 zo3 ownMap_self (.told (.tmp rfl (fun _ => trivial)) rfl) (.tmp rfl (fun _ => trivial))) rfl ?_
      refine Chain.consA (StepOK.addW .none (.tmp rfl (fun _ => trivial)) (.tmp rfl (fun _ => trivial))) rfl ?_
      refine Chain.consA (StepOK.move .none (.tmp rfl (fun _ => trivial))) rfl ?_
      refine Chain.consA (StepOK.move .none (.tmp rfl (fun _ => trivial))) rfl ?_
      obtain ⟨hn32, h⟩ := need_some h
      refine Chain.consA (StepOK.indexAddr .none sl56 ty67 (.tmp rfl (fun _ => trivial)) (.tmp rfl (fun _ => trivial)) (fun _ => hn32)) rfl ?_
      refine Chain.consA (StepOK.fieldAddr .none fd67_0 hfd67_0 (.tmp rfl (fun _ => trivial))) rfl ?_
      refine Chain.consA (StepOK.load .none ty3 (.tmp rfl (fun _ => trivial))) rfl ?_
      refine Chain.consA (StepOK.addW .none (.tmp rfl (fun _ => trivial)) (.tmp rfl (fun _ => trivial))) rfl ?_
      obtain ⟨r2, hv33, h⟩ := bind_some h
      refine Chain.consA (StepOK.call .none (ref_Down_ok hv33) (.cons (.tmp rfl (fun _ => trivial)) (.cons (.int (by decide)) .nil))) rfl ?_
      refine Chain.consA (StepOK.move .none (.tmp rfl (fun _ => trivial))) rfl ?_
      refine Chain.consA (StepOK.move .none (.tmp rfl (fun _ => trivial))) rfl ?_
      obtain ⟨hn34, h⟩ := need_some h
      refine Chain.consA (StepOK.indexAddr .none sl56 ty67 (.tmp rfl (fun _ => trivial)) (.tmp rfl (fun _ => trivial)) (fun _ => hn34)) rfl ?_
      refine Chain.consA (StepOK.fieldAddr .none fd67_0 hfd67_0 (.tmp rfl (fun _ => trivial))) rfl ?_
      refine Chain.consA (StepOK.load .none ty3 (.tmp rfl (fun _ => trivial))) rfl ?_
      obtain ⟨r3, hv35, h⟩ := bind_some h
      refine Chain.consA (StepOK.call .none (ref_Down_ok hv35) (.cons (.tmp rfl (fun _ => trivial)) (.cons (.int (by decide)) .nil))) rfl ?_
      refine Chain.consA (StepOK.subW .none (.tmp rfl (fun _ => trivial)) (.tmp rfl (fun _ => trivial))) rfl ?_
      refine Chain.consN (StepOK.mapUpdate (q := 5003) mo102 (.tmp rfl (fun _ => trivial)) rfl (.tmp rfl (fun _ => trivial)) (.tmp rfl (fun _ => trivial))) rfl ?_
      refine Chain.nil ?_
      refine Ends.then ?_
      refine Cod.close (k := 5002) (g := 5004) (fun z => cont 104 (⟨⟨s5003⟩, ⟨z⟩⟩ : Ref_drawn_o01)) rfl rfl rfl ?_
      refine Cod.close (k := 5002) (g := 5003) (fun z => deep (fun z0 => cont 104 (⟨⟨z⟩, ⟨z0⟩⟩ : Ref_drawn_o01)) (mapV j_9.2)) rfl rfl rfl ?_
      refine Cod.freezeAt (g := 5002) (S := ref ((⟨j_9.1.set x.2.1 (W (r2 - r3)), j_9.2⟩ : Ref_drawn) : Ref_drawn)) (ts := [7]) rfl (.cons (t := 7) rfl trivial .nil) (.cons (t := 5001) rfl SubB.nil) rfl (fun M D w h hms => deep_ref2 (mk := (fun s1_ s2_ => (⟨⟨s1_⟩, ⟨s2_⟩⟩ : Ref_drawn_o01))) (y := ((⟨j_9.1.set x.2.1 (W (r2 - r3)), j_9.2⟩ : Ref_drawn) : Ref_drawn)) frzMap frzMap rfl (fun M s1_ s2_ cs w hc g1 g2 => by obtain ⟨c0, q0, e0, h0, h1⟩ := hc; exact ⟨c0, q0, e0, raw_cells rfl rfl h0 g1, raw_cells rfl rfl h1 g2⟩) M D w h hms) ?_
      refine Cod.seq ?_
      refine Cod.region [([], []), ([5001], [5001])] mixed (by kernel_rfl) ?_
      obtain ⟨v4, hv36, h⟩ := bnd_some h
      refine Chain.consA (StepOK.re hv36 (StepOK.load .none ty104 (.tmp rfl (fun _ => trivial)))) rfl ?_
      refine Chain.consN (StepOK.storeAt0 (g := 5001) ty104 rfl (.tmp rfl (fun _ => trivial)) (.tmp rfl (fun _ => trivial))) rfl ?_
      refine Chain.nil ?_
      refine Ends.then ?_
      refine Cod.freezeBox (g := 5001) (ts := [6]) rfl (.cons (t := 6) rfl trivial .nil) SubB.nil rfl ?_
      refine Cod.ret ?_
      obtain rfl := some_eq h
      exact Ends.ret1 (.inl rfl) Try.results69 (ResOK.cellR ty104 rfl trivial Imp.refl)
theorem ref_drawing_okN : ∀ (k : Nat)  (x : ((List Branch) × Int × Int)) (r : Ref_drawn) (h : fixN ref_drawing_body k x = some r), FSpec Try.prog 69 [rep x.1, rep x.2.1, rep x.2.2] (rep r)
  | 0, x, r, h => by simp [fixN] at h
  | k + 1, x, r, h => ref_drawing_okS (ref_drawing_okN k) h
theorem ref_drawing_ok {t1 : (List Branch)} {n1 : Int} {gapx1 : Int} {r : Ref_drawn}  (h : ref_drawing t1 n1 gapx1 = some r) : FSpec Try.prog 69 [rep t1, rep n1, rep gapx1] (rep r) :=
  let ⟨k, hk⟩ := fixp_some h
  ref_drawing_okN k (t1, n1, gapx1) r hk

theorem ref_TidyTree_ok {t1 : (List Branch)} {gapx1 : Int} {gapy1 : Int} {r : (List Point)}  (h : ref_TidyTree t1 gapx1 gapy1 = some r) : FSpec Try.prog 33 [rep t1, rep gapx1, rep gapy1] (rep r) := by
  unfold ref_TidyTree at h
  refine FSpec.intro (n := 76) fnok33 Try.func33 rfl Try.ntmps33 rfl (fun F => ?_)
  refine Cod.seq ?_
  refine Cod.region [] mixed (by kernel_rfl) ?_
  refine Chain.cons (StepOK.assign .none (.const (x := ([] : (List Point))) (fun M w => ⟨_, ⟨none, 0, rfl, Nat.le_refl _, by decide, rfl⟩, rfl⟩))) rfl ?_
  refine Chain.nil ?_
  refine Ends.then ?_
  refine Cod.seq ?_
  refine Cod.region [([], []), ([], []), ([], []), ([], [7]), ([7], [7])] mixed (by kernel_rfl) ?_
  refine Chain.consA (StepOK.move .none (.tmp rfl (fun _ => trivial))) rfl ?_
  refine Chain.consA (StepOK.move .none (.tmp rfl (fun _ => trivial))) rfl ?_
  obtain ⟨r1, hv1, h⟩ := bind_some h
  refine Chain.consA (StepOK.call .none (ref_drawing_ok hv1) (.cons (.tmp rfl (fun _ => trivial)) (.cons (.int (by decide)) (.cons (.tmp rfl (fun _ => trivial)) .nil)))) rfl ?_
  refine Chain.consW (StepOK.alloc zo104 rfl) rfl rfl ?_
  refine Chain.consN (StepOK.store ty104 rfl rfl (.tmp rfl (fun _ => trivial))) rfl ?_
  refine Chain.nil ?_
  refine Ends.then ?_
  refine Cod.freeze (t := 7) rfl rfl SubB.nil rfl ?_
  refine Cod.seq ?_
  refine Cod.region [] mixed (by kernel_rfl) ?_
  refine Chain.cons (StepOK.fieldAddr .none fd104_0 hfd104_0 (.tmp rfl (fun _ => trivial))) rfl ?_
  refine Chain.cons (StepOK.load .none ty102 (.tmp rfl (fun _ => trivial))) rfl ?_
  refine Chain.cons (StepOK.lookup .none mo102 zo3 (.tmp rfl (fun _ => trivial)) (.int (by decide))) rfl ?_
  obtain ⟨low1, hv2, h⟩ := bnd_some h
  refine Chain.cons (StepOK.re hv2 (StepOK.assign .none (.tmp rfl (fun _ => trivial)))) rfl ?_
  refine Chain.nil ?_
  refine Ends.then ?_
  refine Cod.seq ?_
  refine Cod.seq ?_
  refine Cod.region [([], []), ([], []), ([], [26])] mixed (by kernel_rfl) ?_
  refine Chain.consA (StepOK.fieldAddr .none fd104_0 hfd104_0 (.tmp rfl (fun _ => trivial))) rfl ?_
  refine Chain.consA (StepOK.load .none ty102 (.tmp rfl (fun _ => trivial))) rfl ?_
  refine Chain.consW (StepOK.rangeMap Try.underlying102 rfl (.tmp rfl (fun _ => trivial))) rfl rfl ?_
  refine Chain.nil ?_
  refine Ends.then ?_
  refine Cod.nameAt (t := 26) (g := 5001) rfl rfl isBox_iterF rfl (fun m5001 => ?_)
  obtain ⟨j_3, h, hK3⟩ := bind_some h
  refine Cod.thenJ (ι := Int) (fun j_3 => [(8, ⟨True, rep j_3⟩)]) (fun j_3 => []) (fun s => j_3 = s) (.cons (t := 0) rfl (.cons (t := 2) rfl (.cons (t := 7) rfl (.cons (t := 26) rfl Sub.nil)))) SubB.nil ?_ (fun j_3' hj3 => ?_)
  · skip
    refine Cod.block ?_
    refine Cod.listsF (q := 5001) rfl (fun hf4 => ?_)
    refine Cod.mrangeL h hf4 (fun p4_ => [(8, ⟨True, rep p4_.2⟩)]) (fun p4_ => [(5001, some (CPred.at (ptr m5001 0) (iterF r1.x p4_.1)))]) (.cons (t := 8) rfl Sub.nil) (.cons (t := 5001) rfl SubB.nil) (.cons (t := 0) rfl (.cons (t := 2) rfl (.cons (t := 7) rfl (.cons (t := 26) rfl Sub.nil)))) SubB.nil (fun p4_ H4 => ?_)
    refine Cod.seq ?_
    refine Cod.region [([5001], [27, 5001]), ([27], [28, 27])] mixed (by kernel_rfl) ?_
    refine Chain.consW (StepOK.nextF (k := 5001) rfl rfl (.tmp rfl (fun _ => trivial))) rfl rfl ?_
    refine Chain.consW (StepOK.nextedOk (d := 27) rfl rfl) rfl rfl ?_
    refine Chain.nil ?_
    refine Ends.then ?_
    refine Cod.openNext (t := 28) (k := 5001) rfl rfl rfl (fun o4_ ho4 => ?_)
    obtain ⟨out4_, h, hD4⟩ := H4 o4_ ho4
    refine Cod.againM (fun s' hs' => ⟨o4_, ho4, h.trans (congrArg some hs')⟩) ?_
    refine Cod.seq ?_
    cases o4_ with
    | some x4_ =>
      replace h := mstep_some h
      refine Cod.condT (t := 28) rfl trivial rfl ?_
      refine Cod.skip ?_
      refine Ends.then ?_
      obtain ⟨j_5, h, hK5⟩ := bind_some h
      unfold ref_TidyTree_L1 at h
      refine Cod.tailJ (ι := Int) (fun j_5 => [(8, ⟨True, rep j_5⟩)]) (fun j_5 => []) (fun s => j_5 = s) (.cons (t := 0) rfl (.cons (t := 2) rfl (.cons (t := 7) rfl (.cons (t := 26) rfl Sub.nil)))) (.cons (t := 5001) rfl SubB.nil) ?_ (fun j_5' hj5 => ?_)
      · skip
        refine Cod.block ?_
        refine Cod.seq ?_
        refine Cod.region [([5001], []), ([], []), ([], [])] mixed (by kernel_rfl) ?_
        refine Chain.consA (StepOK.entryF (k := 5001) (p := p4_.1) (y := x4_) rfl (.tmp rfl (fun _ => trivial))) rfl ?_
        refine Chain.consA (StepOK.extract .none (.tmp rfl (fun _ => trivial)) rfl) rfl ?_
        refine Chain.consA (StepOK.assign .none (.tmp rfl (fun _ => trivial))) rfl ?_
        refine Chain.nil ?_
        refine Ends.then ?_
        refine Cod.region [] mixed (by kernel_rfl) ?_
        refine Chain.cons (StepOK.move .none (.tmp rfl (fun _ => trivial))) rfl ?_
        refine Chain.cons (StepOK.move .none (.tmp rfl (fun _ => trivial))) rfl ?_
        refine Chain.cons (StepOK.min2 .none (.tmp rfl (fun _ => trivial)) (.tmp rfl (fun _ => trivial))) rfl ?_
        obtain ⟨low2, hv6, h⟩ := bnd_some h
        refine Chain.cons (StepOK.re hv6 (StepOK.assign .none (.tmp rfl (fun _ => trivial)))) rfl ?_
        refine Chain.nil ?_
        refine Ends.blkNormal ?_
        exact Ends.join _ (some_eq h) (.cons (t := 8) rfl (.cons (t := 0) rfl (.cons (t := 2) rfl (.cons (t := 7) rfl (.cons (t := 26) rfl Sub.nil))))) (.cons (t := 5001) rfl SubB.nil)
      · subst hj5; have h := hK5; clear hK5
        exact Ends.againL (some_eq h) (.cons (t := 8) rfl (.cons (t := 0) rfl (.cons (t := 2) rfl (.cons (t := 7) rfl (.cons (t := 26) rfl Sub.nil))))) (.cons (t := 5001) rfl SubB.nil)
    | none =>
      replace h := mstep_none h
      refine Cod.condF (t := 28) rfl trivial rfl ?_
      refine Cod.exit ?_
      refine Ends.thenExit ?_
      refine Ends.thenExit ?_
      refine Ends.blkExit ?_
      replace h := hD4 _ (some_eq h)
      exact Ends.join _ (some_eq h) (.cons (t := 8) rfl (.cons (t := 0) rfl (.cons (t := 2) rfl (.cons (t := 7) rfl (.cons (t := 26) rfl Sub.nil))))) SubB.nil
  · subst hj3; have h := hK3; clear hK3
    refine Cod.seq ?_
    refine Cod.region [([], []), ([], []), ([], [36]), ([36], [11, 36])] mixed (by kernel_rfl) ?_
    refine Chain.consA (StepOK.move .none (.tmp rfl (fun _ => trivial))) rfl ?_
    obtain ⟨v1, hv7, h⟩ := bnd_some h
    refine Chain.consA (StepOK.re hv7 (StepOK.len .none sl56 (.tmp rfl (fun _ => trivial)))) rfl ?_
    obtain ⟨hn8, h⟩ := need_some h
    refine Chain.consW (StepOK.makeSlice rk39 zo47 rfl (.tmp rfl (fun _ => trivial)) (.tmp rfl (fun _ => trivial)) hn8) rfl rfl ?_
    refine Chain.consW (StepOK.passRow rfl (.tmp rfl)) rfl rfl ?_
    refine Chain.nil ?_
    refine Ends.then ?_
    obtain ⟨out1, hv9, h⟩ := bnd_some h
    refine Cod.reB (t := 11) rfl (congrArg (rowV 47) hv9) ?_
    refine Cod.nameRow (t := 11) (g := 5002) rfl rfl rfl (fun s5002 => ?_)
    refine Cod.seq ?_
    refine Cod.region [] mixed (by kernel_rfl) ?_
    refine Chain.cons (StepOK.assign .none (.int (by decide))) rfl ?_
    refine Chain.nil ?_
    refine Ends.then ?_
    refine Cod.seq ?_
    refine Cod.seq ?_
    refine Cod.region [] mixed (by kernel_rfl) ?_
    refine Chain.cons (StepOK.move .none (.tmp rfl (fun _ => trivial))) rfl ?_
    obtain ⟨r2, hv10, h⟩ := bind_some h
    refine Chain.cons (StepOK.call .none (ref_LevelsOf_ok hv10) (.cons (.tmp rfl (fun _ => trivial)) .nil)) rfl ?_
    refine Chain.cons (StepOK.len .none sl64 (.tmp rfl (fun _ => trivial))) rfl ?_
    refine Chain.cons (StepOK.move .none (.int (by decide))) rfl ?_
    refine Chain.nil ?_
    refine Ends.then ?_
    obtain ⟨j_11, h, hK11⟩ := bind_some h
    refine Cod.thenJ (ι := (Int × (List Point))) (fun j_11 => [(12, ⟨True, rep j_11.1⟩)]) (fun j_11 => [(5002, some (CPred.at s5002 (rowV 47 j_11.2)))]) (fun s => j_11 = s) (.cons (t := 11) rfl Sub.nil) SubB.nil ?_ (fun j_11' hj11 => ?_)
    · skip
      refine Cod.block ?_
      refine Cod.rforL h (fun p12_ => [(40, ⟨True, rep p12_.1⟩), (12, ⟨True, rep p12_.2.1⟩)]) (fun p12_ => [(5002, some (CPred.at s5002 (rowV 47 p12_.2.2)))]) (.cons (t := 40) rfl (.cons (t := 12) rfl Sub.nil)) (.cons (t := 5002) rfl SubB.nil) (.cons (t := 0) rfl (.cons (t := 2) rfl (.cons (t := 7) rfl (.cons (t := 8) rfl (.cons (t := 11) rfl (.cons (t := 38) rfl (.cons (t := 39) rfl Sub.nil))))))) SubB.nil (fun p12_ o_12 h hD12 => ?_)
      refine Cod.seq ?_
      refine Cod.region [] mixed (by kernel_rfl) ?_
      refine Chain.cons (StepOK.lt .none (.tmp rfl (fun _ => trivial)) (.tmp rfl (fun _ => trivial))) rfl ?_
      refine Chain.nil ?_
      refine Ends.then ?_
      refine Cod.seq ?_
      refine Cod.cond (t := 41) rfl trivial (fun hb13 => ?_) (fun hb13 => ?_)
      · replace h := bif_t h hb13
        refine Cod.skip ?_
        refine Ends.then ?_
        refine Cod.seq ?_
        obtain ⟨j_14, h, hK14⟩ := bind_some h
        unfold ref_TidyTree_L2 at h
        refine Cod.thenJ (ι := (Int × (List Point))) (fun j_14 => [(12, ⟨True, rep j_14.1⟩)]) (fun j_14 => [(5002, some (CPred.at s5002 (rowV 47 j_14.2)))]) (fun s => j_14 = s) (.cons (t := 0) rfl (.cons (t := 2) rfl (.cons (t := 7) rfl (.cons (t := 8) rfl (.cons (t := 11) rfl (.cons (t := 38) rfl (.cons (t := 39) rfl (.cons (t := 40) rfl Sub.nil)))))))) SubB.nil ?_ (fun j_14' hj14 => ?_)
        · skip
          refine Cod.block ?_
          refine Cod.seq ?_
          refine Cod.region [] mixed (by kernel_rfl) ?_
          obtain ⟨hn15, h⟩ := need_some h
          refine Chain.cons (StepOK.indexAddr .none sl64 ty23 (.tmp rfl (fun _ => trivial)) (.tmp rfl (fun _ => trivial)) (fun _ => hn15)) rfl ?_
          refine Chain.cons (StepOK.load .none ty23 (.tmp rfl (fun _ => trivial))) rfl ?_
          refine Chain.cons (StepOK.assign .none (.tmp rfl (fun _ => trivial))) rfl ?_
          refine Chain.nil ?_
          refine Ends.then ?_
          refine Cod.seq ?_
          refine Cod.region [] mixed (by kernel_rfl) ?_
          refine Chain.cons (StepOK.assign .none (.int (by decide))) rfl ?_
          refine Chain.nil ?_
          refine Ends.then ?_
          refine Cod.seq ?_
          refine Cod.seq ?_
          refine Cod.region [] mixed (by kernel_rfl) ?_
          obtain ⟨v2, hv16, h⟩ := bnd_some h
          refine Chain.cons (StepOK.re hv16 (StepOK.move .none (.tmp rfl (fun _ => trivial)))) rfl ?_
          refine Chain.cons (StepOK.len .none sl23 (.tmp rfl (fun _ => trivial))) rfl ?_
          refine Chain.cons (StepOK.move .none (.int (by decide))) rfl ?_
          refine Chain.nil ?_
          refine Ends.then ?_
          obtain ⟨j_17, h, hK17⟩ := bind_some h
          refine Cod.thenJ (ι := (Int × (List Point))) (fun j_17 => [(15, ⟨True, rep j_17.1⟩)]) (fun j_17 => [(5002, some (CPred.at s5002 (rowV 47 j_17.2)))]) (fun s => j_17 = s) (.cons (t := 0) rfl (.cons (t := 2) rfl (.cons (t := 7) rfl (.cons (t := 8) rfl (.cons (t := 11) rfl (.cons (t := 12) rfl (.cons (t := 38) rfl (.cons (t := 39) rfl (.cons (t := 40) rfl Sub.nil))))))))) SubB.nil ?_ (fun j_17' hj17 => ?_)
          · skip
            refine Cod.block ?_
            refine Cod.rforL h (fun p18_ => [(46, ⟨True, rep p18_.1⟩), (15, ⟨True, rep p18_.2.1⟩)]) (fun p18_ => [(5002, some (CPred.at s5002 (rowV 47 p18_.2.2)))]) (.cons (t := 46) rfl (.cons (t := 15) rfl Sub.nil)) (.cons (t := 5002) rfl SubB.nil) (.cons (t := 0) rfl (.cons (t := 2) rfl (.cons (t := 7) rfl (.cons (t := 8) rfl (.cons (t := 11) rfl (.cons (t := 12) rfl (.cons (t := 38) rfl (.cons (t := 39) rfl (.cons (t := 40) rfl (.cons (t := 44) rfl (.cons (t := 45) rfl Sub.nil))))))))))) SubB.nil (fun p18_ o_18 h hD18 => ?_)
            refine Cod.seq ?_
            refine Cod.region [] mixed (by kernel_rfl) ?_
            refine Chain.cons (StepOK.lt .none (.tmp rfl (fun _ => trivial)) (.tmp rfl (fun _ => trivial))) rfl ?_
            refine Chain.nil ?_
            refine Ends.then ?_
            refine Cod.seq ?_
            refine Cod.cond (t := 47) rfl trivial (fun hb19 => ?_) (fun hb19 => ?_)
            · replace h := bif_t h hb19
              refine Cod.skip ?_
              refine Ends.then ?_
              refine Cod.seq ?_
              obtain ⟨j_20, h, hK20⟩ := bind_some h
              unfold ref_TidyTree_L3 at h
              refine Cod.thenJ (ι := (Int × (List Point))) (fun j_20 => [(15, ⟨True, rep j_20.1⟩)]) (fun j_20 => [(5002, some (CPred.at s5002 (rowV 47 j_20.2)))]) (fun s => j_20 = s) (.cons (t := 0) rfl (.cons (t := 2) rfl (.cons (t := 7) rfl (.cons (t := 8) rfl (.cons (t := 11) rfl (.cons (t := 12) rfl (.cons (t := 38) rfl (.cons (t := 39) rfl (.cons (t := 40) rfl (.cons (t := 44) rfl (.cons (t := 45) rfl (.cons (t := 46) rfl Sub.nil)))))))))))) SubB.nil ?_ (fun j_20' hj20 => ?_)
              · skip
                refine Cod.block ?_
                refine Cod.seq ?_
                refine Cod.region [] mixed (by kernel_rfl) ?_
                obtain ⟨hn21, h⟩ := need_some h
                refine Chain.cons (StepOK.indexAddr .none sl23 ty3 (.tmp rfl (fun _ => trivial)) (.tmp rfl (fun _ => trivial)) (fun _ => hn21)) rfl ?_
                refine Chain.cons (StepOK.load .none ty3 (.tmp rfl (fun _ => trivial))) rfl ?_
                obtain ⟨n1, hv22, h⟩ := bnd_some h
                refine Chain.cons (StepOK.re hv22 (StepOK.assign .none (.tmp rfl (fun _ => trivial)))) rfl ?_
                refine Chain.nil ?_
                refine Ends.then ?_
                refine Cod.seq ?_
                refine Cod.region [([], []), ([], []), ([], []), ([], []), ([], []), ([], []), ([], []), ([], []), ([], []), ([], []), ([5002], []), ([5002], [5002])] mixed (by kernel_rfl) ?_
                refine Chain.consA (StepOK.move .none (.tmp rfl (fun _ => trivial))) rfl ?_
                refine Chain.consA (StepOK.move .none (.tmp rfl (fun _ => trivial))) rfl ?_
                refine Chain.consA (StepOK.fieldAddr .none fd104_0 hfd104_0 (.tmp rfl (fun _ => trivial))) rfl ?_
                refine Chain.consA (StepOK.load .none ty102 (.tmp rfl (fun _ => trivial))) rfl ?_
                refine Chain.consA (StepOK.move .none (.tmp rfl (fun _ => trivial))) rfl ?_
                refine Chain.consA (StepOK.lookup .none mo102 zo3 (.tmp rfl (fun _ => trivial)) (.tmp rfl (fun _ => trivial))) rfl ?_
                refine Chain.consA (StepOK.move .none (.tmp rfl (fun _ => trivial))) rfl ?_
                refine Chain.consA (StepOK.subW .none (.tmp rfl (fun _ => trivial)) (.tmp rfl (fun _ => trivial))) rfl ?_
                refine Chain.consA (StepOK.move .none (.tmp rfl (fun _ => trivial))) rfl ?_
                obtain ⟨v3, hv23, h⟩ := bnd_some h
                refine Chain.consA (StepOK.re hv23 (StepOK.buildF (y := (⟨W ((r1.x.getD n1 (0 : Int)) - j_3), p12_.2.1⟩ : Point)) .none bu47 zc47 rfl (.cons (.tmp rfl (fun _ => trivial)) (.cons (.tmp rfl (fun _ => trivial)) .nil)) (.cons rfl sf47_0 (.cons rfl sf47_1 .nil)))) rfl ?_
                obtain ⟨hn24, h⟩ := need_some h
                refine Chain.consA (StepOK.indexAddrO (k := 5002) .none sl39 ty47 (.tmp rfl (fun _ => trivial)) rfl (.tmp rfl (fun _ => trivial)) (fun _ => hn24)) rfl ?_
                refine Chain.consN (StepOK.storeElem0 (k := 5002) ty47 (.tmp rfl (fun _ => trivial)) rfl (.tmp rfl (fun _ => trivial)) hn24) rfl ?_
                refine Chain.nil ?_
                refine Ends.then ?_
                obtain ⟨out2, hv25, h⟩ := bnd_some h
                refine Cod.reB (t := 5002) rfl (congrArg (fun y => CPred.at s5002 (rowV 47 y)) hv25) ?_
                refine Cod.region [] mixed (by kernel_rfl) ?_
                refine Chain.cons (StepOK.move .none (.tmp rfl (fun _ => trivial))) rfl ?_
                refine Chain.cons (StepOK.move .none (.tmp rfl (fun _ => trivial))) rfl ?_
                refine Chain.cons (StepOK.move .none (.tmp rfl (fun _ => trivial))) rfl ?_
                obtain ⟨hn26, h⟩ := need_some h
                refine Chain.cons (StepOK.indexAddr .none sl56 ty67 (.tmp rfl (fun _ => trivial)) (.tmp rfl (fun _ => trivial)) (fun _ => hn26)) rfl ?_
                refine Chain.cons (StepOK.fieldAddr .none fd67_1 hfd67_1 (.tmp rfl (fun _ => trivial))) rfl ?_
                refine Chain.cons (StepOK.load .none ty3 (.tmp rfl (fun _ => trivial))) rfl ?_
                refine Chain.cons (StepOK.max2 .none (.tmp rfl (fun _ => trivial)) (.tmp rfl (fun _ => trivial))) rfl ?_
                obtain ⟨high1, hv27, h⟩ := bnd_some h
                refine Chain.cons (StepOK.re hv27 (StepOK.assign .none (.tmp rfl (fun _ => trivial)))) rfl ?_
                refine Chain.nil ?_
                refine Ends.blkNormal ?_
                exact Ends.join _ (some_eq h) (.cons (t := 15) rfl (.cons (t := 0) rfl (.cons (t := 2) rfl (.cons (t := 7) rfl (.cons (t := 8) rfl (.cons (t := 11) rfl (.cons (t := 12) rfl (.cons (t := 38) rfl (.cons (t := 39) rfl (.cons (t := 40) rfl (.cons (t := 44) rfl (.cons (t := 45) rfl (.cons (t := 46) rfl Sub.nil))))))))))))) (.cons (t := 5002) rfl SubB.nil)
              · subst hj20; have h := hK20; clear hK20
                refine Cod.region [] mixed (by kernel_rfl) ?_
                refine Chain.cons (StepOK.addW .none (.tmp rfl (fun _ => trivial)) (.int (by decide))) rfl ?_
                refine Chain.cons (StepOK.move .none (.tmp rfl (fun _ => trivial))) rfl ?_
                refine Chain.nil ?_
                exact Ends.againL (some_eq h) (.cons (t := 46) rfl (.cons (t := 15) rfl (.cons (t := 0) rfl (.cons (t := 2) rfl (.cons (t := 7) rfl (.cons (t := 8) rfl (.cons (t := 11) rfl (.cons (t := 12) rfl (.cons (t := 38) rfl (.cons (t := 39) rfl (.cons (t := 40) rfl (.cons (t := 44) rfl (.cons (t := 45) rfl Sub.nil))))))))))))) (.cons (t := 5002) rfl SubB.nil)
            · replace h := bif_f h hb19
              refine Cod.exit ?_
              refine Ends.thenExit ?_
              refine Ends.thenExit ?_
              refine Ends.blkExit ?_
              replace h := hD18 _ (some_eq h)
              exact Ends.join _ (some_eq h) (.cons (t := 15) rfl (.cons (t := 0) rfl (.cons (t := 2) rfl (.cons (t := 7) rfl (.cons (t := 8) rfl (.cons (t := 11) rfl (.cons (t := 12) rfl (.cons (t := 38) rfl (.cons (t := 39) rfl (.cons (t := 40) rfl Sub.nil)))))))))) (.cons (t := 5002) rfl SubB.nil)
          · subst hj17; have h := hK17; clear hK17
            refine Cod.region [] mixed (by kernel_rfl) ?_
            refine Chain.cons (StepOK.move .none (.tmp rfl (fun _ => trivial))) rfl ?_
            refine Chain.cons (StepOK.move .none (.tmp rfl (fun _ => trivial))) rfl ?_
            refine Chain.cons (StepOK.move .none (.tmp rfl (fun _ => trivial))) rfl ?_
            refine Chain.cons (StepOK.addW .none (.tmp rfl (fun _ => trivial)) (.tmp rfl (fun _ => trivial))) rfl ?_
            refine Chain.cons (StepOK.addW .none (.tmp rfl (fun _ => trivial)) (.tmp rfl (fun _ => trivial))) rfl ?_
            obtain ⟨y1, hv28, h⟩ := bnd_some h
            refine Chain.cons (StepOK.re hv28 (StepOK.assign .none (.tmp rfl (fun _ => trivial)))) rfl ?_
            refine Chain.nil ?_
            refine Ends.blkNormal ?_
            exact Ends.join _ (some_eq h) (.cons (t := 12) rfl (.cons (t := 0) rfl (.cons (t := 2) rfl (.cons (t := 7) rfl (.cons (t := 8) rfl (.cons (t := 11) rfl (.cons (t := 38) rfl (.cons (t := 39) rfl (.cons (t := 40) rfl Sub.nil))))))))) (.cons (t := 5002) rfl SubB.nil)
        · subst hj14; have h := hK14; clear hK14
          refine Cod.region [] mixed (by kernel_rfl) ?_
          refine Chain.cons (StepOK.addW .none (.tmp rfl (fun _ => trivial)) (.int (by decide))) rfl ?_
          refine Chain.cons (StepOK.move .none (.tmp rfl (fun _ => trivial))) rfl ?_
          refine Chain.nil ?_
          exact Ends.againL (some_eq h) (.cons (t := 40) rfl (.cons (t := 12) rfl (.cons (t := 0) rfl (.cons (t := 2) rfl (.cons (t := 7) rfl (.cons (t := 8) rfl (.cons (t := 11) rfl (.cons (t := 38) rfl (.cons (t := 39) rfl Sub.nil))))))))) (.cons (t := 5002) rfl SubB.nil)
      · replace h := bif_f h hb13
        refine Cod.exit ?_
        refine Ends.thenExit ?_
        refine Ends.thenExit ?_
        refine Ends.blkExit ?_
        replace h := hD12 _ (some_eq h)
        exact Ends.join _ (some_eq h) (.cons (t := 12) rfl (.cons (t := 11) rfl Sub.nil)) (.cons (t := 5002) rfl SubB.nil)
    · subst hj11; have h := hK11; clear hK11
      refine Cod.freezeRow (g := 5002) (ts := [11]) rfl (.cons (t := 11) rfl trivial .nil) SubB.nil rfl ?_
      refine Cod.seq ?_
      refine Cod.region [] mixed (by kernel_rfl) ?_
      refine Chain.cons (StepOK.move .none (.tmp rfl (fun _ => trivial))) rfl ?_
      refine Chain.cons (StepOK.assign .none (.tmp rfl (fun _ => trivial))) rfl ?_
      refine Chain.nil ?_
      refine Ends.then ?_
      refine Cod.ret ?_
      obtain rfl := some_eq h
      exact Ends.ret1 (.inl rfl) Try.results33 (ResOK.tmp rfl trivial Imp.refl)

theorem law_TidiesMatch_1_ok {c0_1 : (List Branch)} {c1_1 : Int} {c2_1 : Int} {r : (List Point)}  (h : law_TidiesMatch_1 c0_1 c1_1 c2_1 = some r) : FSpec Try.prog 32 [ref c0_1, ref c1_1, ref c2_1] (rep r) := by
  unfold law_TidiesMatch_1 at h
  refine FSpec.intro (n := 8) fnok32 Try.func32 rfl Try.ntmps32 rfl (fun F => ?_)
  refine Cod.seq ?_
  refine Cod.region [] mixed (by kernel_rfl) ?_
  refine Chain.cons (StepOK.assign .none (.const (x := ([] : (List Point))) (fun M w => ⟨_, ⟨none, 0, rfl, Nat.le_refl _, by decide, rfl⟩, rfl⟩))) rfl ?_
  refine Chain.nil ?_
  refine Ends.then ?_
  refine Cod.seq ?_
  refine Cod.region [] mixed (by kernel_rfl) ?_
  refine Chain.cons (StepOK.load .none ty56 (.tmp rfl (fun _ => trivial))) rfl ?_
  refine Chain.cons (StepOK.load .none ty3 (.tmp rfl (fun _ => trivial))) rfl ?_
  refine Chain.cons (StepOK.load .none ty3 (.tmp rfl (fun _ => trivial))) rfl ?_
  obtain ⟨r1, hv1, h⟩ := bind_some h
  refine Chain.cons (StepOK.call .none (ref_TidyTree_ok hv1) (.cons (.tmp rfl (fun _ => trivial)) (.cons (.tmp rfl (fun _ => trivial)) (.cons (.tmp rfl (fun _ => trivial)) .nil)))) rfl ?_
  refine Chain.cons (StepOK.assign .none (.tmp rfl (fun _ => trivial))) rfl ?_
  refine Chain.nil ?_
  refine Ends.then ?_
  refine Cod.ret ?_
  obtain rfl := some_eq h
  exact Ends.ret1 (.inl rfl) Try.results32 (ResOK.tmp rfl trivial Imp.refl)

theorem slices_Equal_Point_ok {s1_1 : (List Point)} {s2_1 : (List Point)} {r : Bool}  (h : slices_Equal_Point s1_1 s2_1 = some r) : FSpec Try.prog 24 [rep s1_1, rep s2_1] (rep r) := by
  unfold slices_Equal_Point at h
  refine FSpec.intro (n := 26) fnok24 Try.func24 rfl Try.ntmps24 rfl (fun F => ?_)
  refine Cod.seq ?_
  refine Cod.region [] mixed (by kernel_rfl) ?_
  refine Chain.cons (StepOK.assign .none .bool) rfl ?_
  refine Chain.nil ?_
  refine Ends.then ?_
  refine Cod.seq ?_
  refine Cod.seq ?_
  refine Cod.region [] mixed (by kernel_rfl) ?_
  refine Chain.cons (StepOK.move .none (.tmp rfl (fun _ => trivial))) rfl ?_
  refine Chain.cons (StepOK.len .none sl39 (.tmp rfl (fun _ => trivial))) rfl ?_
  refine Chain.cons (StepOK.move .none (.tmp rfl (fun _ => trivial))) rfl ?_
  refine Chain.cons (StepOK.len .none sl39 (.tmp rfl (fun _ => trivial))) rfl ?_
  refine Chain.cons (StepOK.neI .none (.tmp rfl (fun _ => trivial)) (.tmp rfl (fun _ => trivial))) rfl ?_
  refine Chain.nil ?_
  refine Ends.then ?_
  refine Cod.cond (t := 10) rfl trivial (fun hb1 => ?_) (fun hb1 => ?_)
  · replace h := bif_t h hb1
    refine Cod.seq ?_
    refine Cod.region [] mixed (by kernel_rfl) ?_
    refine Chain.cons (StepOK.assign .none .bool) rfl ?_
    refine Chain.nil ?_
    refine Ends.then ?_
    refine Cod.ret ?_
    refine Ends.thenRet ?_
    obtain rfl := some_eq h
    exact Ends.ret1 (.inl rfl) Try.results24 (ResOK.tmp rfl trivial Imp.refl)
  · replace h := bif_f h hb1
    refine Cod.skip ?_
    refine Ends.then ?_
    refine Cod.seq ?_
    refine Cod.seq ?_
    refine Cod.region [] mixed (by kernel_rfl) ?_
    refine Chain.cons (StepOK.move .none (.tmp rfl (fun _ => trivial))) rfl ?_
    refine Chain.cons (StepOK.len .none sl39 (.tmp rfl (fun _ => trivial))) rfl ?_
    refine Chain.cons (StepOK.move .none (.int (by decide))) rfl ?_
    refine Chain.nil ?_
    refine Ends.then ?_
    obtain ⟨o_2, h, hK2⟩ := bindR_some h
    refine Cod.thenJ (ι := Unit) (fun j_2 => []) (fun j_2 => []) (fun s => o_2 = Res.nx s) Sub.nil SubB.nil ?_ (fun j_2 hj2 => ?_)
    · skip
      refine Cod.block ?_
      refine Cod.rforEL h (fun p3_ => [(13, ⟨True, rep p3_.1⟩)]) (fun p3_ => []) (.cons (t := 13) rfl Sub.nil) SubB.nil (.cons (t := 0) rfl (.cons (t := 1) rfl (.cons (t := 12) rfl Sub.nil))) SubB.nil (fun p3_ o_3 h hD3 => ?_)
      refine Cod.seq ?_
      refine Cod.region [] mixed (by kernel_rfl) ?_
      refine Chain.cons (StepOK.lt .none (.tmp rfl (fun _ => trivial)) (.tmp rfl (fun _ => trivial))) rfl ?_
      refine Chain.nil ?_
      refine Ends.then ?_
      refine Cod.seq ?_
      refine Cod.cond (t := 14) rfl trivial (fun hb4 => ?_) (fun hb4 => ?_)
      · replace h := bif_t h hb4
        refine Cod.skip ?_
        refine Ends.then ?_
        refine Cod.seq ?_
        obtain ⟨o_5, h, hK5⟩ := bindD_some h
        unfold slices_Equal_Point_L1 at h
        refine Cod.thenJ (ι := Unit) (fun j_5 => []) (fun j_5 => []) (fun s => o_5 = Res.nx s) (.cons (t := 0) rfl (.cons (t := 1) rfl (.cons (t := 12) rfl (.cons (t := 13) rfl Sub.nil)))) SubB.nil ?_ (fun j_5 hj5 => ?_)
        · skip
          refine Cod.block ?_
          refine Cod.seq ?_
          refine Cod.region [] mixed (by kernel_rfl) ?_
          refine Chain.cons (StepOK.move .none (.tmp rfl (fun _ => trivial))) rfl ?_
          refine Chain.cons (StepOK.assign .none (.tmp rfl (fun _ => trivial))) rfl ?_
          refine Chain.nil ?_
          refine Ends.then ?_
          refine Cod.seq ?_
          refine Cod.region [] mixed (by kernel_rfl) ?_
          refine Chain.cons (StepOK.move .none (.tmp rfl (fun _ => trivial))) rfl ?_
          refine Chain.cons (StepOK.move .none (.tmp rfl (fun _ => trivial))) rfl ?_
          obtain ⟨hn6, h⟩ := need_some h
          refine Chain.cons (StepOK.indexAddr .none sl39 ty47 (.tmp rfl (fun _ => trivial)) (.tmp rfl (fun _ => trivial)) (fun _ => hn6)) rfl ?_
          refine Chain.cons (StepOK.load .none ty47 (.tmp rfl (fun _ => trivial))) rfl ?_
          refine Chain.cons (StepOK.move .none (.tmp rfl (fun _ => trivial))) rfl ?_
          refine Chain.cons (StepOK.move .none (.tmp rfl (fun _ => trivial))) rfl ?_
          obtain ⟨hn7, h⟩ := need_some h
          refine Chain.cons (StepOK.indexAddr .none sl39 ty47 (.tmp rfl (fun _ => trivial)) (.tmp rfl (fun _ => trivial)) (fun _ => hn7)) rfl ?_
          refine Chain.cons (StepOK.load .none ty47 (.tmp rfl (fun _ => trivial))) rfl ?_
          refine Chain.cons (StepOK.neS .none eq47 (.tmp rfl (fun _ => trivial)) (.tmp rfl (fun _ => trivial))) rfl ?_
          refine Chain.nil ?_
          refine Ends.then ?_
          refine Cod.cond (t := 24) rfl trivial (fun hb8 => ?_) (fun hb8 => ?_)
          · replace h := bif_t h hb8
            refine Cod.seq ?_
            refine Cod.region [] mixed (by kernel_rfl) ?_
            refine Chain.cons (StepOK.assign .none .bool) rfl ?_
            refine Chain.nil ?_
            refine Ends.then ?_
            refine Cod.ret ?_
            refine Ends.blkRet ?_
            refine Ends.thenRet ?_
            refine Ends.thenRet ?_
            refine Ends.blkRet ?_
            refine Ends.thenRet ?_
            replace h := resd_ab hK5 (some_eq h)
            replace h := hD3 _ (some_eq h)
            replace h := resb_ab hK2 (some_eq h)
            obtain rfl := some_eq h
            exact Ends.ret1 (.inl rfl) Try.results24 (ResOK.tmp rfl trivial Imp.refl)
          · replace h := bif_f h hb8
            refine Cod.skip ?_
            refine Ends.blkNormal ?_
            exact Ends.join _ (some_eq h) (.cons (t := 0) rfl (.cons (t := 1) rfl (.cons (t := 12) rfl (.cons (t := 13) rfl Sub.nil)))) SubB.nil
        · have h := resd_nx hK5 hj5
          refine Cod.region [] mixed (by kernel_rfl) ?_
          refine Chain.cons (StepOK.addW .none (.tmp rfl (fun _ => trivial)) (.int (by decide))) rfl ?_
          refine Chain.cons (StepOK.move .none (.tmp rfl (fun _ => trivial))) rfl ?_
          refine Chain.nil ?_
          exact Ends.againL (some_eq h) (.cons (t := 13) rfl (.cons (t := 0) rfl (.cons (t := 1) rfl (.cons (t := 12) rfl Sub.nil)))) SubB.nil
      · replace h := bif_f h hb4
        refine Cod.exit ?_
        refine Ends.thenExit ?_
        refine Ends.thenExit ?_
        refine Ends.blkExit ?_
        replace h := hD3 _ (some_eq h)
        exact Ends.join _ (some_eq h) Sub.nil SubB.nil
    · have h := resb_nx hK2 hj2
      refine Cod.seq ?_
      refine Cod.region [] mixed (by kernel_rfl) ?_
      refine Chain.cons (StepOK.assign .none .bool) rfl ?_
      refine Chain.nil ?_
      refine Ends.then ?_
      refine Cod.ret ?_
      obtain rfl := some_eq h
      exact Ends.ret1 (.inl rfl) Try.results24 (ResOK.tmp rfl trivial Imp.refl)

theorem law_lists_Point_ok {got1 : (List Point)} {e1 : Int} {want1 : Int} {right1 : (Option (List Point))} {r : Bool}  (h : law_lists_Point got1 e1 want1 right1 = some r) : FSpec Try.prog 31 [rep got1, rep e1, rep want1, fn0 Try.prog (rep (α := (List Point))) right1] (rep r) := by
  unfold law_lists_Point at h
  refine FSpec.intro (n := 27) fnok31 Try.func31 rfl Try.ntmps31 rfl (fun F => ?_)
  refine Cod.seq ?_
  refine Cod.region [] mixed (by kernel_rfl) ?_
  refine Chain.cons (StepOK.assign .none .bool) rfl ?_
  refine Chain.nil ?_
  refine Ends.then ?_
  refine Cod.seq ?_
  refine Cod.seq ?_
  refine Cod.region [] mixed (by kernel_rfl) ?_
  refine Chain.cons (StepOK.move .none (.tmp rfl (fun _ => trivial))) rfl ?_
  refine Chain.cons (StepOK.neI .none (.tmp rfl (fun _ => trivial)) (.int (by decide))) rfl ?_
  refine Chain.nil ?_
  refine Ends.then ?_
  refine Cod.cond (t := 10) rfl trivial (fun hb1 => ?_) (fun hb1 => ?_)
  · replace h := bif_t h hb1
    refine Cod.seq ?_
    refine Cod.region [] mixed (by kernel_rfl) ?_
    refine Chain.cons (StepOK.move .none (.tmp rfl (fun _ => trivial))) rfl ?_
    refine Chain.cons (StepOK.len .none sl39 (.tmp rfl (fun _ => trivial))) rfl ?_
    refine Chain.cons (StepOK.eqI .none (.tmp rfl (fun _ => trivial)) (.int (by decide))) rfl ?_
    refine Chain.cons (StepOK.move .none (.tmp rfl (fun _ => trivial))) rfl ?_
    refine Chain.cons (StepOK.move (.at rfl rfl) (.tmp rfl (fun _ => trivial))) rfl ?_
    refine Chain.cons (StepOK.move (.at rfl rfl) (.tmp rfl (fun _ => trivial))) rfl ?_
    refine Chain.cons (StepOK.eqI (.at rfl rfl) (.tmp rfl id) (.tmp rfl id)) rfl ?_
    refine Chain.cons (StepOK.pickAnd .none (.tmp rfl (fun _ => trivial)) (.tmp rfl id)) rfl ?_
    refine Chain.cons (StepOK.assign .none (.tmp rfl (fun _ => trivial))) rfl ?_
    refine Chain.nil ?_
    refine Ends.then ?_
    refine Cod.ret ?_
    refine Ends.thenRet ?_
    obtain rfl := some_eq h
    exact Ends.ret1 (.inl rfl) Try.results31 (ResOK.tmp rfl trivial Imp.refl)
  · replace h := bif_f h hb1
    refine Cod.skip ?_
    refine Ends.then ?_
    refine Cod.seq ?_
    refine Cod.region [] mixed (by kernel_rfl) ?_
    refine Chain.cons (StepOK.move .none (.tmp rfl (fun _ => trivial))) rfl ?_
    refine Chain.cons (StepOK.eqI .none (.tmp rfl (fun _ => trivial)) (.int (by decide))) rfl ?_
    refine Chain.cons (StepOK.move .none (.tmp rfl (fun _ => trivial))) rfl ?_
    refine Chain.cons (StepOK.move (.at rfl rfl) (.tmp rfl (fun _ => trivial))) rfl ?_
    refine Chain.cons (StepOK.move (.at rfl rfl) (.tmp rfl (fun _ => trivial))) rfl ?_
    obtain ⟨r1, hv2, h⟩ := bind_some h
    refine Chain.cons (StepOK.callV _ (.at rfl rfl) (.tmp rfl id) (fun hg => gd_some hv2 (hg.2)) .nil) rfl ?_
    obtain ⟨r2, hv3, h⟩ := bind_some h
    refine Chain.cons (StepOK.callIf (.at rfl rfl) fnok24 (fun hg => slices_Equal_Point_ok ((fun hg => gd_some hv3 (hg.2)) hg)) (.cons (.tmp rfl id) (.cons (.tmp rfl id) .nil)) (fun h => h)) rfl ?_
    refine Chain.cons (StepOK.pickAnd .none (.tmp rfl (fun _ => trivial)) (.tmp rfl id)) rfl ?_
    refine Chain.cons (StepOK.assign .none (.tmp rfl (fun _ => trivial))) rfl ?_
    refine Chain.nil ?_
    refine Ends.then ?_
    refine Cod.ret ?_
    obtain rfl := some_eq h
    exact Ends.ret1 (.inl rfl) Try.results31 (ResOK.tmp rfl trivial Imp.refl)

theorem law_TidiesMatch_ok {t1 : (List Branch)} {gapx1 : Int} {gapy1 : Int} {r : Bool}  (h : law_TidiesMatch t1 gapx1 gapy1 = some r) : FSpec Try.prog 6 [rep t1, rep gapx1, rep gapy1] (rep r) := by
  unfold law_TidiesMatch at h
  refine FSpec.intro (n := 54) fnok6 Try.func6 rfl Try.ntmps6 rfl (fun F => ?_)
  refine Cod.seq ?_
  refine Cod.region [] mixed (by kernel_rfl) ?_
  refine Chain.cons (StepOK.box .none (.tmp rfl (fun _ => trivial))) rfl ?_
  refine Chain.cons (StepOK.box .none (.tmp rfl (fun _ => trivial))) rfl ?_
  refine Chain.cons (StepOK.box .none (.tmp rfl (fun _ => trivial))) rfl ?_
  refine Chain.cons (StepOK.assign .none .bool) rfl ?_
  refine Chain.nil ?_
  refine Ends.then ?_
  refine Cod.seq ?_
  refine Cod.region [] mixed (by kernel_rfl) ?_
  refine Chain.cons (StepOK.load .none ty56 (.tmp rfl (fun _ => trivial))) rfl ?_
  refine Chain.cons (StepOK.load .none ty3 (.tmp rfl (fun _ => trivial))) rfl ?_
  refine Chain.cons (StepOK.load .none ty3 (.tmp rfl (fun _ => trivial))) rfl ?_
  obtain ⟨r1, hv1, h⟩ := bind_some h
  refine Chain.cons (StepOK.call .none (tree_Tidy_ok hv1) (.cons (.tmp rfl (fun _ => trivial)) (.cons (.tmp rfl (fun _ => trivial)) (.cons (.tmp rfl (fun _ => trivial)) .nil)))) rfl ?_
  refine Chain.cons (StepOK.move .none (.tmp rfl (fun _ => trivial))) rfl ?_
  refine Chain.cons (StepOK.extract .none (.tmp rfl (fun _ => trivial)) rfl) rfl ?_
  refine Chain.cons (StepOK.extract .none (.tmp rfl (fun _ => trivial)) rfl) rfl ?_
  refine Chain.cons (StepOK.assign .none (.tmp rfl (fun _ => trivial))) rfl ?_
  refine Chain.cons (StepOK.assign .none (.tmp rfl (fun _ => trivial))) rfl ?_
  refine Chain.nil ?_
  refine Ends.then ?_
  refine Cod.seq ?_
  refine Cod.region [] mixed (by kernel_rfl) ?_
  refine Chain.cons (StepOK.load .none ty56 (.tmp rfl (fun _ => trivial))) rfl ?_
  obtain ⟨r2, hv2, h⟩ := bind_some h
  refine Chain.cons (StepOK.call .none (ref_TreeError_ok hv2) (.cons (.tmp rfl (fun _ => trivial)) .nil)) rfl ?_
  refine Chain.cons (StepOK.load .none ty3 (.tmp rfl (fun _ => trivial))) rfl ?_
  obtain ⟨r3, hv3, h⟩ := bind_some h
  refine Chain.cons (StepOK.call .none (ref_In_ok hv3) (.cons (.tmp rfl (fun _ => trivial)) (.cons (.int (by decide)) (.cons (.int (by decide)) .nil)))) rfl ?_
  refine Chain.cons (StepOK.not .none (.tmp rfl (fun _ => trivial))) rfl ?_
  refine Chain.cons (StepOK.move .none (.tmp rfl (fun _ => trivial))) rfl ?_
  refine Chain.cons (StepOK.load (.at rfl rfl) ty3 (.tmp rfl (fun _ => trivial))) rfl ?_
  obtain ⟨r4, hv4, h⟩ := bind_some h
  refine Chain.cons (StepOK.callIf (.at rfl rfl) fnok16 (fun hg => ref_In_ok ((fun hg => gd_some hv4 ((notT hg.2))) hg)) (.cons (.tmp rfl id) (.cons (.int (by decide)) (.cons (.int (by decide)) .nil))) (fun h => h)) rfl ?_
  refine Chain.cons (StepOK.not (.at rfl rfl) (.tmp rfl id)) rfl ?_
  refine Chain.cons (StepOK.pickOr .none (.tmp rfl (fun _ => trivial)) (.tmp rfl id)) rfl ?_
  obtain ⟨r5, hv5, h⟩ := bind_some h
  refine Chain.cons (StepOK.call .none (ref_When_ok hv5) (.cons (.tmp rfl (fun _ => trivial)) (.cons (.int (by decide)) .nil))) rfl ?_
  refine Chain.cons (StepOK.buildSlice (xs := [_, _]) .none sl87 ty24 hz24 (.cons (.tmp rfl (fun _ => trivial)) (.cons (.tmp rfl (fun _ => trivial)) .nil)) rfl (by decide)) rfl ?_
  obtain ⟨want1, hv6, h⟩ := bind_some h
  refine Chain.cons (StepOK.call .none (ref_First_ok hv6) (.cons (.tmp rfl (fun _ => trivial)) .nil)) rfl ?_
  refine Chain.cons (StepOK.assign .none (.tmp rfl (fun _ => trivial))) rfl ?_
  refine Chain.nil ?_
  refine Ends.then ?_
  refine Cod.seq ?_
  refine Cod.seq ?_
  refine Cod.region [] mixed (by kernel_rfl) ?_
  refine Chain.cons (StepOK.move .none (.tmp rfl (fun _ => trivial))) rfl ?_
  refine Chain.cons (StepOK.eqI .none (.tmp rfl (fun _ => trivial)) (.int (by decide))) rfl ?_
  refine Chain.cons (StepOK.move .none (.tmp rfl (fun _ => trivial))) rfl ?_
  refine Chain.cons (StepOK.load (.at rfl rfl) ty56 (.tmp rfl (fun _ => trivial))) rfl ?_
  refine Chain.cons (StepOK.len (.at rfl rfl) sl56 (.tmp rfl id)) rfl ?_
  refine Chain.cons (StepOK.gt (.at rfl rfl) (.tmp rfl id) (.int (by decide))) rfl ?_
  refine Chain.cons (StepOK.pickAnd .none (.tmp rfl (fun _ => trivial)) (.tmp rfl id)) rfl ?_
  refine Chain.nil ?_
  refine Ends.then ?_
  refine Cod.cond (t := 36) rfl trivial (fun hb7 => ?_) (fun hb7 => ?_)
  · replace h := bif_t h hb7
    refine Cod.seq ?_
    refine Cod.region [] mixed (by kernel_rfl) ?_
    refine Chain.cons (StepOK.move .none (.tmp rfl (fun _ => trivial))) rfl ?_
    refine Chain.cons (StepOK.eqI .none (.tmp rfl (fun _ => trivial)) (.int (by decide))) rfl ?_
    refine Chain.cons (StepOK.move .none (.tmp rfl (fun _ => trivial))) rfl ?_
    refine Chain.cons (StepOK.move (.at rfl rfl) (.tmp rfl (fun _ => trivial))) rfl ?_
    refine Chain.cons (StepOK.len (.at rfl rfl) sl39 (.tmp rfl id)) rfl ?_
    refine Chain.cons (StepOK.load (.at rfl rfl) ty56 (.tmp rfl (fun _ => trivial))) rfl ?_
    refine Chain.cons (StepOK.len (.at rfl rfl) sl56 (.tmp rfl id)) rfl ?_
    refine Chain.cons (StepOK.eqI (.at rfl rfl) (.tmp rfl id) (.tmp rfl id)) rfl ?_
    refine Chain.cons (StepOK.pickAnd .none (.tmp rfl (fun _ => trivial)) (.tmp rfl id)) rfl ?_
    refine Chain.cons (StepOK.assign .none (.tmp rfl (fun _ => trivial))) rfl ?_
    refine Chain.nil ?_
    refine Ends.then ?_
    refine Cod.ret ?_
    refine Ends.thenRet ?_
    obtain rfl := some_eq h
    exact Ends.ret1 (.inl rfl) Try.results6 (ResOK.tmp rfl trivial Imp.refl)
  · replace h := bif_f h hb7
    refine Cod.skip ?_
    refine Ends.then ?_
    refine Cod.seq ?_
    refine Cod.region [] mixed (by kernel_rfl) ?_
    obtain ⟨r6, hv8, h⟩ := bind_some h
    refine Chain.cons (StepOK.call .none (law_trees_ok hv8) .nil) rfl ?_
    refine Chain.cons (StepOK.move .none (.tmp rfl (fun _ => trivial))) rfl ?_
    refine Chain.cons (StepOK.move (.at rfl rfl) (.tmp rfl (fun _ => trivial))) rfl ?_
    refine Chain.cons (StepOK.move (.at rfl rfl) (.tmp rfl (fun _ => trivial))) rfl ?_
    refine Chain.cons (StepOK.move (.at rfl rfl) (.tmp rfl (fun _ => trivial))) rfl ?_
    refine Chain.cons (StepOK.makeFunc (ι := (List Point)) (pre := fun i => (law_TidiesMatch_1 t1 gapx1 gapy1)  = some i) (Ss := fun i => []) (S := fun i => rep i) (.at rfl rfl) fnok32 (fun i h => law_TidiesMatch_1_ok h) (.cons (.tmp rfl (fun _ => trivial)) (.cons (.tmp rfl (fun _ => trivial)) (.cons (.tmp rfl (fun _ => trivial)) .nil)))) rfl ?_
    obtain ⟨r7, hv9, h⟩ := bind_some h
    refine Chain.cons (StepOK.callIf (.at rfl rfl) fnok31 (fun hg => law_lists_Point_ok ((fun hg => gd_some hv9 (hg.2)) hg)) (.cons (.tmp rfl id) (.cons (.tmp rfl id) (.cons (.tmp rfl id) (.cons (.tmp rfl id) .nil)))) (fun h => h)) rfl ?_
    refine Chain.cons (StepOK.pickAnd .none (.tmp rfl (fun _ => trivial)) (.tmp rfl id)) rfl ?_
    refine Chain.cons (StepOK.assign .none (.tmp rfl (fun _ => trivial))) rfl ?_
    refine Chain.nil ?_
    refine Ends.then ?_
    refine Cod.ret ?_
    obtain rfl := some_eq h
    exact Ends.ret1 (.inl rfl) Try.results6 (ResOK.tmp rfl trivial Imp.refl)


end Go.Proofs.Ytakkmmhjohadaaa
