/-
  The walks: what a function computes is what its plain function says (printed by a program of one's own).
-/
import Derived.Test.YtakkmmhjohadaaaTreWa1
set_option maxRecDepth 100000
set_option linter.unusedSimpArgs false
set_option linter.unusedVariables false
namespace Go.Proofs.Ytakkmmhjohadaaa
open Go Go.DB Go.RowKit

theorem ref_TreeError_ok {t1 : (List Branch)} {r : Int}  (h : ref_TreeError t1 = some r) : FSpec Try.prog 30 [rep t1] (rep r) := by
  unfold ref_TreeError at h
  refine FSpec.intro (n := 96) fnok30 Try.func30 rfl Try.ntmps30 rfl (fun F => ?_)
  refine Cod.seq ?_
  refine Cod.region [] mixed (by kernel_rfl) ?_
  refine Chain.cons (StepOK.assign .none (.int (by decide))) rfl ?_
  refine Chain.nil ?_
  refine Ends.then ?_
  refine Cod.seq ?_
  refine Cod.seq ?_
  refine Cod.region [] mixed (by kernel_rfl) ?_
  refine Chain.cons (StepOK.move .none (.tmp rfl (fun _ => trivial))) rfl ?_
  refine Chain.cons (StepOK.len .none sl56 (.tmp rfl (fun _ => trivial))) rfl ?_
  refine Chain.cons (StepOK.eqI .none (.tmp rfl (fun _ => trivial)) (.int (by decide))) rfl ?_
  obtain ⟨r1, hv1, h⟩ := bind_some h
  refine Chain.cons (StepOK.call .none (ref_When_ok hv1) (.cons (.tmp rfl (fun _ => trivial)) (.cons (.int (by decide)) .nil))) rfl ?_
  refine Chain.cons (StepOK.move .none (.tmp rfl (fun _ => trivial))) rfl ?_
  refine Chain.cons (StepOK.len .none sl56 (.tmp rfl (fun _ => trivial))) rfl ?_
  refine Chain.cons (StepOK.gt .none (.tmp rfl (fun _ => trivial)) (.int (by decide))) rfl ?_
  obtain ⟨r2, hv2, h⟩ := bind_some h
  refine Chain.cons (StepOK.call .none (ref_When_ok hv2) (.cons (.tmp rfl (fun _ => trivial)) (.cons (.int (by decide)) .nil))) rfl ?_
  refine Chain.cons (StepOK.buildSlice (xs := [_, _]) .none sl87 ty24 hz24 (.cons (.tmp rfl (fun _ => trivial)) (.cons (.tmp rfl (fun _ => trivial)) .nil)) rfl (by decide)) rfl ?_
  obtain ⟨e1, hv3, h⟩ := bind_some h
  refine Chain.cons (StepOK.call .none (ref_First_ok hv3) (.cons (.tmp rfl (fun _ => trivial)) .nil)) rfl ?_
  refine Chain.cons (StepOK.assign .none (.tmp rfl (fun _ => trivial))) rfl ?_
  refine Chain.nil ?_
  refine Ends.then ?_
  refine Cod.seq ?_
  refine Cod.region [] mixed (by kernel_rfl) ?_
  refine Chain.cons (StepOK.move .none (.tmp rfl (fun _ => trivial))) rfl ?_
  refine Chain.cons (StepOK.neI .none (.tmp rfl (fun _ => trivial)) (.int (by decide))) rfl ?_
  refine Chain.nil ?_
  refine Ends.then ?_
  refine Cod.cond (t := 24) rfl trivial (fun hb4 => ?_) (fun hb4 => ?_)
  · replace h := bif_t h hb4
    refine Cod.seq ?_
    refine Cod.region [] mixed (by kernel_rfl) ?_
    refine Chain.cons (StepOK.move .none (.tmp rfl (fun _ => trivial))) rfl ?_
    refine Chain.cons (StepOK.assign .none (.tmp rfl (fun _ => trivial))) rfl ?_
    refine Chain.nil ?_
    refine Ends.then ?_
    refine Cod.ret ?_
    refine Ends.thenRet ?_
    obtain rfl := some_eq h
    exact Ends.ret1 (.inl rfl) Try.results30 (ResOK.tmp rfl trivial Imp.refl)
  · replace h := bif_f h hb4
    refine Cod.skip ?_
    refine Ends.then ?_
    refine Cod.seq ?_
    refine Cod.region [([], []), ([], []), ([], [28]), ([28], [4, 28])] mixed (by kernel_rfl) ?_
    refine Chain.consA (StepOK.move .none (.tmp rfl (fun _ => trivial))) rfl ?_
    obtain ⟨v1, hv5, h⟩ := bnd_some h
    refine Chain.consA (StepOK.re hv5 (StepOK.len .none sl56 (.tmp rfl (fun _ => trivial)))) rfl ?_
    obtain ⟨hn6, h⟩ := need_some h
    refine Chain.consW (StepOK.makeSlice rk100 zo4 rfl (.tmp rfl (fun _ => trivial)) (.tmp rfl (fun _ => trivial)) hn6) rfl rfl ?_
    refine Chain.consW (StepOK.passRow rfl (.tmp rfl)) rfl rfl ?_
    refine Chain.nil ?_
    refine Ends.then ?_
    obtain ⟨kid1, hv7, h⟩ := bnd_some h
    refine Cod.reB (t := 4) rfl (congrArg (rowV 4) hv7) ?_
    refine Cod.nameRow (t := 4) (g := 5001) rfl rfl rfl (fun s5001 => ?_)
    refine Cod.seq ?_
    refine Cod.seq ?_
    refine Cod.region [] mixed (by kernel_rfl) ?_
    refine Chain.cons (StepOK.move .none (.tmp rfl (fun _ => trivial))) rfl ?_
    refine Chain.cons (StepOK.len .none sl56 (.tmp rfl (fun _ => trivial))) rfl ?_
    refine Chain.cons (StepOK.move .none (.int (by decide))) rfl ?_
    refine Chain.nil ?_
    refine Ends.then ?_
    obtain ⟨o_8, h, hK8⟩ := bindR_some h
    refine Cod.thenJ (ι := (List Bool)) (fun j_8 => []) (fun j_8 => [(5001, some (CPred.at s5001 (rowV 4 j_8)))]) (fun s => o_8 = Res.nx s) (.cons (t := 0) rfl (.cons (t := 4) rfl Sub.nil)) SubB.nil ?_ (fun j_8 hj8 => ?_)
    · skip
      refine Cod.block ?_
      refine Cod.rforEL h (fun p9_ => [(31, ⟨True, rep p9_.1⟩)]) (fun p9_ => [(5001, some (CPred.at s5001 (rowV 4 p9_.2)))]) (.cons (t := 31) rfl Sub.nil) (.cons (t := 5001) rfl SubB.nil) (.cons (t := 0) rfl (.cons (t := 4) rfl (.cons (t := 29) rfl (.cons (t := 30) rfl Sub.nil)))) SubB.nil (fun p9_ o_9 h hD9 => ?_)
      refine Cod.seq ?_
      refine Cod.region [] mixed (by kernel_rfl) ?_
      refine Chain.cons (StepOK.lt .none (.tmp rfl (fun _ => trivial)) (.tmp rfl (fun _ => trivial))) rfl ?_
      refine Chain.nil ?_
      refine Ends.then ?_
      refine Cod.seq ?_
      refine Cod.cond (t := 32) rfl trivial (fun hb10 => ?_) (fun hb10 => ?_)
      · replace h := bif_t h hb10
        refine Cod.skip ?_
        refine Ends.then ?_
        refine Cod.seq ?_
        obtain ⟨o_11, h, hK11⟩ := bindD_some h
        unfold ref_TreeError_L1 at h
        refine Cod.thenJ (ι := (List Bool)) (fun j_11 => []) (fun j_11 => [(5001, some (CPred.at s5001 (rowV 4 j_11)))]) (fun s => o_11 = Res.nx s) (.cons (t := 0) rfl (.cons (t := 4) rfl (.cons (t := 29) rfl (.cons (t := 30) rfl (.cons (t := 31) rfl Sub.nil))))) SubB.nil ?_ (fun j_11 hj11 => ?_)
        · skip
          refine Cod.block ?_
          refine Cod.seq ?_
          refine Cod.region [([], []), ([], []), ([], [6]), ([6], [6])] mixed (by kernel_rfl) ?_
          obtain ⟨hn12, h⟩ := need_some h
          refine Chain.consA (StepOK.indexAddr .none sl56 ty67 (.tmp rfl (fun _ => trivial)) (.tmp rfl (fun _ => trivial)) (fun _ => hn12)) rfl ?_
          obtain ⟨v2, hv13, h⟩ := bnd_some h
          refine Chain.consA (StepOK.re hv13 (StepOK.load .none ty67 (.tmp rfl (fun _ => trivial)))) rfl ?_
          refine Chain.consW (StepOK.alloc zo67 rfl) rfl rfl ?_
          refine Chain.consN (StepOK.store ty67 rfl rfl (.tmp rfl (fun _ => trivial))) rfl ?_
          refine Chain.nil ?_
          refine Ends.then ?_
          refine Cod.freeze (t := 6) rfl rfl (.cons (t := 5001) rfl SubB.nil) rfl ?_
          refine Cod.seq ?_
          refine Cod.seq ?_
          refine Cod.region [] mixed (by kernel_rfl) ?_
          refine Chain.cons (StepOK.fieldAddr .none fd67_0 hfd67_0 (.tmp rfl (fun _ => trivial))) rfl ?_
          refine Chain.cons (StepOK.load .none ty3 (.tmp rfl (fun _ => trivial))) rfl ?_
          obtain ⟨r3, hv14, h⟩ := bind_some h
          refine Chain.cons (StepOK.call .none (ref_In_ok hv14) (.cons (.tmp rfl (fun _ => trivial)) (.cons (.int (by decide)) (.cons (.int (by decide)) .nil)))) rfl ?_
          refine Chain.cons (StepOK.not .none (.tmp rfl (fun _ => trivial))) rfl ?_
          refine Chain.cons (StepOK.move .none (.tmp rfl (fun _ => trivial))) rfl ?_
          refine Chain.cons (StepOK.fieldAddr (.at rfl rfl) fd67_1 hfd67_1 (.tmp rfl (fun _ => trivial))) rfl ?_
          refine Chain.cons (StepOK.load (.at rfl rfl) ty3 (.tmp rfl id)) rfl ?_
          obtain ⟨r4, hv15, h⟩ := bind_some h
          refine Chain.cons (StepOK.callIf (.at rfl rfl) fnok16 (fun hg => ref_In_ok ((fun hg => gd_some hv15 (by simp [hg.2])) hg)) (.cons (.tmp rfl id) (.cons (.int (by decide)) (.cons (.int (by decide)) .nil))) (fun h => h)) rfl ?_
          refine Chain.cons (StepOK.not (.at rfl rfl) (.tmp rfl id)) rfl ?_
          refine Chain.cons (StepOK.pickOr .none (.tmp rfl (fun _ => trivial)) (.tmp rfl id)) rfl ?_
          refine Chain.nil ?_
          refine Ends.then ?_
          refine Cod.cond (t := 44) rfl trivial (fun hb16 => ?_) (fun hb16 => ?_)
          · replace h := bif_t h hb16
            refine Cod.seq ?_
            refine Cod.region [] mixed (by kernel_rfl) ?_
            refine Chain.cons (StepOK.assign .none (.int (by decide))) rfl ?_
            refine Chain.nil ?_
            refine Ends.then ?_
            refine Cod.ret ?_
            refine Ends.thenRet ?_
            refine Ends.blkRet ?_
            refine Ends.thenRet ?_
            refine Ends.thenRet ?_
            refine Ends.blkRet ?_
            refine Ends.thenRet ?_
            replace h := resd_ab hK11 (some_eq h)
            replace h := hD9 _ (some_eq h)
            replace h := resb_ab hK8 (some_eq h)
            obtain rfl := some_eq h
            exact Ends.ret1 (.inl rfl) Try.results30 (ResOK.tmp rfl trivial Imp.refl)
          · replace h := bif_f h hb16
            refine Cod.skip ?_
            refine Ends.then ?_
            refine Cod.seq ?_
            refine Cod.region [] mixed (by kernel_rfl) ?_
            refine Chain.cons (StepOK.fieldAddr .none fd67_2 hfd67_2 (.tmp rfl (fun _ => trivial))) rfl ?_
            refine Chain.cons (StepOK.load .none ty23 (.tmp rfl (fun _ => trivial))) rfl ?_
            refine Chain.cons (StepOK.len .none sl23 (.tmp rfl (fun _ => trivial))) rfl ?_
            refine Chain.cons (StepOK.move .none (.int (by decide))) rfl ?_
            refine Chain.nil ?_
            refine Ends.then ?_
            refine Cod.block ?_
            refine Cod.rforEL h (fun p17_ => [(48, ⟨True, rep p17_.1⟩)]) (fun p17_ => [(5001, some (CPred.at s5001 (rowV 4 p17_.2)))]) (.cons (t := 48) rfl Sub.nil) (.cons (t := 5001) rfl SubB.nil) (.cons (t := 0) rfl (.cons (t := 4) rfl (.cons (t := 29) rfl (.cons (t := 30) rfl (.cons (t := 31) rfl (.cons (t := 46) rfl (.cons (t := 47) rfl Sub.nil))))))) SubB.nil (fun p17_ o_17 h hD17 => ?_)
            refine Cod.seq ?_
            refine Cod.region [] mixed (by kernel_rfl) ?_
            refine Chain.cons (StepOK.lt .none (.tmp rfl (fun _ => trivial)) (.tmp rfl (fun _ => trivial))) rfl ?_
            refine Chain.nil ?_
            refine Ends.then ?_
            refine Cod.seq ?_
            refine Cod.cond (t := 49) rfl trivial (fun hb18 => ?_) (fun hb18 => ?_)
            · replace h := bif_t h hb18
              refine Cod.skip ?_
              refine Ends.then ?_
              refine Cod.seq ?_
              obtain ⟨o_19, h, hK19⟩ := bindD_some h
              unfold ref_TreeError_L2 at h
              refine Cod.thenJ (ι := (List Bool)) (fun j_19 => []) (fun j_19 => [(5001, some (CPred.at s5001 (rowV 4 j_19)))]) (fun s => o_19 = Res.nx s) (.cons (t := 0) rfl (.cons (t := 4) rfl (.cons (t := 29) rfl (.cons (t := 30) rfl (.cons (t := 31) rfl (.cons (t := 46) rfl (.cons (t := 47) rfl (.cons (t := 48) rfl Sub.nil)))))))) SubB.nil ?_ (fun j_19 hj19 => ?_)
              · skip
                refine Cod.block ?_
                refine Cod.seq ?_
                refine Cod.region [] mixed (by kernel_rfl) ?_
                obtain ⟨hn20, h⟩ := need_some h
                refine Chain.cons (StepOK.indexAddr .none sl23 ty3 (.tmp rfl (fun _ => trivial)) (.tmp rfl (fun _ => trivial)) (fun _ => hn20)) rfl ?_
                refine Chain.cons (StepOK.load .none ty3 (.tmp rfl (fun _ => trivial))) rfl ?_
                obtain ⟨k1, hv21, h⟩ := bnd_some h
                refine Chain.cons (StepOK.re hv21 (StepOK.assign .none (.tmp rfl (fun _ => trivial)))) rfl ?_
                refine Chain.nil ?_
                refine Ends.then ?_
                refine Cod.seq ?_
                refine Cod.seq ?_
                refine Cod.region [] mixed (by kernel_rfl) ?_
                refine Chain.cons (StepOK.move .none (.tmp rfl (fun _ => trivial))) rfl ?_
                refine Chain.cons (StepOK.move .none (.tmp rfl (fun _ => trivial))) rfl ?_
                refine Chain.cons (StepOK.len .none sl56 (.tmp rfl (fun _ => trivial))) rfl ?_
                refine Chain.cons (StepOK.subW .none (.tmp rfl (fun _ => trivial)) (.int (by decide))) rfl ?_
                obtain ⟨r5, hv22, h⟩ := bind_some h
                refine Chain.cons (StepOK.call .none (ref_In_ok hv22) (.cons (.tmp rfl (fun _ => trivial)) (.cons (.int (by decide)) (.cons (.tmp rfl (fun _ => trivial)) .nil)))) rfl ?_
                refine Chain.cons (StepOK.not .none (.tmp rfl (fun _ => trivial))) rfl ?_
                refine Chain.nil ?_
                refine Ends.then ?_
                refine Cod.cond (t := 57) rfl trivial (fun hb23 => ?_) (fun hb23 => ?_)
                · replace h := bif_t h hb23
                  refine Cod.seq ?_
                  refine Cod.region [] mixed (by kernel_rfl) ?_
                  refine Chain.cons (StepOK.assign .none (.int (by decide))) rfl ?_
                  refine Chain.nil ?_
                  refine Ends.then ?_
                  refine Cod.ret ?_
                  refine Ends.thenRet ?_
                  refine Ends.blkRet ?_
                  refine Ends.thenRet ?_
                  refine Ends.thenRet ?_
                  refine Ends.blkRet ?_
                  refine Ends.blkRet ?_
                  refine Ends.thenRet ?_
                  refine Ends.thenRet ?_
                  refine Ends.blkRet ?_
                  refine Ends.thenRet ?_
                  replace h := resd_ab hK19 (some_eq h)
                  replace h := hD17 _ (some_eq h)
                  replace h := resd_ab hK11 (some_eq h)
                  replace h := hD9 _ (some_eq h)
                  replace h := resb_ab hK8 (some_eq h)
                  obtain rfl := some_eq h
                  exact Ends.ret1 (.inl rfl) Try.results30 (ResOK.tmp rfl trivial Imp.refl)
                · replace h := bif_f h hb23
                  refine Cod.skip ?_
                  refine Ends.then ?_
                  refine Cod.seq ?_
                  refine Cod.seq ?_
                  refine Cod.region [([], []), ([], []), ([], []), ([], []), ([], []), ([5001], []), ([5001], []), ([], []), ([], []), ([], []), ([], [])] mixed (by kernel_rfl) ?_
                  refine Chain.consA (StepOK.move .none (.tmp rfl (fun _ => trivial))) rfl ?_
                  refine Chain.consA (StepOK.eqI .none (.tmp rfl (fun _ => trivial)) (.int (by decide))) rfl ?_
                  obtain ⟨r6, hv24, h⟩ := bind_some h
                  refine Chain.consA (StepOK.call .none (ref_When_ok hv24) (.cons (.tmp rfl (fun _ => trivial)) (.cons (.int (by decide)) .nil))) rfl ?_
                  refine Chain.consA (StepOK.move .none (.tmp rfl (fun _ => trivial))) rfl ?_
                  refine Chain.consA (StepOK.move .none (.tmp rfl (fun _ => trivial))) rfl ?_
                  obtain ⟨hn25, h⟩ := need_some h
                  refine Chain.consA (StepOK.indexAddrO (k := 5001) .none sl100 ty4 (.tmp rfl (fun _ => trivial)) rfl (.tmp rfl (fun _ => trivial)) (fun _ => hn25)) rfl ?_
                  refine Chain.consA (StepOK.loadElem0 (k := 5001) .none ty4 (.tmp rfl (fun _ => trivial)) rfl (fun _ => hn25)) rfl ?_
                  obtain ⟨r7, hv26, h⟩ := bind_some h
                  refine Chain.consA (StepOK.call .none (ref_When_ok hv26) (.cons (.tmp rfl (fun _ => trivial)) (.cons (.int (by decide)) .nil))) rfl ?_
                  refine Chain.consA (StepOK.buildSlice (xs := [_, _]) .none sl87 ty24 hz24 (.cons (.tmp rfl (fun _ => trivial)) (.cons (.tmp rfl (fun _ => trivial)) .nil)) rfl (by decide)) rfl ?_
                  obtain ⟨e2, hv27, h⟩ := bind_some h
                  refine Chain.consA (StepOK.call .none (ref_First_ok hv27) (.cons (.tmp rfl (fun _ => trivial)) .nil)) rfl ?_
                  refine Chain.consA (StepOK.assign .none (.tmp rfl (fun _ => trivial))) rfl ?_
                  refine Chain.nil ?_
                  refine Ends.then ?_
                  refine Cod.seq ?_
                  refine Cod.region [] mixed (by kernel_rfl) ?_
                  refine Chain.cons (StepOK.move .none (.tmp rfl (fun _ => trivial))) rfl ?_
                  refine Chain.cons (StepOK.neI .none (.tmp rfl (fun _ => trivial)) (.int (by decide))) rfl ?_
                  refine Chain.nil ?_
                  refine Ends.then ?_
                  refine Cod.cond (t := 69) rfl trivial (fun hb28 => ?_) (fun hb28 => ?_)
                  · replace h := bif_t h hb28
                    refine Cod.seq ?_
                    refine Cod.region [] mixed (by kernel_rfl) ?_
                    refine Chain.cons (StepOK.move .none (.tmp rfl (fun _ => trivial))) rfl ?_
                    refine Chain.cons (StepOK.assign .none (.tmp rfl (fun _ => trivial))) rfl ?_
                    refine Chain.nil ?_
                    refine Ends.then ?_
                    refine Cod.ret ?_
                    refine Ends.thenRet ?_
                    refine Ends.blkRet ?_
                    refine Ends.thenRet ?_
                    refine Ends.thenRet ?_
                    refine Ends.blkRet ?_
                    refine Ends.blkRet ?_
                    refine Ends.thenRet ?_
                    refine Ends.thenRet ?_
                    refine Ends.blkRet ?_
                    refine Ends.thenRet ?_
                    replace h := resd_ab hK19 (some_eq h)
                    replace h := hD17 _ (some_eq h)
                    replace h := resd_ab hK11 (some_eq h)
                    replace h := hD9 _ (some_eq h)
                    replace h := resb_ab hK8 (some_eq h)
                    obtain rfl := some_eq h
                    exact Ends.ret1 (.inl rfl) Try.results30 (ResOK.tmp rfl trivial Imp.refl)
                  · replace h := bif_f h hb28
                    refine Cod.skip ?_
                    refine Ends.then ?_
                    refine Cod.region [([], []), ([], []), ([5001], []), ([5001], [5001])] mixed (by kernel_rfl) ?_
                    refine Chain.consA (StepOK.move .none (.tmp rfl (fun _ => trivial))) rfl ?_
                    refine Chain.consA (StepOK.move .none (.tmp rfl (fun _ => trivial))) rfl ?_
                    obtain ⟨hn29, h⟩ := need_some h
                    refine Chain.consA (StepOK.indexAddrO (k := 5001) .none sl100 ty4 (.tmp rfl (fun _ => trivial)) rfl (.tmp rfl (fun _ => trivial)) (fun _ => hn29)) rfl ?_
                    refine Chain.consN (StepOK.storeElem0 (k := 5001) ty4 (.tmp rfl (fun _ => trivial)) rfl .bool hn29) rfl ?_
                    refine Chain.nil ?_
                    refine Ends.blkNormal ?_
                    exact Ends.join _ (some_eq h) (.cons (t := 0) rfl (.cons (t := 4) rfl (.cons (t := 29) rfl (.cons (t := 30) rfl (.cons (t := 31) rfl (.cons (t := 46) rfl (.cons (t := 47) rfl (.cons (t := 48) rfl Sub.nil)))))))) (.cons (t := 5001) rfl SubB.nil)
              · have h := resd_nx hK19 hj19
                refine Cod.region [] mixed (by kernel_rfl) ?_
                refine Chain.cons (StepOK.addW .none (.tmp rfl (fun _ => trivial)) (.int (by decide))) rfl ?_
                refine Chain.cons (StepOK.move .none (.tmp rfl (fun _ => trivial))) rfl ?_
                refine Chain.nil ?_
                exact Ends.againL (some_eq h) (.cons (t := 48) rfl (.cons (t := 0) rfl (.cons (t := 4) rfl (.cons (t := 29) rfl (.cons (t := 30) rfl (.cons (t := 31) rfl (.cons (t := 46) rfl (.cons (t := 47) rfl Sub.nil)))))))) (.cons (t := 5001) rfl SubB.nil)
            · replace h := bif_f h hb18
              refine Cod.exit ?_
              refine Ends.thenExit ?_
              refine Ends.thenExit ?_
              refine Ends.blkExit ?_
              refine Ends.blkNormal ?_
              replace h := hD17 _ (some_eq h)
              exact Ends.join _ (some_eq h) (.cons (t := 0) rfl (.cons (t := 4) rfl (.cons (t := 29) rfl (.cons (t := 30) rfl (.cons (t := 31) rfl Sub.nil))))) (.cons (t := 5001) rfl SubB.nil)
        · have h := resd_nx hK11 hj11
          refine Cod.region [] mixed (by kernel_rfl) ?_
          refine Chain.cons (StepOK.addW .none (.tmp rfl (fun _ => trivial)) (.int (by decide))) rfl ?_
          refine Chain.cons (StepOK.move .none (.tmp rfl (fun _ => trivial))) rfl ?_
          refine Chain.nil ?_
          exact Ends.againL (some_eq h) (.cons (t := 31) rfl (.cons (t := 0) rfl (.cons (t := 4) rfl (.cons (t := 29) rfl (.cons (t := 30) rfl Sub.nil))))) (.cons (t := 5001) rfl SubB.nil)
      · replace h := bif_f h hb10
        refine Cod.exit ?_
        refine Ends.thenExit ?_
        refine Ends.thenExit ?_
        refine Ends.blkExit ?_
        replace h := hD9 _ (some_eq h)
        exact Ends.join _ (some_eq h) (.cons (t := 0) rfl (.cons (t := 4) rfl Sub.nil)) (.cons (t := 5001) rfl SubB.nil)
    · have h := resb_nx hK8 hj8
      refine Cod.freezeRow (g := 5001) (ts := [4]) rfl (.cons (t := 4) rfl trivial .nil) SubB.nil rfl ?_
      refine Cod.seq ?_
      refine Cod.seq ?_
      refine Cod.region [] mixed (by kernel_rfl) ?_
      refine Chain.cons (StepOK.move .none (.tmp rfl (fun _ => trivial))) rfl ?_
      obtain ⟨hn30, h⟩ := need_some h
      refine Chain.cons (StepOK.slice .none sl100 ty4 (.tmp rfl (fun _ => trivial)) (.int (by decide)) rfl (fun _ => hn30)) rfl ?_
      obtain ⟨r8, hv31, h⟩ := bind_some h
      refine Chain.cons (StepOK.call .none (slices_Contains_bool_ok hv31) (.cons (.tmp rfl (fun _ => trivial)) (.cons .bool .nil))) rfl ?_
      refine Chain.nil ?_
      refine Ends.then ?_
      refine Cod.cond (t := 78) rfl trivial (fun hb32 => ?_) (fun hb32 => ?_)
      · replace h := bif_t h hb32
        refine Cod.seq ?_
        refine Cod.region [] mixed (by kernel_rfl) ?_
        refine Chain.cons (StepOK.assign .none (.int (by decide))) rfl ?_
        refine Chain.nil ?_
        refine Ends.then ?_
        refine Cod.ret ?_
        refine Ends.thenRet ?_
        obtain rfl := some_eq h
        exact Ends.ret1 (.inl rfl) Try.results30 (ResOK.tmp rfl trivial Imp.refl)
      · replace h := bif_f h hb32
        refine Cod.skip ?_
        refine Ends.then ?_
        refine Cod.seq ?_
        refine Cod.region [] mixed (by kernel_rfl) ?_
        refine Chain.cons (StepOK.assign .none (.int (by decide))) rfl ?_
        refine Chain.nil ?_
        refine Ends.then ?_
        refine Cod.seq ?_
        refine Cod.seq ?_
        refine Cod.region [] mixed (by kernel_rfl) ?_
        refine Chain.cons (StepOK.move .none (.tmp rfl (fun _ => trivial))) rfl ?_
        obtain ⟨r9, hv33, h⟩ := bind_some h
        refine Chain.cons (StepOK.call .none (ref_LevelsOf_ok hv33) (.cons (.tmp rfl (fun _ => trivial)) .nil)) rfl ?_
        refine Chain.cons (StepOK.len .none sl64 (.tmp rfl (fun _ => trivial))) rfl ?_
        refine Chain.cons (StepOK.move .none (.int (by decide))) rfl ?_
        refine Chain.nil ?_
        refine Ends.then ?_
        obtain ⟨j_34, h, hK34⟩ := bind_some h
        refine Cod.thenJ (ι := Int) (fun j_34 => [(10, ⟨True, rep j_34⟩)]) (fun j_34 => []) (fun s => j_34 = s) (.cons (t := 0) rfl Sub.nil) SubB.nil ?_ (fun j_34' hj34 => ?_)
        · skip
          refine Cod.block ?_
          refine Cod.rforL h (fun p35_ => [(82, ⟨True, rep p35_.1⟩), (10, ⟨True, rep p35_.2⟩)]) (fun p35_ => []) (.cons (t := 82) rfl (.cons (t := 10) rfl Sub.nil)) SubB.nil (.cons (t := 0) rfl (.cons (t := 80) rfl (.cons (t := 81) rfl Sub.nil))) SubB.nil (fun p35_ o_35 h hD35 => ?_)
          refine Cod.seq ?_
          refine Cod.region [] mixed (by kernel_rfl) ?_
          refine Chain.cons (StepOK.lt .none (.tmp rfl (fun _ => trivial)) (.tmp rfl (fun _ => trivial))) rfl ?_
          refine Chain.nil ?_
          refine Ends.then ?_
          refine Cod.seq ?_
          refine Cod.cond (t := 83) rfl trivial (fun hb36 => ?_) (fun hb36 => ?_)
          · replace h := bif_t h hb36
            refine Cod.skip ?_
            refine Ends.then ?_
            refine Cod.seq ?_
            obtain ⟨j_37, h, hK37⟩ := bind_some h
            unfold ref_TreeError_L3 at h
            refine Cod.thenJ (ι := Int) (fun j_37 => [(10, ⟨True, rep j_37⟩)]) (fun j_37 => []) (fun s => j_37 = s) (.cons (t := 0) rfl (.cons (t := 80) rfl (.cons (t := 81) rfl (.cons (t := 82) rfl Sub.nil)))) SubB.nil ?_ (fun j_37' hj37 => ?_)
            · skip
              refine Cod.block ?_
              refine Cod.seq ?_
              refine Cod.region [] mixed (by kernel_rfl) ?_
              obtain ⟨hn38, h⟩ := need_some h
              refine Chain.cons (StepOK.indexAddr .none sl64 ty23 (.tmp rfl (fun _ => trivial)) (.tmp rfl (fun _ => trivial)) (fun _ => hn38)) rfl ?_
              refine Chain.cons (StepOK.load .none ty23 (.tmp rfl (fun _ => trivial))) rfl ?_
              refine Chain.cons (StepOK.assign .none (.tmp rfl (fun _ => trivial))) rfl ?_
              refine Chain.nil ?_
              refine Ends.then ?_
              refine Cod.region [] mixed (by kernel_rfl) ?_
              refine Chain.cons (StepOK.move .none (.tmp rfl (fun _ => trivial))) rfl ?_
              refine Chain.cons (StepOK.move .none (.tmp rfl (fun _ => trivial))) rfl ?_
              refine Chain.cons (StepOK.len .none sl23 (.tmp rfl (fun _ => trivial))) rfl ?_
              refine Chain.cons (StepOK.addW .none (.tmp rfl (fun _ => trivial)) (.tmp rfl (fun _ => trivial))) rfl ?_
              obtain ⟨many1, hv39, h⟩ := bnd_some h
              refine Chain.cons (StepOK.re hv39 (StepOK.assign .none (.tmp rfl (fun _ => trivial)))) rfl ?_
              refine Chain.nil ?_
              refine Ends.blkNormal ?_
              exact Ends.join _ (some_eq h) (.cons (t := 10) rfl (.cons (t := 0) rfl (.cons (t := 80) rfl (.cons (t := 81) rfl (.cons (t := 82) rfl Sub.nil))))) SubB.nil
            · subst hj37; have h := hK37; clear hK37
              refine Cod.region [] mixed (by kernel_rfl) ?_
              refine Chain.cons (StepOK.addW .none (.tmp rfl (fun _ => trivial)) (.int (by decide))) rfl ?_
              refine Chain.cons (StepOK.move .none (.tmp rfl (fun _ => trivial))) rfl ?_
              refine Chain.nil ?_
              exact Ends.againL (some_eq h) (.cons (t := 82) rfl (.cons (t := 10) rfl (.cons (t := 0) rfl (.cons (t := 80) rfl (.cons (t := 81) rfl Sub.nil))))) SubB.nil
          · replace h := bif_f h hb36
            refine Cod.exit ?_
            refine Ends.thenExit ?_
            refine Ends.thenExit ?_
            refine Ends.blkExit ?_
            replace h := hD35 _ (some_eq h)
            exact Ends.join _ (some_eq h) (.cons (t := 10) rfl (.cons (t := 0) rfl Sub.nil)) SubB.nil
        · subst hj34; have h := hK34; clear hK34
          refine Cod.seq ?_
          refine Cod.region [] mixed (by kernel_rfl) ?_
          refine Chain.cons (StepOK.move .none (.tmp rfl (fun _ => trivial))) rfl ?_
          refine Chain.cons (StepOK.move .none (.tmp rfl (fun _ => trivial))) rfl ?_
          refine Chain.cons (StepOK.len .none sl56 (.tmp rfl (fun _ => trivial))) rfl ?_
          refine Chain.cons (StepOK.neI .none (.tmp rfl (fun _ => trivial)) (.tmp rfl (fun _ => trivial))) rfl ?_
          obtain ⟨r10, hv40, h⟩ := bind_some h
          refine Chain.cons (StepOK.call .none (ref_When_ok hv40) (.cons (.tmp rfl (fun _ => trivial)) (.cons (.int (by decide)) .nil))) rfl ?_
          refine Chain.cons (StepOK.assign .none (.tmp rfl (fun _ => trivial))) rfl ?_
          refine Chain.nil ?_
          refine Ends.then ?_
          refine Cod.ret ?_
          obtain rfl := some_eq h
          exact Ends.ret1 (.inl rfl) Try.results30 (ResOK.tmp rfl trivial Imp.refl)

theorem ref_LeavesOf_okS {self : ((List Branch) × Int) → Option Int} (hself : ∀  (x : ((List Branch) × Int)) (r : Int), self x = some r → FSpec Try.prog 42 [rep x.1, rep x.2] (rep r))  {x : ((List Branch) × Int)} {r : Int} (h : ref_LeavesOf_body self x = some r) : FSpec Try.prog 42 [rep x.1, rep x.2] (rep r) := by
  unfold ref_LeavesOf_body at h
  refine FSpec.intro (n := 32) fnok42 Try.func42 rfl Try.ntmps42 rfl (fun F => ?_)
  refine Cod.seq ?_
  refine Cod.region [] mixed (by kernel_rfl) ?_
  refine Chain.cons (StepOK.assign .none (.int (by decide))) rfl ?_
  refine Chain.nil ?_
  refine Ends.then ?_
  refine Cod.seq ?_
  refine Cod.seq ?_
  refine Cod.region [] mixed (by kernel_rfl) ?_
  refine Chain.cons (StepOK.move .none (.tmp rfl (fun _ => trivial))) rfl ?_
  refine Chain.cons (StepOK.move .none (.tmp rfl (fun _ => trivial))) rfl ?_
  obtain ⟨hn1, h⟩ := need_some h
  refine Chain.cons (StepOK.indexAddr .none sl56 ty67 (.tmp rfl (fun _ => trivial)) (.tmp rfl (fun _ => trivial)) (fun _ => hn1)) rfl ?_
  refine Chain.cons (StepOK.fieldAddr .none fd67_2 hfd67_2 (.tmp rfl (fun _ => trivial))) rfl ?_
  refine Chain.cons (StepOK.load .none ty23 (.tmp rfl (fun _ => trivial))) rfl ?_
  refine Chain.cons (StepOK.len .none sl23 (.tmp rfl (fun _ => trivial))) rfl ?_
  refine Chain.cons (StepOK.eqI .none (.tmp rfl (fun _ => trivial)) (.int (by decide))) rfl ?_
  refine Chain.nil ?_
  refine Ends.then ?_
  refine Cod.cond (t := 14) rfl trivial (fun hb2 => ?_) (fun hb2 => ?_)
  · replace h := bif_t h hb2
    refine Cod.seq ?_
    refine Cod.region [] mixed (by kernel_rfl) ?_
    refine Chain.cons (StepOK.assign .none (.int (by decide))) rfl ?_
    refine Chain.nil ?_
    refine Ends.then ?_
    refine Cod.ret ?_
    refine Ends.thenRet ?_
    obtain rfl := some_eq h
    exact Ends.ret1 (.inl rfl) Try.results42 (ResOK.tmp rfl trivial Imp.refl)
  · replace h := bif_f h hb2
    refine Cod.skip ?_
    refine Ends.then ?_
    refine Cod.seq ?_
    refine Cod.region [] mixed (by kernel_rfl) ?_
    refine Chain.cons (StepOK.assign .none (.int (by decide))) rfl ?_
    refine Chain.nil ?_
    refine Ends.then ?_
    refine Cod.seq ?_
    refine Cod.seq ?_
    refine Cod.region [] mixed (by kernel_rfl) ?_
    refine Chain.cons (StepOK.move .none (.tmp rfl (fun _ => trivial))) rfl ?_
    refine Chain.cons (StepOK.move .none (.tmp rfl (fun _ => trivial))) rfl ?_
    obtain ⟨hn3, h⟩ := need_some h
    refine Chain.cons (StepOK.indexAddr .none sl56 ty67 (.tmp rfl (fun _ => trivial)) (.tmp rfl (fun _ => trivial)) (fun _ => hn3)) rfl ?_
    refine Chain.cons (StepOK.fieldAddr .none fd67_2 hfd67_2 (.tmp rfl (fun _ => trivial))) rfl ?_
    obtain ⟨v1, hv4, h⟩ := bnd_some h
    refine Chain.cons (StepOK.re hv4 (StepOK.load .none ty23 (.tmp rfl (fun _ => trivial)))) rfl ?_
    refine Chain.cons (StepOK.len .none sl23 (.tmp rfl (fun _ => trivial))) rfl ?_
    refine Chain.cons (StepOK.move .none (.int (by decide))) rfl ?_
    refine Chain.nil ?_
    refine Ends.then ?_
    obtain ⟨j_5, h, hK5⟩ := bind_some h
    refine Cod.thenJ (ι := Int) (fun j_5 => [(5, ⟨True, rep j_5⟩)]) (fun j_5 => []) (fun s => j_5 = s) Sub.nil SubB.nil ?_ (fun j_5' hj5 => ?_)
    · skip
      refine Cod.block ?_
      refine Cod.rforL h (fun p6_ => [(21, ⟨True, rep p6_.1⟩), (5, ⟨True, rep p6_.2⟩)]) (fun p6_ => []) (.cons (t := 21) rfl (.cons (t := 5) rfl Sub.nil)) SubB.nil (.cons (t := 0) rfl (.cons (t := 19) rfl (.cons (t := 20) rfl Sub.nil))) SubB.nil (fun p6_ o_6 h hD6 => ?_)
      refine Cod.seq ?_
      refine Cod.region [] mixed (by kernel_rfl) ?_
      refine Chain.cons (StepOK.lt .none (.tmp rfl (fun _ => trivial)) (.tmp rfl (fun _ => trivial))) rfl ?_
      refine Chain.nil ?_
      refine Ends.then ?_
      refine Cod.seq ?_
      refine Cod.cond (t := 22) rfl trivial (fun hb7 => ?_) (fun hb7 => ?_)
      · replace h := bif_t h hb7
        refine Cod.skip ?_
        refine Ends.then ?_
        refine Cod.seq ?_
        obtain ⟨j_8, h, hK8⟩ := bind_some h
        unfold ref_LeavesOf_L1 at h
        refine Cod.thenJ (ι := Int) (fun j_8 => [(5, ⟨True, rep j_8⟩)]) (fun j_8 => []) (fun s => j_8 = s) (.cons (t := 0) rfl (.cons (t := 19) rfl (.cons (t := 20) rfl (.cons (t := 21) rfl Sub.nil)))) SubB.nil ?_ (fun j_8' hj8 => ?_)
        · skip
          refine Cod.block ?_
          refine Cod.seq ?_
          refine Cod.region [] mixed (by kernel_rfl) ?_
          obtain ⟨hn9, h⟩ := need_some h
          refine Chain.cons (StepOK.indexAddr .none sl23 ty3 (.tmp rfl (fun _ => trivial)) (.tmp rfl (fun _ => trivial)) (fun _ => hn9)) rfl ?_
          refine Chain.cons (StepOK.load .none ty3 (.tmp rfl (fun _ => trivial))) rfl ?_
          refine Chain.cons (StepOK.assign .none (.tmp rfl (fun _ => trivial))) rfl ?_
          refine Chain.nil ?_
          refine Ends.then ?_
          refine Cod.region [] mixed (by kernel_rfl) ?_
          refine Chain.cons (StepOK.move .none (.tmp rfl (fun _ => trivial))) rfl ?_
          refine Chain.cons (StepOK.move .none (.tmp rfl (fun _ => trivial))) rfl ?_
          refine Chain.cons (StepOK.move .none (.tmp rfl (fun _ => trivial))) rfl ?_
          obtain ⟨r1, hv10, h⟩ := bind_some h
          refine Chain.cons (StepOK.call .none (hself _ _ hv10) (.cons (.tmp rfl (fun _ => trivial)) (.cons (.tmp rfl (fun _ => trivial)) .nil))) rfl ?_
          refine Chain.cons (StepOK.addW .none (.tmp rfl (fun _ => trivial)) (.tmp rfl (fun _ => trivial))) rfl ?_
          obtain ⟨sum1, hv11, h⟩ := bnd_some h
          refine Chain.cons (StepOK.re hv11 (StepOK.assign .none (.tmp rfl (fun _ => trivial)))) rfl ?_
          refine Chain.nil ?_
          refine Ends.blkNormal ?_
          exact Ends.join _ (some_eq h) (.cons (t := 5) rfl (.cons (t := 0) rfl (.cons (t := 19) rfl (.cons (t := 20) rfl (.cons (t := 21) rfl Sub.nil))))) SubB.nil
        · subst hj8; have h := hK8; clear hK8
          refine Cod.region [] mixed (by kernel_rfl) ?_
          refine Chain.cons (StepOK.addW .none (.tmp rfl (fun _ => trivial)) (.int (by decide))) rfl ?_
          refine Chain.cons (StepOK.move .none (.tmp rfl (fun _ => trivial))) rfl ?_
          refine Chain.nil ?_
          exact Ends.againL (some_eq h) (.cons (t := 21) rfl (.cons (t := 5) rfl (.cons (t := 0) rfl (.cons (t := 19) rfl (.cons (t := 20) rfl Sub.nil))))) SubB.nil
      · replace h := bif_f h hb7
        refine Cod.exit ?_
        refine Ends.thenExit ?_
        refine Ends.thenExit ?_
        refine Ends.blkExit ?_
        replace h := hD6 _ (some_eq h)
        exact Ends.join _ (some_eq h) (.cons (t := 5) rfl Sub.nil) SubB.nil
    · subst hj5; have h := hK5; clear hK5
      refine Cod.seq ?_
      refine Cod.region [] mixed (by kernel_rfl) ?_
      refine Chain.cons (StepOK.move .none (.tmp rfl (fun _ => trivial))) rfl ?_
      refine Chain.cons (StepOK.assign .none (.tmp rfl (fun _ => trivial))) rfl ?_
      refine Chain.nil ?_
      refine Ends.then ?_
      refine Cod.ret ?_
      obtain rfl := some_eq h
      exact Ends.ret1 (.inl rfl) Try.results42 (ResOK.tmp rfl trivial Imp.refl)
theorem ref_LeavesOf_okN : ∀ (k : Nat)  (x : ((List Branch) × Int)) (r : Int) (h : fixN ref_LeavesOf_body k x = some r), FSpec Try.prog 42 [rep x.1, rep x.2] (rep r)
  | 0, x, r, h => by simp [fixN] at h
  | k + 1, x, r, h => ref_LeavesOf_okS (ref_LeavesOf_okN k) h
theorem ref_LeavesOf_ok {t1 : (List Branch)} {n1 : Int} {r : Int}  (h : ref_LeavesOf t1 n1 = some r) : FSpec Try.prog 42 [rep t1, rep n1] (rep r) :=
  let ⟨k, hk⟩ := fixp_some h
  ref_LeavesOf_okN k (t1, n1) r hk

theorem law_TreesMatch_1_ok {c0_1 : (List Branch)} {r : (List Int)}  (h : law_TreesMatch_1 c0_1 = some r) : FSpec Try.prog 41 [ref c0_1] (rep r) := by
  unfold law_TreesMatch_1 at h
  refine FSpec.intro (n := 17) fnok41 Try.func41 rfl Try.ntmps41 rfl (fun F => ?_)
  refine Cod.seq ?_
  refine Cod.region [] mixed (by kernel_rfl) ?_
  refine Chain.cons (StepOK.assign .none (.const (x := ([] : (List Int))) (fun M w => ⟨_, ⟨none, 0, rfl, Nat.le_refl _, by decide, rfl⟩, rfl⟩))) rfl ?_
  refine Chain.nil ?_
  refine Ends.then ?_
  refine Cod.seq ?_
  refine Cod.region [([], [2])] mixed (by kernel_rfl) ?_
  refine Chain.consW (StepOK.nilRow (T := 3) (α := Int) rfl) rfl rfl ?_
  refine Chain.nil ?_
  refine Ends.then ?_
  refine Cod.nameRow (t := 2) (g := 5001) rfl rfl rfl (fun s5001 => ?_)
  refine Cod.seq ?_
  refine Cod.seq ?_
  refine Cod.region [] mixed (by kernel_rfl) ?_
  refine Chain.cons (StepOK.load .none ty56 (.tmp rfl (fun _ => trivial))) rfl ?_
  refine Chain.cons (StepOK.len .none sl56 (.tmp rfl (fun _ => trivial))) rfl ?_
  refine Chain.cons (StepOK.move .none (.int (by decide))) rfl ?_
  refine Chain.nil ?_
  refine Ends.then ?_
  obtain ⟨j_1, h, hK1⟩ := bind_some h
  refine Cod.thenJ (ι := (List Int)) (fun j_1 => []) (fun j_1 => [(2, some (rowV 3 j_1))]) (fun s => j_1 = s) Sub.nil SubB.nil ?_ (fun j_1' hj1 => ?_)
  · skip
    refine Cod.block ?_
    refine Cod.anon (t := 2) (g := 5001) rfl rfl trivial rfl ?_
    refine Cod.rforL h (fun p2_ => [(6, ⟨True, rep p2_.1⟩)]) (fun p2_ => [(2, some (rowV 3 p2_.2))]) (.cons (t := 6) rfl Sub.nil) (.cons (t := 2) rfl SubB.nil) (.cons (t := 0) rfl (.cons (t := 5) rfl Sub.nil)) SubB.nil (fun p2_ o_2 h hD2 => ?_)
    refine Cod.nameRow (t := 2) (g := 5002) rfl rfl rfl (fun s5002 => ?_)
    refine Cod.seq ?_
    refine Cod.region [] mixed (by kernel_rfl) ?_
    refine Chain.cons (StepOK.lt .none (.tmp rfl (fun _ => trivial)) (.tmp rfl (fun _ => trivial))) rfl ?_
    refine Chain.nil ?_
    refine Ends.then ?_
    refine Cod.seq ?_
    refine Cod.cond (t := 7) rfl trivial (fun hb3 => ?_) (fun hb3 => ?_)
    · replace h := bif_t h hb3
      refine Cod.skip ?_
      refine Ends.then ?_
      refine Cod.seq ?_
      obtain ⟨j_4, h, hK4⟩ := bind_some h
      unfold law_TreesMatch_1_L1 at h
      refine Cod.thenJ (ι := (List Int)) (fun j_4 => []) (fun j_4 => [(2, some (rowV 3 j_4))]) (fun s => j_4 = s) (.cons (t := 0) rfl (.cons (t := 5) rfl (.cons (t := 6) rfl Sub.nil))) SubB.nil ?_ (fun j_4' hj4 => ?_)
      · skip
        refine Cod.block ?_
        refine Cod.seq ?_
        refine Cod.region [] mixed (by kernel_rfl) ?_
        refine Chain.cons (StepOK.move .none (.tmp rfl (fun _ => trivial))) rfl ?_
        refine Chain.cons (StepOK.assign .none (.tmp rfl (fun _ => trivial))) rfl ?_
        refine Chain.nil ?_
        refine Ends.then ?_
        refine Cod.region [([], []), ([], []), ([], []), ([], []), ([], []), ([5002], [14, 5002]), ([14], [2, 14])] mixed (by kernel_rfl) ?_
        refine Chain.consA (StepOK.move .none (.tmp rfl (fun _ => trivial))) rfl ?_
        refine Chain.consA (StepOK.load .none ty56 (.tmp rfl (fun _ => trivial))) rfl ?_
        refine Chain.consA (StepOK.move .none (.tmp rfl (fun _ => trivial))) rfl ?_
        obtain ⟨r1, hv5, h⟩ := bind_some h
        refine Chain.consA (StepOK.call .none (ref_LeavesOf_ok hv5) (.cons (.tmp rfl (fun _ => trivial)) (.cons (.tmp rfl (fun _ => trivial)) .nil))) rfl ?_
        refine Chain.consA (StepOK.buildSlice (xs := [_]) .none sl23 ty3 hz3 (.cons (.tmp rfl (fun _ => trivial)) .nil) rfl (by decide)) rfl ?_
        obtain ⟨hn6, h⟩ := need_some h
        refine Chain.consW (StepOK.append (k := 5002) rk23 rfl (.told (.tmp rfl (fun _ => trivial)) rfl) (.tmp rfl (fun _ => trivial)) hn6) rfl rfl ?_
        refine Chain.consWD (StepOK.passRow rfl (.tmp rfl)) rfl rfl ?_
        refine Chain.nil ?_
        refine Ends.blkNormal ?_
        exact Ends.join _ (some_eq h) (.cons (t := 0) rfl (.cons (t := 5) rfl (.cons (t := 6) rfl Sub.nil))) (.cons (t := 2) rfl SubB.nil)
      · subst hj4; have h := hK4; clear hK4
        refine Cod.nameRow (t := 2) (g := 5003) rfl rfl rfl (fun s5003 => ?_)
        refine Cod.region [] mixed (by kernel_rfl) ?_
        refine Chain.cons (StepOK.addW .none (.tmp rfl (fun _ => trivial)) (.int (by decide))) rfl ?_
        refine Chain.cons (StepOK.move .none (.tmp rfl (fun _ => trivial))) rfl ?_
        refine Chain.nil ?_
        refine Ends.anon (t := 2) (g := 5003) rfl rfl trivial rfl ?_
        exact Ends.againL (some_eq h) (.cons (t := 6) rfl (.cons (t := 0) rfl (.cons (t := 5) rfl Sub.nil))) (.cons (t := 2) rfl SubB.nil)
    · replace h := bif_f h hb3
      refine Cod.exit ?_
      refine Ends.thenExit ?_
      refine Ends.thenExit ?_
      refine Ends.blkExit ?_
      refine Ends.anon (t := 2) (g := 5002) rfl rfl trivial rfl ?_
      replace h := hD2 _ (some_eq h)
      exact Ends.join _ (some_eq h) Sub.nil (.cons (t := 2) rfl SubB.nil)
  · subst hj1; have h := hK1; clear hK1
    refine Cod.freezeRowA (t := 2) rfl rfl SubB.nil rfl ?_
    refine Cod.seq ?_
    refine Cod.region [] mixed (by kernel_rfl) ?_
    refine Chain.cons (StepOK.move .none (.tmp rfl (fun _ => trivial))) rfl ?_
    refine Chain.cons (StepOK.assign .none (.tmp rfl (fun _ => trivial))) rfl ?_
    refine Chain.nil ?_
    refine Ends.then ?_
    refine Cod.ret ?_
    obtain rfl := some_eq h
    exact Ends.ret1 (.inl rfl) Try.results41 (ResOK.tmp rfl trivial Imp.refl)

theorem law_TreesMatch_2_ok {a1 : (List Int)} {b1 : (List Int)} {r : Bool}  (h : law_TreesMatch_2 a1 b1 = some r) : FSpec Try.prog 44 [rep a1, rep b1] (rep r) := by
  unfold law_TreesMatch_2 at h
  refine FSpec.intro (n := 8) fnok44 Try.func44 rfl Try.ntmps44 rfl (fun F => ?_)
  refine Cod.seq ?_
  refine Cod.region [] mixed (by kernel_rfl) ?_
  refine Chain.cons (StepOK.assign .none .bool) rfl ?_
  refine Chain.nil ?_
  refine Ends.then ?_
  refine Cod.seq ?_
  refine Cod.region [] mixed (by kernel_rfl) ?_
  refine Chain.cons (StepOK.move .none (.tmp rfl (fun _ => trivial))) rfl ?_
  refine Chain.cons (StepOK.move .none (.tmp rfl (fun _ => trivial))) rfl ?_
  obtain ⟨r1, hv1, h⟩ := bind_some h
  refine Chain.cons (StepOK.call .none (slices_Equal_int_ok hv1) (.cons (.tmp rfl (fun _ => trivial)) (.cons (.tmp rfl (fun _ => trivial)) .nil))) rfl ?_
  refine Chain.cons (StepOK.assign .none (.tmp rfl (fun _ => trivial))) rfl ?_
  refine Chain.nil ?_
  refine Ends.then ?_
  refine Cod.ret ?_
  obtain rfl := some_eq h
  exact Ends.ret1 (.inl rfl) Try.results44 (ResOK.tmp rfl trivial Imp.refl)

theorem slices_EqualFunc_intx_ok {s1_1 : (List Int)} {s2_1 : (List Int)} {eq1 : Int → Int → Option Bool} {r : Bool}  (h : slices_EqualFunc_intx s1_1 s2_1 eq1 = some r) : FSpec Try.prog 70 [rep s1_1, rep s2_1, fn2 Try.prog (rep (α := Bool)) eq1] (rep r) := by
  unfold slices_EqualFunc_intx at h
  refine FSpec.intro (n := 32) fnok70 Try.func70 rfl Try.ntmps70 rfl (fun F => ?_)
  refine Cod.seq ?_
  refine Cod.region [] mixed (by kernel_rfl) ?_
  refine Chain.cons (StepOK.assign .none .bool) rfl ?_
  refine Chain.nil ?_
  refine Ends.then ?_
  refine Cod.seq ?_
  refine Cod.seq ?_
  refine Cod.region [] mixed (by kernel_rfl) ?_
  refine Chain.cons (StepOK.move .none (.tmp rfl (fun _ => trivial))) rfl ?_
  refine Chain.cons (StepOK.len .none sl23 (.tmp rfl (fun _ => trivial))) rfl ?_
  refine Chain.cons (StepOK.move .none (.tmp rfl (fun _ => trivial))) rfl ?_
  refine Chain.cons (StepOK.len .none sl23 (.tmp rfl (fun _ => trivial))) rfl ?_
  refine Chain.cons (StepOK.neI .none (.tmp rfl (fun _ => trivial)) (.tmp rfl (fun _ => trivial))) rfl ?_
  refine Chain.nil ?_
  refine Ends.then ?_
  refine Cod.cond (t := 14) rfl trivial (fun hb1 => ?_) (fun hb1 => ?_)
  · replace h := bif_t h hb1
    refine Cod.seq ?_
    refine Cod.region [] mixed (by kernel_rfl) ?_
    refine Chain.cons (StepOK.assign .none .bool) rfl ?_
    refine Chain.nil ?_
    refine Ends.then ?_
    refine Cod.ret ?_
    refine Ends.thenRet ?_
    obtain rfl := some_eq h
    exact Ends.ret1 (.inl rfl) Try.results70 (ResOK.tmp rfl trivial Imp.refl)
  · replace h := bif_f h hb1
    refine Cod.skip ?_
    refine Ends.then ?_
    refine Cod.seq ?_
    refine Cod.seq ?_
    refine Cod.region [] mixed (by kernel_rfl) ?_
    refine Chain.cons (StepOK.move .none (.tmp rfl (fun _ => trivial))) rfl ?_
    refine Chain.cons (StepOK.len .none sl23 (.tmp rfl (fun _ => trivial))) rfl ?_
    refine Chain.cons (StepOK.move .none (.int (by decide))) rfl ?_
    refine Chain.nil ?_
    refine Ends.then ?_
    obtain ⟨o_2, h, hK2⟩ := bindR_some h
    refine Cod.thenJ (ι := Unit) (fun j_2 => []) (fun j_2 => []) (fun s => o_2 = Res.nx s) Sub.nil SubB.nil ?_ (fun j_2 hj2 => ?_)
    · skip
      refine Cod.block ?_
      refine Cod.rforEL h (fun p3_ => [(17, ⟨True, rep p3_.1⟩)]) (fun p3_ => []) (.cons (t := 17) rfl Sub.nil) SubB.nil (.cons (t := 1) rfl (.cons (t := 2) rfl (.cons (t := 15) rfl (.cons (t := 16) rfl Sub.nil)))) SubB.nil (fun p3_ o_3 h hD3 => ?_)
      refine Cod.seq ?_
      refine Cod.region [] mixed (by kernel_rfl) ?_
      refine Chain.cons (StepOK.lt .none (.tmp rfl (fun _ => trivial)) (.tmp rfl (fun _ => trivial))) rfl ?_
      refine Chain.nil ?_
      refine Ends.then ?_
      refine Cod.seq ?_
      refine Cod.cond (t := 18) rfl trivial (fun hb4 => ?_) (fun hb4 => ?_)
      · replace h := bif_t h hb4
        refine Cod.skip ?_
        refine Ends.then ?_
        refine Cod.seq ?_
        obtain ⟨o_5, h, hK5⟩ := bindD_some h
        unfold slices_EqualFunc_intx_L1 at h
        refine Cod.thenJ (ι := Unit) (fun j_5 => []) (fun j_5 => []) (fun s => o_5 = Res.nx s) (.cons (t := 1) rfl (.cons (t := 2) rfl (.cons (t := 15) rfl (.cons (t := 16) rfl (.cons (t := 17) rfl Sub.nil))))) SubB.nil ?_ (fun j_5 hj5 => ?_)
        · skip
          refine Cod.block ?_
          refine Cod.seq ?_
          refine Cod.region [] mixed (by kernel_rfl) ?_
          refine Chain.cons (StepOK.move .none (.tmp rfl (fun _ => trivial))) rfl ?_
          obtain ⟨hn6, h⟩ := need_some h
          refine Chain.cons (StepOK.indexAddr .none sl23 ty3 (.tmp rfl (fun _ => trivial)) (.tmp rfl (fun _ => trivial)) (fun _ => hn6)) rfl ?_
          refine Chain.cons (StepOK.load .none ty3 (.tmp rfl (fun _ => trivial))) rfl ?_
          refine Chain.cons (StepOK.assign .none (.tmp rfl (fun _ => trivial))) rfl ?_
          refine Chain.cons (StepOK.assign .none (.tmp rfl (fun _ => trivial))) rfl ?_
          refine Chain.nil ?_
          refine Ends.then ?_
          refine Cod.seq ?_
          refine Cod.region [] mixed (by kernel_rfl) ?_
          refine Chain.cons (StepOK.move .none (.tmp rfl (fun _ => trivial))) rfl ?_
          refine Chain.cons (StepOK.move .none (.tmp rfl (fun _ => trivial))) rfl ?_
          obtain ⟨hn7, h⟩ := need_some h
          refine Chain.cons (StepOK.indexAddr .none sl23 ty3 (.tmp rfl (fun _ => trivial)) (.tmp rfl (fun _ => trivial)) (fun _ => hn7)) rfl ?_
          refine Chain.cons (StepOK.load .none ty3 (.tmp rfl (fun _ => trivial))) rfl ?_
          refine Chain.cons (StepOK.assign .none (.tmp rfl (fun _ => trivial))) rfl ?_
          refine Chain.nil ?_
          refine Ends.then ?_
          refine Cod.seq ?_
          refine Cod.region [] mixed (by kernel_rfl) ?_
          refine Chain.cons (StepOK.move .none (.tmp rfl (fun _ => trivial))) rfl ?_
          refine Chain.cons (StepOK.move .none (.tmp rfl (fun _ => trivial))) rfl ?_
          refine Chain.cons (StepOK.move .none (.tmp rfl (fun _ => trivial))) rfl ?_
          obtain ⟨r1, hv8, h⟩ := bind_some h
          refine Chain.cons (StepOK.callV (_, _, _) .none (.tmp rfl (fun _ => trivial)) (fun _ => hv8) (.cons (.tmp rfl (fun _ => trivial)) (.cons (.tmp rfl (fun _ => trivial)) .nil))) rfl ?_
          refine Chain.cons (StepOK.not .none (.tmp rfl (fun _ => trivial))) rfl ?_
          refine Chain.nil ?_
          refine Ends.then ?_
          refine Cod.cond (t := 30) rfl trivial (fun hb9 => ?_) (fun hb9 => ?_)
          · replace h := bif_t h hb9
            refine Cod.seq ?_
            refine Cod.region [] mixed (by kernel_rfl) ?_
            refine Chain.cons (StepOK.assign .none .bool) rfl ?_
            refine Chain.nil ?_
            refine Ends.then ?_
            refine Cod.ret ?_
            refine Ends.blkRet ?_
            refine Ends.thenRet ?_
            refine Ends.thenRet ?_
            refine Ends.blkRet ?_
            refine Ends.thenRet ?_
            replace h := resd_ab hK5 (some_eq h)
            replace h := hD3 _ (some_eq h)
            replace h := resb_ab hK2 (some_eq h)
            obtain rfl := some_eq h
            exact Ends.ret1 (.inl rfl) Try.results70 (ResOK.tmp rfl trivial Imp.refl)
          · replace h := bif_f h hb9
            refine Cod.skip ?_
            refine Ends.blkNormal ?_
            exact Ends.join _ (some_eq h) (.cons (t := 1) rfl (.cons (t := 2) rfl (.cons (t := 15) rfl (.cons (t := 16) rfl (.cons (t := 17) rfl Sub.nil))))) SubB.nil
        · have h := resd_nx hK5 hj5
          refine Cod.region [] mixed (by kernel_rfl) ?_
          refine Chain.cons (StepOK.addW .none (.tmp rfl (fun _ => trivial)) (.int (by decide))) rfl ?_
          refine Chain.cons (StepOK.move .none (.tmp rfl (fun _ => trivial))) rfl ?_
          refine Chain.nil ?_
          exact Ends.againL (some_eq h) (.cons (t := 17) rfl (.cons (t := 1) rfl (.cons (t := 2) rfl (.cons (t := 15) rfl (.cons (t := 16) rfl Sub.nil))))) SubB.nil
      · replace h := bif_f h hb4
        refine Cod.exit ?_
        refine Ends.thenExit ?_
        refine Ends.thenExit ?_
        refine Ends.blkExit ?_
        replace h := hD3 _ (some_eq h)
        exact Ends.join _ (some_eq h) Sub.nil SubB.nil
    · have h := resb_nx hK2 hj2
      refine Cod.seq ?_
      refine Cod.region [] mixed (by kernel_rfl) ?_
      refine Chain.cons (StepOK.assign .none .bool) rfl ?_
      refine Chain.nil ?_
      refine Ends.then ?_
      refine Cod.ret ?_
      obtain rfl := some_eq h
      exact Ends.ret1 (.inl rfl) Try.results70 (ResOK.tmp rfl trivial Imp.refl)

theorem ref_SameOf_1_ok {self : ((List Branch) × Int × Int) → Option Bool} (hself : ∀  (x : ((List Branch) × Int × Int)) (r : Bool), self x = some r → FSpec Try.prog 35 [rep x.1, rep x.2.1, rep x.2.2] (rep r)) {x1 : Int} {y1 : Int} {c0_1 : (List Branch)} {r : Bool}  (h : ref_SameOf_1 self x1 y1 c0_1 = some r) : FSpec Try.prog 71 [rep x1, rep y1, ref c0_1] (rep r) := by
  unfold ref_SameOf_1 at h
  refine FSpec.intro (n := 10) fnok71 Try.func71 rfl Try.ntmps71 rfl (fun F => ?_)
  refine Cod.seq ?_
  refine Cod.region [] mixed (by kernel_rfl) ?_
  refine Chain.cons (StepOK.assign .none .bool) rfl ?_
  refine Chain.nil ?_
  refine Ends.then ?_
  refine Cod.seq ?_
  refine Cod.region [] mixed (by kernel_rfl) ?_
  refine Chain.cons (StepOK.load .none ty56 (.tmp rfl (fun _ => trivial))) rfl ?_
  refine Chain.cons (StepOK.move .none (.tmp rfl (fun _ => trivial))) rfl ?_
  refine Chain.cons (StepOK.move .none (.tmp rfl (fun _ => trivial))) rfl ?_
  obtain ⟨r1, hv1, h⟩ := bind_some h
  refine Chain.cons (StepOK.call .none (hself _ _ hv1) (.cons (.tmp rfl (fun _ => trivial)) (.cons (.tmp rfl (fun _ => trivial)) (.cons (.tmp rfl (fun _ => trivial)) .nil)))) rfl ?_
  refine Chain.cons (StepOK.assign .none (.tmp rfl (fun _ => trivial))) rfl ?_
  refine Chain.nil ?_
  refine Ends.then ?_
  refine Cod.ret ?_
  obtain rfl := some_eq h
  exact Ends.ret1 (.inl rfl) Try.results71 (ResOK.tmp rfl trivial Imp.refl)

theorem ref_SameOf_okS {self : ((List Branch) × Int × Int) → Option Bool} (hself : ∀  (x : ((List Branch) × Int × Int)) (r : Bool), self x = some r → FSpec Try.prog 35 [rep x.1, rep x.2.1, rep x.2.2] (rep r))  {x : ((List Branch) × Int × Int)} {r : Bool} (h : ref_SameOf_body self x = some r) : FSpec Try.prog 35 [rep x.1, rep x.2.1, rep x.2.2] (rep r) := by
  unfold ref_SameOf_body at h
  refine FSpec.intro (n := 45) fnok35 Try.func35 rfl Try.ntmps35 rfl (fun F => ?_)
  refine Cod.seq ?_
  refine Cod.region [] mixed (by kernel_rfl) ?_
  refine Chain.cons (StepOK.box .none (.tmp rfl (fun _ => trivial))) rfl ?_
  refine Chain.cons (StepOK.assign .none .bool) rfl ?_
  refine Chain.nil ?_
  refine Ends.then ?_
  refine Cod.seq ?_
  refine Cod.region [] mixed (by kernel_rfl) ?_
  refine Chain.cons (StepOK.load .none ty56 (.tmp rfl (fun _ => trivial))) rfl ?_
  refine Chain.cons (StepOK.move .none (.tmp rfl (fun _ => trivial))) rfl ?_
  obtain ⟨hn1, h⟩ := need_some h
  refine Chain.cons (StepOK.indexAddr .none sl56 ty67 (.tmp rfl (fun _ => trivial)) (.tmp rfl (fun _ => trivial)) (fun _ => hn1)) rfl ?_
  refine Chain.cons (StepOK.fieldAddr .none fd67_0 hfd67_0 (.tmp rfl (fun _ => trivial))) rfl ?_
  refine Chain.cons (StepOK.load .none ty3 (.tmp rfl (fun _ => trivial))) rfl ?_
  refine Chain.cons (StepOK.load .none ty56 (.tmp rfl (fun _ => trivial))) rfl ?_
  refine Chain.cons (StepOK.move .none (.tmp rfl (fun _ => trivial))) rfl ?_
  obtain ⟨hn2, h⟩ := need_some h
  refine Chain.cons (StepOK.indexAddr .none sl56 ty67 (.tmp rfl (fun _ => trivial)) (.tmp rfl (fun _ => trivial)) (fun _ => hn2)) rfl ?_
  refine Chain.cons (StepOK.fieldAddr .none fd67_0 hfd67_0 (.tmp rfl (fun _ => trivial))) rfl ?_
  refine Chain.cons (StepOK.load .none ty3 (.tmp rfl (fun _ => trivial))) rfl ?_
  refine Chain.cons (StepOK.eqI .none (.tmp rfl (fun _ => trivial)) (.tmp rfl (fun _ => trivial))) rfl ?_
  refine Chain.cons (StepOK.move .none (.tmp rfl (fun _ => trivial))) rfl ?_
  refine Chain.cons (StepOK.load (.at rfl rfl) ty56 (.tmp rfl (fun _ => trivial))) rfl ?_
  refine Chain.cons (StepOK.move (.at rfl rfl) (.tmp rfl (fun _ => trivial))) rfl ?_
  obtain ⟨hn3, h⟩ := need_some h
  refine Chain.cons (StepOK.indexAddr (.at rfl rfl) sl56 ty67 (.tmp rfl id) (.tmp rfl id) (fun hg => hn3 hg.2)) rfl ?_
  refine Chain.cons (StepOK.fieldAddr (.at rfl rfl) fd67_1 hfd67_1 (.tmp rfl id)) rfl ?_
  refine Chain.cons (StepOK.load (.at rfl rfl) ty3 (.tmp rfl id)) rfl ?_
  refine Chain.cons (StepOK.load (.at rfl rfl) ty56 (.tmp rfl (fun _ => trivial))) rfl ?_
  refine Chain.cons (StepOK.move (.at rfl rfl) (.tmp rfl (fun _ => trivial))) rfl ?_
  obtain ⟨hn4, h⟩ := need_some h
  refine Chain.cons (StepOK.indexAddr (.at rfl rfl) sl56 ty67 (.tmp rfl id) (.tmp rfl id) (fun hg => hn4 hg.2)) rfl ?_
  refine Chain.cons (StepOK.fieldAddr (.at rfl rfl) fd67_1 hfd67_1 (.tmp rfl id)) rfl ?_
  refine Chain.cons (StepOK.load (.at rfl rfl) ty3 (.tmp rfl id)) rfl ?_
  refine Chain.cons (StepOK.eqI (.at rfl rfl) (.tmp rfl id) (.tmp rfl id)) rfl ?_
  refine Chain.cons (StepOK.pickAnd .none (.tmp rfl (fun _ => trivial)) (.tmp rfl id)) rfl ?_
  refine Chain.cons (StepOK.move .none (.tmp rfl (fun _ => trivial))) rfl ?_
  refine Chain.cons (StepOK.load (.at rfl rfl) ty56 (.tmp rfl (fun _ => trivial))) rfl ?_
  refine Chain.cons (StepOK.move (.at rfl rfl) (.tmp rfl (fun _ => trivial))) rfl ?_
  obtain ⟨hn5, h⟩ := need_some h
  refine Chain.cons (StepOK.indexAddr (.at rfl rfl) sl56 ty67 (.tmp rfl id) (.tmp rfl id) (fun hg => hn5 hg.2)) rfl ?_
  refine Chain.cons (StepOK.fieldAddr (.at rfl rfl) fd67_2 hfd67_2 (.tmp rfl id)) rfl ?_
  refine Chain.cons (StepOK.load (.at rfl rfl) ty23 (.tmp rfl id)) rfl ?_
  refine Chain.cons (StepOK.load (.at rfl rfl) ty56 (.tmp rfl (fun _ => trivial))) rfl ?_
  refine Chain.cons (StepOK.move (.at rfl rfl) (.tmp rfl (fun _ => trivial))) rfl ?_
  obtain ⟨hn6, h⟩ := need_some h
  refine Chain.cons (StepOK.indexAddr (.at rfl rfl) sl56 ty67 (.tmp rfl id) (.tmp rfl id) (fun hg => hn6 hg.2)) rfl ?_
  refine Chain.cons (StepOK.fieldAddr (.at rfl rfl) fd67_2 hfd67_2 (.tmp rfl id)) rfl ?_
  refine Chain.cons (StepOK.load (.at rfl rfl) ty23 (.tmp rfl id)) rfl ?_
  refine Chain.cons (StepOK.makeFunc (ι := Int × Int × Bool) (pre := fun i => (fun x0 x1 => ref_SameOf_1 self x0 x1 x.1) i.1 i.2.1 = some i.2.2) (Ss := fun i => [rep i.1, rep i.2.1]) (S := fun i => rep i.2.2) (.at rfl rfl) fnok71 (fun i h => ref_SameOf_1_ok hself h) (.cons (.tmp rfl (fun _ => trivial)) .nil)) rfl ?_
  obtain ⟨r1, hv7, h⟩ := bind_some h
  refine Chain.cons (StepOK.callIf (.at rfl rfl) fnok70 (fun hg => slices_EqualFunc_intx_ok ((fun hg => gd_some hv7 (by simp [hg.2])) hg)) (.cons (.tmp rfl id) (.cons (.tmp rfl id) (.cons (.tmp rfl id) .nil))) (fun h => h)) rfl ?_
  refine Chain.cons (StepOK.pickAnd .none (.tmp rfl (fun _ => trivial)) (.tmp rfl id)) rfl ?_
  refine Chain.cons (StepOK.assign .none (.tmp rfl (fun _ => trivial))) rfl ?_
  refine Chain.nil ?_
  refine Ends.then ?_
  refine Cod.ret ?_
  obtain rfl := some_eq h
  exact Ends.ret1 (.inl rfl) Try.results35 (ResOK.tmp rfl trivial Imp.refl)
theorem ref_SameOf_okN : ∀ (k : Nat)  (x : ((List Branch) × Int × Int)) (r : Bool) (h : fixN ref_SameOf_body k x = some r), FSpec Try.prog 35 [rep x.1, rep x.2.1, rep x.2.2] (rep r)
  | 0, x, r, h => by simp [fixN] at h
  | k + 1, x, r, h => ref_SameOf_okS (ref_SameOf_okN k) h
theorem ref_SameOf_ok {t1 : (List Branch)} {a1 : Int} {b1 : Int} {r : Bool}  (h : ref_SameOf t1 a1 b1 = some r) : FSpec Try.prog 35 [rep t1, rep a1, rep b1] (rep r) :=
  let ⟨k, hk⟩ := fixp_some h
  ref_SameOf_okN k (t1, a1, b1) r hk

theorem law_TreesMatch_3_ok {c0_1 : (List Branch)} {c1_1 : Int} {c2_1 : Int} {r : Bool}  (h : law_TreesMatch_3 c0_1 c1_1 c2_1 = some r) : FSpec Try.prog 48 [ref c0_1, ref c1_1, ref c2_1] (rep r) := by
  unfold law_TreesMatch_3 at h
  refine FSpec.intro (n := 8) fnok48 Try.func48 rfl Try.ntmps48 rfl (fun F => ?_)
  refine Cod.seq ?_
  refine Cod.region [] mixed (by kernel_rfl) ?_
  refine Chain.cons (StepOK.assign .none .bool) rfl ?_
  refine Chain.nil ?_
  refine Ends.then ?_
  refine Cod.seq ?_
  refine Cod.region [] mixed (by kernel_rfl) ?_
  refine Chain.cons (StepOK.load .none ty56 (.tmp rfl (fun _ => trivial))) rfl ?_
  refine Chain.cons (StepOK.load .none ty3 (.tmp rfl (fun _ => trivial))) rfl ?_
  refine Chain.cons (StepOK.load .none ty3 (.tmp rfl (fun _ => trivial))) rfl ?_
  obtain ⟨r1, hv1, h⟩ := bind_some h
  refine Chain.cons (StepOK.call .none (ref_SameOf_ok hv1) (.cons (.tmp rfl (fun _ => trivial)) (.cons (.tmp rfl (fun _ => trivial)) (.cons (.tmp rfl (fun _ => trivial)) .nil)))) rfl ?_
  refine Chain.cons (StepOK.assign .none (.tmp rfl (fun _ => trivial))) rfl ?_
  refine Chain.nil ?_
  refine Ends.then ?_
  refine Cod.ret ?_
  obtain rfl := some_eq h
  exact Ends.ret1 (.inl rfl) Try.results48 (ResOK.tmp rfl trivial Imp.refl)

theorem ref_Abs_ok {n1 : Int} {r : Int}  (h : ref_Abs n1 = some r) : FSpec Try.prog 76 [rep n1] (rep r) := by
  unfold ref_Abs at h
  refine FSpec.intro (n := 7) fnok76 Try.func76 rfl Try.ntmps76 rfl (fun F => ?_)
  refine Cod.seq ?_
  refine Cod.region [] mixed (by kernel_rfl) ?_
  refine Chain.cons (StepOK.assign .none (.int (by decide))) rfl ?_
  refine Chain.nil ?_
  refine Ends.then ?_
  refine Cod.seq ?_
  refine Cod.region [] mixed (by kernel_rfl) ?_
  refine Chain.cons (StepOK.move .none (.tmp rfl (fun _ => trivial))) rfl ?_
  refine Chain.cons (StepOK.move .none (.tmp rfl (fun _ => trivial))) rfl ?_
  refine Chain.cons (StepOK.negW .none (.tmp rfl (fun _ => trivial))) rfl ?_
  refine Chain.cons (StepOK.max2 .none (.tmp rfl (fun _ => trivial)) (.tmp rfl (fun _ => trivial))) rfl ?_
  refine Chain.cons (StepOK.assign .none (.tmp rfl (fun _ => trivial))) rfl ?_
  refine Chain.nil ?_
  refine Ends.then ?_
  refine Cod.ret ?_
  obtain rfl := some_eq h
  exact Ends.ret1 (.inl rfl) Try.results76 (ResOK.tmp rfl trivial Imp.refl)

theorem ref_HalvesOf_ok {t1 : (List Branch)} {r : Int}  (h : ref_HalvesOf t1 = some r) : FSpec Try.prog 50 [rep t1] (rep r) := by
  unfold ref_HalvesOf at h
  refine FSpec.intro (n := 68) fnok50 Try.func50 rfl Try.ntmps50 rfl (fun F => ?_)
  refine Cod.seq ?_
  refine Cod.region [] mixed (by kernel_rfl) ?_
  refine Chain.cons (StepOK.assign .none (.int (by decide))) rfl ?_
  refine Chain.nil ?_
  refine Ends.then ?_
  refine Cod.seq ?_
  refine Cod.region [] mixed (by kernel_rfl) ?_
  refine Chain.cons (StepOK.assign .none (.int (by decide))) rfl ?_
  refine Chain.cons (StepOK.assign .none (.int (by decide))) rfl ?_
  refine Chain.cons (StepOK.assign .none (.int (by decide))) rfl ?_
  refine Chain.nil ?_
  refine Ends.then ?_
  refine Cod.seq ?_
  refine Cod.seq ?_
  refine Cod.region [] mixed (by kernel_rfl) ?_
  refine Chain.cons (StepOK.move .none (.tmp rfl (fun _ => trivial))) rfl ?_
  obtain ⟨hn1, h⟩ := need_some h
  refine Chain.cons (StepOK.indexAddr .none sl56 ty67 (.tmp rfl (fun _ => trivial)) (.int (by decide)) (fun _ => hn1)) rfl ?_
  refine Chain.cons (StepOK.fieldAddr .none fd67_2 hfd67_2 (.tmp rfl (fun _ => trivial))) rfl ?_
  obtain ⟨v1, hv2, h⟩ := bnd_some h
  refine Chain.cons (StepOK.re hv2 (StepOK.load .none ty23 (.tmp rfl (fun _ => trivial)))) rfl ?_
  refine Chain.cons (StepOK.len .none sl23 (.tmp rfl (fun _ => trivial))) rfl ?_
  refine Chain.cons (StepOK.move .none (.int (by decide))) rfl ?_
  refine Chain.nil ?_
  refine Ends.then ?_
  obtain ⟨j_3, h, hK3⟩ := bind_some h
  refine Cod.thenJ (ι := Int) (fun j_3 => [(3, ⟨True, rep j_3⟩)]) (fun j_3 => []) (fun s => j_3 = s) (.cons (t := 0) rfl (.cons (t := 4) rfl (.cons (t := 5) rfl Sub.nil))) SubB.nil ?_ (fun j_3' hj3 => ?_)
  · skip
    refine Cod.block ?_
    refine Cod.rforL h (fun p4_ => [(16, ⟨True, rep p4_.1⟩), (3, ⟨True, rep p4_.2⟩)]) (fun p4_ => []) (.cons (t := 16) rfl (.cons (t := 3) rfl Sub.nil)) SubB.nil (.cons (t := 0) rfl (.cons (t := 4) rfl (.cons (t := 5) rfl (.cons (t := 14) rfl (.cons (t := 15) rfl Sub.nil))))) SubB.nil (fun p4_ o_4 h hD4 => ?_)
    refine Cod.seq ?_
    refine Cod.region [] mixed (by kernel_rfl) ?_
    refine Chain.cons (StepOK.lt .none (.tmp rfl (fun _ => trivial)) (.tmp rfl (fun _ => trivial))) rfl ?_
    refine Chain.nil ?_
    refine Ends.then ?_
    refine Cod.seq ?_
    refine Cod.cond (t := 17) rfl trivial (fun hb5 => ?_) (fun hb5 => ?_)
    · replace h := bif_t h hb5
      refine Cod.skip ?_
      refine Ends.then ?_
      refine Cod.seq ?_
      obtain ⟨j_6, h, hK6⟩ := bind_some h
      unfold ref_HalvesOf_L1 at h
      refine Cod.thenJ (ι := Int) (fun j_6 => [(3, ⟨True, rep j_6⟩)]) (fun j_6 => []) (fun s => j_6 = s) (.cons (t := 0) rfl (.cons (t := 4) rfl (.cons (t := 5) rfl (.cons (t := 14) rfl (.cons (t := 15) rfl (.cons (t := 16) rfl Sub.nil)))))) SubB.nil ?_ (fun j_6' hj6 => ?_)
      · skip
        refine Cod.block ?_
        refine Cod.seq ?_
        refine Cod.region [] mixed (by kernel_rfl) ?_
        obtain ⟨hn7, h⟩ := need_some h
        refine Chain.cons (StepOK.indexAddr .none sl23 ty3 (.tmp rfl (fun _ => trivial)) (.tmp rfl (fun _ => trivial)) (fun _ => hn7)) rfl ?_
        refine Chain.cons (StepOK.load .none ty3 (.tmp rfl (fun _ => trivial))) rfl ?_
        refine Chain.cons (StepOK.assign .none (.tmp rfl (fun _ => trivial))) rfl ?_
        refine Chain.nil ?_
        refine Ends.then ?_
        refine Cod.region [] mixed (by kernel_rfl) ?_
        refine Chain.cons (StepOK.move .none (.tmp rfl (fun _ => trivial))) rfl ?_
        refine Chain.cons (StepOK.move .none (.tmp rfl (fun _ => trivial))) rfl ?_
        refine Chain.cons (StepOK.move .none (.tmp rfl (fun _ => trivial))) rfl ?_
        obtain ⟨r1, hv8, h⟩ := bind_some h
        refine Chain.cons (StepOK.call .none (ref_LeavesOf_ok hv8) (.cons (.tmp rfl (fun _ => trivial)) (.cons (.tmp rfl (fun _ => trivial)) .nil))) rfl ?_
        refine Chain.cons (StepOK.addW .none (.tmp rfl (fun _ => trivial)) (.tmp rfl (fun _ => trivial))) rfl ?_
        obtain ⟨all1, hv9, h⟩ := bnd_some h
        refine Chain.cons (StepOK.re hv9 (StepOK.assign .none (.tmp rfl (fun _ => trivial)))) rfl ?_
        refine Chain.nil ?_
        refine Ends.blkNormal ?_
        exact Ends.join _ (some_eq h) (.cons (t := 3) rfl (.cons (t := 0) rfl (.cons (t := 4) rfl (.cons (t := 5) rfl (.cons (t := 14) rfl (.cons (t := 15) rfl (.cons (t := 16) rfl Sub.nil))))))) SubB.nil
      · subst hj6; have h := hK6; clear hK6
        refine Cod.region [] mixed (by kernel_rfl) ?_
        refine Chain.cons (StepOK.addW .none (.tmp rfl (fun _ => trivial)) (.int (by decide))) rfl ?_
        refine Chain.cons (StepOK.move .none (.tmp rfl (fun _ => trivial))) rfl ?_
        refine Chain.nil ?_
        exact Ends.againL (some_eq h) (.cons (t := 16) rfl (.cons (t := 3) rfl (.cons (t := 0) rfl (.cons (t := 4) rfl (.cons (t := 5) rfl (.cons (t := 14) rfl (.cons (t := 15) rfl Sub.nil))))))) SubB.nil
    · replace h := bif_f h hb5
      refine Cod.exit ?_
      refine Ends.thenExit ?_
      refine Ends.thenExit ?_
      refine Ends.blkExit ?_
      replace h := hD4 _ (some_eq h)
      exact Ends.join _ (some_eq h) (.cons (t := 3) rfl (.cons (t := 0) rfl (.cons (t := 4) rfl (.cons (t := 5) rfl Sub.nil)))) SubB.nil
  · subst hj3; have h := hK3; clear hK3
    refine Cod.seq ?_
    refine Cod.region [] mixed (by kernel_rfl) ?_
    refine Chain.cons (StepOK.assign .none (.int (by decide))) rfl ?_
    refine Chain.nil ?_
    refine Ends.then ?_
    refine Cod.seq ?_
    refine Cod.seq ?_
    refine Cod.region [] mixed (by kernel_rfl) ?_
    refine Chain.cons (StepOK.assign .none (.int (by decide))) rfl ?_
    refine Chain.nil ?_
    refine Ends.then ?_
    obtain ⟨j_10, h, hK10⟩ := bind_some h
    refine Cod.thenJ (ι := Int) (fun j_10 => [(5, ⟨True, rep j_10⟩)]) (fun j_10 => []) (fun s => j_10 = s) Sub.nil SubB.nil ?_ (fun j_10' hj10 => ?_)
    · skip
      refine Cod.block ?_
      refine Cod.loopL h (fun s11_ => [(4, ⟨True, rep s11_.1⟩), (5, ⟨True, rep s11_.2.1⟩), (8, ⟨True, rep s11_.2.2.1⟩), (9, ⟨True, rep s11_.2.2.2⟩)]) (fun s11_ => []) (.cons (t := 4) rfl (.cons (t := 5) rfl (.cons (t := 8) rfl (.cons (t := 9) rfl Sub.nil)))) SubB.nil (.cons (t := 0) rfl (.cons (t := 3) rfl Sub.nil)) SubB.nil (fun s11_ o_11 h hD11 => ?_)
      unfold ref_HalvesOf_L2 at h
      refine Cod.seq ?_
      refine Cod.seq ?_
      refine Cod.region [] mixed (by kernel_rfl) ?_
      refine Chain.cons (StepOK.move .none (.tmp rfl (fun _ => trivial))) rfl ?_
      refine Chain.cons (StepOK.move .none (.tmp rfl (fun _ => trivial))) rfl ?_
      obtain ⟨hn12, h⟩ := need_some h
      refine Chain.cons (StepOK.indexAddr .none sl56 ty67 (.tmp rfl (fun _ => trivial)) (.int (by decide)) (fun _ => hn12)) rfl ?_
      refine Chain.cons (StepOK.fieldAddr .none fd67_2 hfd67_2 (.tmp rfl (fun _ => trivial))) rfl ?_
      refine Chain.cons (StepOK.load .none ty23 (.tmp rfl (fun _ => trivial))) rfl ?_
      refine Chain.cons (StepOK.len .none sl23 (.tmp rfl (fun _ => trivial))) rfl ?_
      refine Chain.cons (StepOK.le .none (.tmp rfl (fun _ => trivial)) (.tmp rfl (fun _ => trivial))) rfl ?_
      refine Chain.nil ?_
      refine Ends.then ?_
      refine Cod.cond (t := 32) rfl trivial (fun hb13 => ?_) (fun hb13 => ?_)
      · replace h := bif_t h hb13
        refine Cod.skip ?_
        refine Ends.then ?_
        refine Cod.seq ?_
        obtain ⟨j_14, h, hK14⟩ := bind_some h
        refine Cod.thenJ (ι := (Int × Int × Int)) (fun j_14 => [(4, ⟨True, rep j_14.1⟩), (5, ⟨True, rep j_14.2.1⟩), (8, ⟨True, rep j_14.2.2⟩)]) (fun j_14 => []) (fun s => j_14 = s) (.cons (t := 0) rfl (.cons (t := 3) rfl (.cons (t := 9) rfl Sub.nil))) SubB.nil ?_ (fun j_14' hj14 => ?_)
        · skip
          refine Cod.block ?_
          refine Cod.seq ?_
          refine Cod.seq ?_
          refine Cod.region [] mixed (by kernel_rfl) ?_
          refine Chain.cons (StepOK.move .none (.tmp rfl (fun _ => trivial))) rfl ?_
          refine Chain.cons (StepOK.mulW .none (.int (by decide)) (.tmp rfl (fun _ => trivial))) rfl ?_
          refine Chain.cons (StepOK.move .none (.tmp rfl (fun _ => trivial))) rfl ?_
          refine Chain.cons (StepOK.subW .none (.tmp rfl (fun _ => trivial)) (.tmp rfl (fun _ => trivial))) rfl ?_
          obtain ⟨d1, hv15, h⟩ := bind_some h
          refine Chain.cons (StepOK.call .none (ref_Abs_ok hv15) (.cons (.tmp rfl (fun _ => trivial)) .nil)) rfl ?_
          refine Chain.cons (StepOK.assign .none (.tmp rfl (fun _ => trivial))) rfl ?_
          refine Chain.nil ?_
          refine Ends.then ?_
          refine Cod.seq ?_
          refine Cod.region [] mixed (by kernel_rfl) ?_
          refine Chain.cons (StepOK.move .none (.tmp rfl (fun _ => trivial))) rfl ?_
          refine Chain.cons (StepOK.lt .none (.tmp rfl (fun _ => trivial)) (.int (by decide))) rfl ?_
          refine Chain.cons (StepOK.move .none (.tmp rfl (fun _ => trivial))) rfl ?_
          refine Chain.cons (StepOK.move (.at rfl rfl) (.tmp rfl (fun _ => trivial))) rfl ?_
          refine Chain.cons (StepOK.move (.at rfl rfl) (.tmp rfl (fun _ => trivial))) rfl ?_
          refine Chain.cons (StepOK.lt (.at rfl rfl) (.tmp rfl id) (.tmp rfl id)) rfl ?_
          refine Chain.cons (StepOK.pickOr .none (.tmp rfl (fun _ => trivial)) (.tmp rfl id)) rfl ?_
          refine Chain.nil ?_
          refine Ends.then ?_
          obtain ⟨j_16, h, hK16⟩ := bind_some h
          refine Cod.thenJ (ι := (Int × Int)) (fun j_16 => [(4, ⟨True, rep j_16.1⟩), (5, ⟨True, rep j_16.2⟩)]) (fun j_16 => []) (fun s => j_16 = s) (.cons (t := 0) rfl (.cons (t := 3) rfl (.cons (t := 8) rfl (.cons (t := 9) rfl Sub.nil)))) SubB.nil ?_ (fun j_16' hj16 => ?_)
          · skip
            refine Cod.cond (t := 46) rfl trivial (fun hb17 => ?_) (fun hb17 => ?_)
            · replace h := bif_t h hb17
              refine Cod.region [] mixed (by kernel_rfl) ?_
              refine Chain.cons (StepOK.move .none (.tmp rfl (fun _ => trivial))) rfl ?_
              refine Chain.cons (StepOK.move .none (.tmp rfl (fun _ => trivial))) rfl ?_
              refine Chain.cons (StepOK.assign .none (.tmp rfl (fun _ => trivial))) rfl ?_
              refine Chain.cons (StepOK.assign .none (.tmp rfl (fun _ => trivial))) rfl ?_
              refine Chain.nil ?_
              exact Ends.join _ (some_eq h) (.cons (t := 4) rfl (.cons (t := 5) rfl (.cons (t := 0) rfl (.cons (t := 3) rfl (.cons (t := 8) rfl (.cons (t := 9) rfl Sub.nil)))))) SubB.nil
            · replace h := bif_f h hb17
              refine Cod.skip ?_
              exact Ends.join _ (some_eq h) (.cons (t := 4) rfl (.cons (t := 5) rfl (.cons (t := 0) rfl (.cons (t := 3) rfl (.cons (t := 8) rfl (.cons (t := 9) rfl Sub.nil)))))) SubB.nil
          · subst hj16; have h := hK16; clear hK16
            refine Cod.seq ?_
            refine Cod.region [] mixed (by kernel_rfl) ?_
            refine Chain.cons (StepOK.move .none (.tmp rfl (fun _ => trivial))) rfl ?_
            refine Chain.cons (StepOK.move .none (.tmp rfl (fun _ => trivial))) rfl ?_
            obtain ⟨hn18, h⟩ := need_some h
            refine Chain.cons (StepOK.indexAddr .none sl56 ty67 (.tmp rfl (fun _ => trivial)) (.int (by decide)) (fun _ => hn18)) rfl ?_
            refine Chain.cons (StepOK.fieldAddr .none fd67_2 hfd67_2 (.tmp rfl (fun _ => trivial))) rfl ?_
            refine Chain.cons (StepOK.load .none ty23 (.tmp rfl (fun _ => trivial))) rfl ?_
            refine Chain.cons (StepOK.len .none sl23 (.tmp rfl (fun _ => trivial))) rfl ?_
            refine Chain.cons (StepOK.lt .none (.tmp rfl (fun _ => trivial)) (.tmp rfl (fun _ => trivial))) rfl ?_
            refine Chain.nil ?_
            refine Ends.then ?_
            refine Cod.cond (t := 55) rfl trivial (fun hb19 => ?_) (fun hb19 => ?_)
            · replace h := bif_t h hb19
              refine Cod.region [] mixed (by kernel_rfl) ?_
              refine Chain.cons (StepOK.move .none (.tmp rfl (fun _ => trivial))) rfl ?_
              refine Chain.cons (StepOK.move .none (.tmp rfl (fun _ => trivial))) rfl ?_
              refine Chain.cons (StepOK.move .none (.tmp rfl (fun _ => trivial))) rfl ?_
              obtain ⟨hn20, h⟩ := need_some h
              refine Chain.cons (StepOK.indexAddr .none sl56 ty67 (.tmp rfl (fun _ => trivial)) (.int (by decide)) (fun _ => hn20)) rfl ?_
              refine Chain.cons (StepOK.fieldAddr .none fd67_2 hfd67_2 (.tmp rfl (fun _ => trivial))) rfl ?_
              refine Chain.cons (StepOK.load .none ty23 (.tmp rfl (fun _ => trivial))) rfl ?_
              refine Chain.cons (StepOK.move .none (.tmp rfl (fun _ => trivial))) rfl ?_
              obtain ⟨hn21, h⟩ := need_some h
              refine Chain.cons (StepOK.indexAddr .none sl23 ty3 (.tmp rfl (fun _ => trivial)) (.tmp rfl (fun _ => trivial)) (fun _ => hn21)) rfl ?_
              refine Chain.cons (StepOK.load .none ty3 (.tmp rfl (fun _ => trivial))) rfl ?_
              obtain ⟨r2, hv22, h⟩ := bind_some h
              refine Chain.cons (StepOK.call .none (ref_LeavesOf_ok hv22) (.cons (.tmp rfl (fun _ => trivial)) (.cons (.tmp rfl (fun _ => trivial)) .nil))) rfl ?_
              refine Chain.cons (StepOK.addW .none (.tmp rfl (fun _ => trivial)) (.tmp rfl (fun _ => trivial))) rfl ?_
              obtain ⟨left1, hv23, h⟩ := bnd_some h
              refine Chain.cons (StepOK.re hv23 (StepOK.assign .none (.tmp rfl (fun _ => trivial)))) rfl ?_
              refine Chain.nil ?_
              refine Ends.blkNormal ?_
              exact Ends.join _ (some_eq h) (.cons (t := 4) rfl (.cons (t := 5) rfl (.cons (t := 8) rfl (.cons (t := 0) rfl (.cons (t := 3) rfl (.cons (t := 9) rfl Sub.nil)))))) SubB.nil
            · replace h := bif_f h hb19
              refine Cod.skip ?_
              refine Ends.blkNormal ?_
              exact Ends.join _ (some_eq h) (.cons (t := 4) rfl (.cons (t := 5) rfl (.cons (t := 8) rfl (.cons (t := 0) rfl (.cons (t := 3) rfl (.cons (t := 9) rfl Sub.nil)))))) SubB.nil
        · subst hj14; have h := hK14; clear hK14
          refine Cod.region [] mixed (by kernel_rfl) ?_
          refine Chain.cons (StepOK.move .none (.tmp rfl (fun _ => trivial))) rfl ?_
          refine Chain.cons (StepOK.addW .none (.tmp rfl (fun _ => trivial)) (.int (by decide))) rfl ?_
          obtain ⟨i1, hv24, h⟩ := bnd_some h
          refine Chain.cons (StepOK.re hv24 (StepOK.assign .none (.tmp rfl (fun _ => trivial)))) rfl ?_
          refine Chain.nil ?_
          exact Ends.againL (some_eq h) (.cons (t := 4) rfl (.cons (t := 5) rfl (.cons (t := 8) rfl (.cons (t := 9) rfl (.cons (t := 0) rfl (.cons (t := 3) rfl Sub.nil)))))) SubB.nil
      · replace h := bif_f h hb13
        refine Cod.exit ?_
        refine Ends.thenExit ?_
        refine Ends.thenExit ?_
        refine Ends.blkExit ?_
        replace h := hD11 _ (some_eq h)
        exact Ends.join _ (some_eq h) (.cons (t := 5) rfl Sub.nil) SubB.nil
    · subst hj10; have h := hK10; clear hK10
      refine Cod.seq ?_
      refine Cod.region [] mixed (by kernel_rfl) ?_
      refine Chain.cons (StepOK.move .none (.tmp rfl (fun _ => trivial))) rfl ?_
      refine Chain.cons (StepOK.assign .none (.tmp rfl (fun _ => trivial))) rfl ?_
      refine Chain.nil ?_
      refine Ends.then ?_
      refine Cod.ret ?_
      obtain rfl := some_eq h
      exact Ends.ret1 (.inl rfl) Try.results50 (ResOK.tmp rfl trivial Imp.refl)

theorem law_TreesMatch_4_ok {c0_1 : (List Branch)} {r : Int}  (h : law_TreesMatch_4 c0_1 = some r) : FSpec Try.prog 49 [ref c0_1] (rep r) := by
  unfold law_TreesMatch_4 at h
  refine FSpec.intro (n := 4) fnok49 Try.func49 rfl Try.ntmps49 rfl (fun F => ?_)
  refine Cod.seq ?_
  refine Cod.region [] mixed (by kernel_rfl) ?_
  refine Chain.cons (StepOK.assign .none (.int (by decide))) rfl ?_
  refine Chain.nil ?_
  refine Ends.then ?_
  refine Cod.seq ?_
  refine Cod.region [] mixed (by kernel_rfl) ?_
  refine Chain.cons (StepOK.load .none ty56 (.tmp rfl (fun _ => trivial))) rfl ?_
  obtain ⟨r1, hv1, h⟩ := bind_some h
  refine Chain.cons (StepOK.call .none (ref_HalvesOf_ok hv1) (.cons (.tmp rfl (fun _ => trivial)) .nil)) rfl ?_
  refine Chain.cons (StepOK.assign .none (.tmp rfl (fun _ => trivial))) rfl ?_
  refine Chain.nil ?_
  refine Ends.then ?_
  refine Cod.ret ?_
  obtain rfl := some_eq h
  exact Ends.ret1 (.inl rfl) Try.results49 (ResOK.tmp rfl trivial Imp.refl)

theorem ref_FoldOf_ok {t1 : (List Branch)} {folded1 : (List Int)} {r : (List Int)}  (h : ref_FoldOf t1 folded1 = some r) : FSpec Try.prog 54 [rep t1, rep folded1] (rep r) := by
  unfold ref_FoldOf at h
  refine FSpec.intro (n := 37) fnok54 Try.func54 rfl Try.ntmps54 rfl (fun F => ?_)
  refine Cod.seq ?_
  refine Cod.region [] mixed (by kernel_rfl) ?_
  refine Chain.cons (StepOK.assign .none (.const (x := ([] : (List Int))) (fun M w => ⟨_, ⟨none, 0, rfl, Nat.le_refl _, by decide, rfl⟩, rfl⟩))) rfl ?_
  refine Chain.nil ?_
  refine Ends.then ?_
  refine Cod.seq ?_
  refine Cod.region [([], [5])] mixed (by kernel_rfl) ?_
  refine Chain.consW (StepOK.nilRow (T := 3) (α := Int) rfl) rfl rfl ?_
  refine Chain.nil ?_
  refine Ends.then ?_
  refine Cod.nameRow (t := 5) (g := 5001) rfl rfl rfl (fun s5001 => ?_)
  refine Cod.seq ?_
  refine Cod.seq ?_
  refine Cod.region [([], [7]), ([7], [6, 7])] mixed (by kernel_rfl) ?_
  refine Chain.consW (StepOK.buildSliceO (xs := [_]) rfl sl23 ty3 hz3 (.cons (.int (by decide)) .nil) rfl (by decide)) rfl rfl ?_
  refine Chain.consW (StepOK.passRow rfl (.tmp rfl)) rfl rfl ?_
  refine Chain.nil ?_
  refine Ends.then ?_
  obtain ⟨todo1, hv1, h⟩ := bnd_some h
  refine Cod.reB (t := 6) rfl (congrArg (rowV 3) hv1) ?_
  refine Cod.nameRow (t := 6) (g := 5002) rfl rfl rfl (fun s5002 => ?_)
  obtain ⟨j_2, h, hK2⟩ := bind_some h
  refine Cod.thenJ (ι := (List Int)) (fun j_2 => []) (fun j_2 => [(5, some (rowV 3 j_2))]) (fun s => j_2 = s) Sub.nil SubB.nil ?_ (fun j_2' hj2 => ?_)
  · skip
    refine Cod.block ?_
    refine Cod.anon (t := 5) (g := 5001) rfl rfl trivial rfl ?_
    refine Cod.anon (t := 6) (g := 5002) rfl rfl trivial rfl ?_
    refine Cod.loopL h (fun s3_ => []) (fun s3_ => [(5, some (rowV 3 s3_.1)), (6, some (rowV 3 s3_.2))]) Sub.nil (.cons (t := 5) rfl (.cons (t := 6) rfl SubB.nil)) (.cons (t := 0) rfl (.cons (t := 1) rfl Sub.nil)) SubB.nil (fun s3_ o_3 h hD3 => ?_)
    unfold ref_FoldOf_L1 at h
    refine Cod.nameRow (t := 5) (g := 5003) rfl rfl rfl (fun s5003 => ?_)
    refine Cod.nameRow (t := 6) (g := 5004) rfl rfl rfl (fun s5004 => ?_)
    refine Cod.seq ?_
    refine Cod.seq ?_
    refine Cod.region [([], []), ([5004], []), ([], [])] mixed (by kernel_rfl) ?_
    refine Chain.consA (StepOK.move .none (.tmp rfl (fun _ => trivial))) rfl ?_
    refine Chain.consA (StepOK.lenO (k := 5004) sl23 (.told (.tmp rfl (fun _ => trivial)) rfl)) rfl ?_
    refine Chain.consA (StepOK.gt .none (.tmp rfl (fun _ => trivial)) (.int (by decide))) rfl ?_
    refine Chain.nil ?_
    refine Ends.then ?_
    refine Cod.cond (t := 10) rfl trivial (fun hb4 => ?_) (fun hb4 => ?_)
    · replace h := bif_t h hb4
      refine Cod.skip ?_
      refine Ends.then ?_
      refine Cod.seq ?_
      obtain ⟨j_5, h, hK5⟩ := bind_some h
      refine Cod.thenJ (ι := ((List Int) × (List Int))) (fun j_5 => []) (fun j_5 => [(5, some (rowV 3 j_5.1)), (6, some (rowV 3 j_5.2))]) (fun s => j_5 = s) (.cons (t := 0) rfl (.cons (t := 1) rfl Sub.nil)) SubB.nil ?_ (fun j_5' hj5 => ?_)
      · skip
        refine Cod.block ?_
        refine Cod.seq ?_
        refine Cod.region [([], []), ([], []), ([5004], []), ([5004], []), ([], []), ([5003], [18, 5003]), ([18], [5, 18])] mixed (by kernel_rfl) ?_
        refine Chain.consA (StepOK.move .none (.tmp rfl (fun _ => trivial))) rfl ?_
        refine Chain.consA (StepOK.move .none (.tmp rfl (fun _ => trivial))) rfl ?_
        obtain ⟨hn6, h⟩ := need_some h
        refine Chain.consA (StepOK.indexAddrO (k := 5004) .none sl23 ty3 (.tmp rfl (fun _ => trivial)) rfl (.int (by decide)) (fun _ => hn6)) rfl ?_
        refine Chain.consA (StepOK.loadElem0 (k := 5004) .none ty3 (.tmp rfl (fun _ => trivial)) rfl (fun _ => hn6)) rfl ?_
        refine Chain.consA (StepOK.buildSlice (xs := [_]) .none sl23 ty3 hz3 (.cons (.tmp rfl (fun _ => trivial)) .nil) rfl (by decide)) rfl ?_
        obtain ⟨hn7, h⟩ := need_some h
        refine Chain.consW (StepOK.append (k := 5003) rk23 rfl (.told (.tmp rfl (fun _ => trivial)) rfl) (.tmp rfl (fun _ => trivial)) hn7) rfl rfl ?_
        refine Chain.consWD (StepOK.passRow rfl (.tmp rfl)) rfl rfl ?_
        refine Chain.nil ?_
        refine Ends.then ?_
        obtain ⟨out1, hv8, h⟩ := bnd_some h
        refine Cod.reB (t := 5) rfl (congrArg (rowV 3) hv8) ?_
        refine Cod.nameRow (t := 5) (g := 5005) rfl rfl rfl (fun s5005 => ?_)
        refine Cod.seq ?_
        refine Cod.region [([], []), ([], []), ([5004], []), ([5004], []), ([], []), ([], [])] mixed (by kernel_rfl) ?_
        refine Chain.consA (StepOK.move .none (.tmp rfl (fun _ => trivial))) rfl ?_
        refine Chain.consA (StepOK.move .none (.tmp rfl (fun _ => trivial))) rfl ?_
        obtain ⟨hn9, h⟩ := need_some h
        refine Chain.consA (StepOK.indexAddrO (k := 5004) .none sl23 ty3 (.tmp rfl (fun _ => trivial)) rfl (.int (by decide)) (fun _ => hn9)) rfl ?_
        refine Chain.consA (StepOK.loadElem0 (k := 5004) .none ty3 (.tmp rfl (fun _ => trivial)) rfl (fun _ => hn9)) rfl ?_
        obtain ⟨r1, hv10, h⟩ := bind_some h
        refine Chain.consA (StepOK.call .none (slices_Contains_int_ok hv10) (.cons (.tmp rfl (fun _ => trivial)) (.cons (.tmp rfl (fun _ => trivial)) .nil))) rfl ?_
        refine Chain.consA (StepOK.not .none (.tmp rfl (fun _ => trivial))) rfl ?_
        refine Chain.nil ?_
        refine Ends.then ?_
        refine Cod.cond (t := 24) rfl trivial (fun hb11 => ?_) (fun hb11 => ?_)
        · replace h := bif_t h hb11
          refine Cod.region [([], []), ([], []), ([], []), ([5004], []), ([5004], []), ([], []), ([], []), ([], []), ([5004], [33, 5004]), ([33], [6, 33])] mixed (by kernel_rfl) ?_
          refine Chain.consA (StepOK.move .none (.tmp rfl (fun _ => trivial))) rfl ?_
          refine Chain.consA (StepOK.move .none (.tmp rfl (fun _ => trivial))) rfl ?_
          refine Chain.consA (StepOK.move .none (.tmp rfl (fun _ => trivial))) rfl ?_
          obtain ⟨hn12, h⟩ := need_some h
          refine Chain.consA (StepOK.indexAddrO (k := 5004) .none sl23 ty3 (.tmp rfl (fun _ => trivial)) rfl (.int (by decide)) (fun _ => hn12)) rfl ?_
          refine Chain.consA (StepOK.loadElem0 (k := 5004) .none ty3 (.tmp rfl (fun _ => trivial)) rfl (fun _ => hn12)) rfl ?_
          obtain ⟨hn13, h⟩ := need_some h
          refine Chain.consA (StepOK.indexAddr .none sl56 ty67 (.tmp rfl (fun _ => trivial)) (.tmp rfl (fun _ => trivial)) (fun _ => hn13)) rfl ?_
          refine Chain.consA (StepOK.fieldAddr .none fd67_2 hfd67_2 (.tmp rfl (fun _ => trivial))) rfl ?_
          refine Chain.consA (StepOK.load .none ty23 (.tmp rfl (fun _ => trivial))) rfl ?_
          obtain ⟨hn14, h⟩ := need_some h
          refine Chain.consW (StepOK.append (k := 5004) rk23 rfl (.told (.tmp rfl (fun _ => trivial)) rfl) (.tmp rfl (fun _ => trivial)) hn14) rfl rfl ?_
          refine Chain.consWD (StepOK.passRow rfl (.tmp rfl)) rfl rfl ?_
          refine Chain.nil ?_
          refine Ends.blkNormal ?_
          refine Ends.anon (t := 5) (g := 5005) rfl rfl trivial rfl ?_
          exact Ends.join _ (some_eq h) (.cons (t := 0) rfl (.cons (t := 1) rfl Sub.nil)) (.cons (t := 5) rfl (.cons (t := 6) rfl SubB.nil))
        · replace h := bif_f h hb11
          refine Cod.skip ?_
          refine Ends.blkNormal ?_
          refine Ends.anon (t := 5) (g := 5005) rfl rfl trivial rfl ?_
          refine Ends.anon (t := 6) (g := 5004) rfl rfl trivial rfl ?_
          exact Ends.join _ (some_eq h) (.cons (t := 0) rfl (.cons (t := 1) rfl Sub.nil)) (.cons (t := 5) rfl (.cons (t := 6) rfl SubB.nil))
      · subst hj5; have h := hK5; clear hK5
        refine Cod.nameRow (t := 5) (g := 5006) rfl rfl rfl (fun s5006 => ?_)
        refine Cod.nameRow (t := 6) (g := 5007) rfl rfl rfl (fun s5007 => ?_)
        refine Cod.region [([], []), ([5007], [12, 5007]), ([12], [6, 12])] mixed (by kernel_rfl) ?_
        refine Chain.consA (StepOK.move .none (.tmp rfl (fun _ => trivial))) rfl ?_
        obtain ⟨hn15, h⟩ := need_some h
        refine Chain.consW (StepOK.sliceRow (k := 5007) sl23 ty3 rfl (.tmp rfl (fun _ => trivial)) rfl (.int (by decide)) rfl hn15) rfl rfl ?_
        refine Chain.consWD (StepOK.passRow rfl (.tmp rfl)) rfl rfl ?_
        refine Chain.nil ?_
        refine Ends.anon (t := 5) (g := 5006) rfl rfl trivial rfl ?_
        exact Ends.againL (some_eq h) (.cons (t := 0) rfl (.cons (t := 1) rfl Sub.nil)) (.cons (t := 5) rfl (.cons (t := 6) rfl SubB.nil))
    · replace h := bif_f h hb4
      refine Cod.exit ?_
      refine Ends.thenExit ?_
      refine Ends.thenExit ?_
      refine Ends.blkExit ?_
      refine Ends.anon (t := 5) (g := 5003) rfl rfl trivial rfl ?_
      replace h := hD3 _ (some_eq h)
      exact Ends.join _ (some_eq h) Sub.nil (.cons (t := 5) rfl SubB.nil)
  · subst hj2; have h := hK2; clear hK2
    refine Cod.nameRow (t := 5) (g := 5008) rfl rfl rfl (fun s5008 => ?_)
    refine Cod.seq ?_
    refine Cod.region [([], []), ([5008], [5008])] mixed (by kernel_rfl) ?_
    refine Chain.consA (StepOK.move .none (.tmp rfl (fun _ => trivial))) rfl ?_
    obtain ⟨r2, hv16, h⟩ := bind_some h
    refine Chain.consW (StepOK.callO [5008] (slices_Sort_int_ok hv16) (.cons (.tmp rfl (fun _ => trivial)) .nil) (.cons (k := 5008) rfl .nil) rfl (by decide) (by decide) (by intro d h; cases h; decide)) rfl rfl ?_
    refine Chain.nil ?_
    refine Ends.then ?_
    refine Cod.freezeRow (g := 5008) (ts := [5]) rfl (.cons (t := 5) rfl trivial .nil) SubB.nil rfl ?_
    refine Cod.seq ?_
    refine Cod.region [] mixed (by kernel_rfl) ?_
    refine Chain.cons (StepOK.move .none (.tmp rfl (fun _ => trivial))) rfl ?_
    refine Chain.cons (StepOK.assign .none (.tmp rfl (fun _ => trivial))) rfl ?_
    refine Chain.nil ?_
    refine Ends.then ?_
    refine Cod.ret ?_
    obtain rfl := some_eq h
    exact Ends.ret1 (.inl rfl) Try.results54 (ResOK.tmp rfl trivial Imp.refl)

theorem law_TreesMatch_5_ok {c0_1 : (List Branch)} {c1_1 : (List Int)} {r : (List Int)}  (h : law_TreesMatch_5 c0_1 c1_1 = some r) : FSpec Try.prog 53 [ref c0_1, ref c1_1] (rep r) := by
  unfold law_TreesMatch_5 at h
  refine FSpec.intro (n := 6) fnok53 Try.func53 rfl Try.ntmps53 rfl (fun F => ?_)
  refine Cod.seq ?_
  refine Cod.region [] mixed (by kernel_rfl) ?_
  refine Chain.cons (StepOK.assign .none (.const (x := ([] : (List Int))) (fun M w => ⟨_, ⟨none, 0, rfl, Nat.le_refl _, by decide, rfl⟩, rfl⟩))) rfl ?_
  refine Chain.nil ?_
  refine Ends.then ?_
  refine Cod.seq ?_
  refine Cod.region [] mixed (by kernel_rfl) ?_
  refine Chain.cons (StepOK.load .none ty56 (.tmp rfl (fun _ => trivial))) rfl ?_
  refine Chain.cons (StepOK.load .none ty23 (.tmp rfl (fun _ => trivial))) rfl ?_
  obtain ⟨r1, hv1, h⟩ := bind_some h
  refine Chain.cons (StepOK.call .none (ref_FoldOf_ok hv1) (.cons (.tmp rfl (fun _ => trivial)) (.cons (.tmp rfl (fun _ => trivial)) .nil))) rfl ?_
  refine Chain.cons (StepOK.assign .none (.tmp rfl (fun _ => trivial))) rfl ?_
  refine Chain.nil ?_
  refine Ends.then ?_
  refine Cod.ret ?_
  obtain rfl := some_eq h
  exact Ends.ret1 (.inl rfl) Try.results53 (ResOK.tmp rfl trivial Imp.refl)

theorem law_TreesMatch_ok {t1 : (List Branch)} {a1 : Int} {b1 : Int} {folded1 : (List Int)} {r : Bool}  (h : law_TreesMatch t1 a1 b1 folded1 = some r) : FSpec Try.prog 9 [rep t1, rep a1, rep b1, rep folded1] (rep r) := by
  unfold law_TreesMatch at h
  refine FSpec.intro (n := 156) fnok9 Try.func9 rfl Try.ntmps9 rfl (fun F => ?_)
  refine Cod.seq ?_
  refine Cod.region [] mixed (by kernel_rfl) ?_
  refine Chain.cons (StepOK.box .none (.tmp rfl (fun _ => trivial))) rfl ?_
  refine Chain.cons (StepOK.box .none (.tmp rfl (fun _ => trivial))) rfl ?_
  refine Chain.cons (StepOK.box .none (.tmp rfl (fun _ => trivial))) rfl ?_
  refine Chain.cons (StepOK.box .none (.tmp rfl (fun _ => trivial))) rfl ?_
  refine Chain.cons (StepOK.assign .none .bool) rfl ?_
  refine Chain.nil ?_
  refine Ends.then ?_
  refine Cod.seq ?_
  refine Cod.region [] mixed (by kernel_rfl) ?_
  refine Chain.cons (StepOK.load .none ty56 (.tmp rfl (fun _ => trivial))) rfl ?_
  obtain ⟨own1, hv1, h⟩ := bind_some h
  refine Chain.cons (StepOK.call .none (ref_TreeError_ok hv1) (.cons (.tmp rfl (fun _ => trivial)) .nil)) rfl ?_
  refine Chain.cons (StepOK.assign .none (.tmp rfl (fun _ => trivial))) rfl ?_
  refine Chain.nil ?_
  refine Ends.then ?_
  refine Cod.seq ?_
  refine Cod.region [] mixed (by kernel_rfl) ?_
  refine Chain.cons (StepOK.load .none ty56 (.tmp rfl (fun _ => trivial))) rfl ?_
  obtain ⟨r1, hv2, h⟩ := bind_some h
  refine Chain.cons (StepOK.call .none (tree_Leaves_ok hv2) (.cons (.tmp rfl (fun _ => trivial)) .nil)) rfl ?_
  refine Chain.cons (StepOK.move .none (.tmp rfl (fun _ => trivial))) rfl ?_
  refine Chain.cons (StepOK.extract .none (.tmp rfl (fun _ => trivial)) rfl) rfl ?_
  refine Chain.cons (StepOK.extract .none (.tmp rfl (fun _ => trivial)) rfl) rfl ?_
  refine Chain.cons (StepOK.assign .none (.tmp rfl (fun _ => trivial))) rfl ?_
  refine Chain.cons (StepOK.assign .none (.tmp rfl (fun _ => trivial))) rfl ?_
  refine Chain.nil ?_
  refine Ends.then ?_
  refine Cod.seq ?_
  refine Cod.seq ?_
  refine Cod.region [] mixed (by kernel_rfl) ?_
  obtain ⟨r2, hv3, h⟩ := bind_some h
  refine Chain.cons (StepOK.call .none (law_trees_ok hv3) .nil) rfl ?_
  refine Chain.cons (StepOK.not .none (.tmp rfl (fun _ => trivial))) rfl ?_
  refine Chain.cons (StepOK.move .none (.tmp rfl (fun _ => trivial))) rfl ?_
  refine Chain.cons (StepOK.load (.at rfl rfl) ty56 (.tmp rfl (fun _ => trivial))) rfl ?_
  obtain ⟨r3, hv4, h⟩ := bind_some h
  refine Chain.cons (StepOK.callIf (.at rfl rfl) fnok39 (fun hg => tree_Check_ok ((fun hg => gd_some hv4 (by simp [hg.2])) hg)) (.cons (.tmp rfl id) .nil) (fun h => h)) rfl ?_
  refine Chain.cons (StepOK.move (.at rfl rfl) (.tmp rfl (fun _ => trivial))) rfl ?_
  refine Chain.cons (StepOK.neI (.at rfl rfl) (.tmp rfl id) (.tmp rfl id)) rfl ?_
  refine Chain.cons (StepOK.pickOr .none (.tmp rfl (fun _ => trivial)) (.tmp rfl id)) rfl ?_
  refine Chain.cons (StepOK.move .none (.tmp rfl (fun _ => trivial))) rfl ?_
  refine Chain.cons (StepOK.move (.at rfl rfl) (.tmp rfl (fun _ => trivial))) rfl ?_
  refine Chain.cons (StepOK.move (.at rfl rfl) (.tmp rfl (fun _ => trivial))) rfl ?_
  refine Chain.cons (StepOK.move (.at rfl rfl) (.tmp rfl (fun _ => trivial))) rfl ?_
  refine Chain.cons (StepOK.makeFunc (ι := (List Int)) (pre := fun i => (law_TreesMatch_1 t1)  = some i) (Ss := fun i => []) (S := fun i => rep i) (.at rfl rfl) fnok41 (fun i h => law_TreesMatch_1_ok h) (.cons (.tmp rfl (fun _ => trivial)) .nil)) rfl ?_
  obtain ⟨r4, hv5, h⟩ := bind_some h
  refine Chain.cons (StepOK.callIf (.at rfl rfl) fnok40 (fun hg => law_lists_int_ok ((fun hg => gd_some hv5 (by simp [hg.2])) hg)) (.cons (.tmp rfl id) (.cons (.tmp rfl id) (.cons (.tmp rfl id) (.cons (.tmp rfl id) .nil)))) (fun h => h)) rfl ?_
  refine Chain.cons (StepOK.not (.at rfl rfl) (.tmp rfl id)) rfl ?_
  refine Chain.cons (StepOK.pickOr .none (.tmp rfl (fun _ => trivial)) (.tmp rfl id)) rfl ?_
  refine Chain.nil ?_
  refine Ends.then ?_
  refine Cod.cond (t := 43) rfl trivial (fun hb6 => ?_) (fun hb6 => ?_)
  · replace h := bif_t h hb6
    refine Cod.seq ?_
    refine Cod.region [] mixed (by kernel_rfl) ?_
    refine Chain.cons (StepOK.assign .none .bool) rfl ?_
    refine Chain.nil ?_
    refine Ends.then ?_
    refine Cod.ret ?_
    refine Ends.thenRet ?_
    obtain rfl := some_eq h
    exact Ends.ret1 (.inl rfl) Try.results9 (ResOK.tmp rfl trivial Imp.refl)
  · replace h := bif_f h hb6
    refine Cod.skip ?_
    refine Ends.then ?_
    refine Cod.seq ?_
    refine Cod.region [] mixed (by kernel_rfl) ?_
    refine Chain.cons (StepOK.load .none ty56 (.tmp rfl (fun _ => trivial))) rfl ?_
    obtain ⟨r5, hv7, h⟩ := bind_some h
    refine Chain.cons (StepOK.call .none (tree_Levels_ok hv7) (.cons (.tmp rfl (fun _ => trivial)) .nil)) rfl ?_
    refine Chain.cons (StepOK.move .none (.tmp rfl (fun _ => trivial))) rfl ?_
    refine Chain.cons (StepOK.extract .none (.tmp rfl (fun _ => trivial)) rfl) rfl ?_
    refine Chain.cons (StepOK.extract .none (.tmp rfl (fun _ => trivial)) rfl) rfl ?_
    refine Chain.cons (StepOK.assign .none (.tmp rfl (fun _ => trivial))) rfl ?_
    refine Chain.cons (StepOK.assign .none (.tmp rfl (fun _ => trivial))) rfl ?_
    refine Chain.nil ?_
    refine Ends.then ?_
    refine Cod.seq ?_
    refine Cod.seq ?_
    refine Cod.region [] mixed (by kernel_rfl) ?_
    refine Chain.cons (StepOK.move .none (.tmp rfl (fun _ => trivial))) rfl ?_
    refine Chain.cons (StepOK.neI .none (.tmp rfl (fun _ => trivial)) (.int (by decide))) rfl ?_
    refine Chain.cons (StepOK.move .none (.tmp rfl (fun _ => trivial))) rfl ?_
    refine Chain.cons (StepOK.move (.at rfl rfl) (.tmp rfl (fun _ => trivial))) rfl ?_
    refine Chain.cons (StepOK.len (.at rfl rfl) sl64 (.tmp rfl id)) rfl ?_
    refine Chain.cons (StepOK.gt (.at rfl rfl) (.tmp rfl id) (.int (by decide))) rfl ?_
    refine Chain.cons (StepOK.move (.at rfl rfl) (.tmp rfl id)) rfl ?_
    refine Chain.cons (StepOK.move (.at rfl rfl) (.tmp rfl (fun _ => trivial))) rfl ?_
    refine Chain.cons (StepOK.move (.at rfl rfl) (.tmp rfl (fun _ => trivial))) rfl ?_
    refine Chain.cons (StepOK.neI (.at rfl rfl) (.tmp rfl id) (.tmp rfl id)) rfl ?_
    refine Chain.cons (StepOK.pickOr (.at rfl rfl) (.tmp rfl id) (.tmp rfl id)) rfl ?_
    refine Chain.cons (StepOK.pickAnd .none (.tmp rfl (fun _ => trivial)) (.tmp rfl id)) rfl ?_
    refine Chain.cons (StepOK.move .none (.tmp rfl (fun _ => trivial))) rfl ?_
    refine Chain.cons (StepOK.move (.at rfl rfl) (.tmp rfl (fun _ => trivial))) rfl ?_
    refine Chain.cons (StepOK.eqI (.at rfl rfl) (.tmp rfl id) (.int (by decide))) rfl ?_
    refine Chain.cons (StepOK.move (.at rfl rfl) (.tmp rfl id)) rfl ?_
    refine Chain.cons (StepOK.move (.at rfl rfl) (.tmp rfl (fun _ => trivial))) rfl ?_
    refine Chain.cons (StepOK.neI (.at rfl rfl) (.tmp rfl id) (.int (by decide))) rfl ?_
    refine Chain.cons (StepOK.move (.at rfl rfl) (.tmp rfl id)) rfl ?_
    refine Chain.cons (StepOK.move (.at rfl rfl) (.tmp rfl (fun _ => trivial))) rfl ?_
    refine Chain.cons (StepOK.load (.at rfl rfl) ty56 (.tmp rfl (fun _ => trivial))) rfl ?_
    obtain ⟨r6, hv8, h⟩ := bind_some h
    refine Chain.cons (StepOK.callIf (.at rfl rfl) fnok34 (fun hg => ref_LevelsOf_ok ((fun hg => gd_some hv8 (by simp [hg.1.1.2, hg.1.2, hg.2])) hg)) (.cons (.tmp rfl id) .nil) (fun h => h)) rfl ?_
    obtain ⟨r7, hv9, h⟩ := bind_some h
    refine Chain.cons (StepOK.callIf (.at rfl rfl) fnok43 (fun hg => slices_EqualFunc_int_ok ((fun hg => gd_some hv9 (by simp [hg.1.1.2, hg.1.2, hg.2])) hg)) (.cons (.tmp rfl id) (.cons (.tmp rfl id) (.cons (Opd.func (ι := (List Int) × (List Int) × Bool) (pre := fun i => law_TreesMatch_2 i.1 i.2.1 = some i.2.2) (Ss := fun i => [rep i.1, rep i.2.1]) (S := fun i => rep i.2.2) fnok44 (fun i h => law_TreesMatch_2_ok h)) .nil))) (fun h => h)) rfl ?_
    refine Chain.cons (StepOK.not (.at rfl rfl) (.tmp rfl id)) rfl ?_
    refine Chain.cons (StepOK.pickOr (.at rfl rfl) (.tmp rfl id) (.tmp rfl id)) rfl ?_
    refine Chain.cons (StepOK.pickAnd (.at rfl rfl) (.tmp rfl id) (.tmp rfl id)) rfl ?_
    refine Chain.cons (StepOK.pickOr .none (.tmp rfl (fun _ => trivial)) (.tmp rfl id)) rfl ?_
    refine Chain.nil ?_
    refine Ends.then ?_
    refine Cod.cond (t := 75) rfl trivial (fun hb10 => ?_) (fun hb10 => ?_)
    · replace h := bif_t h hb10
      refine Cod.seq ?_
      refine Cod.region [] mixed (by kernel_rfl) ?_
      refine Chain.cons (StepOK.assign .none .bool) rfl ?_
      refine Chain.nil ?_
      refine Ends.then ?_
      refine Cod.ret ?_
      refine Ends.thenRet ?_
      obtain rfl := some_eq h
      exact Ends.ret1 (.inl rfl) Try.results9 (ResOK.tmp rfl trivial Imp.refl)
    · replace h := bif_f h hb10
      refine Cod.skip ?_
      refine Ends.then ?_
      refine Cod.seq ?_
      refine Cod.region [] mixed (by kernel_rfl) ?_
      refine Chain.cons (StepOK.load .none ty56 (.tmp rfl (fun _ => trivial))) rfl ?_
      refine Chain.cons (StepOK.load .none ty3 (.tmp rfl (fun _ => trivial))) rfl ?_
      refine Chain.cons (StepOK.load .none ty3 (.tmp rfl (fun _ => trivial))) rfl ?_
      obtain ⟨r8, hv11, h⟩ := bind_some h
      refine Chain.cons (StepOK.call .none (tree_Same_ok hv11) (.cons (.tmp rfl (fun _ => trivial)) (.cons (.tmp rfl (fun _ => trivial)) (.cons (.tmp rfl (fun _ => trivial)) .nil)))) rfl ?_
      refine Chain.cons (StepOK.move .none (.tmp rfl (fun _ => trivial))) rfl ?_
      refine Chain.cons (StepOK.extract .none (.tmp rfl (fun _ => trivial)) rfl) rfl ?_
      refine Chain.cons (StepOK.extract .none (.tmp rfl (fun _ => trivial)) rfl) rfl ?_
      refine Chain.cons (StepOK.assign .none (.tmp rfl (fun _ => trivial))) rfl ?_
      refine Chain.cons (StepOK.assign .none (.tmp rfl (fun _ => trivial))) rfl ?_
      refine Chain.nil ?_
      refine Ends.then ?_
      refine Cod.seq ?_
      refine Cod.region [] mixed (by kernel_rfl) ?_
      refine Chain.cons (StepOK.move .none (.tmp rfl (fun _ => trivial))) rfl ?_
      refine Chain.cons (StepOK.load .none ty3 (.tmp rfl (fun _ => trivial))) rfl ?_
      refine Chain.cons (StepOK.load .none ty56 (.tmp rfl (fun _ => trivial))) rfl ?_
      refine Chain.cons (StepOK.len .none sl56 (.tmp rfl (fun _ => trivial))) rfl ?_
      refine Chain.cons (StepOK.subW .none (.tmp rfl (fun _ => trivial)) (.int (by decide))) rfl ?_
      obtain ⟨r9, hv12, h⟩ := bind_some h
      refine Chain.cons (StepOK.call .none (ref_In_ok hv12) (.cons (.tmp rfl (fun _ => trivial)) (.cons (.int (by decide)) (.cons (.tmp rfl (fun _ => trivial)) .nil)))) rfl ?_
      refine Chain.cons (StepOK.not .none (.tmp rfl (fun _ => trivial))) rfl ?_
      refine Chain.cons (StepOK.move .none (.tmp rfl (fun _ => trivial))) rfl ?_
      refine Chain.cons (StepOK.load (.at rfl rfl) ty3 (.tmp rfl (fun _ => trivial))) rfl ?_
      refine Chain.cons (StepOK.load (.at rfl rfl) ty56 (.tmp rfl (fun _ => trivial))) rfl ?_
      refine Chain.cons (StepOK.len (.at rfl rfl) sl56 (.tmp rfl id)) rfl ?_
      refine Chain.cons (StepOK.subW (.at rfl rfl) (.tmp rfl id) (.int (by decide))) rfl ?_
      obtain ⟨r10, hv13, h⟩ := bind_some h
      refine Chain.cons (StepOK.callIf (.at rfl rfl) fnok16 (fun hg => ref_In_ok ((fun hg => gd_some hv13 (by simp [hg.2])) hg)) (.cons (.tmp rfl id) (.cons (.int (by decide)) (.cons (.tmp rfl id) .nil))) (fun h => h)) rfl ?_
      refine Chain.cons (StepOK.not (.at rfl rfl) (.tmp rfl id)) rfl ?_
      refine Chain.cons (StepOK.pickOr .none (.tmp rfl (fun _ => trivial)) (.tmp rfl id)) rfl ?_
      obtain ⟨r11, hv14, h⟩ := bind_some h
      refine Chain.cons (StepOK.call .none (ref_When_ok hv14) (.cons (.tmp rfl (fun _ => trivial)) (.cons (.int (by decide)) .nil))) rfl ?_
      refine Chain.cons (StepOK.buildSlice (xs := [_, _]) .none sl87 ty24 hz24 (.cons (.tmp rfl (fun _ => trivial)) (.cons (.tmp rfl (fun _ => trivial)) .nil)) rfl (by decide)) rfl ?_
      obtain ⟨none1, hv15, h⟩ := bind_some h
      refine Chain.cons (StepOK.call .none (ref_First_ok hv15) (.cons (.tmp rfl (fun _ => trivial)) .nil)) rfl ?_
      refine Chain.cons (StepOK.assign .none (.tmp rfl (fun _ => trivial))) rfl ?_
      refine Chain.nil ?_
      refine Ends.then ?_
      refine Cod.seq ?_
      refine Cod.region [] mixed (by kernel_rfl) ?_
      refine Chain.cons (StepOK.load .none ty56 (.tmp rfl (fun _ => trivial))) rfl ?_
      obtain ⟨r12, hv16, h⟩ := bind_some h
      refine Chain.cons (StepOK.call .none (tree_Halves_ok hv16) (.cons (.tmp rfl (fun _ => trivial)) .nil)) rfl ?_
      refine Chain.cons (StepOK.move .none (.tmp rfl (fun _ => trivial))) rfl ?_
      refine Chain.cons (StepOK.extract .none (.tmp rfl (fun _ => trivial)) rfl) rfl ?_
      refine Chain.cons (StepOK.extract .none (.tmp rfl (fun _ => trivial)) rfl) rfl ?_
      refine Chain.cons (StepOK.assign .none (.tmp rfl (fun _ => trivial))) rfl ?_
      refine Chain.cons (StepOK.assign .none (.tmp rfl (fun _ => trivial))) rfl ?_
      refine Chain.nil ?_
      refine Ends.then ?_
      refine Cod.seq ?_
      refine Cod.seq ?_
      refine Cod.region [] mixed (by kernel_rfl) ?_
      refine Chain.cons (StepOK.move .none (.tmp rfl (fun _ => trivial))) rfl ?_
      refine Chain.cons (StepOK.move .none (.tmp rfl (fun _ => trivial))) rfl ?_
      refine Chain.cons (StepOK.move .none (.tmp rfl (fun _ => trivial))) rfl ?_
      refine Chain.cons (StepOK.makeFunc (ι := Bool) (pre := fun i => (law_TreesMatch_3 t1 a1 b1)  = some i) (Ss := fun i => []) (S := fun i => rep i) .none fnok48 (fun i h => law_TreesMatch_3_ok h) (.cons (.tmp rfl (fun _ => trivial)) (.cons (.tmp rfl (fun _ => trivial)) (.cons (.tmp rfl (fun _ => trivial)) .nil)))) rfl ?_
      obtain ⟨r13, hv17, h⟩ := bind_some h
      refine Chain.cons (StepOK.call .none (law_is_bool_ok hv17) (.cons (.tmp rfl (fun _ => trivial)) (.cons (.tmp rfl (fun _ => trivial)) (.cons (.tmp rfl (fun _ => trivial)) (.cons (.tmp rfl (fun _ => trivial)) .nil))))) rfl ?_
      refine Chain.cons (StepOK.not .none (.tmp rfl (fun _ => trivial))) rfl ?_
      refine Chain.cons (StepOK.move .none (.tmp rfl (fun _ => trivial))) rfl ?_
      refine Chain.cons (StepOK.move (.at rfl rfl) (.tmp rfl (fun _ => trivial))) rfl ?_
      refine Chain.cons (StepOK.move (.at rfl rfl) (.tmp rfl (fun _ => trivial))) rfl ?_
      refine Chain.cons (StepOK.move (.at rfl rfl) (.tmp rfl (fun _ => trivial))) rfl ?_
      refine Chain.cons (StepOK.makeFunc (ι := Int) (pre := fun i => (law_TreesMatch_4 t1)  = some i) (Ss := fun i => []) (S := fun i => rep i) (.at rfl rfl) fnok49 (fun i h => law_TreesMatch_4_ok h) (.cons (.tmp rfl (fun _ => trivial)) .nil)) rfl ?_
      obtain ⟨r14, hv18, h⟩ := bind_some h
      refine Chain.cons (StepOK.callIf (.at rfl rfl) fnok18 (fun hg => law_is_int_ok ((fun hg => gd_some hv18 (by simp [hg.2])) hg)) (.cons (.tmp rfl id) (.cons (.tmp rfl id) (.cons (.tmp rfl id) (.cons (.tmp rfl id) .nil)))) (fun h => h)) rfl ?_
      refine Chain.cons (StepOK.not (.at rfl rfl) (.tmp rfl id)) rfl ?_
      refine Chain.cons (StepOK.pickOr .none (.tmp rfl (fun _ => trivial)) (.tmp rfl id)) rfl ?_
      refine Chain.nil ?_
      refine Ends.then ?_
      refine Cod.cond (t := 119) rfl trivial (fun hb19 => ?_) (fun hb19 => ?_)
      · replace h := bif_t h hb19
        refine Cod.seq ?_
        refine Cod.region [] mixed (by kernel_rfl) ?_
        refine Chain.cons (StepOK.assign .none .bool) rfl ?_
        refine Chain.nil ?_
        refine Ends.then ?_
        refine Cod.ret ?_
        refine Ends.thenRet ?_
        obtain rfl := some_eq h
        exact Ends.ret1 (.inl rfl) Try.results9 (ResOK.tmp rfl trivial Imp.refl)
      · replace h := bif_f h hb19
        refine Cod.skip ?_
        refine Ends.then ?_
        refine Cod.seq ?_
        refine Cod.region [] mixed (by kernel_rfl) ?_
        refine Chain.cons (StepOK.load .none ty56 (.tmp rfl (fun _ => trivial))) rfl ?_
        refine Chain.cons (StepOK.load .none ty23 (.tmp rfl (fun _ => trivial))) rfl ?_
        obtain ⟨r15, hv20, h⟩ := bind_some h
        refine Chain.cons (StepOK.call .none (tree_Fold_ok hv20) (.cons (.tmp rfl (fun _ => trivial)) (.cons (.tmp rfl (fun _ => trivial)) .nil))) rfl ?_
        refine Chain.cons (StepOK.move .none (.tmp rfl (fun _ => trivial))) rfl ?_
        refine Chain.cons (StepOK.extract .none (.tmp rfl (fun _ => trivial)) rfl) rfl ?_
        refine Chain.cons (StepOK.extract .none (.tmp rfl (fun _ => trivial)) rfl) rfl ?_
        refine Chain.cons (StepOK.assign .none (.tmp rfl (fun _ => trivial))) rfl ?_
        refine Chain.cons (StepOK.assign .none (.tmp rfl (fun _ => trivial))) rfl ?_
        refine Chain.nil ?_
        refine Ends.then ?_
        refine Cod.seq ?_
        refine Cod.region [] mixed (by kernel_rfl) ?_
        refine Chain.cons (StepOK.move .none (.tmp rfl (fun _ => trivial))) rfl ?_
        refine Chain.cons (StepOK.assign .none (.tmp rfl (fun _ => trivial))) rfl ?_
        refine Chain.nil ?_
        refine Ends.then ?_
        refine Cod.seq ?_
        refine Cod.seq ?_
        refine Cod.region [] mixed (by kernel_rfl) ?_
        refine Chain.cons (StepOK.load .none ty23 (.tmp rfl (fun _ => trivial))) rfl ?_
        refine Chain.cons (StepOK.len .none sl23 (.tmp rfl (fun _ => trivial))) rfl ?_
        refine Chain.cons (StepOK.move .none (.int (by decide))) rfl ?_
        refine Chain.nil ?_
        refine Ends.then ?_
        obtain ⟨j_21, h, hK21⟩ := bind_some h
        refine Cod.thenJ (ι := Int) (fun j_21 => [(18, ⟨True, rep j_21⟩)]) (fun j_21 => []) (fun s => j_21 = s) (.cons (t := 4) rfl (.cons (t := 7) rfl (.cons (t := 11) rfl (.cons (t := 17) rfl Sub.nil)))) SubB.nil ?_ (fun j_21' hj21 => ?_)
        · skip
          refine Cod.block ?_
          refine Cod.rforL h (fun p22_ => [(129, ⟨True, rep p22_.1⟩), (18, ⟨True, rep p22_.2⟩)]) (fun p22_ => []) (.cons (t := 129) rfl (.cons (t := 18) rfl Sub.nil)) SubB.nil (.cons (t := 4) rfl (.cons (t := 7) rfl (.cons (t := 11) rfl (.cons (t := 17) rfl (.cons (t := 127) rfl (.cons (t := 128) rfl Sub.nil)))))) SubB.nil (fun p22_ o_22 h hD22 => ?_)
          refine Cod.seq ?_
          refine Cod.region [] mixed (by kernel_rfl) ?_
          refine Chain.cons (StepOK.lt .none (.tmp rfl (fun _ => trivial)) (.tmp rfl (fun _ => trivial))) rfl ?_
          refine Chain.nil ?_
          refine Ends.then ?_
          refine Cod.seq ?_
          refine Cod.cond (t := 130) rfl trivial (fun hb23 => ?_) (fun hb23 => ?_)
          · replace h := bif_t h hb23
            refine Cod.skip ?_
            refine Ends.then ?_
            refine Cod.seq ?_
            obtain ⟨j_24, h, hK24⟩ := bind_some h
            unfold law_TreesMatch_L1 at h
            refine Cod.thenJ (ι := Int) (fun j_24 => [(18, ⟨True, rep j_24⟩)]) (fun j_24 => []) (fun s => j_24 = s) (.cons (t := 4) rfl (.cons (t := 7) rfl (.cons (t := 11) rfl (.cons (t := 17) rfl (.cons (t := 127) rfl (.cons (t := 128) rfl (.cons (t := 129) rfl Sub.nil))))))) SubB.nil ?_ (fun j_24' hj24 => ?_)
            · skip
              refine Cod.block ?_
              refine Cod.seq ?_
              refine Cod.region [] mixed (by kernel_rfl) ?_
              refine Chain.cons (StepOK.move .none (.tmp rfl (fun _ => trivial))) rfl ?_
              obtain ⟨hn25, h⟩ := need_some h
              refine Chain.cons (StepOK.indexAddr .none sl23 ty3 (.tmp rfl (fun _ => trivial)) (.tmp rfl (fun _ => trivial)) (fun _ => hn25)) rfl ?_
              refine Chain.cons (StepOK.load .none ty3 (.tmp rfl (fun _ => trivial))) rfl ?_
              refine Chain.cons (StepOK.assign .none (.tmp rfl (fun _ => trivial))) rfl ?_
              obtain ⟨n1, hv26, h⟩ := bnd_some h
              refine Chain.cons (StepOK.re hv26 (StepOK.assign .none (.tmp rfl (fun _ => trivial)))) rfl ?_
              refine Chain.nil ?_
              refine Ends.then ?_
              refine Cod.region [] mixed (by kernel_rfl) ?_
              refine Chain.cons (StepOK.move .none (.tmp rfl (fun _ => trivial))) rfl ?_
              refine Chain.cons (StepOK.move .none (.tmp rfl (fun _ => trivial))) rfl ?_
              refine Chain.cons (StepOK.load .none ty56 (.tmp rfl (fun _ => trivial))) rfl ?_
              refine Chain.cons (StepOK.len .none sl56 (.tmp rfl (fun _ => trivial))) rfl ?_
              refine Chain.cons (StepOK.subW .none (.tmp rfl (fun _ => trivial)) (.int (by decide))) rfl ?_
              obtain ⟨r16, hv27, h⟩ := bind_some h
              refine Chain.cons (StepOK.call .none (ref_In_ok hv27) (.cons (.tmp rfl (fun _ => trivial)) (.cons (.int (by decide)) (.cons (.tmp rfl (fun _ => trivial)) .nil)))) rfl ?_
              refine Chain.cons (StepOK.not .none (.tmp rfl (fun _ => trivial))) rfl ?_
              obtain ⟨r17, hv28, h⟩ := bind_some h
              refine Chain.cons (StepOK.call .none (ref_When_ok hv28) (.cons (.tmp rfl (fun _ => trivial)) (.cons (.int (by decide)) .nil))) rfl ?_
              refine Chain.cons (StepOK.load .none ty23 (.tmp rfl (fun _ => trivial))) rfl ?_
              refine Chain.cons (StepOK.move .none (.tmp rfl (fun _ => trivial))) rfl ?_
              obtain ⟨hn29, h⟩ := need_some h
              refine Chain.cons (StepOK.slice .none sl23 ty3 (.tmp rfl (fun _ => trivial)) rfl (.tmp rfl (fun _ => trivial)) (fun _ => hn29)) rfl ?_
              refine Chain.cons (StepOK.move .none (.tmp rfl (fun _ => trivial))) rfl ?_
              obtain ⟨r18, hv30, h⟩ := bind_some h
              refine Chain.cons (StepOK.call .none (slices_Contains_int_ok hv30) (.cons (.tmp rfl (fun _ => trivial)) (.cons (.tmp rfl (fun _ => trivial)) .nil))) rfl ?_
              obtain ⟨r19, hv31, h⟩ := bind_some h
              refine Chain.cons (StepOK.call .none (ref_When_ok hv31) (.cons (.tmp rfl (fun _ => trivial)) (.cons (.int (by decide)) .nil))) rfl ?_
              refine Chain.cons (StepOK.buildSlice (xs := [_, _, _]) .none sl87 ty24 hz24 (.cons (.tmp rfl (fun _ => trivial)) (.cons (.tmp rfl (fun _ => trivial)) (.cons (.tmp rfl (fun _ => trivial)) .nil))) rfl (by decide)) rfl ?_
              obtain ⟨want1, hv32, h⟩ := bind_some h
              refine Chain.cons (StepOK.call .none (ref_First_ok hv32) (.cons (.tmp rfl (fun _ => trivial)) .nil)) rfl ?_
              refine Chain.cons (StepOK.assign .none (.tmp rfl (fun _ => trivial))) rfl ?_
              refine Chain.nil ?_
              refine Ends.blkNormal ?_
              exact Ends.join _ (some_eq h) (.cons (t := 18) rfl (.cons (t := 4) rfl (.cons (t := 7) rfl (.cons (t := 11) rfl (.cons (t := 17) rfl (.cons (t := 127) rfl (.cons (t := 128) rfl (.cons (t := 129) rfl Sub.nil)))))))) SubB.nil
            · subst hj24; have h := hK24; clear hK24
              refine Cod.region [] mixed (by kernel_rfl) ?_
              refine Chain.cons (StepOK.addW .none (.tmp rfl (fun _ => trivial)) (.int (by decide))) rfl ?_
              refine Chain.cons (StepOK.move .none (.tmp rfl (fun _ => trivial))) rfl ?_
              refine Chain.nil ?_
              exact Ends.againL (some_eq h) (.cons (t := 129) rfl (.cons (t := 18) rfl (.cons (t := 4) rfl (.cons (t := 7) rfl (.cons (t := 11) rfl (.cons (t := 17) rfl (.cons (t := 127) rfl (.cons (t := 128) rfl Sub.nil)))))))) SubB.nil
          · replace h := bif_f h hb23
            refine Cod.exit ?_
            refine Ends.thenExit ?_
            refine Ends.thenExit ?_
            refine Ends.blkExit ?_
            replace h := hD22 _ (some_eq h)
            exact Ends.join _ (some_eq h) (.cons (t := 18) rfl (.cons (t := 4) rfl (.cons (t := 7) rfl (.cons (t := 11) rfl (.cons (t := 17) rfl Sub.nil))))) SubB.nil
        · subst hj21; have h := hK21; clear hK21
          refine Cod.seq ?_
          refine Cod.region [] mixed (by kernel_rfl) ?_
          refine Chain.cons (StepOK.move .none (.tmp rfl (fun _ => trivial))) rfl ?_
          refine Chain.cons (StepOK.move .none (.tmp rfl (fun _ => trivial))) rfl ?_
          refine Chain.cons (StepOK.move .none (.tmp rfl (fun _ => trivial))) rfl ?_
          refine Chain.cons (StepOK.makeFunc (ι := (List Int)) (pre := fun i => (law_TreesMatch_5 t1 folded1)  = some i) (Ss := fun i => []) (S := fun i => rep i) .none fnok53 (fun i h => law_TreesMatch_5_ok h) (.cons (.tmp rfl (fun _ => trivial)) (.cons (.tmp rfl (fun _ => trivial)) .nil))) rfl ?_
          obtain ⟨r20, hv33, h⟩ := bind_some h
          refine Chain.cons (StepOK.call .none (law_lists_int_ok hv33) (.cons (.tmp rfl (fun _ => trivial)) (.cons (.tmp rfl (fun _ => trivial)) (.cons (.tmp rfl (fun _ => trivial)) (.cons (.tmp rfl (fun _ => trivial)) .nil))))) rfl ?_
          refine Chain.cons (StepOK.assign .none (.tmp rfl (fun _ => trivial))) rfl ?_
          refine Chain.nil ?_
          refine Ends.then ?_
          refine Cod.ret ?_
          obtain rfl := some_eq h
          exact Ends.ret1 (.inl rfl) Try.results9 (ResOK.tmp rfl trivial Imp.refl)


end Go.Proofs.Ytakkmmhjohadaaa
