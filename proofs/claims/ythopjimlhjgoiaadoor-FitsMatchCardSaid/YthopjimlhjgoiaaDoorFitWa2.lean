/-
  The walks: what a function computes is what its plain function says (printed by a program of one's own).
-/
import Derived.Test.YthopjimlhjgoiaaDoorFitWa1
set_option maxRecDepth 100000
set_option linter.unusedSimpArgs false
set_option linter.unusedVariables false
namespace Go.Proofs.YthopjimlhjgoiaaDoor
open Go Go.DB Go.RowKit

theorem shape_wrapPart_ok {f1 : Font} {part1 : Str} {width1 : Int} {r : (List Str)}  (h : shape_wrapPart f1 part1 width1 = some r) : FSpec Tryd.prog 73 [rep f1, rep part1, rep width1] (rep r) := by
  unfold shape_wrapPart at h
  refine FSpec.intro (n := 97) fnok73 Tryd.func73 rfl Tryd.ntmps73 rfl (fun F => ?_)
  refine Cod.seq ?_
  refine Cod.region [] mixed (by kernel_rfl) ?_
  refine Chain.cons (StepOK.box .none (.tmp rfl (fun _ => trivial))) rfl ?_
  refine Chain.cons (StepOK.assign .none (.const (x := ([] : (List Str))) (fun M w => ⟨_, ⟨none, 0, rfl, Nat.le_refl _, by decide, rfl⟩, rfl⟩))) rfl ?_
  refine Chain.nil ?_
  refine Ends.then ?_
  refine Cod.seq ?_
  refine Cod.region [([], [7])] mixed (by kernel_rfl) ?_
  refine Chain.consW (StepOK.alloc zr30 rfl) rfl rfl ?_
  refine Chain.nil ?_
  refine Ends.then ?_
  refine Cod.nameAt (t := 7) (g := 5001) rfl rfl isBox_cont rfl (fun m5001 => ?_)
  refine Cod.nilKey (g := 5002) (T := 9) (α := Str) rfl ?_
  refine Cod.seq ?_
  refine Cod.region [([], [8]), ([], [9]), ([8], [8]), ([9], [9])] mixed (by kernel_rfl) ?_
  refine Chain.consW (StepOK.alloc zo9 rfl) rfl rfl ?_
  refine Chain.consW (StepOK.alloc zo3 rfl) rfl rfl ?_
  refine Chain.consN (StepOK.store ty9 rfl rfl (.str (l := []) (by decide))) rfl ?_
  refine Chain.consN (StepOK.store ty3 rfl rfl (.int (by decide))) rfl ?_
  refine Chain.nil ?_
  refine Ends.then ?_
  refine Cod.nameBox (t := 8) (g := 5003) rfl rfl (fun m5003 => ?_)
  refine Cod.nameBox (t := 9) (g := 5004) rfl rfl (fun m5004 => ?_)
  refine Cod.seq ?_
  refine Cod.region [] mixed (by kernel_rfl) ?_
  refine Chain.cons (StepOK.makeFuncC (Cs := [isV (ptr m5003 0), isV (ptr m5001 0), isV (ptr m5004 0)]) .none (.cons (.tmp rfl (fun _ => trivial)) (.cons (.tmp rfl (fun _ => trivial)) (.cons (.tmp rfl (fun _ => trivial)) .nil)))) rfl ?_
  refine Chain.cons (StepOK.assign .none (.tmp rfl (fun _ => trivial))) rfl ?_
  refine Chain.nil ?_
  refine Ends.then ?_
  refine Cod.seq ?_
  refine Cod.region [] mixed (by kernel_rfl) ?_
  refine Chain.cons (StepOK.move .none (.tmp rfl (fun _ => trivial))) rfl ?_
  obtain ⟨words1, hv1, h⟩ := bind_some h
  refine Chain.cons (StepOK.call .none (shape_wordsOf_ok hv1) (.cons (.tmp rfl (fun _ => trivial)) .nil)) rfl ?_
  refine Chain.cons (StepOK.assign .none (.tmp rfl (fun _ => trivial))) rfl ?_
  refine Chain.nil ?_
  refine Ends.then ?_
  refine Cod.seq ?_
  refine Cod.seq ?_
  refine Cod.region [] mixed (by kernel_rfl) ?_
  refine Chain.cons (StepOK.move .none (.tmp rfl (fun _ => trivial))) rfl ?_
  refine Chain.cons (StepOK.len .none sl30 (.tmp rfl (fun _ => trivial))) rfl ?_
  refine Chain.cons (StepOK.move .none (.int (by decide))) rfl ?_
  refine Chain.nil ?_
  refine Ends.then ?_
  obtain ⟨j_2, h, hK2⟩ := bind_some h
  refine Cod.thenJ (ι := ((List Str) × Str × Int)) (fun j_2 => []) (fun j_2 => [(5001, some (CPred.at (ptr m5001 0) (deep (fun z0 => cont 30 (⟨z0⟩ : Raw)) (rowV 9 j_2.1)))), (5003, some (boxAt m5003 9 j_2.2.1)), (5004, some (boxAt m5004 3 j_2.2.2))]) (fun s => j_2 = s) (.cons (t := 7) rfl (.cons (t := 8) rfl (.cons (t := 9) rfl (.cons (t := 10) rfl (.cons (t := 11) rfl Sub.nil))))) SubB.nil ?_ (fun j_2' hj2 => ?_)
  · skip
    refine Cod.block ?_
    refine Cod.close (k := 5001) (g := 5002) (fun z => cont 30 (⟨z⟩ : Raw)) rfl rfl rfl ?_
    refine Cod.rforL h (fun p3_ => [(22, ⟨True, rep p3_.1⟩)]) (fun p3_ => [(5001, some (CPred.at (ptr m5001 0) (deep (fun z0 => cont 30 (⟨z0⟩ : Raw)) (rowV 9 p3_.2.1)))), (5003, some (boxAt m5003 9 p3_.2.2.1)), (5004, some (boxAt m5004 3 p3_.2.2.2))]) (.cons (t := 22) rfl Sub.nil) (.cons (t := 5001) rfl (.cons (t := 5003) rfl (.cons (t := 5004) rfl SubB.nil))) (.cons (t := 2) rfl (.cons (t := 3) rfl (.cons (t := 7) rfl (.cons (t := 8) rfl (.cons (t := 9) rfl (.cons (t := 10) rfl (.cons (t := 11) rfl (.cons (t := 20) rfl (.cons (t := 21) rfl Sub.nil))))))))) SubB.nil (fun p3_ o_3 h hD3 => ?_)
    refine Cod.open (k := 5001) (g := 5005) rfl rfl (fun s5005 => ?_)
    refine Cod.seq ?_
    refine Cod.region [] mixed (by kernel_rfl) ?_
    refine Chain.cons (StepOK.lt .none (.tmp rfl (fun _ => trivial)) (.tmp rfl (fun _ => trivial))) rfl ?_
    refine Chain.nil ?_
    refine Ends.then ?_
    refine Cod.seq ?_
    refine Cod.cond (t := 23) rfl trivial (fun hb4 => ?_) (fun hb4 => ?_)
    · replace h := bif_t h hb4
      refine Cod.skip ?_
      refine Ends.then ?_
      refine Cod.seq ?_
      obtain ⟨j_5, h, hK5⟩ := bind_some h
      unfold shape_wrapPart_L1 at h
      refine Cod.thenJ (ι := ((List Str) × Str × Int)) (fun j_5 => []) (fun j_5 => [(5001, some (CPred.at (ptr m5001 0) (deep (fun z0 => cont 30 (⟨z0⟩ : Raw)) (rowV 9 j_5.1)))), (5003, some (boxAt m5003 9 j_5.2.1)), (5004, some (boxAt m5004 3 j_5.2.2))]) (fun s => j_5 = s) (.cons (t := 2) rfl (.cons (t := 3) rfl (.cons (t := 7) rfl (.cons (t := 8) rfl (.cons (t := 9) rfl (.cons (t := 10) rfl (.cons (t := 11) rfl (.cons (t := 20) rfl (.cons (t := 21) rfl (.cons (t := 22) rfl Sub.nil)))))))))) SubB.nil ?_ (fun j_5' hj5 => ?_)
      · skip
        refine Cod.block ?_
        refine Cod.seq ?_
        refine Cod.region [] mixed (by kernel_rfl) ?_
        obtain ⟨hn6, h⟩ := need_some h
        refine Chain.cons (StepOK.indexAddr .none sl30 ty9 (.tmp rfl (fun _ => trivial)) (.tmp rfl (fun _ => trivial)) (fun _ => hn6)) rfl ?_
        refine Chain.cons (StepOK.load .none ty9 (.tmp rfl (fun _ => trivial))) rfl ?_
        obtain ⟨w1, hv7, h⟩ := bnd_some h
        refine Chain.cons (StepOK.re hv7 (StepOK.assign .none (.tmp rfl (fun _ => trivial)))) rfl ?_
        refine Chain.nil ?_
        refine Ends.then ?_
        refine Cod.seq ?_
        refine Cod.region [] mixed (by kernel_rfl) ?_
        refine Chain.cons (StepOK.load .none ty23 (.tmp rfl (fun _ => trivial))) rfl ?_
        refine Chain.cons (StepOK.move .none (.tmp rfl (fun _ => trivial))) rfl ?_
        obtain ⟨n1, hv8, h⟩ := bind_some h
        refine Chain.cons (StepOK.call .none (shape_measure_ok hv8) (.cons (.tmp rfl (fun _ => trivial)) (.cons (.tmp rfl (fun _ => trivial)) .nil))) rfl ?_
        refine Chain.cons (StepOK.assign .none (.tmp rfl (fun _ => trivial))) rfl ?_
        refine Chain.nil ?_
        refine Ends.then ?_
        refine Cod.seq ?_
        refine Cod.seq ?_
        refine Cod.region [] mixed (by kernel_rfl) ?_
        refine Chain.cons (StepOK.move .none (.tmp rfl (fun _ => trivial))) rfl ?_
        refine Chain.cons (StepOK.move .none (.tmp rfl (fun _ => trivial))) rfl ?_
        refine Chain.cons (StepOK.gt .none (.tmp rfl (fun _ => trivial)) (.tmp rfl (fun _ => trivial))) rfl ?_
        refine Chain.nil ?_
        refine Ends.then ?_
        obtain ⟨o_9, h, hK9⟩ := bindR_some h
        refine Cod.thenJ (ι := Unit) (fun j_9 => []) (fun j_9 => []) (fun s => o_9 = Res.nx s) (.cons (t := 2) rfl (.cons (t := 3) rfl (.cons (t := 7) rfl (.cons (t := 8) rfl (.cons (t := 9) rfl (.cons (t := 10) rfl (.cons (t := 11) rfl (.cons (t := 13) rfl (.cons (t := 14) rfl (.cons (t := 20) rfl (.cons (t := 21) rfl (.cons (t := 22) rfl Sub.nil)))))))))))) (.cons (t := 5001) rfl (.cons (t := 5003) rfl (.cons (t := 5004) rfl (.cons (t := 5005) rfl SubB.nil)))) ?_ (fun j_9 hj9 => ?_)
        · skip
          refine Cod.cond (t := 31) rfl trivial (fun hb10 => ?_) (fun hb10 => ?_)
          · replace h := bif_t h hb10
            refine Cod.seq ?_
            refine Cod.region [([], []), ([5003, 5001, 5005, 5004], [5003, 5001, 5005, 5004])] mixed (by kernel_rfl) ?_
            refine Chain.consA (StepOK.move .none (.tmp rfl (fun _ => trivial))) rfl ?_
            obtain ⟨r1, hv11, h⟩ := bind_some h
            refine Chain.consW (StepOK.callClo [5003, 5001, 5005, 5004] (Ss := []) (Cs := [isV (ptr m5003 0), isV (ptr m5001 0), isV (ptr m5004 0)]) (.tmp rfl (fun _ => trivial)) (shape_wrapPart_1_ok hv11) .nil (.cons (k := 5003) rfl (.cons (k := 5001) rfl (.cons (k := 5005) rfl (.cons (k := 5004) rfl .nil)))) rfl (by decide) (by decide) (by intro d h; cases h; decide)) rfl rfl ?_
            refine Chain.nil ?_
            refine Ends.then ?_
            refine Cod.open (k := 5001) (g := 5006) rfl rfl (fun s5006 => ?_)
            refine Cod.seq ?_
            obtain ⟨j_12, h, hK12⟩ := bind_some h
            refine Cod.thenJ (ι := (Str × Int × (List Str))) (fun j_12 => [(13, ⟨True, rep j_12.1⟩), (14, ⟨True, rep j_12.2.1⟩)]) (fun j_12 => [(5001, some (CPred.at (ptr m5001 0) (deep (fun z0 => cont 30 (⟨z0⟩ : Raw)) (rowV 9 j_12.2.2))))]) (fun s => j_12 = s) (.cons (t := 2) rfl (.cons (t := 3) rfl (.cons (t := 7) rfl (.cons (t := 8) rfl (.cons (t := 9) rfl (.cons (t := 10) rfl (.cons (t := 11) rfl (.cons (t := 20) rfl (.cons (t := 21) rfl (.cons (t := 22) rfl Sub.nil)))))))))) (.cons (t := 5003) rfl (.cons (t := 5004) rfl SubB.nil)) ?_ (fun j_12' hj12 => ?_)
            · skip
              refine Cod.block ?_
              refine Cod.close (k := 5001) (g := 5006) (fun z => cont 30 (⟨z⟩ : Raw)) rfl rfl rfl ?_
              refine Cod.loopL h (fun s13_ => [(13, ⟨True, rep s13_.1⟩), (14, ⟨True, rep s13_.2.1⟩)]) (fun s13_ => [(5001, some (CPred.at (ptr m5001 0) (deep (fun z0 => cont 30 (⟨z0⟩ : Raw)) (rowV 9 s13_.2.2))))]) (.cons (t := 13) rfl (.cons (t := 14) rfl Sub.nil)) (.cons (t := 5001) rfl SubB.nil) (.cons (t := 2) rfl (.cons (t := 3) rfl (.cons (t := 7) rfl (.cons (t := 8) rfl (.cons (t := 9) rfl (.cons (t := 10) rfl (.cons (t := 11) rfl (.cons (t := 20) rfl (.cons (t := 21) rfl (.cons (t := 22) rfl Sub.nil)))))))))) (.cons (t := 5003) rfl (.cons (t := 5004) rfl SubB.nil)) (fun s13_ o_13 h hD13 => ?_)
              unfold shape_wrapPart_L2 at h
              refine Cod.open (k := 5001) (g := 5007) rfl rfl (fun s5007 => ?_)
              refine Cod.seq ?_
              refine Cod.seq ?_
              refine Cod.region [] mixed (by kernel_rfl) ?_
              refine Chain.cons (StepOK.move .none (.tmp rfl (fun _ => trivial))) rfl ?_
              refine Chain.cons (StepOK.move .none (.tmp rfl (fun _ => trivial))) rfl ?_
              refine Chain.cons (StepOK.gt .none (.tmp rfl (fun _ => trivial)) (.tmp rfl (fun _ => trivial))) rfl ?_
              refine Chain.cons (StepOK.move .none (.tmp rfl (fun _ => trivial))) rfl ?_
              refine Chain.cons (StepOK.move (.at rfl rfl) (.tmp rfl (fun _ => trivial))) rfl ?_
              obtain ⟨r2, hv14, h⟩ := bind_some h
              refine Chain.cons (StepOK.callIf (.at rfl rfl) fnok80 (fun hg => utf8_RuneCountInString_ok ((fun hg => gd_some hv14 (hg.2)) hg)) (.cons (.tmp rfl id) .nil) (fun h => h)) rfl ?_
              refine Chain.cons (StepOK.gt (.at rfl rfl) (.tmp rfl id) (.int (by decide))) rfl ?_
              refine Chain.cons (StepOK.pickAnd .none (.tmp rfl (fun _ => trivial)) (.tmp rfl id)) rfl ?_
              refine Chain.nil ?_
              refine Ends.then ?_
              refine Cod.cond (t := 41) rfl trivial (fun hb15 => ?_) (fun hb15 => ?_)
              · replace h := bif_t h hb15
                refine Cod.skip ?_
                refine Ends.then ?_
                refine Cod.block ?_
                refine Cod.seq ?_
                refine Cod.region [] mixed (by kernel_rfl) ?_
                refine Chain.cons (StepOK.load .none ty23 (.tmp rfl (fun _ => trivial))) rfl ?_
                refine Chain.cons (StepOK.move .none (.tmp rfl (fun _ => trivial))) rfl ?_
                refine Chain.cons (StepOK.move .none (.tmp rfl (fun _ => trivial))) rfl ?_
                obtain ⟨r3, hv16, h⟩ := bind_some h
                refine Chain.cons (StepOK.call .none (shape_cut_ok hv16) (.cons (.tmp rfl (fun _ => trivial)) (.cons (.tmp rfl (fun _ => trivial)) (.cons (.tmp rfl (fun _ => trivial)) .nil)))) rfl ?_
                refine Chain.cons (StepOK.move .none (.tmp rfl (fun _ => trivial))) rfl ?_
                refine Chain.cons (StepOK.extract .none (.tmp rfl (fun _ => trivial)) rfl) rfl ?_
                refine Chain.cons (StepOK.extract .none (.tmp rfl (fun _ => trivial)) rfl) rfl ?_
                refine Chain.cons (StepOK.assign .none (.tmp rfl (fun _ => trivial))) rfl ?_
                refine Chain.cons (StepOK.assign .none (.tmp rfl (fun _ => trivial))) rfl ?_
                refine Chain.nil ?_
                refine Ends.then ?_
                refine Cod.seq ?_
                refine Cod.region [([5001], []), ([], []), ([], []), ([5007], [52, 5007]), ([5001, 52], [5001, 52])] mixed (by kernel_rfl) ?_
                refine Chain.consA (StepOK.loadAt0 (k := 5001) .none tr30 rfl (.tmp rfl (fun _ => trivial))) rfl ?_
                refine Chain.consA (StepOK.move .none (.tmp rfl (fun _ => trivial))) rfl ?_
                refine Chain.consA (StepOK.buildSlice (xs := [_]) .none sl30 ty9 hz9 (.cons (.tmp rfl (fun _ => trivial)) .nil) rfl (by decide)) rfl ?_
                obtain ⟨hn17, h⟩ := need_some h
                refine Chain.consW (StepOK.append (k := 5007) rk30 rfl (.told (.tmp rfl (fun _ => trivial)) rfl) (.tmp rfl (fun _ => trivial)) hn17) rfl rfl ?_
                refine Chain.consN (StepOK.storeRow (k := 5001) (t := 52) (set := fun _ z => z) ty30 rfl (.tmp rfl (fun _ => trivial)) .self rfl rfl) rfl ?_
                refine Chain.nil ?_
                refine Ends.then ?_
                refine Cod.open (k := 5001) (g := 5008) rfl rfl (fun s5008 => ?_)
                refine Cod.seq ?_
                refine Cod.region [] mixed (by kernel_rfl) ?_
                refine Chain.cons (StepOK.move .none (.tmp rfl (fun _ => trivial))) rfl ?_
                refine Chain.cons (StepOK.assign .none (.tmp rfl (fun _ => trivial))) rfl ?_
                refine Chain.nil ?_
                refine Ends.then ?_
                obtain ⟨c1, hv18, h⟩ := bnd_some h
                refine Cod.reB (t := 5008) rfl (congrArg (fun y => CPred.at s5008 (rowV 9 y)) hv18) ?_
                refine Cod.region [] mixed (by kernel_rfl) ?_
                refine Chain.cons (StepOK.load .none ty23 (.tmp rfl (fun _ => trivial))) rfl ?_
                refine Chain.cons (StepOK.move .none (.tmp rfl (fun _ => trivial))) rfl ?_
                obtain ⟨n2, hv19, h⟩ := bind_some h
                refine Chain.cons (StepOK.call .none (shape_measure_ok hv19) (.cons (.tmp rfl (fun _ => trivial)) (.cons (.tmp rfl (fun _ => trivial)) .nil))) rfl ?_
                refine Chain.cons (StepOK.assign .none (.tmp rfl (fun _ => trivial))) rfl ?_
                refine Chain.nil ?_
                refine Ends.blkNormal ?_
                refine Ends.close (k := 5001) (g := 5008) (fun z => cont 30 (⟨z⟩ : Raw)) rfl rfl rfl ?_
                exact Ends.againL (some_eq h) (.cons (t := 13) rfl (.cons (t := 14) rfl (.cons (t := 2) rfl (.cons (t := 3) rfl (.cons (t := 7) rfl (.cons (t := 8) rfl (.cons (t := 9) rfl (.cons (t := 10) rfl (.cons (t := 11) rfl (.cons (t := 20) rfl (.cons (t := 21) rfl (.cons (t := 22) rfl Sub.nil)))))))))))) (.cons (t := 5001) rfl (.cons (t := 5003) rfl (.cons (t := 5004) rfl SubB.nil)))
              · replace h := bif_f h hb15
                refine Cod.exit ?_
                refine Ends.thenExit ?_
                refine Ends.thenExit ?_
                refine Ends.blkExit ?_
                refine Ends.close (k := 5001) (g := 5007) (fun z => cont 30 (⟨z⟩ : Raw)) rfl rfl rfl ?_
                replace h := hD13 _ (some_eq h)
                exact Ends.join _ (some_eq h) (.cons (t := 13) rfl (.cons (t := 14) rfl (.cons (t := 2) rfl (.cons (t := 3) rfl (.cons (t := 7) rfl (.cons (t := 8) rfl (.cons (t := 9) rfl (.cons (t := 10) rfl (.cons (t := 11) rfl (.cons (t := 20) rfl (.cons (t := 21) rfl (.cons (t := 22) rfl Sub.nil)))))))))))) (.cons (t := 5001) rfl (.cons (t := 5003) rfl (.cons (t := 5004) rfl SubB.nil)))
            · subst hj12; have h := hK12; clear hK12
              refine Cod.open (k := 5001) (g := 5009) rfl rfl (fun s5009 => ?_)
              refine Cod.seq ?_
              refine Cod.region [([], []), ([], []), ([5003], [5003]), ([5004], [5004])] mixed (by kernel_rfl) ?_
              refine Chain.consA (StepOK.move .none (.tmp rfl (fun _ => trivial))) rfl ?_
              refine Chain.consA (StepOK.move .none (.tmp rfl (fun _ => trivial))) rfl ?_
              refine Chain.consN (StepOK.storeAt0 (g := 5003) ty9 rfl (.tmp rfl (fun _ => trivial)) (.tmp rfl (fun _ => trivial))) rfl ?_
              refine Chain.consN (StepOK.storeAt0 (g := 5004) ty3 rfl (.tmp rfl (fun _ => trivial)) (.tmp rfl (fun _ => trivial))) rfl ?_
              refine Chain.nil ?_
              refine Ends.then ?_
              refine Cod.exit ?_
              refine Ends.thenExit ?_
              refine Ends.blkExit ?_
              refine Ends.close (k := 5001) (g := 5009) (fun z => cont 30 (⟨z⟩ : Raw)) rfl rfl rfl ?_
              replace h := resb_ab hK9 (some_eq h)
              exact Ends.join _ (some_eq h) (.cons (t := 2) rfl (.cons (t := 3) rfl (.cons (t := 7) rfl (.cons (t := 8) rfl (.cons (t := 9) rfl (.cons (t := 10) rfl (.cons (t := 11) rfl (.cons (t := 20) rfl (.cons (t := 21) rfl (.cons (t := 22) rfl Sub.nil)))))))))) (.cons (t := 5001) rfl (.cons (t := 5003) rfl (.cons (t := 5004) rfl SubB.nil)))
          · replace h := bif_f h hb10
            refine Cod.skip ?_
            exact Ends.join _ (some_eq h) (.cons (t := 2) rfl (.cons (t := 3) rfl (.cons (t := 7) rfl (.cons (t := 8) rfl (.cons (t := 9) rfl (.cons (t := 10) rfl (.cons (t := 11) rfl (.cons (t := 13) rfl (.cons (t := 14) rfl (.cons (t := 20) rfl (.cons (t := 21) rfl (.cons (t := 22) rfl Sub.nil)))))))))))) (.cons (t := 5001) rfl (.cons (t := 5003) rfl (.cons (t := 5004) rfl (.cons (t := 5005) rfl SubB.nil))))
        · have h := resb_nx hK9 hj9
          refine Cod.seq ?_
          refine Cod.seq ?_
          refine Cod.region [([5003], []), ([], []), ([], []), ([5004], []), ([], []), ([], []), ([], []), ([], []), ([], []), ([], []), ([], []), ([], [])] mixed (by kernel_rfl) ?_
          refine Chain.consA (StepOK.loadAt0 (k := 5003) .none ty9 rfl (.tmp rfl (fun _ => trivial))) rfl ?_
          refine Chain.consA (StepOK.neS .none (eqAt_str Tryd.underlying9) (.tmp rfl (fun _ => trivial)) (.str (l := []) (by decide))) rfl ?_
          refine Chain.consA (StepOK.move .none (.tmp rfl (fun _ => trivial))) rfl ?_
          refine Chain.consA (StepOK.loadAt0 (k := 5004) (.at rfl rfl) ty3 rfl (.tmp rfl (fun _ => trivial))) rfl ?_
          refine Chain.consA (StepOK.fieldAddr (.at rfl rfl) fd23_2 hfd23_2 (.tmp rfl (fun _ => trivial))) rfl ?_
          refine Chain.consA (StepOK.load (.at rfl rfl) ty3 (.tmp rfl id)) rfl ?_
          refine Chain.consA (StepOK.addW (.at rfl rfl) (.tmp rfl id) (.tmp rfl id)) rfl ?_
          refine Chain.consA (StepOK.move (.at rfl rfl) (.tmp rfl (fun _ => trivial))) rfl ?_
          refine Chain.consA (StepOK.addW (.at rfl rfl) (.tmp rfl id) (.tmp rfl id)) rfl ?_
          refine Chain.consA (StepOK.move (.at rfl rfl) (.tmp rfl (fun _ => trivial))) rfl ?_
          refine Chain.consA (StepOK.gt (.at rfl rfl) (.tmp rfl id) (.tmp rfl id)) rfl ?_
          refine Chain.consA (StepOK.pickAnd .none (.tmp rfl (fun _ => trivial)) (.tmp rfl id)) rfl ?_
          refine Chain.nil ?_
          refine Ends.then ?_
          obtain ⟨j_20, h, hK20⟩ := bind_some h
          refine Cod.thenJ (ι := ((List Str) × Str × Int)) (fun j_20 => []) (fun j_20 => [(5001, some (CPred.at (ptr m5001 0) (deep (fun z0 => cont 30 (⟨z0⟩ : Raw)) (rowV 9 j_20.1)))), (5003, some (boxAt m5003 9 j_20.2.1)), (5004, some (boxAt m5004 3 j_20.2.2))]) (fun s => j_20 = s) (.cons (t := 2) rfl (.cons (t := 3) rfl (.cons (t := 7) rfl (.cons (t := 8) rfl (.cons (t := 9) rfl (.cons (t := 10) rfl (.cons (t := 11) rfl (.cons (t := 13) rfl (.cons (t := 14) rfl (.cons (t := 20) rfl (.cons (t := 21) rfl (.cons (t := 22) rfl Sub.nil)))))))))))) SubB.nil ?_ (fun j_20' hj20 => ?_)
          · skip
            refine Cod.cond (t := 70) rfl trivial (fun hb21 => ?_) (fun hb21 => ?_)
            · replace h := bif_t h hb21
              refine Cod.region [([], []), ([5003, 5001, 5005, 5004], [5003, 5001, 5005, 5004])] mixed (by kernel_rfl) ?_
              refine Chain.consA (StepOK.move .none (.tmp rfl (fun _ => trivial))) rfl ?_
              obtain ⟨r4, hv22, h⟩ := bind_some h
              refine Chain.consW (StepOK.callClo [5003, 5001, 5005, 5004] (Ss := []) (Cs := [isV (ptr m5003 0), isV (ptr m5001 0), isV (ptr m5004 0)]) (.tmp rfl (fun _ => trivial)) (shape_wrapPart_1_ok hv22) .nil (.cons (k := 5003) rfl (.cons (k := 5001) rfl (.cons (k := 5005) rfl (.cons (k := 5004) rfl .nil)))) rfl (by decide) (by decide) (by intro d h; cases h; decide)) rfl rfl ?_
              refine Chain.nil ?_
              exact Ends.join _ (some_eq h) (.cons (t := 2) rfl (.cons (t := 3) rfl (.cons (t := 7) rfl (.cons (t := 8) rfl (.cons (t := 9) rfl (.cons (t := 10) rfl (.cons (t := 11) rfl (.cons (t := 13) rfl (.cons (t := 14) rfl (.cons (t := 20) rfl (.cons (t := 21) rfl (.cons (t := 22) rfl Sub.nil)))))))))))) (.cons (t := 5001) rfl (.cons (t := 5003) rfl (.cons (t := 5004) rfl SubB.nil)))
            · replace h := bif_f h hb21
              refine Cod.skip ?_
              refine Ends.close (k := 5001) (g := 5005) (fun z => cont 30 (⟨z⟩ : Raw)) rfl rfl rfl ?_
              exact Ends.join _ (some_eq h) (.cons (t := 2) rfl (.cons (t := 3) rfl (.cons (t := 7) rfl (.cons (t := 8) rfl (.cons (t := 9) rfl (.cons (t := 10) rfl (.cons (t := 11) rfl (.cons (t := 13) rfl (.cons (t := 14) rfl (.cons (t := 20) rfl (.cons (t := 21) rfl (.cons (t := 22) rfl Sub.nil)))))))))))) (.cons (t := 5001) rfl (.cons (t := 5003) rfl (.cons (t := 5004) rfl SubB.nil)))
          · subst hj20; have h := hK20; clear hK20
            refine Cod.open (k := 5001) (g := 5010) rfl rfl (fun s5010 => ?_)
            refine Cod.seq ?_
            refine Cod.region [([5003], []), ([], [])] mixed (by kernel_rfl) ?_
            refine Chain.consA (StepOK.loadAt0 (k := 5003) .none ty9 rfl (.tmp rfl (fun _ => trivial))) rfl ?_
            refine Chain.consA (StepOK.eqS .none (eqAt_str Tryd.underlying9) (.tmp rfl (fun _ => trivial)) (.str (l := []) (by decide))) rfl ?_
            refine Chain.nil ?_
            refine Ends.then ?_
            refine Cod.cond (t := 74) rfl trivial (fun hb23 => ?_) (fun hb23 => ?_)
            · replace h := bif_t h hb23
              refine Cod.region [([], []), ([], []), ([5003], [5003]), ([5004], [5004])] mixed (by kernel_rfl) ?_
              refine Chain.consA (StepOK.move .none (.tmp rfl (fun _ => trivial))) rfl ?_
              refine Chain.consA (StepOK.move .none (.tmp rfl (fun _ => trivial))) rfl ?_
              refine Chain.consN (StepOK.storeAt0 (g := 5003) ty9 rfl (.tmp rfl (fun _ => trivial)) (.tmp rfl (fun _ => trivial))) rfl ?_
              refine Chain.consN (StepOK.storeAt0 (g := 5004) ty3 rfl (.tmp rfl (fun _ => trivial)) (.tmp rfl (fun _ => trivial))) rfl ?_
              refine Chain.nil ?_
              refine Ends.blkNormal ?_
              refine Ends.close (k := 5001) (g := 5010) (fun z => cont 30 (⟨z⟩ : Raw)) rfl rfl rfl ?_
              exact Ends.join _ (some_eq h) (.cons (t := 2) rfl (.cons (t := 3) rfl (.cons (t := 7) rfl (.cons (t := 8) rfl (.cons (t := 9) rfl (.cons (t := 10) rfl (.cons (t := 11) rfl (.cons (t := 20) rfl (.cons (t := 21) rfl (.cons (t := 22) rfl Sub.nil)))))))))) (.cons (t := 5001) rfl (.cons (t := 5003) rfl (.cons (t := 5004) rfl SubB.nil)))
            · replace h := bif_f h hb23
              refine Cod.region [([5003], []), ([], []), ([], []), ([], []), ([5004], []), ([], []), ([], []), ([], []), ([], []), ([], []), ([5003], [5003]), ([5004], [5004])] mixed (by kernel_rfl) ?_
              refine Chain.consA (StepOK.loadAt0 (k := 5003) .none ty9 rfl (.tmp rfl (fun _ => trivial))) rfl ?_
              obtain ⟨hn24, h⟩ := need_some h
              refine Chain.consA (StepOK.addStr .none (.tmp rfl (fun _ => trivial)) (.str (l := [32]) (by decide)) (fun _ => hn24)) rfl ?_
              refine Chain.consA (StepOK.move .none (.tmp rfl (fun _ => trivial))) rfl ?_
              obtain ⟨hn25, h⟩ := need_some h
              obtain ⟨v1, hv26, h⟩ := bnd_some h
              refine Chain.consA (StepOK.re hv26 (StepOK.addStr .none (.tmp rfl (fun _ => trivial)) (.tmp rfl (fun _ => trivial)) (fun _ => hn25))) rfl ?_
              refine Chain.consA (StepOK.loadAt0 (k := 5004) .none ty3 rfl (.tmp rfl (fun _ => trivial))) rfl ?_
              refine Chain.consA (StepOK.fieldAddr .none fd23_2 hfd23_2 (.tmp rfl (fun _ => trivial))) rfl ?_
              refine Chain.consA (StepOK.load .none ty3 (.tmp rfl (fun _ => trivial))) rfl ?_
              refine Chain.consA (StepOK.addW .none (.tmp rfl (fun _ => trivial)) (.tmp rfl (fun _ => trivial))) rfl ?_
              refine Chain.consA (StepOK.move .none (.tmp rfl (fun _ => trivial))) rfl ?_
              obtain ⟨v2, hv27, h⟩ := bnd_some h
              refine Chain.consA (StepOK.re hv27 (StepOK.addW .none (.tmp rfl (fun _ => trivial)) (.tmp rfl (fun _ => trivial)))) rfl ?_
              refine Chain.consN (StepOK.storeAt0 (g := 5003) ty9 rfl (.tmp rfl (fun _ => trivial)) (.tmp rfl (fun _ => trivial))) rfl ?_
              refine Chain.consN (StepOK.storeAt0 (g := 5004) ty3 rfl (.tmp rfl (fun _ => trivial)) (.tmp rfl (fun _ => trivial))) rfl ?_
              refine Chain.nil ?_
              refine Ends.blkNormal ?_
              refine Ends.close (k := 5001) (g := 5010) (fun z => cont 30 (⟨z⟩ : Raw)) rfl rfl rfl ?_
              exact Ends.join _ (some_eq h) (.cons (t := 2) rfl (.cons (t := 3) rfl (.cons (t := 7) rfl (.cons (t := 8) rfl (.cons (t := 9) rfl (.cons (t := 10) rfl (.cons (t := 11) rfl (.cons (t := 20) rfl (.cons (t := 21) rfl (.cons (t := 22) rfl Sub.nil)))))))))) (.cons (t := 5001) rfl (.cons (t := 5003) rfl (.cons (t := 5004) rfl SubB.nil)))
      · subst hj5; have h := hK5; clear hK5
        refine Cod.open (k := 5001) (g := 5011) rfl rfl (fun s5011 => ?_)
        refine Cod.region [] mixed (by kernel_rfl) ?_
        refine Chain.cons (StepOK.addW .none (.tmp rfl (fun _ => trivial)) (.int (by decide))) rfl ?_
        refine Chain.cons (StepOK.move .none (.tmp rfl (fun _ => trivial))) rfl ?_
        refine Chain.nil ?_
        refine Ends.close (k := 5001) (g := 5011) (fun z => cont 30 (⟨z⟩ : Raw)) rfl rfl rfl ?_
        exact Ends.againL (some_eq h) (.cons (t := 22) rfl (.cons (t := 2) rfl (.cons (t := 3) rfl (.cons (t := 7) rfl (.cons (t := 8) rfl (.cons (t := 9) rfl (.cons (t := 10) rfl (.cons (t := 11) rfl (.cons (t := 20) rfl (.cons (t := 21) rfl Sub.nil)))))))))) (.cons (t := 5001) rfl (.cons (t := 5003) rfl (.cons (t := 5004) rfl SubB.nil)))
    · replace h := bif_f h hb4
      refine Cod.exit ?_
      refine Ends.thenExit ?_
      refine Ends.thenExit ?_
      refine Ends.blkExit ?_
      refine Ends.close (k := 5001) (g := 5005) (fun z => cont 30 (⟨z⟩ : Raw)) rfl rfl rfl ?_
      replace h := hD3 _ (some_eq h)
      exact Ends.join _ (some_eq h) (.cons (t := 7) rfl (.cons (t := 8) rfl (.cons (t := 9) rfl (.cons (t := 10) rfl (.cons (t := 11) rfl Sub.nil))))) (.cons (t := 5001) rfl (.cons (t := 5003) rfl (.cons (t := 5004) rfl SubB.nil)))
  · subst hj2; have h := hK2; clear hK2
    refine Cod.open (k := 5001) (g := 5012) rfl rfl (fun s5012 => ?_)
    refine Cod.seq ?_
    refine Cod.region [([], []), ([5003, 5001, 5012, 5004], [5003, 5001, 5012, 5004])] mixed (by kernel_rfl) ?_
    refine Chain.consA (StepOK.move .none (.tmp rfl (fun _ => trivial))) rfl ?_
    obtain ⟨r5, hv28, h⟩ := bind_some h
    refine Chain.consW (StepOK.callClo [5003, 5001, 5012, 5004] (Ss := []) (Cs := [isV (ptr m5003 0), isV (ptr m5001 0), isV (ptr m5004 0)]) (.tmp rfl (fun _ => trivial)) (shape_wrapPart_1_ok hv28) .nil (.cons (k := 5003) rfl (.cons (k := 5001) rfl (.cons (k := 5012) rfl (.cons (k := 5004) rfl .nil)))) rfl (by decide) (by decide) (by intro d h; cases h; decide)) rfl rfl ?_
    refine Chain.nil ?_
    refine Ends.then ?_
    refine Cod.open (k := 5001) (g := 5013) rfl rfl (fun s5013 => ?_)
    refine Cod.seq ?_
    refine Cod.seq ?_
    refine Cod.region [] mixed (by kernel_rfl) ?_
    refine Chain.cons (StepOK.move .none (.tmp rfl (fun _ => trivial))) rfl ?_
    refine Chain.cons (StepOK.len .none sl30 (.tmp rfl (fun _ => trivial))) rfl ?_
    refine Chain.cons (StepOK.eqI .none (.tmp rfl (fun _ => trivial)) (.int (by decide))) rfl ?_
    refine Chain.nil ?_
    refine Ends.then ?_
    obtain ⟨j_29, h, hK29⟩ := bind_some h
    refine Cod.thenJ (ι := (List Str)) (fun j_29 => []) (fun j_29 => [(5001, some (CPred.at (ptr m5001 0) (deep (fun z0 => cont 30 (⟨z0⟩ : Raw)) (rowV 9 j_29))))]) (fun s => j_29 = s) (.cons (t := 7) rfl Sub.nil) SubB.nil ?_ (fun j_29' hj29 => ?_)
    · skip
      refine Cod.cond (t := 92) rfl trivial (fun hb30 => ?_) (fun hb30 => ?_)
      · replace h := bif_t h hb30
        refine Cod.region [([5001], []), ([], []), ([5013], [95, 5013]), ([5001, 95], [5001, 95])] mixed (by kernel_rfl) ?_
        refine Chain.consA (StepOK.loadAt0 (k := 5001) .none tr30 rfl (.tmp rfl (fun _ => trivial))) rfl ?_
        refine Chain.consA (StepOK.buildSlice (xs := [_]) .none sl30 ty9 hz9 (.cons (.str (l := []) (by decide)) .nil) rfl (by decide)) rfl ?_
        obtain ⟨hn31, h⟩ := need_some h
        refine Chain.consW (StepOK.append (k := 5013) rk30 rfl (.told (.tmp rfl (fun _ => trivial)) rfl) (.tmp rfl (fun _ => trivial)) hn31) rfl rfl ?_
        refine Chain.consN (StepOK.storeRow (k := 5001) (t := 95) (set := fun _ z => z) ty30 rfl (.tmp rfl (fun _ => trivial)) .self rfl rfl) rfl ?_
        refine Chain.nil ?_
        exact Ends.join _ (some_eq h) (.cons (t := 7) rfl Sub.nil) (.cons (t := 5001) rfl SubB.nil)
      · replace h := bif_f h hb30
        refine Cod.skip ?_
        refine Ends.close (k := 5001) (g := 5013) (fun z => cont 30 (⟨z⟩ : Raw)) rfl rfl rfl ?_
        exact Ends.join _ (some_eq h) (.cons (t := 7) rfl Sub.nil) (.cons (t := 5001) rfl SubB.nil)
    · subst hj29; have h := hK29; clear hK29
      refine Cod.open (k := 5001) (g := 5014) rfl rfl (fun s5014 => ?_)
      refine Cod.seq ?_
      refine Cod.region [([5001], []), ([], [])] mixed (by kernel_rfl) ?_
      refine Chain.consA (StepOK.loadAt0 (k := 5001) .none tr30 rfl (.tmp rfl (fun _ => trivial))) rfl ?_
      refine Chain.consA (StepOK.assign .none (.tmp rfl (fun _ => trivial))) rfl ?_
      refine Chain.nil ?_
      refine Ends.then ?_
      refine Cod.freezeRow (g := 5014) (ts := [6]) rfl (.cons (t := 6) rfl trivial .nil) SubB.nil rfl ?_
      refine Cod.ret ?_
      obtain rfl := some_eq h
      exact Ends.ret1 (.inl rfl) Tryd.results73 (ResOK.tmp rfl trivial Imp.refl)

theorem shape_wrap_ok {f1 : Font} {text1 : Str} {width1 : Int} {r : (List Str)}  (h : shape_wrap f1 text1 width1 = some r) : FSpec Tryd.prog 45 [rep f1, rep text1, rep width1] (rep r) := by
  unfold shape_wrap at h
  refine FSpec.intro (n := 25) fnok45 Tryd.func45 rfl Tryd.ntmps45 rfl (fun F => ?_)
  refine Cod.seq ?_
  refine Cod.region [] mixed (by kernel_rfl) ?_
  refine Chain.cons (StepOK.box .none (.tmp rfl (fun _ => trivial))) rfl ?_
  refine Chain.cons (StepOK.assign .none (.const (x := ([] : (List Str))) (fun M w => ⟨_, ⟨none, 0, rfl, Nat.le_refl _, by decide, rfl⟩, rfl⟩))) rfl ?_
  refine Chain.nil ?_
  refine Ends.then ?_
  refine Cod.seq ?_
  refine Cod.region [([], [7])] mixed (by kernel_rfl) ?_
  refine Chain.consW (StepOK.nilRow (T := 9) (α := Str) rfl) rfl rfl ?_
  refine Chain.nil ?_
  refine Ends.then ?_
  refine Cod.nameRow (t := 7) (g := 5001) rfl rfl rfl (fun s5001 => ?_)
  refine Cod.seq ?_
  refine Cod.seq ?_
  refine Cod.region [] mixed (by kernel_rfl) ?_
  refine Chain.cons (StepOK.move .none (.tmp rfl (fun _ => trivial))) rfl ?_
  obtain ⟨r1, hv1, h⟩ := bind_some h
  refine Chain.cons (StepOK.call .none (strings_Split_ok hv1).frz (.cons (.tmp rfl (fun _ => trivial)) (.cons (.str (l := [10]) (by decide)) .nil))) rfl ?_
  refine Chain.cons (StepOK.len .none sl30 (.tmp rfl (fun _ => trivial))) rfl ?_
  refine Chain.cons (StepOK.move .none (.int (by decide))) rfl ?_
  refine Chain.nil ?_
  refine Ends.then ?_
  obtain ⟨j_2, h, hK2⟩ := bind_some h
  refine Cod.thenJ (ι := (List Str)) (fun j_2 => []) (fun j_2 => [(7, some (rowV 9 j_2))]) (fun s => j_2 = s) Sub.nil SubB.nil ?_ (fun j_2' hj2 => ?_)
  · skip
    refine Cod.block ?_
    refine Cod.anon (t := 7) (g := 5001) rfl rfl trivial rfl ?_
    refine Cod.rforL h (fun p3_ => [(13, ⟨True, rep p3_.1⟩)]) (fun p3_ => [(7, some (rowV 9 p3_.2))]) (.cons (t := 13) rfl Sub.nil) (.cons (t := 7) rfl SubB.nil) (.cons (t := 2) rfl (.cons (t := 3) rfl (.cons (t := 11) rfl (.cons (t := 12) rfl Sub.nil)))) SubB.nil (fun p3_ o_3 h hD3 => ?_)
    refine Cod.nameRow (t := 7) (g := 5002) rfl rfl rfl (fun s5002 => ?_)
    refine Cod.seq ?_
    refine Cod.region [] mixed (by kernel_rfl) ?_
    refine Chain.cons (StepOK.lt .none (.tmp rfl (fun _ => trivial)) (.tmp rfl (fun _ => trivial))) rfl ?_
    refine Chain.nil ?_
    refine Ends.then ?_
    refine Cod.seq ?_
    refine Cod.cond (t := 14) rfl trivial (fun hb4 => ?_) (fun hb4 => ?_)
    · replace h := bif_t h hb4
      refine Cod.skip ?_
      refine Ends.then ?_
      refine Cod.seq ?_
      obtain ⟨j_5, h, hK5⟩ := bind_some h
      unfold shape_wrap_L1 at h
      refine Cod.thenJ (ι := (List Str)) (fun j_5 => []) (fun j_5 => [(7, some (rowV 9 j_5))]) (fun s => j_5 = s) (.cons (t := 2) rfl (.cons (t := 3) rfl (.cons (t := 11) rfl (.cons (t := 12) rfl (.cons (t := 13) rfl Sub.nil))))) SubB.nil ?_ (fun j_5' hj5 => ?_)
      · skip
        refine Cod.block ?_
        refine Cod.seq ?_
        refine Cod.region [] mixed (by kernel_rfl) ?_
        obtain ⟨hn6, h⟩ := need_some h
        refine Chain.cons (StepOK.indexAddr .none sl30 ty9 (.tmp rfl (fun _ => trivial)) (.tmp rfl (fun _ => trivial)) (fun _ => hn6)) rfl ?_
        refine Chain.cons (StepOK.load .none ty9 (.tmp rfl (fun _ => trivial))) rfl ?_
        refine Chain.cons (StepOK.assign .none (.tmp rfl (fun _ => trivial))) rfl ?_
        refine Chain.nil ?_
        refine Ends.then ?_
        refine Cod.region [([], []), ([], []), ([], []), ([], []), ([], []), ([5002], [22, 5002]), ([22], [7, 22])] mixed (by kernel_rfl) ?_
        refine Chain.consA (StepOK.move .none (.tmp rfl (fun _ => trivial))) rfl ?_
        refine Chain.consA (StepOK.load .none ty23 (.tmp rfl (fun _ => trivial))) rfl ?_
        refine Chain.consA (StepOK.move .none (.tmp rfl (fun _ => trivial))) rfl ?_
        refine Chain.consA (StepOK.move .none (.tmp rfl (fun _ => trivial))) rfl ?_
        obtain ⟨r2, hv7, h⟩ := bind_some h
        refine Chain.consA (StepOK.call .none (shape_wrapPart_ok hv7) (.cons (.tmp rfl (fun _ => trivial)) (.cons (.tmp rfl (fun _ => trivial)) (.cons (.tmp rfl (fun _ => trivial)) .nil)))) rfl ?_
        obtain ⟨hn8, h⟩ := need_some h
        refine Chain.consW (StepOK.append (k := 5002) rk30 rfl (.told (.tmp rfl (fun _ => trivial)) rfl) (.tmp rfl (fun _ => trivial)) hn8) rfl rfl ?_
        refine Chain.consWD (StepOK.passRow rfl (.tmp rfl)) rfl rfl ?_
        refine Chain.nil ?_
        refine Ends.blkNormal ?_
        exact Ends.join _ (some_eq h) (.cons (t := 2) rfl (.cons (t := 3) rfl (.cons (t := 11) rfl (.cons (t := 12) rfl (.cons (t := 13) rfl Sub.nil))))) (.cons (t := 7) rfl SubB.nil)
      · subst hj5; have h := hK5; clear hK5
        refine Cod.nameRow (t := 7) (g := 5003) rfl rfl rfl (fun s5003 => ?_)
        refine Cod.region [] mixed (by kernel_rfl) ?_
        refine Chain.cons (StepOK.addW .none (.tmp rfl (fun _ => trivial)) (.int (by decide))) rfl ?_
        refine Chain.cons (StepOK.move .none (.tmp rfl (fun _ => trivial))) rfl ?_
        refine Chain.nil ?_
        refine Ends.anon (t := 7) (g := 5003) rfl rfl trivial rfl ?_
        exact Ends.againL (some_eq h) (.cons (t := 13) rfl (.cons (t := 2) rfl (.cons (t := 3) rfl (.cons (t := 11) rfl (.cons (t := 12) rfl Sub.nil))))) (.cons (t := 7) rfl SubB.nil)
    · replace h := bif_f h hb4
      refine Cod.exit ?_
      refine Ends.thenExit ?_
      refine Ends.thenExit ?_
      refine Ends.blkExit ?_
      refine Ends.anon (t := 7) (g := 5002) rfl rfl trivial rfl ?_
      replace h := hD3 _ (some_eq h)
      exact Ends.join _ (some_eq h) Sub.nil (.cons (t := 7) rfl SubB.nil)
  · subst hj2; have h := hK2; clear hK2
    refine Cod.freezeRowA (t := 7) rfl rfl SubB.nil rfl ?_
    refine Cod.seq ?_
    refine Cod.region [] mixed (by kernel_rfl) ?_
    refine Chain.cons (StepOK.move .none (.tmp rfl (fun _ => trivial))) rfl ?_
    refine Chain.cons (StepOK.assign .none (.tmp rfl (fun _ => trivial))) rfl ?_
    refine Chain.nil ?_
    refine Ends.then ?_
    refine Cod.ret ?_
    obtain rfl := some_eq h
    exact Ends.ret1 (.inl rfl) Tryd.results45 (ResOK.tmp rfl trivial Imp.refl)

theorem shape_Fit_ok {f1 : Font} {text1 : Str} {kind1 : Int} {pad1 : Int} {most1 : Int} {r : (Int × Int × Int)}  (h : shape_Fit f1 text1 kind1 pad1 most1 = some r) : FSpec Tryd.prog 25 [rep f1, rep text1, rep kind1, rep pad1, rep most1] (tup [rep r.1, rep r.2.1, rep r.2.2]) := by
  unfold shape_Fit at h
  refine FSpec.intro (n := 138) fnok25 Tryd.func25 rfl Tryd.ntmps25 rfl (fun F => ?_)
  refine Cod.seq ?_
  refine Cod.region [] mixed (by kernel_rfl) ?_
  refine Chain.cons (StepOK.box .none (.tmp rfl (fun _ => trivial))) rfl ?_
  refine Chain.cons (StepOK.assign .none (.int (by decide))) rfl ?_
  refine Chain.cons (StepOK.assign .none (.int (by decide))) rfl ?_
  refine Chain.cons (StepOK.assign .none (.int (by decide))) rfl ?_
  refine Chain.nil ?_
  refine Ends.then ?_
  refine Cod.seq ?_
  refine Cod.seq ?_
  refine Cod.region [] mixed (by kernel_rfl) ?_
  refine Chain.cons (StepOK.move .none (.tmp rfl (fun _ => trivial))) rfl ?_
  obtain ⟨r1, hv1, h⟩ := bind_some h
  refine Chain.cons (StepOK.call .none (shape_isKind_ok hv1) (.cons (.tmp rfl (fun _ => trivial)) .nil)) rfl ?_
  refine Chain.cons (StepOK.not .none (.tmp rfl (fun _ => trivial))) rfl ?_
  refine Chain.nil ?_
  refine Ends.then ?_
  refine Cod.cond (t := 26) rfl trivial (fun hb2 => ?_) (fun hb2 => ?_)
  · replace h := bif_t h hb2
    refine Cod.seq ?_
    refine Cod.region [] mixed (by kernel_rfl) ?_
    refine Chain.cons (StepOK.assign .none (.int (by decide))) rfl ?_
    refine Chain.cons (StepOK.assign .none (.int (by decide))) rfl ?_
    refine Chain.cons (StepOK.assign .none (.int (by decide))) rfl ?_
    refine Chain.nil ?_
    refine Ends.then ?_
    refine Cod.ret ?_
    refine Ends.thenRet ?_
    obtain rfl := some_eq h
    exact Ends.ret3 (.inl rfl) Tryd.results25 (ResOK.tmp rfl trivial Imp.refl) (ResOK.tmp rfl trivial Imp.refl) (ResOK.tmp rfl trivial Imp.refl)
  · replace h := bif_f h hb2
    refine Cod.skip ?_
    refine Ends.then ?_
    refine Cod.seq ?_
    refine Cod.seq ?_
    refine Cod.region [] mixed (by kernel_rfl) ?_
    refine Chain.cons (StepOK.load .none ty23 (.tmp rfl (fun _ => trivial))) rfl ?_
    refine Chain.cons (StepOK.move .none (.tmp rfl (fun _ => trivial))) rfl ?_
    obtain ⟨e1, hv3, h⟩ := bind_some h
    refine Chain.cons (StepOK.call .none (shape_checkBoth_ok hv3) (.cons (.tmp rfl (fun _ => trivial)) (.cons (.tmp rfl (fun _ => trivial)) .nil))) rfl ?_
    refine Chain.cons (StepOK.assign .none (.tmp rfl (fun _ => trivial))) rfl ?_
    refine Chain.nil ?_
    refine Ends.then ?_
    refine Cod.seq ?_
    refine Cod.region [] mixed (by kernel_rfl) ?_
    refine Chain.cons (StepOK.move .none (.tmp rfl (fun _ => trivial))) rfl ?_
    refine Chain.cons (StepOK.neI .none (.tmp rfl (fun _ => trivial)) (.int (by decide))) rfl ?_
    refine Chain.nil ?_
    refine Ends.then ?_
    refine Cod.cond (t := 31) rfl trivial (fun hb4 => ?_) (fun hb4 => ?_)
    · replace h := bif_t h hb4
      refine Cod.seq ?_
      refine Cod.region [] mixed (by kernel_rfl) ?_
      refine Chain.cons (StepOK.move .none (.tmp rfl (fun _ => trivial))) rfl ?_
      refine Chain.cons (StepOK.assign .none (.int (by decide))) rfl ?_
      refine Chain.cons (StepOK.assign .none (.int (by decide))) rfl ?_
      refine Chain.cons (StepOK.assign .none (.tmp rfl (fun _ => trivial))) rfl ?_
      refine Chain.nil ?_
      refine Ends.then ?_
      refine Cod.ret ?_
      refine Ends.thenRet ?_
      obtain rfl := some_eq h
      exact Ends.ret3 (.inl rfl) Tryd.results25 (ResOK.tmp rfl trivial Imp.refl) (ResOK.tmp rfl trivial Imp.refl) (ResOK.tmp rfl trivial Imp.refl)
    · replace h := bif_f h hb4
      refine Cod.skip ?_
      refine Ends.then ?_
      refine Cod.seq ?_
      refine Cod.seq ?_
      refine Cod.region [] mixed (by kernel_rfl) ?_
      refine Chain.cons (StepOK.move .none (.tmp rfl (fun _ => trivial))) rfl ?_
      refine Chain.cons (StepOK.lt .none (.tmp rfl (fun _ => trivial)) (.int (by decide))) rfl ?_
      refine Chain.cons (StepOK.move .none (.tmp rfl (fun _ => trivial))) rfl ?_
      refine Chain.cons (StepOK.move (.at rfl rfl) (.tmp rfl (fun _ => trivial))) rfl ?_
      refine Chain.cons (StepOK.gt (.at rfl rfl) (.tmp rfl id) (.int (by decide))) rfl ?_
      refine Chain.cons (StepOK.pickOr .none (.tmp rfl (fun _ => trivial)) (.tmp rfl id)) rfl ?_
      refine Chain.cons (StepOK.move .none (.tmp rfl (fun _ => trivial))) rfl ?_
      refine Chain.cons (StepOK.move (.at rfl rfl) (.tmp rfl (fun _ => trivial))) rfl ?_
      refine Chain.cons (StepOK.lt (.at rfl rfl) (.tmp rfl id) (.int (by decide))) rfl ?_
      refine Chain.cons (StepOK.pickOr .none (.tmp rfl (fun _ => trivial)) (.tmp rfl id)) rfl ?_
      refine Chain.cons (StepOK.move .none (.tmp rfl (fun _ => trivial))) rfl ?_
      refine Chain.cons (StepOK.move (.at rfl rfl) (.tmp rfl (fun _ => trivial))) rfl ?_
      refine Chain.cons (StepOK.gt (.at rfl rfl) (.tmp rfl id) (.int (by decide))) rfl ?_
      refine Chain.cons (StepOK.pickOr .none (.tmp rfl (fun _ => trivial)) (.tmp rfl id)) rfl ?_
      refine Chain.nil ?_
      refine Ends.then ?_
      refine Cod.cond (t := 46) rfl trivial (fun hb5 => ?_) (fun hb5 => ?_)
      · replace h := bif_t h hb5
        refine Cod.seq ?_
        refine Cod.region [] mixed (by kernel_rfl) ?_
        refine Chain.cons (StepOK.assign .none (.int (by decide))) rfl ?_
        refine Chain.cons (StepOK.assign .none (.int (by decide))) rfl ?_
        refine Chain.cons (StepOK.assign .none (.int (by decide))) rfl ?_
        refine Chain.nil ?_
        refine Ends.then ?_
        refine Cod.ret ?_
        refine Ends.thenRet ?_
        obtain rfl := some_eq h
        exact Ends.ret3 (.inl rfl) Tryd.results25 (ResOK.tmp rfl trivial Imp.refl) (ResOK.tmp rfl trivial Imp.refl) (ResOK.tmp rfl trivial Imp.refl)
      · replace h := bif_f h hb5
        refine Cod.skip ?_
        refine Ends.then ?_
        refine Cod.seq ?_
        refine Cod.region [] mixed (by kernel_rfl) ?_
        refine Chain.cons (StepOK.assign .none (.int (by decide))) rfl ?_
        refine Chain.nil ?_
        refine Ends.then ?_
        refine Cod.seq ?_
        refine Cod.seq ?_
        refine Cod.region [] mixed (by kernel_rfl) ?_
        refine Chain.cons (StepOK.move .none (.tmp rfl (fun _ => trivial))) rfl ?_
        obtain ⟨r2, hv6, h⟩ := bind_some h
        refine Chain.cons (StepOK.call .none (strings_Split_ok hv6).frz (.cons (.tmp rfl (fun _ => trivial)) (.cons (.str (l := [10]) (by decide)) .nil))) rfl ?_
        refine Chain.cons (StepOK.len .none sl30 (.tmp rfl (fun _ => trivial))) rfl ?_
        refine Chain.cons (StepOK.move .none (.int (by decide))) rfl ?_
        refine Chain.nil ?_
        refine Ends.then ?_
        obtain ⟨j_7, h, hK7⟩ := bind_some h
        refine Cod.thenJ (ι := Int) (fun j_7 => [(14, ⟨True, rep j_7⟩)]) (fun j_7 => []) (fun s => j_7 = s) (.cons (t := 1) rfl (.cons (t := 2) rfl (.cons (t := 3) rfl (.cons (t := 4) rfl (.cons (t := 5) rfl Sub.nil))))) SubB.nil ?_ (fun j_7' hj7 => ?_)
        · skip
          refine Cod.block ?_
          refine Cod.rforL h (fun p8_ => [(50, ⟨True, rep p8_.1⟩), (14, ⟨True, rep p8_.2⟩)]) (fun p8_ => []) (.cons (t := 50) rfl (.cons (t := 14) rfl Sub.nil)) SubB.nil (.cons (t := 1) rfl (.cons (t := 2) rfl (.cons (t := 3) rfl (.cons (t := 4) rfl (.cons (t := 5) rfl (.cons (t := 48) rfl (.cons (t := 49) rfl Sub.nil))))))) SubB.nil (fun p8_ o_8 h hD8 => ?_)
          refine Cod.seq ?_
          refine Cod.region [] mixed (by kernel_rfl) ?_
          refine Chain.cons (StepOK.lt .none (.tmp rfl (fun _ => trivial)) (.tmp rfl (fun _ => trivial))) rfl ?_
          refine Chain.nil ?_
          refine Ends.then ?_
          refine Cod.seq ?_
          refine Cod.cond (t := 51) rfl trivial (fun hb9 => ?_) (fun hb9 => ?_)
          · replace h := bif_t h hb9
            refine Cod.skip ?_
            refine Ends.then ?_
            refine Cod.seq ?_
            obtain ⟨j_10, h, hK10⟩ := bind_some h
            unfold shape_Fit_L1 at h
            refine Cod.thenJ (ι := Int) (fun j_10 => [(14, ⟨True, rep j_10⟩)]) (fun j_10 => []) (fun s => j_10 = s) (.cons (t := 1) rfl (.cons (t := 2) rfl (.cons (t := 3) rfl (.cons (t := 4) rfl (.cons (t := 5) rfl (.cons (t := 48) rfl (.cons (t := 49) rfl (.cons (t := 50) rfl Sub.nil)))))))) SubB.nil ?_ (fun j_10' hj10 => ?_)
            · skip
              refine Cod.block ?_
              refine Cod.seq ?_
              refine Cod.region [] mixed (by kernel_rfl) ?_
              obtain ⟨hn11, h⟩ := need_some h
              refine Chain.cons (StepOK.indexAddr .none sl30 ty9 (.tmp rfl (fun _ => trivial)) (.tmp rfl (fun _ => trivial)) (fun _ => hn11)) rfl ?_
              refine Chain.cons (StepOK.load .none ty9 (.tmp rfl (fun _ => trivial))) rfl ?_
              refine Chain.cons (StepOK.assign .none (.tmp rfl (fun _ => trivial))) rfl ?_
              refine Chain.nil ?_
              refine Ends.then ?_
              refine Cod.region [] mixed (by kernel_rfl) ?_
              refine Chain.cons (StepOK.move .none (.tmp rfl (fun _ => trivial))) rfl ?_
              refine Chain.cons (StepOK.load .none ty23 (.tmp rfl (fun _ => trivial))) rfl ?_
              refine Chain.cons (StepOK.move .none (.tmp rfl (fun _ => trivial))) rfl ?_
              obtain ⟨r3, hv12, h⟩ := bind_some h
              refine Chain.cons (StepOK.call .none (shape_wordsOf_ok hv12) (.cons (.tmp rfl (fun _ => trivial)) .nil)) rfl ?_
              obtain ⟨r4, hv13, h⟩ := bind_some h
              refine Chain.cons (StepOK.call .none (shape_widest_ok hv13) (.cons (.tmp rfl (fun _ => trivial)) (.cons (.tmp rfl (fun _ => trivial)) .nil))) rfl ?_
              refine Chain.cons (StepOK.max2 .none (.tmp rfl (fun _ => trivial)) (.tmp rfl (fun _ => trivial))) rfl ?_
              obtain ⟨least1, hv14, h⟩ := bnd_some h
              refine Chain.cons (StepOK.re hv14 (StepOK.assign .none (.tmp rfl (fun _ => trivial)))) rfl ?_
              refine Chain.nil ?_
              refine Ends.blkNormal ?_
              exact Ends.join _ (some_eq h) (.cons (t := 14) rfl (.cons (t := 1) rfl (.cons (t := 2) rfl (.cons (t := 3) rfl (.cons (t := 4) rfl (.cons (t := 5) rfl (.cons (t := 48) rfl (.cons (t := 49) rfl (.cons (t := 50) rfl Sub.nil))))))))) SubB.nil
            · subst hj10; have h := hK10; clear hK10
              refine Cod.region [] mixed (by kernel_rfl) ?_
              refine Chain.cons (StepOK.addW .none (.tmp rfl (fun _ => trivial)) (.int (by decide))) rfl ?_
              refine Chain.cons (StepOK.move .none (.tmp rfl (fun _ => trivial))) rfl ?_
              refine Chain.nil ?_
              exact Ends.againL (some_eq h) (.cons (t := 50) rfl (.cons (t := 14) rfl (.cons (t := 1) rfl (.cons (t := 2) rfl (.cons (t := 3) rfl (.cons (t := 4) rfl (.cons (t := 5) rfl (.cons (t := 48) rfl (.cons (t := 49) rfl Sub.nil))))))))) SubB.nil
          · replace h := bif_f h hb9
            refine Cod.exit ?_
            refine Ends.thenExit ?_
            refine Ends.thenExit ?_
            refine Ends.blkExit ?_
            replace h := hD8 _ (some_eq h)
            exact Ends.join _ (some_eq h) (.cons (t := 14) rfl (.cons (t := 1) rfl (.cons (t := 2) rfl (.cons (t := 3) rfl (.cons (t := 4) rfl (.cons (t := 5) rfl Sub.nil)))))) SubB.nil
        · subst hj7; have h := hK7; clear hK7
          refine Cod.seq ?_
          refine Cod.seq ?_
          refine Cod.region [] mixed (by kernel_rfl) ?_
          refine Chain.cons (StepOK.move .none (.tmp rfl (fun _ => trivial))) rfl ?_
          refine Chain.cons (StepOK.move .none (.tmp rfl (fun _ => trivial))) rfl ?_
          refine Chain.cons (StepOK.gt .none (.tmp rfl (fun _ => trivial)) (.tmp rfl (fun _ => trivial))) rfl ?_
          refine Chain.nil ?_
          refine Ends.then ?_
          refine Cod.cond (t := 63) rfl trivial (fun hb15 => ?_) (fun hb15 => ?_)
          · replace h := bif_t h hb15
            refine Cod.seq ?_
            refine Cod.region [] mixed (by kernel_rfl) ?_
            refine Chain.cons (StepOK.assign .none (.int (by decide))) rfl ?_
            refine Chain.cons (StepOK.assign .none (.int (by decide))) rfl ?_
            refine Chain.cons (StepOK.assign .none (.int (by decide))) rfl ?_
            refine Chain.nil ?_
            refine Ends.then ?_
            refine Cod.ret ?_
            refine Ends.thenRet ?_
            obtain rfl := some_eq h
            exact Ends.ret3 (.inl rfl) Tryd.results25 (ResOK.tmp rfl trivial Imp.refl) (ResOK.tmp rfl trivial Imp.refl) (ResOK.tmp rfl trivial Imp.refl)
          · replace h := bif_f h hb15
            refine Cod.skip ?_
            refine Ends.then ?_
            refine Cod.seq ?_
            refine Cod.region [] mixed (by kernel_rfl) ?_
            refine Chain.cons (StepOK.assign .none (.int (by decide))) rfl ?_
            refine Chain.cons (StepOK.assign .none (.int (by decide))) rfl ?_
            refine Chain.cons (StepOK.assign .none (.int (by decide))) rfl ?_
            refine Chain.nil ?_
            refine Ends.then ?_
            refine Cod.seq ?_
            refine Cod.seq ?_
            refine Cod.region [] mixed (by kernel_rfl) ?_
            refine Chain.cons (StepOK.move .none (.tmp rfl (fun _ => trivial))) rfl ?_
            refine Chain.cons (StepOK.assign .none (.tmp rfl (fun _ => trivial))) rfl ?_
            refine Chain.nil ?_
            refine Ends.then ?_
            obtain ⟨j_16, h, hK16⟩ := bind_some h
            refine Cod.thenJ (ι := (Int × Int)) (fun j_16 => [(17, ⟨True, rep j_16.1⟩), (18, ⟨True, rep j_16.2⟩)]) (fun j_16 => []) (fun s => j_16 = s) (.cons (t := 2) rfl (.cons (t := 3) rfl Sub.nil)) SubB.nil ?_ (fun j_16' hj16 => ?_)
            · skip
              refine Cod.block ?_
              refine Cod.loopL h (fun s17_ => [(17, ⟨True, rep s17_.1⟩), (18, ⟨True, rep s17_.2.1⟩), (19, ⟨True, rep s17_.2.2.1⟩), (20, ⟨True, rep s17_.2.2.2⟩)]) (fun s17_ => []) (.cons (t := 17) rfl (.cons (t := 18) rfl (.cons (t := 19) rfl (.cons (t := 20) rfl Sub.nil)))) SubB.nil (.cons (t := 1) rfl (.cons (t := 2) rfl (.cons (t := 3) rfl (.cons (t := 4) rfl (.cons (t := 5) rfl Sub.nil))))) SubB.nil (fun s17_ o_17 h hD17 => ?_)
              unfold shape_Fit_L2 at h
              refine Cod.seq ?_
              refine Cod.seq ?_
              refine Cod.region [] mixed (by kernel_rfl) ?_
              refine Chain.cons (StepOK.move .none (.tmp rfl (fun _ => trivial))) rfl ?_
              refine Chain.cons (StepOK.move .none (.tmp rfl (fun _ => trivial))) rfl ?_
              refine Chain.cons (StepOK.le .none (.tmp rfl (fun _ => trivial)) (.tmp rfl (fun _ => trivial))) rfl ?_
              refine Chain.nil ?_
              refine Ends.then ?_
              refine Cod.cond (t := 67) rfl trivial (fun hb18 => ?_) (fun hb18 => ?_)
              · replace h := bif_t h hb18
                refine Cod.skip ?_
                refine Ends.then ?_
                refine Cod.seq ?_
                refine Cod.block ?_
                refine Cod.seq ?_
                refine Cod.region [] mixed (by kernel_rfl) ?_
                refine Chain.cons (StepOK.load .none ty23 (.tmp rfl (fun _ => trivial))) rfl ?_
                refine Chain.cons (StepOK.move .none (.tmp rfl (fun _ => trivial))) rfl ?_
                refine Chain.cons (StepOK.move .none (.tmp rfl (fun _ => trivial))) rfl ?_
                obtain ⟨lines1, hv19, h⟩ := bind_some h
                refine Chain.cons (StepOK.call .none (shape_wrap_ok hv19) (.cons (.tmp rfl (fun _ => trivial)) (.cons (.tmp rfl (fun _ => trivial)) (.cons (.tmp rfl (fun _ => trivial)) .nil)))) rfl ?_
                refine Chain.cons (StepOK.assign .none (.tmp rfl (fun _ => trivial))) rfl ?_
                refine Chain.nil ?_
                refine Ends.then ?_
                refine Cod.seq ?_
                refine Cod.region [] mixed (by kernel_rfl) ?_
                refine Chain.cons (StepOK.load .none ty23 (.tmp rfl (fun _ => trivial))) rfl ?_
                refine Chain.cons (StepOK.move .none (.tmp rfl (fun _ => trivial))) rfl ?_
                obtain ⟨r5, hv20, h⟩ := bind_some h
                refine Chain.cons (StepOK.call .none (shape_widest_ok hv20) (.cons (.tmp rfl (fun _ => trivial)) (.cons (.tmp rfl (fun _ => trivial)) .nil))) rfl ?_
                refine Chain.cons (StepOK.max2 .none (.tmp rfl (fun _ => trivial)) (.int (by decide))) rfl ?_
                refine Chain.cons (StepOK.move .none (.tmp rfl (fun _ => trivial))) rfl ?_
                refine Chain.cons (StepOK.len .none sl30 (.tmp rfl (fun _ => trivial))) rfl ?_
                refine Chain.cons (StepOK.fieldAddr .none fd23_0 hfd23_0 (.tmp rfl (fun _ => trivial))) rfl ?_
                refine Chain.cons (StepOK.load .none ty3 (.tmp rfl (fun _ => trivial))) rfl ?_
                refine Chain.cons (StepOK.mulW .none (.tmp rfl (fun _ => trivial)) (.tmp rfl (fun _ => trivial))) rfl ?_
                obtain ⟨a1, hv21, h⟩ := bnd_some h
                refine Chain.cons (StepOK.re hv21 (StepOK.assign .none (.tmp rfl (fun _ => trivial)))) rfl ?_
                obtain ⟨b1, hv22, h⟩ := bnd_some h
                refine Chain.cons (StepOK.re hv22 (StepOK.assign .none (.tmp rfl (fun _ => trivial)))) rfl ?_
                refine Chain.nil ?_
                refine Ends.then ?_
                refine Cod.seq ?_
                refine Cod.seq ?_
                refine Cod.region [] mixed (by kernel_rfl) ?_
                refine Chain.cons (StepOK.move .none (.tmp rfl (fun _ => trivial))) rfl ?_
                refine Chain.cons (StepOK.lt .none (.tmp rfl (fun _ => trivial)) (.int (by decide))) rfl ?_
                refine Chain.cons (StepOK.move .none (.tmp rfl (fun _ => trivial))) rfl ?_
                refine Chain.cons (StepOK.move (.at rfl rfl) (.tmp rfl (fun _ => trivial))) rfl ?_
                refine Chain.cons (StepOK.move (.at rfl rfl) (.tmp rfl (fun _ => trivial))) rfl ?_
                refine Chain.cons (StepOK.addW (.at rfl rfl) (.tmp rfl id) (.tmp rfl id)) rfl ?_
                refine Chain.cons (StepOK.move (.at rfl rfl) (.tmp rfl (fun _ => trivial))) rfl ?_
                refine Chain.cons (StepOK.lt (.at rfl rfl) (.tmp rfl id) (.tmp rfl id)) rfl ?_
                refine Chain.cons (StepOK.pickOr .none (.tmp rfl (fun _ => trivial)) (.tmp rfl id)) rfl ?_
                refine Chain.nil ?_
                refine Ends.then ?_
                obtain ⟨j_23, h, hK23⟩ := bind_some h
                refine Cod.thenJ (ι := (Int × Int × Int)) (fun j_23 => [(17, ⟨True, rep j_23.1⟩), (18, ⟨True, rep j_23.2.1⟩), (19, ⟨True, rep j_23.2.2⟩)]) (fun j_23 => []) (fun s => j_23 = s) (.cons (t := 1) rfl (.cons (t := 2) rfl (.cons (t := 3) rfl (.cons (t := 4) rfl (.cons (t := 5) rfl (.cons (t := 20) rfl (.cons (t := 21) rfl Sub.nil))))))) SubB.nil ?_ (fun j_23' hj23 => ?_)
                · skip
                  refine Cod.cond (t := 91) rfl trivial (fun hb24 => ?_) (fun hb24 => ?_)
                  · replace h := bif_t h hb24
                    refine Cod.region [] mixed (by kernel_rfl) ?_
                    refine Chain.cons (StepOK.move .none (.tmp rfl (fun _ => trivial))) rfl ?_
                    refine Chain.cons (StepOK.move .none (.tmp rfl (fun _ => trivial))) rfl ?_
                    refine Chain.cons (StepOK.move .none (.tmp rfl (fun _ => trivial))) rfl ?_
                    refine Chain.cons (StepOK.move .none (.tmp rfl (fun _ => trivial))) rfl ?_
                    refine Chain.cons (StepOK.addW .none (.tmp rfl (fun _ => trivial)) (.tmp rfl (fun _ => trivial))) rfl ?_
                    refine Chain.cons (StepOK.assign .none (.tmp rfl (fun _ => trivial))) rfl ?_
                    refine Chain.cons (StepOK.assign .none (.tmp rfl (fun _ => trivial))) rfl ?_
                    obtain ⟨best1, hv25, h⟩ := bnd_some h
                    refine Chain.cons (StepOK.re hv25 (StepOK.assign .none (.tmp rfl (fun _ => trivial)))) rfl ?_
                    refine Chain.nil ?_
                    exact Ends.join _ (some_eq h) (.cons (t := 17) rfl (.cons (t := 18) rfl (.cons (t := 19) rfl (.cons (t := 1) rfl (.cons (t := 2) rfl (.cons (t := 3) rfl (.cons (t := 4) rfl (.cons (t := 5) rfl (.cons (t := 20) rfl (.cons (t := 21) rfl Sub.nil)))))))))) SubB.nil
                  · replace h := bif_f h hb24
                    refine Cod.skip ?_
                    exact Ends.join _ (some_eq h) (.cons (t := 17) rfl (.cons (t := 18) rfl (.cons (t := 19) rfl (.cons (t := 1) rfl (.cons (t := 2) rfl (.cons (t := 3) rfl (.cons (t := 4) rfl (.cons (t := 5) rfl (.cons (t := 20) rfl (.cons (t := 21) rfl Sub.nil)))))))))) SubB.nil
                · subst hj23; have h := hK23; clear hK23
                  refine Cod.seq ?_
                  refine Cod.region [] mixed (by kernel_rfl) ?_
                  refine Chain.cons (StepOK.move .none (.tmp rfl (fun _ => trivial))) rfl ?_
                  refine Chain.cons (StepOK.len .none sl30 (.tmp rfl (fun _ => trivial))) rfl ?_
                  refine Chain.cons (StepOK.move .none (.tmp rfl (fun _ => trivial))) rfl ?_
                  obtain ⟨r6, hv26, h⟩ := bind_some h
                  refine Chain.cons (StepOK.call .none (strings_Count_ok hv26) (.cons (.tmp rfl (fun _ => trivial)) (.cons (.str (l := [10]) (by decide)) .nil))) rfl ?_
                  refine Chain.cons (StepOK.addW .none (.tmp rfl (fun _ => trivial)) (.int (by decide))) rfl ?_
                  refine Chain.cons (StepOK.eqI .none (.tmp rfl (fun _ => trivial)) (.tmp rfl (fun _ => trivial))) rfl ?_
                  refine Chain.nil ?_
                  refine Ends.then ?_
                  refine Cod.cond (t := 102) rfl trivial (fun hb27 => ?_) (fun hb27 => ?_)
                  · replace h := bif_t h hb27
                    refine Cod.exit ?_
                    refine Ends.blkExitNe (by decide) ?_
                    refine Ends.thenExit ?_
                    refine Ends.thenExit ?_
                    refine Ends.blkExit ?_
                    replace h := hD17 _ (some_eq h)
                    exact Ends.join _ (some_eq h) (.cons (t := 17) rfl (.cons (t := 18) rfl (.cons (t := 2) rfl (.cons (t := 3) rfl Sub.nil)))) SubB.nil
                  · replace h := bif_f h hb27
                    refine Cod.skip ?_
                    refine Ends.blkNormal ?_
                    refine Ends.then ?_
                    refine Cod.region [] mixed (by kernel_rfl) ?_
                    refine Chain.cons (StepOK.move .none (.tmp rfl (fun _ => trivial))) rfl ?_
                    refine Chain.cons (StepOK.addW .none (.tmp rfl (fun _ => trivial)) (.int (by decide))) rfl ?_
                    obtain ⟨width1, hv28, h⟩ := bnd_some h
                    refine Chain.cons (StepOK.re hv28 (StepOK.assign .none (.tmp rfl (fun _ => trivial)))) rfl ?_
                    refine Chain.nil ?_
                    exact Ends.againL (some_eq h) (.cons (t := 17) rfl (.cons (t := 18) rfl (.cons (t := 19) rfl (.cons (t := 20) rfl (.cons (t := 1) rfl (.cons (t := 2) rfl (.cons (t := 3) rfl (.cons (t := 4) rfl (.cons (t := 5) rfl Sub.nil))))))))) SubB.nil
              · replace h := bif_f h hb18
                refine Cod.exit ?_
                refine Ends.thenExit ?_
                refine Ends.thenExit ?_
                refine Ends.blkExit ?_
                replace h := hD17 _ (some_eq h)
                exact Ends.join _ (some_eq h) (.cons (t := 17) rfl (.cons (t := 18) rfl (.cons (t := 2) rfl (.cons (t := 3) rfl Sub.nil)))) SubB.nil
            · subst hj16; have h := hK16; clear hK16
              refine Cod.seq ?_
              refine Cod.seq ?_
              refine Cod.region [] mixed (by kernel_rfl) ?_
              refine Chain.cons (StepOK.assign .none (.int (by decide))) rfl ?_
              refine Chain.nil ?_
              refine Ends.then ?_
              obtain ⟨j_29, h, hK29⟩ := bind_some h
              refine Cod.thenJ (ι := Int) (fun j_29 => [(11, ⟨True, rep j_29⟩)]) (fun j_29 => []) (fun s => j_29 = s) (.cons (t := 2) rfl (.cons (t := 3) rfl (.cons (t := 17) rfl Sub.nil))) SubB.nil ?_ (fun j_29' hj29 => ?_)
              · skip
                refine Cod.block ?_
                refine Cod.loopL h (fun s30_ => [(11, ⟨True, rep s30_⟩)]) (fun s30_ => []) (.cons (t := 11) rfl Sub.nil) SubB.nil (.cons (t := 2) rfl (.cons (t := 3) rfl (.cons (t := 17) rfl (.cons (t := 18) rfl Sub.nil)))) SubB.nil (fun s30_ o_30 h hD30 => ?_)
                unfold shape_Fit_L3 at h
                refine Cod.seq ?_
                refine Cod.seq ?_
                refine Cod.region [] mixed (by kernel_rfl) ?_
                refine Chain.cons (StepOK.move .none (.tmp rfl (fun _ => trivial))) rfl ?_
                refine Chain.cons (StepOK.le .none (.tmp rfl (fun _ => trivial)) (.int (by decide))) rfl ?_
                refine Chain.cons (StepOK.move .none (.tmp rfl (fun _ => trivial))) rfl ?_
                refine Chain.cons (StepOK.move (.at rfl rfl) (.tmp rfl (fun _ => trivial))) rfl ?_
                refine Chain.cons (StepOK.move (.at rfl rfl) (.tmp rfl (fun _ => trivial))) rfl ?_
                refine Chain.cons (StepOK.move (.at rfl rfl) (.tmp rfl (fun _ => trivial))) rfl ?_
                obtain ⟨r7, hv31, h⟩ := bind_some h
                refine Chain.cons (StepOK.callIf (.at rfl rfl) fnok55 (fun hg => shape_inner_ok ((fun hg => gd_some hv31 (hg.2)) hg)) (.cons (.tmp rfl id) (.cons (.int (by decide)) (.cons (.tmp rfl id) (.cons (.tmp rfl id) .nil)))) (fun h => h)) rfl ?_
                refine Chain.cons (StepOK.fieldV (proj := Box.H) (.at rfl rfl) ft48_3 ty3 hfd48_3 rfl (.tmp rfl id)) rfl ?_
                refine Chain.cons (StepOK.move (.at rfl rfl) (.tmp rfl (fun _ => trivial))) rfl ?_
                refine Chain.cons (StepOK.lt (.at rfl rfl) (.tmp rfl id) (.tmp rfl id)) rfl ?_
                refine Chain.cons (StepOK.pickAnd .none (.tmp rfl (fun _ => trivial)) (.tmp rfl id)) rfl ?_
                refine Chain.nil ?_
                refine Ends.then ?_
                refine Cod.cond (t := 113) rfl trivial (fun hb32 => ?_) (fun hb32 => ?_)
                · replace h := bif_t h hb32
                  refine Cod.skip ?_
                  refine Ends.then ?_
                  refine Cod.seq ?_
                  refine Cod.block ?_
                  refine Cod.skip ?_
                  refine Ends.blkNormal ?_
                  refine Ends.then ?_
                  refine Cod.region [] mixed (by kernel_rfl) ?_
                  refine Chain.cons (StepOK.move .none (.tmp rfl (fun _ => trivial))) rfl ?_
                  refine Chain.cons (StepOK.addW .none (.tmp rfl (fun _ => trivial)) (.int (by decide))) rfl ?_
                  obtain ⟨h1, hv33, h⟩ := bnd_some h
                  refine Chain.cons (StepOK.re hv33 (StepOK.assign .none (.tmp rfl (fun _ => trivial)))) rfl ?_
                  refine Chain.nil ?_
                  exact Ends.againL (some_eq h) (.cons (t := 11) rfl (.cons (t := 2) rfl (.cons (t := 3) rfl (.cons (t := 17) rfl (.cons (t := 18) rfl Sub.nil))))) SubB.nil
                · replace h := bif_f h hb32
                  refine Cod.exit ?_
                  refine Ends.thenExit ?_
                  refine Ends.thenExit ?_
                  refine Ends.blkExit ?_
                  replace h := hD30 _ (some_eq h)
                  exact Ends.join _ (some_eq h) (.cons (t := 11) rfl (.cons (t := 2) rfl (.cons (t := 3) rfl (.cons (t := 17) rfl Sub.nil)))) SubB.nil
              · subst hj29; have h := hK29; clear hK29
                refine Cod.seq ?_
                refine Cod.seq ?_
                refine Cod.region [] mixed (by kernel_rfl) ?_
                refine Chain.cons (StepOK.assign .none (.int (by decide))) rfl ?_
                refine Chain.nil ?_
                refine Ends.then ?_
                obtain ⟨j_34, h, hK34⟩ := bind_some h
                refine Cod.thenJ (ι := Int) (fun j_34 => [(10, ⟨True, rep j_34⟩)]) (fun j_34 => []) (fun s => j_34 = s) (.cons (t := 11) rfl Sub.nil) SubB.nil ?_ (fun j_34' hj34 => ?_)
                · skip
                  refine Cod.block ?_
                  refine Cod.loopL h (fun s35_ => [(10, ⟨True, rep s35_⟩)]) (fun s35_ => []) (.cons (t := 10) rfl Sub.nil) SubB.nil (.cons (t := 2) rfl (.cons (t := 3) rfl (.cons (t := 11) rfl (.cons (t := 17) rfl Sub.nil)))) SubB.nil (fun s35_ o_35 h hD35 => ?_)
                  unfold shape_Fit_L4 at h
                  refine Cod.seq ?_
                  refine Cod.seq ?_
                  refine Cod.region [] mixed (by kernel_rfl) ?_
                  refine Chain.cons (StepOK.move .none (.tmp rfl (fun _ => trivial))) rfl ?_
                  refine Chain.cons (StepOK.le .none (.tmp rfl (fun _ => trivial)) (.int (by decide))) rfl ?_
                  refine Chain.cons (StepOK.move .none (.tmp rfl (fun _ => trivial))) rfl ?_
                  refine Chain.cons (StepOK.move (.at rfl rfl) (.tmp rfl (fun _ => trivial))) rfl ?_
                  refine Chain.cons (StepOK.move (.at rfl rfl) (.tmp rfl (fun _ => trivial))) rfl ?_
                  refine Chain.cons (StepOK.move (.at rfl rfl) (.tmp rfl (fun _ => trivial))) rfl ?_
                  refine Chain.cons (StepOK.move (.at rfl rfl) (.tmp rfl (fun _ => trivial))) rfl ?_
                  obtain ⟨r8, hv36, h⟩ := bind_some h
                  refine Chain.cons (StepOK.callIf (.at rfl rfl) fnok55 (fun hg => shape_inner_ok ((fun hg => gd_some hv36 (hg.2)) hg)) (.cons (.tmp rfl id) (.cons (.tmp rfl id) (.cons (.tmp rfl id) (.cons (.tmp rfl id) .nil)))) (fun h => h)) rfl ?_
                  refine Chain.cons (StepOK.fieldV (proj := Box.W_) (.at rfl rfl) ft48_2 ty3 hfd48_2 rfl (.tmp rfl id)) rfl ?_
                  refine Chain.cons (StepOK.move (.at rfl rfl) (.tmp rfl (fun _ => trivial))) rfl ?_
                  refine Chain.cons (StepOK.lt (.at rfl rfl) (.tmp rfl id) (.tmp rfl id)) rfl ?_
                  refine Chain.cons (StepOK.pickAnd .none (.tmp rfl (fun _ => trivial)) (.tmp rfl id)) rfl ?_
                  refine Chain.nil ?_
                  refine Ends.then ?_
                  refine Cod.cond (t := 127) rfl trivial (fun hb37 => ?_) (fun hb37 => ?_)
                  · replace h := bif_t h hb37
                    refine Cod.skip ?_
                    refine Ends.then ?_
                    refine Cod.seq ?_
                    refine Cod.block ?_
                    refine Cod.skip ?_
                    refine Ends.blkNormal ?_
                    refine Ends.then ?_
                    refine Cod.region [] mixed (by kernel_rfl) ?_
                    refine Chain.cons (StepOK.move .none (.tmp rfl (fun _ => trivial))) rfl ?_
                    refine Chain.cons (StepOK.addW .none (.tmp rfl (fun _ => trivial)) (.int (by decide))) rfl ?_
                    obtain ⟨w1, hv38, h⟩ := bnd_some h
                    refine Chain.cons (StepOK.re hv38 (StepOK.assign .none (.tmp rfl (fun _ => trivial)))) rfl ?_
                    refine Chain.nil ?_
                    exact Ends.againL (some_eq h) (.cons (t := 10) rfl (.cons (t := 2) rfl (.cons (t := 3) rfl (.cons (t := 11) rfl (.cons (t := 17) rfl Sub.nil))))) SubB.nil
                  · replace h := bif_f h hb37
                    refine Cod.exit ?_
                    refine Ends.thenExit ?_
                    refine Ends.thenExit ?_
                    refine Ends.blkExit ?_
                    replace h := hD35 _ (some_eq h)
                    exact Ends.join _ (some_eq h) (.cons (t := 10) rfl (.cons (t := 11) rfl Sub.nil)) SubB.nil
                · subst hj34; have h := hK34; clear hK34
                  refine Cod.seq ?_
                  refine Cod.seq ?_
                  refine Cod.region [] mixed (by kernel_rfl) ?_
                  refine Chain.cons (StepOK.move .none (.tmp rfl (fun _ => trivial))) rfl ?_
                  refine Chain.cons (StepOK.gt .none (.tmp rfl (fun _ => trivial)) (.int (by decide))) rfl ?_
                  refine Chain.cons (StepOK.move .none (.tmp rfl (fun _ => trivial))) rfl ?_
                  refine Chain.cons (StepOK.move (.at rfl rfl) (.tmp rfl (fun _ => trivial))) rfl ?_
                  refine Chain.cons (StepOK.gt (.at rfl rfl) (.tmp rfl id) (.int (by decide))) rfl ?_
                  refine Chain.cons (StepOK.pickOr .none (.tmp rfl (fun _ => trivial)) (.tmp rfl id)) rfl ?_
                  refine Chain.nil ?_
                  refine Ends.then ?_
                  refine Cod.cond (t := 135) rfl trivial (fun hb39 => ?_) (fun hb39 => ?_)
                  · replace h := bif_t h hb39
                    refine Cod.seq ?_
                    refine Cod.region [] mixed (by kernel_rfl) ?_
                    refine Chain.cons (StepOK.assign .none (.int (by decide))) rfl ?_
                    refine Chain.cons (StepOK.assign .none (.int (by decide))) rfl ?_
                    refine Chain.cons (StepOK.assign .none (.int (by decide))) rfl ?_
                    refine Chain.nil ?_
                    refine Ends.then ?_
                    refine Cod.ret ?_
                    refine Ends.thenRet ?_
                    obtain rfl := some_eq h
                    exact Ends.ret3 (.inl rfl) Tryd.results25 (ResOK.tmp rfl trivial Imp.refl) (ResOK.tmp rfl trivial Imp.refl) (ResOK.tmp rfl trivial Imp.refl)
                  · replace h := bif_f h hb39
                    refine Cod.skip ?_
                    refine Ends.then ?_
                    refine Cod.seq ?_
                    refine Cod.region [] mixed (by kernel_rfl) ?_
                    refine Chain.cons (StepOK.move .none (.tmp rfl (fun _ => trivial))) rfl ?_
                    refine Chain.cons (StepOK.move .none (.tmp rfl (fun _ => trivial))) rfl ?_
                    refine Chain.cons (StepOK.assign .none (.tmp rfl (fun _ => trivial))) rfl ?_
                    refine Chain.cons (StepOK.assign .none (.tmp rfl (fun _ => trivial))) rfl ?_
                    refine Chain.cons (StepOK.assign .none (.int (by decide))) rfl ?_
                    refine Chain.nil ?_
                    refine Ends.then ?_
                    refine Cod.ret ?_
                    obtain rfl := some_eq h
                    exact Ends.ret3 (.inl rfl) Tryd.results25 (ResOK.tmp rfl trivial Imp.refl) (ResOK.tmp rfl trivial Imp.refl) (ResOK.tmp rfl trivial Imp.refl)

theorem ref_FontError_ok {f1 : Font} {r : Int}  (h : ref_FontError f1 = some r) : FSpec Tryd.prog 9 [rep f1] (rep r) := by
  unfold ref_FontError at h
  refine FSpec.intro (n := 36) fnok9 Tryd.func9 rfl Tryd.ntmps9 rfl (fun F => ?_)
  refine Cod.seq ?_
  refine Cod.region [] mixed (by kernel_rfl) ?_
  refine Chain.cons (StepOK.box .none (.tmp rfl (fun _ => trivial))) rfl ?_
  refine Chain.cons (StepOK.assign .none (.int (by decide))) rfl ?_
  refine Chain.nil ?_
  refine Ends.then ?_
  refine Cod.seq ?_
  refine Cod.seq ?_
  refine Cod.region [] mixed (by kernel_rfl) ?_
  refine Chain.cons (StepOK.fieldAddr .none fd23_0 hfd23_0 (.tmp rfl (fun _ => trivial))) rfl ?_
  refine Chain.cons (StepOK.load .none ty3 (.tmp rfl (fun _ => trivial))) rfl ?_
  refine Chain.cons (StepOK.fieldAddr .none fd23_1 hfd23_1 (.tmp rfl (fun _ => trivial))) rfl ?_
  refine Chain.cons (StepOK.load .none ty3 (.tmp rfl (fun _ => trivial))) rfl ?_
  refine Chain.cons (StepOK.fieldAddr .none fd23_2 hfd23_2 (.tmp rfl (fun _ => trivial))) rfl ?_
  refine Chain.cons (StepOK.load .none ty3 (.tmp rfl (fun _ => trivial))) rfl ?_
  refine Chain.cons (StepOK.fieldAddr .none fd23_3 hfd23_3 (.tmp rfl (fun _ => trivial))) rfl ?_
  refine Chain.cons (StepOK.load .none ty3 (.tmp rfl (fun _ => trivial))) rfl ?_
  obtain ⟨v1, hv1, h⟩ := bnd_some h
  refine Chain.cons (StepOK.re hv1 (StepOK.buildSlice (xs := [_, _, _, _]) .none sl75 ty3 hz3 (.cons (.tmp rfl (fun _ => trivial)) (.cons (.tmp rfl (fun _ => trivial)) (.cons (.tmp rfl (fun _ => trivial)) (.cons (.tmp rfl (fun _ => trivial)) .nil)))) rfl (by decide))) rfl ?_
  refine Chain.cons (StepOK.len .none sl75 (.tmp rfl (fun _ => trivial))) rfl ?_
  refine Chain.cons (StepOK.move .none (.int (by decide))) rfl ?_
  refine Chain.nil ?_
  refine Ends.then ?_
  obtain ⟨o_2, h, hK2⟩ := bindR_some h
  refine Cod.thenJ (ι := Unit) (fun j_2 => []) (fun j_2 => []) (fun s => o_2 = Res.nx s) (.cons (t := 1) rfl Sub.nil) SubB.nil ?_ (fun j_2 hj2 => ?_)
  · skip
    refine Cod.block ?_
    refine Cod.rforEL h (fun p3_ => [(15, ⟨True, rep p3_.1⟩)]) (fun p3_ => []) (.cons (t := 15) rfl Sub.nil) SubB.nil (.cons (t := 1) rfl (.cons (t := 13) rfl (.cons (t := 14) rfl Sub.nil))) SubB.nil (fun p3_ o_3 h hD3 => ?_)
    refine Cod.seq ?_
    refine Cod.region [] mixed (by kernel_rfl) ?_
    refine Chain.cons (StepOK.lt .none (.tmp rfl (fun _ => trivial)) (.tmp rfl (fun _ => trivial))) rfl ?_
    refine Chain.nil ?_
    refine Ends.then ?_
    refine Cod.seq ?_
    refine Cod.cond (t := 16) rfl trivial (fun hb4 => ?_) (fun hb4 => ?_)
    · replace h := bif_t h hb4
      refine Cod.skip ?_
      refine Ends.then ?_
      refine Cod.seq ?_
      obtain ⟨o_5, h, hK5⟩ := bindD_some h
      unfold ref_FontError_L1 at h
      refine Cod.thenJ (ι := Unit) (fun j_5 => []) (fun j_5 => []) (fun s => o_5 = Res.nx s) (.cons (t := 1) rfl (.cons (t := 13) rfl (.cons (t := 14) rfl (.cons (t := 15) rfl Sub.nil)))) SubB.nil ?_ (fun j_5 hj5 => ?_)
      · skip
        refine Cod.block ?_
        refine Cod.seq ?_
        refine Cod.region [] mixed (by kernel_rfl) ?_
        obtain ⟨hn6, h⟩ := need_some h
        refine Chain.cons (StepOK.indexAddr .none sl75 ty3 (.tmp rfl (fun _ => trivial)) (.tmp rfl (fun _ => trivial)) (fun _ => hn6)) rfl ?_
        refine Chain.cons (StepOK.load .none ty3 (.tmp rfl (fun _ => trivial))) rfl ?_
        refine Chain.cons (StepOK.assign .none (.tmp rfl (fun _ => trivial))) rfl ?_
        refine Chain.nil ?_
        refine Ends.then ?_
        refine Cod.seq ?_
        refine Cod.region [] mixed (by kernel_rfl) ?_
        refine Chain.cons (StepOK.move .none (.tmp rfl (fun _ => trivial))) rfl ?_
        obtain ⟨r1, hv7, h⟩ := bind_some h
        refine Chain.cons (StepOK.call .none (ref_In_ok hv7) (.cons (.tmp rfl (fun _ => trivial)) (.cons (.int (by decide)) (.cons (.int (by decide)) .nil)))) rfl ?_
        refine Chain.cons (StepOK.not .none (.tmp rfl (fun _ => trivial))) rfl ?_
        refine Chain.nil ?_
        refine Ends.then ?_
        refine Cod.cond (t := 21) rfl trivial (fun hb8 => ?_) (fun hb8 => ?_)
        · replace h := bif_t h hb8
          refine Cod.seq ?_
          refine Cod.region [] mixed (by kernel_rfl) ?_
          refine Chain.cons (StepOK.assign .none (.int (by decide))) rfl ?_
          refine Chain.nil ?_
          refine Ends.then ?_
          refine Cod.ret ?_
          refine Ends.blkRet ?_
          refine Ends.thenRet ?_
          refine Ends.thenRet ?_
          refine Ends.blkRet ?_
          refine Ends.thenRet ?_
          replace h := resd_ab hK5 (some_eq h)
          replace h := hD3 _ (some_eq h)
          replace h := resb_ab hK2 (some_eq h)
          obtain rfl := some_eq h
          exact Ends.ret1 (.inl rfl) Tryd.results9 (ResOK.tmp rfl trivial Imp.refl)
        · replace h := bif_f h hb8
          refine Cod.skip ?_
          refine Ends.blkNormal ?_
          exact Ends.join _ (some_eq h) (.cons (t := 1) rfl (.cons (t := 13) rfl (.cons (t := 14) rfl (.cons (t := 15) rfl Sub.nil)))) SubB.nil
      · have h := resd_nx hK5 hj5
        refine Cod.region [] mixed (by kernel_rfl) ?_
        refine Chain.cons (StepOK.addW .none (.tmp rfl (fun _ => trivial)) (.int (by decide))) rfl ?_
        refine Chain.cons (StepOK.move .none (.tmp rfl (fun _ => trivial))) rfl ?_
        refine Chain.nil ?_
        exact Ends.againL (some_eq h) (.cons (t := 15) rfl (.cons (t := 1) rfl (.cons (t := 13) rfl (.cons (t := 14) rfl Sub.nil)))) SubB.nil
    · replace h := bif_f h hb4
      refine Cod.exit ?_
      refine Ends.thenExit ?_
      refine Ends.thenExit ?_
      refine Ends.blkExit ?_
      replace h := hD3 _ (some_eq h)
      exact Ends.join _ (some_eq h) (.cons (t := 1) rfl Sub.nil) SubB.nil
  · have h := resb_nx hK2 hj2
    refine Cod.seq ?_
    refine Cod.region [] mixed (by kernel_rfl) ?_
    refine Chain.cons (StepOK.fieldAddr .none fd23_1 hfd23_1 (.tmp rfl (fun _ => trivial))) rfl ?_
    refine Chain.cons (StepOK.load .none ty3 (.tmp rfl (fun _ => trivial))) rfl ?_
    refine Chain.cons (StepOK.fieldAddr .none fd23_2 hfd23_2 (.tmp rfl (fun _ => trivial))) rfl ?_
    refine Chain.cons (StepOK.load .none ty3 (.tmp rfl (fun _ => trivial))) rfl ?_
    refine Chain.cons (StepOK.gt .none (.tmp rfl (fun _ => trivial)) (.tmp rfl (fun _ => trivial))) rfl ?_
    refine Chain.cons (StepOK.move .none (.tmp rfl (fun _ => trivial))) rfl ?_
    refine Chain.cons (StepOK.fieldAddr (.at rfl rfl) fd23_2 hfd23_2 (.tmp rfl (fun _ => trivial))) rfl ?_
    refine Chain.cons (StepOK.load (.at rfl rfl) ty3 (.tmp rfl id)) rfl ?_
    refine Chain.cons (StepOK.fieldAddr (.at rfl rfl) fd23_3 hfd23_3 (.tmp rfl (fun _ => trivial))) rfl ?_
    refine Chain.cons (StepOK.load (.at rfl rfl) ty3 (.tmp rfl id)) rfl ?_
    refine Chain.cons (StepOK.gt (.at rfl rfl) (.tmp rfl id) (.tmp rfl id)) rfl ?_
    refine Chain.cons (StepOK.pickOr .none (.tmp rfl (fun _ => trivial)) (.tmp rfl id)) rfl ?_
    obtain ⟨r2, hv9, h⟩ := bind_some h
    refine Chain.cons (StepOK.call .none (ref_When_ok hv9) (.cons (.tmp rfl (fun _ => trivial)) (.cons (.int (by decide)) .nil))) rfl ?_
    refine Chain.cons (StepOK.assign .none (.tmp rfl (fun _ => trivial))) rfl ?_
    refine Chain.nil ?_
    refine Ends.then ?_
    refine Cod.ret ?_
    obtain rfl := some_eq h
    exact Ends.ret1 (.inl rfl) Tryd.results9 (ResOK.tmp rfl trivial Imp.refl)

theorem ref_TextError_ok {s1 : Str} {r : Int}  (h : ref_TextError s1 = some r) : FSpec Tryd.prog 10 [rep s1] (rep r) := by
  unfold ref_TextError at h
  refine FSpec.intro (n := 41) fnok10 Tryd.func10 rfl Tryd.ntmps10 rfl (fun F => ?_)
  refine Cod.seq ?_
  refine Cod.region [] mixed (by kernel_rfl) ?_
  refine Chain.cons (StepOK.assign .none (.int (by decide))) rfl ?_
  refine Chain.nil ?_
  refine Ends.then ?_
  refine Cod.seq ?_
  refine Cod.region [] mixed (by kernel_rfl) ?_
  refine Chain.cons (StepOK.move .none (.tmp rfl (fun _ => trivial))) rfl ?_
  obtain ⟨r1, hv1, h⟩ := bind_some h
  refine Chain.cons (StepOK.call .none (utf8_ValidString_ok hv1) (.cons (.tmp rfl (fun _ => trivial)) .nil)) rfl ?_
  refine Chain.cons (StepOK.not .none (.tmp rfl (fun _ => trivial))) rfl ?_
  obtain ⟨bad1, hv2, h⟩ := bnd_some h
  refine Chain.cons (StepOK.re hv2 (StepOK.assign .none (.tmp rfl (fun _ => trivial)))) rfl ?_
  refine Chain.nil ?_
  refine Ends.then ?_
  refine Cod.seq ?_
  refine Cod.seq ?_
  refine Cod.region [] mixed (by kernel_rfl) ?_
  refine Chain.cons (StepOK.move .none (.tmp rfl (fun _ => trivial))) rfl ?_
  refine Chain.cons (StepOK.lenStr .none Tryd.underlying9 (.tmp rfl (fun _ => trivial))) rfl ?_
  refine Chain.cons (StepOK.move .none (.int (by decide))) rfl ?_
  refine Chain.nil ?_
  refine Ends.then ?_
  obtain ⟨j_3, h, hK3⟩ := bind_some h
  refine Cod.thenJ (ι := Bool) (fun j_3 => [(3, ⟨True, rep j_3⟩)]) (fun j_3 => []) (fun s => j_3 = s) (.cons (t := 0) rfl Sub.nil) SubB.nil ?_ (fun j_3' hj3 => ?_)
  · skip
    refine Cod.block ?_
    refine Cod.rforL h (fun p4_ => [(10, ⟨True, rep p4_.1⟩), (3, ⟨True, rep p4_.2⟩)]) (fun p4_ => []) (.cons (t := 10) rfl (.cons (t := 3) rfl Sub.nil)) SubB.nil (.cons (t := 0) rfl (.cons (t := 9) rfl Sub.nil)) SubB.nil (fun p4_ o_4 h hD4 => ?_)
    refine Cod.seq ?_
    refine Cod.region [] mixed (by kernel_rfl) ?_
    refine Chain.cons (StepOK.lt .none (.tmp rfl (fun _ => trivial)) (.tmp rfl (fun _ => trivial))) rfl ?_
    refine Chain.nil ?_
    refine Ends.then ?_
    refine Cod.seq ?_
    refine Cod.cond (t := 11) rfl trivial (fun hb5 => ?_) (fun hb5 => ?_)
    · replace h := bif_t h hb5
      refine Cod.skip ?_
      refine Ends.then ?_
      refine Cod.seq ?_
      obtain ⟨j_6, h, hK6⟩ := bind_some h
      unfold ref_TextError_L1 at h
      refine Cod.thenJ (ι := Bool) (fun j_6 => [(3, ⟨True, rep j_6⟩)]) (fun j_6 => []) (fun s => j_6 = s) (.cons (t := 0) rfl (.cons (t := 9) rfl (.cons (t := 10) rfl Sub.nil))) SubB.nil ?_ (fun j_6' hj6 => ?_)
      · skip
        refine Cod.block ?_
        refine Cod.seq ?_
        refine Cod.region [] mixed (by kernel_rfl) ?_
        refine Chain.cons (StepOK.move .none (.tmp rfl (fun _ => trivial))) rfl ?_
        refine Chain.cons (StepOK.assign .none (.tmp rfl (fun _ => trivial))) rfl ?_
        refine Chain.nil ?_
        refine Ends.then ?_
        refine Cod.region [] mixed (by kernel_rfl) ?_
        refine Chain.cons (StepOK.move .none (.tmp rfl (fun _ => trivial))) rfl ?_
        refine Chain.cons (StepOK.move .none (.tmp rfl (fun _ => trivial))) rfl ?_
        refine Chain.cons (StepOK.move (.at rfl rfl) (.tmp rfl (fun _ => trivial))) rfl ?_
        refine Chain.cons (StepOK.move (.at rfl rfl) (.tmp rfl (fun _ => trivial))) rfl ?_
        obtain ⟨hn7, h⟩ := need_some h
        refine Chain.cons (StepOK.indexStr (.at rfl rfl) Tryd.underlying9 (.tmp rfl id) (.tmp rfl id) (fun hg => hn7 hg.2)) rfl ?_
        refine Chain.cons (StepOK.klss (.at rfl rfl) (.tmp rfl id) .ki) rfl ?_
        refine Chain.cons (StepOK.move (.at rfl rfl) (.tmp rfl id)) rfl ?_
        refine Chain.cons (StepOK.move (.at rfl rfl) (.tmp rfl (fun _ => trivial))) rfl ?_
        refine Chain.cons (StepOK.move (.at rfl rfl) (.tmp rfl (fun _ => trivial))) rfl ?_
        obtain ⟨hn8, h⟩ := need_some h
        refine Chain.cons (StepOK.indexStr (.at rfl rfl) Tryd.underlying9 (.tmp rfl id) (.tmp rfl id) (fun hg => hn8 hg.1.2 hg.2)) rfl ?_
        refine Chain.cons (StepOK.kneq (.at rfl rfl) (.tmp rfl id) .ki) rfl ?_
        refine Chain.cons (StepOK.pickAnd (.at rfl rfl) (.tmp rfl id) (.tmp rfl id)) rfl ?_
        refine Chain.cons (StepOK.pickOr .none (.tmp rfl (fun _ => trivial)) (.tmp rfl id)) rfl ?_
        refine Chain.cons (StepOK.move .none (.tmp rfl (fun _ => trivial))) rfl ?_
        refine Chain.cons (StepOK.move (.at rfl rfl) (.tmp rfl (fun _ => trivial))) rfl ?_
        refine Chain.cons (StepOK.move (.at rfl rfl) (.tmp rfl (fun _ => trivial))) rfl ?_
        obtain ⟨hn9, h⟩ := need_some h
        refine Chain.cons (StepOK.indexStr (.at rfl rfl) Tryd.underlying9 (.tmp rfl id) (.tmp rfl id) (fun hg => hn9 hg.2)) rfl ?_
        refine Chain.cons (StepOK.keql (.at rfl rfl) (.tmp rfl id) .ki) rfl ?_
        refine Chain.cons (StepOK.pickOr .none (.tmp rfl (fun _ => trivial)) (.tmp rfl id)) rfl ?_
        obtain ⟨bad2, hv10, h⟩ := bnd_some h
        refine Chain.cons (StepOK.re hv10 (StepOK.assign .none (.tmp rfl (fun _ => trivial)))) rfl ?_
        refine Chain.nil ?_
        refine Ends.blkNormal ?_
        exact Ends.join _ (some_eq h) (.cons (t := 3) rfl (.cons (t := 0) rfl (.cons (t := 9) rfl (.cons (t := 10) rfl Sub.nil)))) SubB.nil
      · subst hj6; have h := hK6; clear hK6
        refine Cod.region [] mixed (by kernel_rfl) ?_
        refine Chain.cons (StepOK.addW .none (.tmp rfl (fun _ => trivial)) (.int (by decide))) rfl ?_
        refine Chain.cons (StepOK.move .none (.tmp rfl (fun _ => trivial))) rfl ?_
        refine Chain.nil ?_
        exact Ends.againL (some_eq h) (.cons (t := 10) rfl (.cons (t := 3) rfl (.cons (t := 0) rfl (.cons (t := 9) rfl Sub.nil)))) SubB.nil
    · replace h := bif_f h hb5
      refine Cod.exit ?_
      refine Ends.thenExit ?_
      refine Ends.thenExit ?_
      refine Ends.blkExit ?_
      replace h := hD4 _ (some_eq h)
      exact Ends.join _ (some_eq h) (.cons (t := 3) rfl (.cons (t := 0) rfl Sub.nil)) SubB.nil
  · subst hj3; have h := hK3; clear hK3
    refine Cod.seq ?_
    refine Cod.region [] mixed (by kernel_rfl) ?_
    refine Chain.cons (StepOK.move .none (.tmp rfl (fun _ => trivial))) rfl ?_
    refine Chain.cons (StepOK.lenStr .none Tryd.underlying9 (.tmp rfl (fun _ => trivial))) rfl ?_
    refine Chain.cons (StepOK.gt .none (.tmp rfl (fun _ => trivial)) (.int (by decide))) rfl ?_
    obtain ⟨r2, hv11, h⟩ := bind_some h
    refine Chain.cons (StepOK.call .none (ref_When_ok hv11) (.cons (.tmp rfl (fun _ => trivial)) (.cons (.int (by decide)) .nil))) rfl ?_
    refine Chain.cons (StepOK.move .none (.tmp rfl (fun _ => trivial))) rfl ?_
    obtain ⟨r3, hv12, h⟩ := bind_some h
    refine Chain.cons (StepOK.call .none (ref_When_ok hv12) (.cons (.tmp rfl (fun _ => trivial)) (.cons (.int (by decide)) .nil))) rfl ?_
    refine Chain.cons (StepOK.buildSlice (xs := [_, _]) .none sl74 ty24 hz24 (.cons (.tmp rfl (fun _ => trivial)) (.cons (.tmp rfl (fun _ => trivial)) .nil)) rfl (by decide)) rfl ?_
    obtain ⟨r4, hv13, h⟩ := bind_some h
    refine Chain.cons (StepOK.call .none (ref_First_ok hv13) (.cons (.tmp rfl (fun _ => trivial)) .nil)) rfl ?_
    refine Chain.cons (StepOK.assign .none (.tmp rfl (fun _ => trivial))) rfl ?_
    refine Chain.nil ?_
    refine Ends.then ?_
    refine Cod.ret ?_
    obtain rfl := some_eq h
    exact Ends.ret1 (.inl rfl) Tryd.results10 (ResOK.tmp rfl trivial Imp.refl)

theorem ref_WidthOf_ok {f1 : Font} {s1 : Str} {r : Int}  (h : ref_WidthOf f1 s1 = some r) : FSpec Tryd.prog 20 [rep f1, rep s1] (rep r) := by
  unfold ref_WidthOf at h
  refine FSpec.intro (n := 36) fnok20 Tryd.func20 rfl Tryd.ntmps20 rfl (fun F => ?_)
  refine Cod.seq ?_
  refine Cod.region [] mixed (by kernel_rfl) ?_
  refine Chain.cons (StepOK.box .none (.tmp rfl (fun _ => trivial))) rfl ?_
  refine Chain.cons (StepOK.assign .none (.int (by decide))) rfl ?_
  refine Chain.nil ?_
  refine Ends.then ?_
  refine Cod.seq ?_
  refine Cod.region [] mixed (by kernel_rfl) ?_
  refine Chain.cons (StepOK.assign .none (.int (by decide))) rfl ?_
  refine Chain.nil ?_
  refine Ends.then ?_
  refine Cod.seq ?_
  refine Cod.seq ?_
  refine Cod.region [([], []), ([], [9])] mixed (by kernel_rfl) ?_
  refine Chain.consA (StepOK.move .none (.tmp rfl (fun _ => trivial))) rfl ?_
  refine Chain.consW (StepOK.rangeStr Tryd.underlying9 rfl (.tmp rfl (fun _ => trivial))) rfl rfl ?_
  refine Chain.nil ?_
  refine Ends.then ?_
  refine Cod.nameAt (t := 9) (g := 5001) rfl rfl isBox_iter rfl (fun m5001 => ?_)
  obtain ⟨j_1, h, hK1⟩ := bind_some h
  refine Cod.thenJ (ι := Int) (fun j_1 => [(5, ⟨True, rep j_1⟩)]) (fun j_1 => []) (fun s => j_1 = s) Sub.nil SubB.nil ?_ (fun j_1' hj1 => ?_)
  · skip
    refine Cod.block ?_
    refine Cod.loopL h (fun s2_ => [(5, ⟨True, rep s2_.1⟩)]) (fun s2_ => [(5001, some (CPred.at (ptr m5001 0) (iterV s1 s2_.2)))]) (.cons (t := 5) rfl Sub.nil) (.cons (t := 5001) rfl SubB.nil) (.cons (t := 2) rfl (.cons (t := 9) rfl Sub.nil)) SubB.nil (fun s2_ o_2 h hD2 => ?_)
    unfold ref_WidthOf_L1 at h
    refine Cod.seq ?_
    refine Cod.region [([5001], [5001]), ([], [])] mixed (by kernel_rfl) ?_
    refine Chain.consW (StepOK.nextStr (k := 5001) rfl rfl (.tmp rfl (fun _ => trivial)) (by decide)) rfl rfl ?_
    refine Chain.consA (StepOK.nextOk .none (.tmp rfl (fun _ => trivial))) rfl ?_
    refine Chain.nil ?_
    refine Ends.then ?_
    obtain ⟨at1, hv3, h⟩ := bnd_some h
    refine Cod.reB (t := 5001) rfl (congrArg (fun y => CPred.at (ptr m5001 0) (iterV s1 y)) hv3) ?_
    refine Cod.seq ?_
    refine Cod.cond (t := 11) rfl trivial (fun hb4 => ?_) (fun hb4 => ?_)
    · replace h := bif_t h hb4
      refine Cod.skip ?_
      refine Ends.then ?_
      refine Cod.block ?_
      refine Cod.seq ?_
      refine Cod.region [] mixed (by kernel_rfl) ?_
      obtain ⟨hn5, h⟩ := need_some h
      refine Chain.cons (StepOK.nextRune .none (.tmp rfl (fun _ => trivial)) (fun _ => hn5)) rfl ?_
      obtain ⟨c1, hv6, h⟩ := bnd_some h
      refine Chain.cons (StepOK.re hv6 (StepOK.assign .none (.tmp rfl (fun _ => trivial)))) rfl ?_
      refine Chain.nil ?_
      refine Ends.then ?_
      refine Cod.block ?_
      refine Cod.seq ?_
      refine Cod.region [] mixed (by kernel_rfl) ?_
      refine Chain.cons (StepOK.move .none (.tmp rfl (fun _ => trivial))) rfl ?_
      refine Chain.cons (StepOK.kgeq .none (.tmp rfl (fun _ => trivial)) .ki) rfl ?_
      refine Chain.cons (StepOK.move .none (.tmp rfl (fun _ => trivial))) rfl ?_
      refine Chain.cons (StepOK.move (.at rfl rfl) (.tmp rfl (fun _ => trivial))) rfl ?_
      obtain ⟨r1, hv7, h⟩ := bind_some h
      refine Chain.cons (StepOK.callIf (.at rfl rfl) fnok47 (fun hg => strings_ContainsRune_ok ((fun hg => gd_some hv7 ((notT hg.2))) hg)) (.cons (.str (l := [109, 119, 77, 87, 64, 37]) (by decide)) (.cons (.tmp rfl id) .nil)) (fun h => h)) rfl ?_
      refine Chain.cons (StepOK.pickOr .none (.tmp rfl (fun _ => trivial)) (.tmp rfl id)) rfl ?_
      refine Chain.cons (StepOK.assign .none (.tmp rfl (fun _ => trivial))) rfl ?_
      refine Chain.nil ?_
      refine Ends.then ?_
      refine Cod.cond (t := 17) rfl trivial (fun hb8 => ?_) (fun hb8 => ?_)
      · replace h := bif_t h hb8
        refine Cod.region [] mixed (by kernel_rfl) ?_
        refine Chain.cons (StepOK.move .none (.tmp rfl (fun _ => trivial))) rfl ?_
        refine Chain.cons (StepOK.fieldAddr .none fd23_3 hfd23_3 (.tmp rfl (fun _ => trivial))) rfl ?_
        refine Chain.cons (StepOK.load .none ty3 (.tmp rfl (fun _ => trivial))) rfl ?_
        refine Chain.cons (StepOK.addW .none (.tmp rfl (fun _ => trivial)) (.tmp rfl (fun _ => trivial))) rfl ?_
        obtain ⟨n1, hv9, h⟩ := bnd_some h
        refine Chain.cons (StepOK.re hv9 (StepOK.assign .none (.tmp rfl (fun _ => trivial)))) rfl ?_
        refine Chain.nil ?_
        refine Ends.blkNormal ?_
        refine Ends.blkNormal ?_
        exact Ends.againL (some_eq h) (.cons (t := 5) rfl (.cons (t := 2) rfl (.cons (t := 9) rfl Sub.nil))) (.cons (t := 5001) rfl SubB.nil)
      · replace h := bif_f h hb8
        refine Cod.seq ?_
        refine Cod.region [] mixed (by kernel_rfl) ?_
        refine Chain.cons (StepOK.move .none (.tmp rfl (fun _ => trivial))) rfl ?_
        obtain ⟨r2, hv10, h⟩ := bind_some h
        refine Chain.cons (StepOK.call .none (strings_ContainsRune_ok hv10) (.cons (.str (l := [105, 106, 108, 39, 46, 44, 58, 59, 33, 124]) (by decide)) (.cons (.tmp rfl (fun _ => trivial)) .nil))) rfl ?_
        refine Chain.cons (StepOK.assign .none (.tmp rfl (fun _ => trivial))) rfl ?_
        refine Chain.nil ?_
        refine Ends.then ?_
        refine Cod.cond (t := 28) rfl trivial (fun hb11 => ?_) (fun hb11 => ?_)
        · replace h := bif_t h hb11
          refine Cod.region [] mixed (by kernel_rfl) ?_
          refine Chain.cons (StepOK.move .none (.tmp rfl (fun _ => trivial))) rfl ?_
          refine Chain.cons (StepOK.fieldAddr .none fd23_1 hfd23_1 (.tmp rfl (fun _ => trivial))) rfl ?_
          refine Chain.cons (StepOK.load .none ty3 (.tmp rfl (fun _ => trivial))) rfl ?_
          refine Chain.cons (StepOK.addW .none (.tmp rfl (fun _ => trivial)) (.tmp rfl (fun _ => trivial))) rfl ?_
          obtain ⟨n2, hv12, h⟩ := bnd_some h
          refine Chain.cons (StepOK.re hv12 (StepOK.assign .none (.tmp rfl (fun _ => trivial)))) rfl ?_
          refine Chain.nil ?_
          refine Ends.blkNormal ?_
          refine Ends.blkNormal ?_
          exact Ends.againL (some_eq h) (.cons (t := 5) rfl (.cons (t := 2) rfl (.cons (t := 9) rfl Sub.nil))) (.cons (t := 5001) rfl SubB.nil)
        · replace h := bif_f h hb11
          refine Cod.region [] mixed (by kernel_rfl) ?_
          refine Chain.cons (StepOK.move .none (.tmp rfl (fun _ => trivial))) rfl ?_
          refine Chain.cons (StepOK.fieldAddr .none fd23_2 hfd23_2 (.tmp rfl (fun _ => trivial))) rfl ?_
          refine Chain.cons (StepOK.load .none ty3 (.tmp rfl (fun _ => trivial))) rfl ?_
          refine Chain.cons (StepOK.addW .none (.tmp rfl (fun _ => trivial)) (.tmp rfl (fun _ => trivial))) rfl ?_
          obtain ⟨n3, hv13, h⟩ := bnd_some h
          refine Chain.cons (StepOK.re hv13 (StepOK.assign .none (.tmp rfl (fun _ => trivial)))) rfl ?_
          refine Chain.nil ?_
          refine Ends.blkNormal ?_
          refine Ends.blkNormal ?_
          exact Ends.againL (some_eq h) (.cons (t := 5) rfl (.cons (t := 2) rfl (.cons (t := 9) rfl Sub.nil))) (.cons (t := 5001) rfl SubB.nil)
    · replace h := bif_f h hb4
      refine Cod.exit ?_
      refine Ends.thenExit ?_
      refine Ends.thenExit ?_
      refine Ends.blkExit ?_
      replace h := hD2 _ (some_eq h)
      exact Ends.join _ (some_eq h) (.cons (t := 5) rfl Sub.nil) SubB.nil
  · subst hj1; have h := hK1; clear hK1
    refine Cod.seq ?_
    refine Cod.region [] mixed (by kernel_rfl) ?_
    refine Chain.cons (StepOK.move .none (.tmp rfl (fun _ => trivial))) rfl ?_
    refine Chain.cons (StepOK.assign .none (.tmp rfl (fun _ => trivial))) rfl ?_
    refine Chain.nil ?_
    refine Ends.then ?_
    refine Cod.ret ?_
    obtain rfl := some_eq h
    exact Ends.ret1 (.inl rfl) Tryd.results20 (ResOK.tmp rfl trivial Imp.refl)

theorem ref_WrapOf_ok {f1 : Font} {text1 : Str} {width1 : Int} {r : ((List Str) × Bool)}  (h : ref_WrapOf f1 text1 width1 = some r) : FSpec Tryd.prog 24 [rep f1, rep text1, rep width1] (tup [rep r.1, rep r.2]) := by
  unfold ref_WrapOf at h
  refine FSpec.intro (n := 105) fnok24 Tryd.func24 rfl Tryd.ntmps24 rfl (fun F => ?_)
  refine Cod.seq ?_
  refine Cod.region [] mixed (by kernel_rfl) ?_
  refine Chain.cons (StepOK.box .none (.tmp rfl (fun _ => trivial))) rfl ?_
  refine Chain.cons (StepOK.assign .none (.const (x := ([] : (List Str))) (fun M w => ⟨_, ⟨none, 0, rfl, Nat.le_refl _, by decide, rfl⟩, rfl⟩))) rfl ?_
  refine Chain.cons (StepOK.assign .none .bool) rfl ?_
  refine Chain.nil ?_
  refine Ends.then ?_
  refine Cod.seq ?_
  refine Cod.region [([], [8])] mixed (by kernel_rfl) ?_
  refine Chain.consW (StepOK.nilRow (T := 9) (α := Str) rfl) rfl rfl ?_
  refine Chain.nil ?_
  refine Ends.then ?_
  refine Cod.nameRow (t := 8) (g := 5001) rfl rfl rfl (fun s5001 => ?_)
  refine Cod.seq ?_
  refine Cod.region [] mixed (by kernel_rfl) ?_
  refine Chain.cons (StepOK.assign .none .bool) rfl ?_
  refine Chain.nil ?_
  refine Ends.then ?_
  refine Cod.seq ?_
  refine Cod.seq ?_
  refine Cod.region [] mixed (by kernel_rfl) ?_
  refine Chain.cons (StepOK.move .none (.tmp rfl (fun _ => trivial))) rfl ?_
  obtain ⟨r1, hv1, h⟩ := bind_some h
  refine Chain.cons (StepOK.call .none (strings_Split_ok hv1).frz (.cons (.tmp rfl (fun _ => trivial)) (.cons (.str (l := [10]) (by decide)) .nil))) rfl ?_
  refine Chain.cons (StepOK.len .none sl30 (.tmp rfl (fun _ => trivial))) rfl ?_
  refine Chain.cons (StepOK.move .none (.int (by decide))) rfl ?_
  refine Chain.nil ?_
  refine Ends.then ?_
  obtain ⟨j_2, h, hK2⟩ := bind_some h
  refine Cod.thenJ (ι := ((List Str) × Bool)) (fun j_2 => [(9, ⟨True, rep j_2.2⟩)]) (fun j_2 => [(8, some (rowV 9 j_2.1))]) (fun s => j_2 = s) Sub.nil SubB.nil ?_ (fun j_2' hj2 => ?_)
  · skip
    refine Cod.block ?_
    refine Cod.anon (t := 8) (g := 5001) rfl rfl trivial rfl ?_
    refine Cod.rforL h (fun p3_ => [(21, ⟨True, rep p3_.1⟩), (9, ⟨True, rep p3_.2.2⟩)]) (fun p3_ => [(8, some (rowV 9 p3_.2.1))]) (.cons (t := 21) rfl (.cons (t := 9) rfl Sub.nil)) (.cons (t := 8) rfl SubB.nil) (.cons (t := 2) rfl (.cons (t := 3) rfl (.cons (t := 19) rfl (.cons (t := 20) rfl Sub.nil)))) SubB.nil (fun p3_ o_3 h hD3 => ?_)
    refine Cod.nameRow (t := 8) (g := 5002) rfl rfl rfl (fun s5002 => ?_)
    refine Cod.seq ?_
    refine Cod.region [] mixed (by kernel_rfl) ?_
    refine Chain.cons (StepOK.lt .none (.tmp rfl (fun _ => trivial)) (.tmp rfl (fun _ => trivial))) rfl ?_
    refine Chain.nil ?_
    refine Ends.then ?_
    refine Cod.seq ?_
    refine Cod.cond (t := 22) rfl trivial (fun hb4 => ?_) (fun hb4 => ?_)
    · replace h := bif_t h hb4
      refine Cod.skip ?_
      refine Ends.then ?_
      refine Cod.seq ?_
      obtain ⟨j_5, h, hK5⟩ := bind_some h
      unfold ref_WrapOf_L1 at h
      refine Cod.thenJ (ι := ((List Str) × Bool)) (fun j_5 => [(9, ⟨True, rep j_5.2⟩)]) (fun j_5 => [(8, some (rowV 9 j_5.1))]) (fun s => j_5 = s) (.cons (t := 2) rfl (.cons (t := 3) rfl (.cons (t := 19) rfl (.cons (t := 20) rfl (.cons (t := 21) rfl Sub.nil))))) SubB.nil ?_ (fun j_5' hj5 => ?_)
      · skip
        refine Cod.block ?_
        refine Cod.seq ?_
        refine Cod.region [] mixed (by kernel_rfl) ?_
        obtain ⟨hn6, h⟩ := need_some h
        refine Chain.cons (StepOK.indexAddr .none sl30 ty9 (.tmp rfl (fun _ => trivial)) (.tmp rfl (fun _ => trivial)) (fun _ => hn6)) rfl ?_
        refine Chain.cons (StepOK.load .none ty9 (.tmp rfl (fun _ => trivial))) rfl ?_
        refine Chain.cons (StepOK.assign .none (.tmp rfl (fun _ => trivial))) rfl ?_
        refine Chain.nil ?_
        refine Ends.then ?_
        refine Cod.seq ?_
        refine Cod.region [] mixed (by kernel_rfl) ?_
        refine Chain.cons (StepOK.assign .none (.str (l := []) (by decide))) rfl ?_
        refine Chain.cons (StepOK.assign .none .bool) rfl ?_
        refine Chain.nil ?_
        refine Ends.then ?_
        refine Cod.seq ?_
        refine Cod.seq ?_
        refine Cod.region [] mixed (by kernel_rfl) ?_
        refine Chain.cons (StepOK.move .none (.tmp rfl (fun _ => trivial))) rfl ?_
        obtain ⟨r2, hv7, h⟩ := bind_some h
        refine Chain.cons (StepOK.call .none (strings_Split_ok hv7).frz (.cons (.tmp rfl (fun _ => trivial)) (.cons (.str (l := [32]) (by decide)) .nil))) rfl ?_
        refine Chain.cons (StepOK.len .none sl30 (.tmp rfl (fun _ => trivial))) rfl ?_
        refine Chain.cons (StepOK.move .none (.int (by decide))) rfl ?_
        refine Chain.nil ?_
        refine Ends.then ?_
        obtain ⟨j_8, h, hK8⟩ := bind_some h
        refine Cod.thenJ (ι := ((List Str) × Bool × Str × Bool)) (fun j_8 => [(9, ⟨True, rep j_8.2.1⟩), (12, ⟨True, rep j_8.2.2.1⟩), (13, ⟨True, rep j_8.2.2.2⟩)]) (fun j_8 => [(8, some (rowV 9 j_8.1))]) (fun s => j_8 = s) (.cons (t := 2) rfl (.cons (t := 3) rfl (.cons (t := 19) rfl (.cons (t := 20) rfl (.cons (t := 21) rfl Sub.nil))))) SubB.nil ?_ (fun j_8' hj8 => ?_)
        · skip
          refine Cod.block ?_
          refine Cod.anon (t := 8) (g := 5002) rfl rfl trivial rfl ?_
          refine Cod.rforL h (fun p9_ => [(28, ⟨True, rep p9_.1⟩), (9, ⟨True, rep p9_.2.2.1⟩), (12, ⟨True, rep p9_.2.2.2.1⟩), (13, ⟨True, rep p9_.2.2.2.2⟩)]) (fun p9_ => [(8, some (rowV 9 p9_.2.1))]) (.cons (t := 28) rfl (.cons (t := 9) rfl (.cons (t := 12) rfl (.cons (t := 13) rfl Sub.nil)))) (.cons (t := 8) rfl SubB.nil) (.cons (t := 2) rfl (.cons (t := 3) rfl (.cons (t := 19) rfl (.cons (t := 20) rfl (.cons (t := 21) rfl (.cons (t := 26) rfl (.cons (t := 27) rfl Sub.nil))))))) SubB.nil (fun p9_ o_9 h hD9 => ?_)
          refine Cod.nameRow (t := 8) (g := 5003) rfl rfl rfl (fun s5003 => ?_)
          refine Cod.seq ?_
          refine Cod.region [] mixed (by kernel_rfl) ?_
          refine Chain.cons (StepOK.lt .none (.tmp rfl (fun _ => trivial)) (.tmp rfl (fun _ => trivial))) rfl ?_
          refine Chain.nil ?_
          refine Ends.then ?_
          refine Cod.seq ?_
          refine Cod.cond (t := 29) rfl trivial (fun hb10 => ?_) (fun hb10 => ?_)
          · replace h := bif_t h hb10
            refine Cod.skip ?_
            refine Ends.then ?_
            refine Cod.seq ?_
            obtain ⟨j_11, h, hK11⟩ := bind_some h
            unfold ref_WrapOf_L2 at h
            refine Cod.thenJ (ι := ((List Str) × Bool × Str × Bool)) (fun j_11 => [(9, ⟨True, rep j_11.2.1⟩), (12, ⟨True, rep j_11.2.2.1⟩), (13, ⟨True, rep j_11.2.2.2⟩)]) (fun j_11 => [(8, some (rowV 9 j_11.1))]) (fun s => j_11 = s) (.cons (t := 2) rfl (.cons (t := 3) rfl (.cons (t := 19) rfl (.cons (t := 20) rfl (.cons (t := 21) rfl (.cons (t := 26) rfl (.cons (t := 27) rfl (.cons (t := 28) rfl Sub.nil)))))))) SubB.nil ?_ (fun j_11' hj11 => ?_)
            · skip
              refine Cod.block ?_
              refine Cod.seq ?_
              refine Cod.region [] mixed (by kernel_rfl) ?_
              obtain ⟨hn12, h⟩ := need_some h
              refine Chain.cons (StepOK.indexAddr .none sl30 ty9 (.tmp rfl (fun _ => trivial)) (.tmp rfl (fun _ => trivial)) (fun _ => hn12)) rfl ?_
              refine Chain.cons (StepOK.load .none ty9 (.tmp rfl (fun _ => trivial))) rfl ?_
              obtain ⟨w1, hv13, h⟩ := bnd_some h
              refine Chain.cons (StepOK.re hv13 (StepOK.assign .none (.tmp rfl (fun _ => trivial)))) rfl ?_
              refine Chain.nil ?_
              refine Ends.then ?_
              refine Cod.seq ?_
              refine Cod.seq ?_
              refine Cod.region [] mixed (by kernel_rfl) ?_
              refine Chain.cons (StepOK.move .none (.tmp rfl (fun _ => trivial))) rfl ?_
              refine Chain.cons (StepOK.eqS .none (eqAt_str Tryd.underlying9) (.tmp rfl (fun _ => trivial)) (.str (l := []) (by decide))) rfl ?_
              refine Chain.nil ?_
              refine Ends.then ?_
              refine Cod.cond (t := 33) rfl trivial (fun hb14 => ?_) (fun hb14 => ?_)
              · replace h := bif_t h hb14
                refine Cod.exit ?_
                refine Ends.thenExit ?_
                refine Ends.blkExit ?_
                refine Ends.anon (t := 8) (g := 5003) rfl rfl trivial rfl ?_
                exact Ends.join _ (some_eq h) (.cons (t := 9) rfl (.cons (t := 12) rfl (.cons (t := 13) rfl (.cons (t := 2) rfl (.cons (t := 3) rfl (.cons (t := 19) rfl (.cons (t := 20) rfl (.cons (t := 21) rfl (.cons (t := 26) rfl (.cons (t := 27) rfl (.cons (t := 28) rfl Sub.nil))))))))))) (.cons (t := 8) rfl SubB.nil)
              · replace h := bif_f h hb14
                refine Cod.skip ?_
                refine Ends.then ?_
                refine Cod.seq ?_
                refine Cod.seq ?_
                refine Cod.region [] mixed (by kernel_rfl) ?_
                refine Chain.cons (StepOK.move .none (.tmp rfl (fun _ => trivial))) rfl ?_
                refine Chain.cons (StepOK.move .none (.tmp rfl (fun _ => trivial))) rfl ?_
                refine Chain.cons (StepOK.load (.at rfl rfl) ty23 (.tmp rfl (fun _ => trivial))) rfl ?_
                refine Chain.cons (StepOK.move (.at rfl rfl) (.tmp rfl (fun _ => trivial))) rfl ?_
                obtain ⟨hn15, h⟩ := need_some h
                refine Chain.cons (StepOK.addStr (.at rfl rfl) (.tmp rfl id) (.str (l := [32]) (by decide)) (fun hg => hn15 hg.2)) rfl ?_
                refine Chain.cons (StepOK.move (.at rfl rfl) (.tmp rfl (fun _ => trivial))) rfl ?_
                obtain ⟨hn16, h⟩ := need_some h
                refine Chain.cons (StepOK.addStr (.at rfl rfl) (.tmp rfl id) (.tmp rfl id) (fun hg => hn16 hg.2)) rfl ?_
                obtain ⟨r3, hv17, h⟩ := bind_some h
                refine Chain.cons (StepOK.callIf (.at rfl rfl) fnok20 (fun hg => ref_WidthOf_ok ((fun hg => gd_some hv17 (hg.2)) hg)) (.cons (.tmp rfl id) (.cons (.tmp rfl id) .nil)) (fun h => h)) rfl ?_
                refine Chain.cons (StepOK.move (.at rfl rfl) (.tmp rfl (fun _ => trivial))) rfl ?_
                refine Chain.cons (StepOK.le (.at rfl rfl) (.tmp rfl id) (.tmp rfl id)) rfl ?_
                refine Chain.cons (StepOK.pickAnd .none (.tmp rfl (fun _ => trivial)) (.tmp rfl id)) rfl ?_
                refine Chain.nil ?_
                refine Ends.then ?_
                refine Cod.cond (t := 44) rfl trivial (fun hb18 => ?_) (fun hb18 => ?_)
                · replace h := bif_t h hb18
                  refine Cod.seq ?_
                  refine Cod.region [] mixed (by kernel_rfl) ?_
                  refine Chain.cons (StepOK.move .none (.tmp rfl (fun _ => trivial))) rfl ?_
                  refine Chain.cons (StepOK.move .none (.tmp rfl (fun _ => trivial))) rfl ?_
                  obtain ⟨hn19, h⟩ := need_some h
                  refine Chain.cons (StepOK.addStr .none (.str (l := [32]) (by decide)) (.tmp rfl (fun _ => trivial)) (fun _ => hn19)) rfl ?_
                  obtain ⟨hn20, h⟩ := need_some h
                  refine Chain.cons (StepOK.addStr .none (.tmp rfl (fun _ => trivial)) (.tmp rfl (fun _ => trivial)) (fun _ => hn20)) rfl ?_
                  obtain ⟨line1, hv21, h⟩ := bnd_some h
                  refine Chain.cons (StepOK.re hv21 (StepOK.assign .none (.tmp rfl (fun _ => trivial)))) rfl ?_
                  refine Chain.nil ?_
                  refine Ends.then ?_
                  refine Cod.exit ?_
                  refine Ends.thenExit ?_
                  refine Ends.blkExit ?_
                  refine Ends.anon (t := 8) (g := 5003) rfl rfl trivial rfl ?_
                  exact Ends.join _ (some_eq h) (.cons (t := 9) rfl (.cons (t := 12) rfl (.cons (t := 13) rfl (.cons (t := 2) rfl (.cons (t := 3) rfl (.cons (t := 19) rfl (.cons (t := 20) rfl (.cons (t := 21) rfl (.cons (t := 26) rfl (.cons (t := 27) rfl (.cons (t := 28) rfl Sub.nil))))))))))) (.cons (t := 8) rfl SubB.nil)
                · replace h := bif_f h hb18
                  refine Cod.skip ?_
                  refine Ends.then ?_
                  refine Cod.seq ?_
                  refine Cod.seq ?_
                  refine Cod.region [] mixed (by kernel_rfl) ?_
                  refine Chain.cons (StepOK.move .none (.tmp rfl (fun _ => trivial))) rfl ?_
                  refine Chain.nil ?_
                  refine Ends.then ?_
                  obtain ⟨j_22, h, hK22⟩ := bind_some h
                  refine Cod.thenJ (ι := (List Str)) (fun j_22 => []) (fun j_22 => [(8, some (rowV 9 j_22))]) (fun s => j_22 = s) (.cons (t := 2) rfl (.cons (t := 3) rfl (.cons (t := 9) rfl (.cons (t := 15) rfl (.cons (t := 19) rfl (.cons (t := 20) rfl (.cons (t := 21) rfl (.cons (t := 26) rfl (.cons (t := 27) rfl (.cons (t := 28) rfl Sub.nil)))))))))) SubB.nil ?_ (fun j_22' hj22 => ?_)
                  · skip
                    refine Cod.cond (t := 49) rfl trivial (fun hb23 => ?_) (fun hb23 => ?_)
                    · replace h := bif_t h hb23
                      refine Cod.region [([], []), ([], []), ([], []), ([5003], [53, 5003]), ([53], [8, 53])] mixed (by kernel_rfl) ?_
                      refine Chain.consA (StepOK.move .none (.tmp rfl (fun _ => trivial))) rfl ?_
                      refine Chain.consA (StepOK.move .none (.tmp rfl (fun _ => trivial))) rfl ?_
                      refine Chain.consA (StepOK.buildSlice (xs := [_]) .none sl30 ty9 hz9 (.cons (.tmp rfl (fun _ => trivial)) .nil) rfl (by decide)) rfl ?_
                      obtain ⟨hn24, h⟩ := need_some h
                      refine Chain.consW (StepOK.append (k := 5003) rk30 rfl (.told (.tmp rfl (fun _ => trivial)) rfl) (.tmp rfl (fun _ => trivial)) hn24) rfl rfl ?_
                      refine Chain.consWD (StepOK.passRow rfl (.tmp rfl)) rfl rfl ?_
                      refine Chain.nil ?_
                      exact Ends.join _ (some_eq h) (.cons (t := 2) rfl (.cons (t := 3) rfl (.cons (t := 9) rfl (.cons (t := 15) rfl (.cons (t := 19) rfl (.cons (t := 20) rfl (.cons (t := 21) rfl (.cons (t := 26) rfl (.cons (t := 27) rfl (.cons (t := 28) rfl Sub.nil)))))))))) (.cons (t := 8) rfl SubB.nil)
                    · replace h := bif_f h hb23
                      refine Cod.skip ?_
                      refine Ends.anon (t := 8) (g := 5003) rfl rfl trivial rfl ?_
                      exact Ends.join _ (some_eq h) (.cons (t := 2) rfl (.cons (t := 3) rfl (.cons (t := 9) rfl (.cons (t := 15) rfl (.cons (t := 19) rfl (.cons (t := 20) rfl (.cons (t := 21) rfl (.cons (t := 26) rfl (.cons (t := 27) rfl (.cons (t := 28) rfl Sub.nil)))))))))) (.cons (t := 8) rfl SubB.nil)
                  · subst hj22; have h := hK22; clear hK22
                    refine Cod.nameRow (t := 8) (g := 5004) rfl rfl rfl (fun s5004 => ?_)
                    refine Cod.seq ?_
                    obtain ⟨j_25, h, hK25⟩ := bind_some h
                    refine Cod.thenJ (ι := ((List Str) × Bool × Str)) (fun j_25 => [(9, ⟨True, rep j_25.2.1⟩), (15, ⟨True, rep j_25.2.2⟩)]) (fun j_25 => [(8, some (rowV 9 j_25.1))]) (fun s => j_25 = s) (.cons (t := 2) rfl (.cons (t := 3) rfl (.cons (t := 19) rfl (.cons (t := 20) rfl (.cons (t := 21) rfl (.cons (t := 26) rfl (.cons (t := 27) rfl (.cons (t := 28) rfl Sub.nil)))))))) SubB.nil ?_ (fun j_25' hj25 => ?_)
                    · skip
                      refine Cod.block ?_
                      refine Cod.anon (t := 8) (g := 5004) rfl rfl trivial rfl ?_
                      refine Cod.loopL h (fun s26_ => [(9, ⟨True, rep s26_.2.1⟩), (15, ⟨True, rep s26_.2.2⟩)]) (fun s26_ => [(8, some (rowV 9 s26_.1))]) (.cons (t := 9) rfl (.cons (t := 15) rfl Sub.nil)) (.cons (t := 8) rfl SubB.nil) (.cons (t := 2) rfl (.cons (t := 3) rfl (.cons (t := 19) rfl (.cons (t := 20) rfl (.cons (t := 21) rfl (.cons (t := 26) rfl (.cons (t := 27) rfl (.cons (t := 28) rfl Sub.nil)))))))) SubB.nil (fun s26_ o_26 h hD26 => ?_)
                      unfold ref_WrapOf_L3 at h
                      refine Cod.nameRow (t := 8) (g := 5005) rfl rfl rfl (fun s5005 => ?_)
                      refine Cod.seq ?_
                      refine Cod.seq ?_
                      refine Cod.region [] mixed (by kernel_rfl) ?_
                      refine Chain.cons (StepOK.load .none ty23 (.tmp rfl (fun _ => trivial))) rfl ?_
                      refine Chain.cons (StepOK.move .none (.tmp rfl (fun _ => trivial))) rfl ?_
                      obtain ⟨r4, hv27, h⟩ := bind_some h
                      refine Chain.cons (StepOK.call .none (ref_WidthOf_ok hv27) (.cons (.tmp rfl (fun _ => trivial)) (.cons (.tmp rfl (fun _ => trivial)) .nil))) rfl ?_
                      refine Chain.cons (StepOK.move .none (.tmp rfl (fun _ => trivial))) rfl ?_
                      refine Chain.cons (StepOK.gt .none (.tmp rfl (fun _ => trivial)) (.tmp rfl (fun _ => trivial))) rfl ?_
                      refine Chain.nil ?_
                      refine Ends.then ?_
                      refine Cod.cond (t := 58) rfl trivial (fun hb28 => ?_) (fun hb28 => ?_)
                      · replace h := bif_t h hb28
                        refine Cod.skip ?_
                        refine Ends.then ?_
                        refine Cod.block ?_
                        refine Cod.seq ?_
                        refine Cod.region [] mixed (by kernel_rfl) ?_
                        refine Chain.cons (StepOK.assign .none (.int (by decide))) rfl ?_
                        refine Chain.nil ?_
                        refine Ends.then ?_
                        refine Cod.seq ?_
                        refine Cod.seq ?_
                        refine Cod.region [([], []), ([], [60])] mixed (by kernel_rfl) ?_
                        refine Chain.consA (StepOK.move .none (.tmp rfl (fun _ => trivial))) rfl ?_
                        refine Chain.consW (StepOK.rangeStr Tryd.underlying9 rfl (.tmp rfl (fun _ => trivial))) rfl rfl ?_
                        refine Chain.nil ?_
                        refine Ends.then ?_
                        refine Cod.nameAt (t := 60) (g := 5006) rfl rfl isBox_iter rfl (fun m5006 => ?_)
                        obtain ⟨j_29, h, hK29⟩ := bind_some h
                        refine Cod.thenJ (ι := Int) (fun j_29 => [(16, ⟨True, rep j_29⟩)]) (fun j_29 => []) (fun s => j_29 = s) (.cons (t := 2) rfl (.cons (t := 3) rfl (.cons (t := 8) rfl (.cons (t := 9) rfl (.cons (t := 15) rfl (.cons (t := 19) rfl (.cons (t := 20) rfl (.cons (t := 21) rfl (.cons (t := 26) rfl (.cons (t := 27) rfl (.cons (t := 28) rfl Sub.nil))))))))))) (.cons (t := 5005) rfl SubB.nil) ?_ (fun j_29' hj29 => ?_)
                        · skip
                          refine Cod.block ?_
                          refine Cod.loopL h (fun s30_ => [(16, ⟨True, rep s30_.1⟩)]) (fun s30_ => [(5006, some (CPred.at (ptr m5006 0) (iterV s26_.2.2 s30_.2)))]) (.cons (t := 16) rfl Sub.nil) (.cons (t := 5006) rfl SubB.nil) (.cons (t := 2) rfl (.cons (t := 3) rfl (.cons (t := 8) rfl (.cons (t := 9) rfl (.cons (t := 15) rfl (.cons (t := 19) rfl (.cons (t := 20) rfl (.cons (t := 21) rfl (.cons (t := 26) rfl (.cons (t := 27) rfl (.cons (t := 28) rfl (.cons (t := 60) rfl Sub.nil)))))))))))) (.cons (t := 5005) rfl SubB.nil) (fun s30_ o_30 h hD30 => ?_)
                          unfold ref_WrapOf_L4 at h
                          refine Cod.seq ?_
                          refine Cod.region [([5006], [5006]), ([], [])] mixed (by kernel_rfl) ?_
                          refine Chain.consW (StepOK.nextStr (k := 5006) rfl rfl (.tmp rfl (fun _ => trivial)) (by decide)) rfl rfl ?_
                          refine Chain.consA (StepOK.nextOk .none (.tmp rfl (fun _ => trivial))) rfl ?_
                          refine Chain.nil ?_
                          refine Ends.then ?_
                          obtain ⟨at1, hv31, h⟩ := bnd_some h
                          refine Cod.reB (t := 5006) rfl (congrArg (fun y => CPred.at (ptr m5006 0) (iterV s26_.2.2 y)) hv31) ?_
                          refine Cod.seq ?_
                          refine Cod.cond (t := 62) rfl trivial (fun hb32 => ?_) (fun hb32 => ?_)
                          · replace h := bif_t h hb32
                            refine Cod.skip ?_
                            refine Ends.then ?_
                            refine Cod.block ?_
                            refine Cod.seq ?_
                            refine Cod.region [] mixed (by kernel_rfl) ?_
                            obtain ⟨hn33, h⟩ := need_some h
                            refine Chain.cons (StepOK.nextAt .none (.tmp rfl (fun _ => trivial)) (fun _ => hn33)) rfl ?_
                            obtain ⟨i1, hv34, h⟩ := bnd_some h
                            refine Chain.cons (StepOK.re hv34 (StepOK.assign .none (.tmp rfl (fun _ => trivial)))) rfl ?_
                            refine Chain.nil ?_
                            refine Ends.then ?_
                            refine Cod.seq ?_
                            refine Cod.region [] mixed (by kernel_rfl) ?_
                            refine Chain.cons (StepOK.move .none (.tmp rfl (fun _ => trivial))) rfl ?_
                            refine Chain.cons (StepOK.gt .none (.tmp rfl (fun _ => trivial)) (.int (by decide))) rfl ?_
                            refine Chain.cons (StepOK.move .none (.tmp rfl (fun _ => trivial))) rfl ?_
                            refine Chain.cons (StepOK.load (.at rfl rfl) ty23 (.tmp rfl (fun _ => trivial))) rfl ?_
                            refine Chain.cons (StepOK.move (.at rfl rfl) (.tmp rfl (fun _ => trivial))) rfl ?_
                            refine Chain.cons (StepOK.move (.at rfl rfl) (.tmp rfl (fun _ => trivial))) rfl ?_
                            obtain ⟨hn35, h⟩ := need_some h
                            refine Chain.cons (StepOK.sliceStr (.at rfl rfl) Tryd.underlying9 (.tmp rfl id) rfl (.tmp rfl id) (fun hg => hn35 hg.2)) rfl ?_
                            obtain ⟨r5, hv36, h⟩ := bind_some h
                            refine Chain.cons (StepOK.callIf (.at rfl rfl) fnok20 (fun hg => ref_WidthOf_ok ((fun hg => gd_some hv36 (hg.2)) hg)) (.cons (.tmp rfl id) (.cons (.tmp rfl id) .nil)) (fun h => h)) rfl ?_
                            refine Chain.cons (StepOK.move (.at rfl rfl) (.tmp rfl (fun _ => trivial))) rfl ?_
                            refine Chain.cons (StepOK.le (.at rfl rfl) (.tmp rfl id) (.tmp rfl id)) rfl ?_
                            refine Chain.cons (StepOK.pickAnd .none (.tmp rfl (fun _ => trivial)) (.tmp rfl id)) rfl ?_
                            refine Chain.nil ?_
                            refine Ends.then ?_
                            refine Cod.cond (t := 74) rfl trivial (fun hb37 => ?_) (fun hb37 => ?_)
                            · replace h := bif_t h hb37
                              refine Cod.region [] mixed (by kernel_rfl) ?_
                              refine Chain.cons (StepOK.move .none (.tmp rfl (fun _ => trivial))) rfl ?_
                              refine Chain.cons (StepOK.assign .none (.tmp rfl (fun _ => trivial))) rfl ?_
                              refine Chain.nil ?_
                              refine Ends.blkNormal ?_
                              exact Ends.againL (some_eq h) (.cons (t := 16) rfl (.cons (t := 2) rfl (.cons (t := 3) rfl (.cons (t := 8) rfl (.cons (t := 9) rfl (.cons (t := 15) rfl (.cons (t := 19) rfl (.cons (t := 20) rfl (.cons (t := 21) rfl (.cons (t := 26) rfl (.cons (t := 27) rfl (.cons (t := 28) rfl (.cons (t := 60) rfl Sub.nil))))))))))))) (.cons (t := 5006) rfl (.cons (t := 5005) rfl SubB.nil))
                            · replace h := bif_f h hb37
                              refine Cod.skip ?_
                              refine Ends.blkNormal ?_
                              exact Ends.againL (some_eq h) (.cons (t := 16) rfl (.cons (t := 2) rfl (.cons (t := 3) rfl (.cons (t := 8) rfl (.cons (t := 9) rfl (.cons (t := 15) rfl (.cons (t := 19) rfl (.cons (t := 20) rfl (.cons (t := 21) rfl (.cons (t := 26) rfl (.cons (t := 27) rfl (.cons (t := 28) rfl (.cons (t := 60) rfl Sub.nil))))))))))))) (.cons (t := 5006) rfl (.cons (t := 5005) rfl SubB.nil))
                          · replace h := bif_f h hb32
                            refine Cod.exit ?_
                            refine Ends.thenExit ?_
                            refine Ends.thenExit ?_
                            refine Ends.blkExit ?_
                            replace h := hD30 _ (some_eq h)
                            exact Ends.join _ (some_eq h) (.cons (t := 16) rfl (.cons (t := 2) rfl (.cons (t := 3) rfl (.cons (t := 8) rfl (.cons (t := 9) rfl (.cons (t := 15) rfl (.cons (t := 19) rfl (.cons (t := 20) rfl (.cons (t := 21) rfl (.cons (t := 26) rfl (.cons (t := 27) rfl (.cons (t := 28) rfl Sub.nil)))))))))))) (.cons (t := 5005) rfl SubB.nil)
                        · subst hj29; have h := hK29; clear hK29
                          refine Cod.seq ?_
                          refine Cod.seq ?_
                          refine Cod.region [] mixed (by kernel_rfl) ?_
                          refine Chain.cons (StepOK.move .none (.tmp rfl (fun _ => trivial))) rfl ?_
                          refine Chain.cons (StepOK.eqI .none (.tmp rfl (fun _ => trivial)) (.int (by decide))) rfl ?_
                          refine Chain.nil ?_
                          refine Ends.then ?_
                          obtain ⟨j_38, h, hK38⟩ := bind_some h
                          refine Cod.thenJ (ι := Int) (fun j_38 => [(16, ⟨True, rep j_38⟩)]) (fun j_38 => []) (fun s => j_38 = s) (.cons (t := 2) rfl (.cons (t := 3) rfl (.cons (t := 8) rfl (.cons (t := 9) rfl (.cons (t := 15) rfl (.cons (t := 19) rfl (.cons (t := 20) rfl (.cons (t := 21) rfl (.cons (t := 26) rfl (.cons (t := 27) rfl (.cons (t := 28) rfl Sub.nil))))))))))) (.cons (t := 5005) rfl SubB.nil) ?_ (fun j_38' hj38 => ?_)
                          · skip
                            refine Cod.cond (t := 77) rfl trivial (fun hb39 => ?_) (fun hb39 => ?_)
                            · replace h := bif_t h hb39
                              refine Cod.region [] mixed (by kernel_rfl) ?_
                              refine Chain.cons (StepOK.move .none (.tmp rfl (fun _ => trivial))) rfl ?_
                              obtain ⟨r6, hv40, h⟩ := bind_some h
                              refine Chain.cons (StepOK.call .none (utf8_DecodeRuneInString_ok hv40) (.cons (.tmp rfl (fun _ => trivial)) .nil)) rfl ?_
                              refine Chain.cons (StepOK.move .none (.tmp rfl (fun _ => trivial))) rfl ?_
                              refine Chain.cons (StepOK.extract .none (.tmp rfl (fun _ => trivial)) rfl) rfl ?_
                              refine Chain.cons (StepOK.extract .none (.tmp rfl (fun _ => trivial)) rfl) rfl ?_
                              refine Chain.cons (StepOK.assign .none (.tmp rfl (fun _ => trivial))) rfl ?_
                              refine Chain.nil ?_
                              exact Ends.join _ (some_eq h) (.cons (t := 16) rfl (.cons (t := 2) rfl (.cons (t := 3) rfl (.cons (t := 8) rfl (.cons (t := 9) rfl (.cons (t := 15) rfl (.cons (t := 19) rfl (.cons (t := 20) rfl (.cons (t := 21) rfl (.cons (t := 26) rfl (.cons (t := 27) rfl (.cons (t := 28) rfl Sub.nil)))))))))))) (.cons (t := 5005) rfl SubB.nil)
                            · replace h := bif_f h hb39
                              refine Cod.skip ?_
                              exact Ends.join _ (some_eq h) (.cons (t := 16) rfl (.cons (t := 2) rfl (.cons (t := 3) rfl (.cons (t := 8) rfl (.cons (t := 9) rfl (.cons (t := 15) rfl (.cons (t := 19) rfl (.cons (t := 20) rfl (.cons (t := 21) rfl (.cons (t := 26) rfl (.cons (t := 27) rfl (.cons (t := 28) rfl Sub.nil)))))))))))) (.cons (t := 5005) rfl SubB.nil)
                          · subst hj38; have h := hK38; clear hK38
                            refine Cod.seq ?_
                            refine Cod.seq ?_
                            refine Cod.region [] mixed (by kernel_rfl) ?_
                            refine Chain.cons (StepOK.move .none (.tmp rfl (fun _ => trivial))) rfl ?_
                            refine Chain.cons (StepOK.move .none (.tmp rfl (fun _ => trivial))) rfl ?_
                            refine Chain.cons (StepOK.lenStr .none Tryd.underlying9 (.tmp rfl (fun _ => trivial))) rfl ?_
                            refine Chain.cons (StepOK.eqI .none (.tmp rfl (fun _ => trivial)) (.tmp rfl (fun _ => trivial))) rfl ?_
                            refine Chain.nil ?_
                            refine Ends.then ?_
                            refine Cod.cond (t := 86) rfl trivial (fun hb41 => ?_) (fun hb41 => ?_)
                            · replace h := bif_t h hb41
                              refine Cod.exit ?_
                              refine Ends.thenExit ?_
                              refine Ends.blkExitNe (by decide) ?_
                              refine Ends.thenExit ?_
                              refine Ends.blkExit ?_
                              refine Ends.anon (t := 8) (g := 5005) rfl rfl trivial rfl ?_
                              replace h := hD26 _ (some_eq h)
                              exact Ends.join _ (some_eq h) (.cons (t := 9) rfl (.cons (t := 15) rfl (.cons (t := 2) rfl (.cons (t := 3) rfl (.cons (t := 19) rfl (.cons (t := 20) rfl (.cons (t := 21) rfl (.cons (t := 26) rfl (.cons (t := 27) rfl (.cons (t := 28) rfl Sub.nil)))))))))) (.cons (t := 8) rfl SubB.nil)
                            · replace h := bif_f h hb41
                              refine Cod.skip ?_
                              refine Ends.then ?_
                              refine Cod.seq ?_
                              refine Cod.region [] mixed (by kernel_rfl) ?_
                              refine Chain.cons (StepOK.assign .none .bool) rfl ?_
                              refine Chain.nil ?_
                              refine Ends.then ?_
                              refine Cod.region [([], []), ([], []), ([], []), ([], []), ([], []), ([5005], [92, 5005]), ([], []), ([], []), ([], []), ([92], [8, 92]), ([], [])] mixed (by kernel_rfl) ?_
                              refine Chain.consA (StepOK.move .none (.tmp rfl (fun _ => trivial))) rfl ?_
                              refine Chain.consA (StepOK.move .none (.tmp rfl (fun _ => trivial))) rfl ?_
                              refine Chain.consA (StepOK.move .none (.tmp rfl (fun _ => trivial))) rfl ?_
                              obtain ⟨hn42, h⟩ := need_some h
                              refine Chain.consA (StepOK.sliceStr .none Tryd.underlying9 (.tmp rfl (fun _ => trivial)) rfl (.tmp rfl (fun _ => trivial)) (fun _ => hn42)) rfl ?_
                              refine Chain.consA (StepOK.buildSlice (xs := [_]) .none sl30 ty9 hz9 (.cons (.tmp rfl (fun _ => trivial)) .nil) rfl (by decide)) rfl ?_
                              obtain ⟨hn43, h⟩ := need_some h
                              refine Chain.consW (StepOK.append (k := 5005) rk30 rfl (.told (.tmp rfl (fun _ => trivial)) rfl) (.tmp rfl (fun _ => trivial)) hn43) rfl rfl ?_
                              refine Chain.consA (StepOK.move .none (.tmp rfl (fun _ => trivial))) rfl ?_
                              refine Chain.consA (StepOK.move .none (.tmp rfl (fun _ => trivial))) rfl ?_
                              obtain ⟨hn44, h⟩ := need_some h
                              refine Chain.consA (StepOK.sliceStr .none Tryd.underlying9 (.tmp rfl (fun _ => trivial)) (.tmp rfl (fun _ => trivial)) rfl (fun _ => hn44)) rfl ?_
                              refine Chain.consW (StepOK.passRow rfl (.tmp rfl)) rfl rfl ?_
                              obtain ⟨w2, hv45, h⟩ := bnd_some h
                              refine Chain.consA (StepOK.re hv45 (StepOK.assign .none (.tmp rfl (fun _ => trivial)))) rfl ?_
                              refine Chain.nil ?_
                              refine Ends.blkNormal ?_
                              exact Ends.againL (some_eq h) (.cons (t := 9) rfl (.cons (t := 15) rfl (.cons (t := 2) rfl (.cons (t := 3) rfl (.cons (t := 19) rfl (.cons (t := 20) rfl (.cons (t := 21) rfl (.cons (t := 26) rfl (.cons (t := 27) rfl (.cons (t := 28) rfl Sub.nil)))))))))) (.cons (t := 8) rfl SubB.nil)
                      · replace h := bif_f h hb28
                        refine Cod.exit ?_
                        refine Ends.thenExit ?_
                        refine Ends.thenExit ?_
                        refine Ends.blkExit ?_
                        refine Ends.anon (t := 8) (g := 5005) rfl rfl trivial rfl ?_
                        replace h := hD26 _ (some_eq h)
                        exact Ends.join _ (some_eq h) (.cons (t := 9) rfl (.cons (t := 15) rfl (.cons (t := 2) rfl (.cons (t := 3) rfl (.cons (t := 19) rfl (.cons (t := 20) rfl (.cons (t := 21) rfl (.cons (t := 26) rfl (.cons (t := 27) rfl (.cons (t := 28) rfl Sub.nil)))))))))) (.cons (t := 8) rfl SubB.nil)
                    · subst hj25; have h := hK25; clear hK25
                      refine Cod.nameRow (t := 8) (g := 5007) rfl rfl rfl (fun s5007 => ?_)
                      refine Cod.region [] mixed (by kernel_rfl) ?_
                      refine Chain.cons (StepOK.move .none (.tmp rfl (fun _ => trivial))) rfl ?_
                      refine Chain.cons (StepOK.assign .none (.tmp rfl (fun _ => trivial))) rfl ?_
                      refine Chain.cons (StepOK.assign .none .bool) rfl ?_
                      refine Chain.nil ?_
                      refine Ends.blkNormal ?_
                      refine Ends.anon (t := 8) (g := 5007) rfl rfl trivial rfl ?_
                      exact Ends.join _ (some_eq h) (.cons (t := 9) rfl (.cons (t := 12) rfl (.cons (t := 13) rfl (.cons (t := 2) rfl (.cons (t := 3) rfl (.cons (t := 19) rfl (.cons (t := 20) rfl (.cons (t := 21) rfl (.cons (t := 26) rfl (.cons (t := 27) rfl (.cons (t := 28) rfl Sub.nil))))))))))) (.cons (t := 8) rfl SubB.nil)
            · subst hj11; have h := hK11; clear hK11
              refine Cod.nameRow (t := 8) (g := 5008) rfl rfl rfl (fun s5008 => ?_)
              refine Cod.region [] mixed (by kernel_rfl) ?_
              refine Chain.cons (StepOK.addW .none (.tmp rfl (fun _ => trivial)) (.int (by decide))) rfl ?_
              refine Chain.cons (StepOK.move .none (.tmp rfl (fun _ => trivial))) rfl ?_
              refine Chain.nil ?_
              refine Ends.anon (t := 8) (g := 5008) rfl rfl trivial rfl ?_
              exact Ends.againL (some_eq h) (.cons (t := 28) rfl (.cons (t := 9) rfl (.cons (t := 12) rfl (.cons (t := 13) rfl (.cons (t := 2) rfl (.cons (t := 3) rfl (.cons (t := 19) rfl (.cons (t := 20) rfl (.cons (t := 21) rfl (.cons (t := 26) rfl (.cons (t := 27) rfl Sub.nil))))))))))) (.cons (t := 8) rfl SubB.nil)
          · replace h := bif_f h hb10
            refine Cod.exit ?_
            refine Ends.thenExit ?_
            refine Ends.thenExit ?_
            refine Ends.blkExit ?_
            refine Ends.anon (t := 8) (g := 5003) rfl rfl trivial rfl ?_
            replace h := hD9 _ (some_eq h)
            exact Ends.join _ (some_eq h) (.cons (t := 9) rfl (.cons (t := 12) rfl (.cons (t := 13) rfl (.cons (t := 2) rfl (.cons (t := 3) rfl (.cons (t := 19) rfl (.cons (t := 20) rfl (.cons (t := 21) rfl Sub.nil)))))))) (.cons (t := 8) rfl SubB.nil)
        · subst hj8; have h := hK8; clear hK8
          refine Cod.nameRow (t := 8) (g := 5009) rfl rfl rfl (fun s5009 => ?_)
          refine Cod.region [([], []), ([], []), ([], []), ([5009], [101, 5009]), ([101], [8, 101])] mixed (by kernel_rfl) ?_
          refine Chain.consA (StepOK.move .none (.tmp rfl (fun _ => trivial))) rfl ?_
          refine Chain.consA (StepOK.move .none (.tmp rfl (fun _ => trivial))) rfl ?_
          refine Chain.consA (StepOK.buildSlice (xs := [_]) .none sl30 ty9 hz9 (.cons (.tmp rfl (fun _ => trivial)) .nil) rfl (by decide)) rfl ?_
          obtain ⟨hn46, h⟩ := need_some h
          refine Chain.consW (StepOK.append (k := 5009) rk30 rfl (.told (.tmp rfl (fun _ => trivial)) rfl) (.tmp rfl (fun _ => trivial)) hn46) rfl rfl ?_
          refine Chain.consWD (StepOK.passRow rfl (.tmp rfl)) rfl rfl ?_
          refine Chain.nil ?_
          refine Ends.blkNormal ?_
          exact Ends.join _ (some_eq h) (.cons (t := 9) rfl (.cons (t := 2) rfl (.cons (t := 3) rfl (.cons (t := 19) rfl (.cons (t := 20) rfl (.cons (t := 21) rfl Sub.nil)))))) (.cons (t := 8) rfl SubB.nil)
      · subst hj5; have h := hK5; clear hK5
        refine Cod.nameRow (t := 8) (g := 5010) rfl rfl rfl (fun s5010 => ?_)
        refine Cod.region [] mixed (by kernel_rfl) ?_
        refine Chain.cons (StepOK.addW .none (.tmp rfl (fun _ => trivial)) (.int (by decide))) rfl ?_
        refine Chain.cons (StepOK.move .none (.tmp rfl (fun _ => trivial))) rfl ?_
        refine Chain.nil ?_
        refine Ends.anon (t := 8) (g := 5010) rfl rfl trivial rfl ?_
        exact Ends.againL (some_eq h) (.cons (t := 21) rfl (.cons (t := 9) rfl (.cons (t := 2) rfl (.cons (t := 3) rfl (.cons (t := 19) rfl (.cons (t := 20) rfl Sub.nil)))))) (.cons (t := 8) rfl SubB.nil)
    · replace h := bif_f h hb4
      refine Cod.exit ?_
      refine Ends.thenExit ?_
      refine Ends.thenExit ?_
      refine Ends.blkExit ?_
      refine Ends.anon (t := 8) (g := 5002) rfl rfl trivial rfl ?_
      replace h := hD3 _ (some_eq h)
      exact Ends.join _ (some_eq h) (.cons (t := 9) rfl Sub.nil) (.cons (t := 8) rfl SubB.nil)
  · subst hj2; have h := hK2; clear hK2
    refine Cod.freezeRowA (t := 8) rfl rfl SubB.nil rfl ?_
    refine Cod.seq ?_
    refine Cod.region [] mixed (by kernel_rfl) ?_
    refine Chain.cons (StepOK.move .none (.tmp rfl (fun _ => trivial))) rfl ?_
    refine Chain.cons (StepOK.move .none (.tmp rfl (fun _ => trivial))) rfl ?_
    refine Chain.cons (StepOK.assign .none (.tmp rfl (fun _ => trivial))) rfl ?_
    refine Chain.cons (StepOK.assign .none (.tmp rfl (fun _ => trivial))) rfl ?_
    refine Chain.nil ?_
    refine Ends.then ?_
    refine Cod.ret ?_
    obtain rfl := some_eq h
    exact Ends.ret2 (.inl rfl) Tryd.results24 (ResOK.tmp rfl trivial Imp.refl) (ResOK.tmp rfl trivial Imp.refl)

theorem ref_Widest_ok {f1 : Font} {l1 : (List Str)} {r : Int}  (h : ref_Widest f1 l1 = some r) : FSpec Tryd.prog 61 [rep f1, rep l1] (rep r) := by
  unfold ref_Widest at h
  refine FSpec.intro (n := 21) fnok61 Tryd.func61 rfl Tryd.ntmps61 rfl (fun F => ?_)
  refine Cod.seq ?_
  refine Cod.region [] mixed (by kernel_rfl) ?_
  refine Chain.cons (StepOK.box .none (.tmp rfl (fun _ => trivial))) rfl ?_
  refine Chain.cons (StepOK.assign .none (.int (by decide))) rfl ?_
  refine Chain.nil ?_
  refine Ends.then ?_
  refine Cod.seq ?_
  refine Cod.region [] mixed (by kernel_rfl) ?_
  refine Chain.cons (StepOK.assign .none (.int (by decide))) rfl ?_
  refine Chain.nil ?_
  refine Ends.then ?_
  refine Cod.seq ?_
  refine Cod.seq ?_
  refine Cod.region [] mixed (by kernel_rfl) ?_
  refine Chain.cons (StepOK.move .none (.tmp rfl (fun _ => trivial))) rfl ?_
  refine Chain.cons (StepOK.len .none sl30 (.tmp rfl (fun _ => trivial))) rfl ?_
  refine Chain.cons (StepOK.move .none (.int (by decide))) rfl ?_
  refine Chain.nil ?_
  refine Ends.then ?_
  obtain ⟨j_1, h, hK1⟩ := bind_some h
  refine Cod.thenJ (ι := Int) (fun j_1 => [(5, ⟨True, rep j_1⟩)]) (fun j_1 => []) (fun s => j_1 = s) Sub.nil SubB.nil ?_ (fun j_1' hj1 => ?_)
  · skip
    refine Cod.block ?_
    refine Cod.rforL h (fun p2_ => [(10, ⟨True, rep p2_.1⟩), (5, ⟨True, rep p2_.2⟩)]) (fun p2_ => []) (.cons (t := 10) rfl (.cons (t := 5) rfl Sub.nil)) SubB.nil (.cons (t := 2) rfl (.cons (t := 8) rfl (.cons (t := 9) rfl Sub.nil))) SubB.nil (fun p2_ o_2 h hD2 => ?_)
    refine Cod.seq ?_
    refine Cod.region [] mixed (by kernel_rfl) ?_
    refine Chain.cons (StepOK.lt .none (.tmp rfl (fun _ => trivial)) (.tmp rfl (fun _ => trivial))) rfl ?_
    refine Chain.nil ?_
    refine Ends.then ?_
    refine Cod.seq ?_
    refine Cod.cond (t := 11) rfl trivial (fun hb3 => ?_) (fun hb3 => ?_)
    · replace h := bif_t h hb3
      refine Cod.skip ?_
      refine Ends.then ?_
      refine Cod.seq ?_
      obtain ⟨j_4, h, hK4⟩ := bind_some h
      unfold ref_Widest_L1 at h
      refine Cod.thenJ (ι := Int) (fun j_4 => [(5, ⟨True, rep j_4⟩)]) (fun j_4 => []) (fun s => j_4 = s) (.cons (t := 2) rfl (.cons (t := 8) rfl (.cons (t := 9) rfl (.cons (t := 10) rfl Sub.nil)))) SubB.nil ?_ (fun j_4' hj4 => ?_)
      · skip
        refine Cod.block ?_
        refine Cod.seq ?_
        refine Cod.region [] mixed (by kernel_rfl) ?_
        obtain ⟨hn5, h⟩ := need_some h
        refine Chain.cons (StepOK.indexAddr .none sl30 ty9 (.tmp rfl (fun _ => trivial)) (.tmp rfl (fun _ => trivial)) (fun _ => hn5)) rfl ?_
        refine Chain.cons (StepOK.load .none ty9 (.tmp rfl (fun _ => trivial))) rfl ?_
        refine Chain.cons (StepOK.assign .none (.tmp rfl (fun _ => trivial))) rfl ?_
        refine Chain.nil ?_
        refine Ends.then ?_
        refine Cod.region [] mixed (by kernel_rfl) ?_
        refine Chain.cons (StepOK.move .none (.tmp rfl (fun _ => trivial))) rfl ?_
        refine Chain.cons (StepOK.load .none ty23 (.tmp rfl (fun _ => trivial))) rfl ?_
        refine Chain.cons (StepOK.move .none (.tmp rfl (fun _ => trivial))) rfl ?_
        obtain ⟨r1, hv6, h⟩ := bind_some h
        refine Chain.cons (StepOK.call .none (ref_WidthOf_ok hv6) (.cons (.tmp rfl (fun _ => trivial)) (.cons (.tmp rfl (fun _ => trivial)) .nil))) rfl ?_
        refine Chain.cons (StepOK.max2 .none (.tmp rfl (fun _ => trivial)) (.tmp rfl (fun _ => trivial))) rfl ?_
        obtain ⟨n1, hv7, h⟩ := bnd_some h
        refine Chain.cons (StepOK.re hv7 (StepOK.assign .none (.tmp rfl (fun _ => trivial)))) rfl ?_
        refine Chain.nil ?_
        refine Ends.blkNormal ?_
        exact Ends.join _ (some_eq h) (.cons (t := 5) rfl (.cons (t := 2) rfl (.cons (t := 8) rfl (.cons (t := 9) rfl (.cons (t := 10) rfl Sub.nil))))) SubB.nil
      · subst hj4; have h := hK4; clear hK4
        refine Cod.region [] mixed (by kernel_rfl) ?_
        refine Chain.cons (StepOK.addW .none (.tmp rfl (fun _ => trivial)) (.int (by decide))) rfl ?_
        refine Chain.cons (StepOK.move .none (.tmp rfl (fun _ => trivial))) rfl ?_
        refine Chain.nil ?_
        exact Ends.againL (some_eq h) (.cons (t := 10) rfl (.cons (t := 5) rfl (.cons (t := 2) rfl (.cons (t := 8) rfl (.cons (t := 9) rfl Sub.nil))))) SubB.nil
    · replace h := bif_f h hb3
      refine Cod.exit ?_
      refine Ends.thenExit ?_
      refine Ends.thenExit ?_
      refine Ends.blkExit ?_
      replace h := hD2 _ (some_eq h)
      exact Ends.join _ (some_eq h) (.cons (t := 5) rfl Sub.nil) SubB.nil
  · subst hj1; have h := hK1; clear hK1
    refine Cod.seq ?_
    refine Cod.region [] mixed (by kernel_rfl) ?_
    refine Chain.cons (StepOK.move .none (.tmp rfl (fun _ => trivial))) rfl ?_
    refine Chain.cons (StepOK.assign .none (.tmp rfl (fun _ => trivial))) rfl ?_
    refine Chain.nil ?_
    refine Ends.then ?_
    refine Cod.ret ?_
    obtain rfl := some_eq h
    exact Ends.ret1 (.inl rfl) Tryd.results61 (ResOK.tmp rfl trivial Imp.refl)

theorem ref_FitOf_1_ok {b1 : Box} {c0_1 : Int} {c1_1 : Int} {c2_1 : Int} {r : Bool}  (h : ref_FitOf_1 b1 c0_1 c1_1 c2_1 = some r) : FSpec Tryd.prog 62 [rep b1, ref c0_1, ref c1_1, ref c2_1] (rep r) := by
  unfold ref_FitOf_1 at h
  refine FSpec.intro (n := 24) fnok62 Tryd.func62 rfl Tryd.ntmps62 rfl (fun F => ?_)
  refine Cod.seq ?_
  refine Cod.region [] mixed (by kernel_rfl) ?_
  refine Chain.cons (StepOK.box .none (.tmp rfl (fun _ => trivial))) rfl ?_
  refine Chain.cons (StepOK.assign .none .bool) rfl ?_
  refine Chain.nil ?_
  refine Ends.then ?_
  refine Cod.seq ?_
  refine Cod.region [([], []), ([], []), ([], []), ([], []), ([], []), ([], []), ([], []), ([], []), ([], []), ([], [6]), ([6], [6]), ([], [])] mixed (by kernel_rfl) ?_
  refine Chain.consA (StepOK.load .none ty3 (.tmp rfl (fun _ => trivial))) rfl ?_
  refine Chain.consA (StepOK.fieldAddr .none fd48_3 hfd48_3 (.tmp rfl (fun _ => trivial))) rfl ?_
  refine Chain.consA (StepOK.load .none ty3 (.tmp rfl (fun _ => trivial))) rfl ?_
  refine Chain.consA (StepOK.buildF (y := (⟨(0 : Int), (0 : Int), 200000, b1.H⟩ : Box)) .none bu48 zc48 rfl (.cons (.int (by decide)) (.cons (.tmp rfl (fun _ => trivial)) .nil)) (.cons rfl sf48_2 (.cons rfl sf48_3 .nil))) rfl ?_
  refine Chain.consA (StepOK.load .none ty3 (.tmp rfl (fun _ => trivial))) rfl ?_
  obtain ⟨r1, hv1, h⟩ := bind_some h
  refine Chain.consA (StepOK.call .none (ref_InnerOf_ok hv1) (.cons (.tmp rfl (fun _ => trivial)) (.cons (.tmp rfl (fun _ => trivial)) (.cons (.tmp rfl (fun _ => trivial)) .nil)))) rfl ?_
  refine Chain.consA (StepOK.move .none (.tmp rfl (fun _ => trivial))) rfl ?_
  refine Chain.consA (StepOK.extract .none (.tmp rfl (fun _ => trivial)) rfl) rfl ?_
  refine Chain.consA (StepOK.extract .none (.tmp rfl (fun _ => trivial)) rfl) rfl ?_
  refine Chain.consW (StepOK.alloc zo48 rfl) rfl rfl ?_
  refine Chain.consN (StepOK.store ty48 rfl rfl (.tmp rfl (fun _ => trivial))) rfl ?_
  refine Chain.consA (StepOK.assign .none (.tmp rfl (fun _ => trivial))) rfl ?_
  refine Chain.nil ?_
  refine Ends.then ?_
  refine Cod.freeze (t := 6) rfl rfl SubB.nil rfl ?_
  refine Cod.seq ?_
  refine Cod.region [] mixed (by kernel_rfl) ?_
  refine Chain.cons (StepOK.move .none (.tmp rfl (fun _ => trivial))) rfl ?_
  refine Chain.cons (StepOK.move .none (.tmp rfl (fun _ => trivial))) rfl ?_
  refine Chain.cons (StepOK.fieldAddr (.at rfl rfl) fd48_3 hfd48_3 (.tmp rfl (fun _ => trivial))) rfl ?_
  refine Chain.cons (StepOK.load (.at rfl rfl) ty3 (.tmp rfl id)) rfl ?_
  refine Chain.cons (StepOK.load (.at rfl rfl) ty3 (.tmp rfl (fun _ => trivial))) rfl ?_
  refine Chain.cons (StepOK.ge (.at rfl rfl) (.tmp rfl id) (.tmp rfl id)) rfl ?_
  refine Chain.cons (StepOK.pickAnd .none (.tmp rfl (fun _ => trivial)) (.tmp rfl id)) rfl ?_
  refine Chain.cons (StepOK.assign .none (.tmp rfl (fun _ => trivial))) rfl ?_
  refine Chain.nil ?_
  refine Ends.then ?_
  refine Cod.ret ?_
  obtain rfl := some_eq h
  exact Ends.ret1 (.inl rfl) Tryd.results62 (ResOK.tmp rfl trivial Imp.refl)

theorem ref_FitOf_ok {f1 : Font} {text1 : Str} {kind1 : Int} {pad1 : Int} {most1 : Int} {r : (Int × Int × Int)}  (h : ref_FitOf f1 text1 kind1 pad1 most1 = some r) : FSpec Tryd.prog 33 [rep f1, rep text1, rep kind1, rep pad1, rep most1] (tup [rep r.1, rep r.2.1, rep r.2.2]) := by
  unfold ref_FitOf at h
  refine FSpec.intro (n := 109) fnok33 Tryd.func33 rfl Tryd.ntmps33 rfl (fun F => ?_)
  refine Cod.seq ?_
  refine Cod.region [] mixed (by kernel_rfl) ?_
  refine Chain.cons (StepOK.box .none (.tmp rfl (fun _ => trivial))) rfl ?_
  refine Chain.cons (StepOK.box .none (.tmp rfl (fun _ => trivial))) rfl ?_
  refine Chain.cons (StepOK.box .none (.tmp rfl (fun _ => trivial))) rfl ?_
  refine Chain.cons (StepOK.assign .none (.int (by decide))) rfl ?_
  refine Chain.cons (StepOK.assign .none (.int (by decide))) rfl ?_
  refine Chain.cons (StepOK.assign .none (.int (by decide))) rfl ?_
  refine Chain.nil ?_
  refine Ends.then ?_
  refine Cod.seq ?_
  refine Cod.region [([], [14]), ([], []), ([14], [14]), ([], [])] mixed (by kernel_rfl) ?_
  refine Chain.consW (StepOK.alloc zo3 rfl) rfl rfl ?_
  refine Chain.consA (StepOK.assign .none (.int (by decide))) rfl ?_
  refine Chain.consN (StepOK.store ty3 rfl rfl (.int (by decide))) rfl ?_
  refine Chain.consA (StepOK.assign .none (.int (by decide))) rfl ?_
  refine Chain.nil ?_
  refine Ends.then ?_
  refine Cod.nameBox (t := 14) (g := 5001) rfl rfl (fun m5001 => ?_)
  refine Cod.seq ?_
  refine Cod.seq ?_
  refine Cod.region [] mixed (by kernel_rfl) ?_
  refine Chain.cons (StepOK.assign .none (.int (by decide))) rfl ?_
  refine Chain.nil ?_
  refine Ends.then ?_
  obtain ⟨j_1, h, hK1⟩ := bind_some h
  refine Cod.thenJ (ι := (Int × Int × Int)) (fun j_1 => [(13, ⟨True, rep j_1.1⟩), (15, ⟨True, rep j_1.2.1⟩)]) (fun j_1 => [(5001, some (boxAt m5001 3 j_1.2.2))]) (fun s => j_1 = s) (.cons (t := 7) rfl (.cons (t := 8) rfl (.cons (t := 14) rfl Sub.nil))) SubB.nil ?_ (fun j_1' hj1 => ?_)
  · skip
    refine Cod.block ?_
    refine Cod.loopL h (fun s2_ => [(13, ⟨True, rep s2_.1⟩), (15, ⟨True, rep s2_.2.1⟩), (16, ⟨True, rep s2_.2.2.1⟩)]) (fun s2_ => [(5001, some (boxAt m5001 3 s2_.2.2.2))]) (.cons (t := 13) rfl (.cons (t := 15) rfl (.cons (t := 16) rfl Sub.nil))) (.cons (t := 5001) rfl SubB.nil) (.cons (t := 1) rfl (.cons (t := 4) rfl (.cons (t := 5) rfl (.cons (t := 7) rfl (.cons (t := 8) rfl (.cons (t := 14) rfl Sub.nil)))))) SubB.nil (fun s2_ o_2 h hD2 => ?_)
    unfold ref_FitOf_L1 at h
    refine Cod.seq ?_
    refine Cod.seq ?_
    refine Cod.region [] mixed (by kernel_rfl) ?_
    refine Chain.cons (StepOK.move .none (.tmp rfl (fun _ => trivial))) rfl ?_
    refine Chain.cons (StepOK.move .none (.tmp rfl (fun _ => trivial))) rfl ?_
    refine Chain.cons (StepOK.le .none (.tmp rfl (fun _ => trivial)) (.tmp rfl (fun _ => trivial))) rfl ?_
    refine Chain.nil ?_
    refine Ends.then ?_
    refine Cod.cond (t := 27) rfl trivial (fun hb3 => ?_) (fun hb3 => ?_)
    · replace h := bif_t h hb3
      refine Cod.skip ?_
      refine Ends.then ?_
      refine Cod.seq ?_
      obtain ⟨j_4, h, hK4⟩ := bind_some h
      refine Cod.thenJ (ι := (Int × Int × Int)) (fun j_4 => [(13, ⟨True, rep j_4.1⟩), (15, ⟨True, rep j_4.2.1⟩)]) (fun j_4 => [(5001, some (boxAt m5001 3 j_4.2.2))]) (fun s => j_4 = s) (.cons (t := 1) rfl (.cons (t := 4) rfl (.cons (t := 5) rfl (.cons (t := 7) rfl (.cons (t := 8) rfl (.cons (t := 14) rfl (.cons (t := 16) rfl Sub.nil))))))) SubB.nil ?_ (fun j_4' hj4 => ?_)
      · skip
        refine Cod.block ?_
        refine Cod.seq ?_
        refine Cod.region [] mixed (by kernel_rfl) ?_
        refine Chain.cons (StepOK.load .none ty23 (.tmp rfl (fun _ => trivial))) rfl ?_
        refine Chain.cons (StepOK.move .none (.tmp rfl (fun _ => trivial))) rfl ?_
        refine Chain.cons (StepOK.move .none (.tmp rfl (fun _ => trivial))) rfl ?_
        obtain ⟨r1, hv5, h⟩ := bind_some h
        refine Chain.cons (StepOK.call .none (ref_WrapOf_ok hv5) (.cons (.tmp rfl (fun _ => trivial)) (.cons (.tmp rfl (fun _ => trivial)) (.cons (.tmp rfl (fun _ => trivial)) .nil)))) rfl ?_
        refine Chain.cons (StepOK.move .none (.tmp rfl (fun _ => trivial))) rfl ?_
        refine Chain.cons (StepOK.extract .none (.tmp rfl (fun _ => trivial)) rfl) rfl ?_
        refine Chain.cons (StepOK.extract .none (.tmp rfl (fun _ => trivial)) rfl) rfl ?_
        refine Chain.cons (StepOK.assign .none (.tmp rfl (fun _ => trivial))) rfl ?_
        refine Chain.cons (StepOK.assign .none (.tmp rfl (fun _ => trivial))) rfl ?_
        refine Chain.nil ?_
        refine Ends.then ?_
        refine Cod.seq ?_
        refine Cod.seq ?_
        refine Cod.region [] mixed (by kernel_rfl) ?_
        refine Chain.cons (StepOK.move .none (.tmp rfl (fun _ => trivial))) rfl ?_
        refine Chain.cons (StepOK.move .none (.tmp rfl (fun _ => trivial))) rfl ?_
        refine Chain.cons (StepOK.load (.at rfl rfl) ty23 (.tmp rfl (fun _ => trivial))) rfl ?_
        refine Chain.cons (StepOK.move (.at rfl rfl) (.tmp rfl (fun _ => trivial))) rfl ?_
        obtain ⟨r2, hv6, h⟩ := bind_some h
        refine Chain.cons (StepOK.callIf (.at rfl rfl) fnok61 (fun hg => ref_Widest_ok ((fun hg => gd_some hv6 ((notT hg.2))) hg)) (.cons (.tmp rfl id) (.cons (.tmp rfl id) .nil)) (fun h => h)) rfl ?_
        refine Chain.cons (StepOK.move (.at rfl rfl) (.tmp rfl (fun _ => trivial))) rfl ?_
        refine Chain.cons (StepOK.gt (.at rfl rfl) (.tmp rfl id) (.tmp rfl id)) rfl ?_
        refine Chain.cons (StepOK.pickOr .none (.tmp rfl (fun _ => trivial)) (.tmp rfl id)) rfl ?_
        refine Chain.nil ?_
        refine Ends.then ?_
        refine Cod.cond (t := 44) rfl trivial (fun hb7 => ?_) (fun hb7 => ?_)
        · replace h := bif_t h hb7
          refine Cod.exit ?_
          refine Ends.thenExit ?_
          refine Ends.blkExit ?_
          exact Ends.join _ (some_eq h) (.cons (t := 13) rfl (.cons (t := 15) rfl (.cons (t := 1) rfl (.cons (t := 4) rfl (.cons (t := 5) rfl (.cons (t := 7) rfl (.cons (t := 8) rfl (.cons (t := 14) rfl (.cons (t := 16) rfl Sub.nil))))))))) (.cons (t := 5001) rfl SubB.nil)
        · replace h := bif_f h hb7
          refine Cod.skip ?_
          refine Ends.then ?_
          refine Cod.seq ?_
          refine Cod.region [] mixed (by kernel_rfl) ?_
          refine Chain.cons (StepOK.load .none ty23 (.tmp rfl (fun _ => trivial))) rfl ?_
          refine Chain.cons (StepOK.move .none (.tmp rfl (fun _ => trivial))) rfl ?_
          obtain ⟨r3, hv8, h⟩ := bind_some h
          refine Chain.cons (StepOK.call .none (ref_Widest_ok hv8) (.cons (.tmp rfl (fun _ => trivial)) (.cons (.tmp rfl (fun _ => trivial)) .nil))) rfl ?_
          refine Chain.cons (StepOK.max2 .none (.int (by decide)) (.tmp rfl (fun _ => trivial))) rfl ?_
          refine Chain.cons (StepOK.move .none (.tmp rfl (fun _ => trivial))) rfl ?_
          refine Chain.cons (StepOK.len .none sl30 (.tmp rfl (fun _ => trivial))) rfl ?_
          refine Chain.cons (StepOK.fieldAddr .none fd23_0 hfd23_0 (.tmp rfl (fun _ => trivial))) rfl ?_
          refine Chain.cons (StepOK.load .none ty3 (.tmp rfl (fun _ => trivial))) rfl ?_
          refine Chain.cons (StepOK.mulW .none (.tmp rfl (fun _ => trivial)) (.tmp rfl (fun _ => trivial))) rfl ?_
          obtain ⟨a1, hv9, h⟩ := bnd_some h
          refine Chain.cons (StepOK.re hv9 (StepOK.assign .none (.tmp rfl (fun _ => trivial)))) rfl ?_
          obtain ⟨b1, hv10, h⟩ := bnd_some h
          refine Chain.cons (StepOK.re hv10 (StepOK.assign .none (.tmp rfl (fun _ => trivial)))) rfl ?_
          refine Chain.nil ?_
          refine Ends.then ?_
          refine Cod.seq ?_
          refine Cod.region [] mixed (by kernel_rfl) ?_
          refine Chain.cons (StepOK.move .none (.tmp rfl (fun _ => trivial))) rfl ?_
          refine Chain.cons (StepOK.lt .none (.tmp rfl (fun _ => trivial)) (.int (by decide))) rfl ?_
          refine Chain.cons (StepOK.move .none (.tmp rfl (fun _ => trivial))) rfl ?_
          refine Chain.cons (StepOK.move (.at rfl rfl) (.tmp rfl (fun _ => trivial))) rfl ?_
          refine Chain.cons (StepOK.move (.at rfl rfl) (.tmp rfl (fun _ => trivial))) rfl ?_
          refine Chain.cons (StepOK.addW (.at rfl rfl) (.tmp rfl id) (.tmp rfl id)) rfl ?_
          refine Chain.cons (StepOK.move (.at rfl rfl) (.tmp rfl (fun _ => trivial))) rfl ?_
          refine Chain.cons (StepOK.lt (.at rfl rfl) (.tmp rfl id) (.tmp rfl id)) rfl ?_
          refine Chain.cons (StepOK.pickOr .none (.tmp rfl (fun _ => trivial)) (.tmp rfl id)) rfl ?_
          refine Chain.nil ?_
          refine Ends.then ?_
          refine Cod.cond (t := 62) rfl trivial (fun hb11 => ?_) (fun hb11 => ?_)
          · replace h := bif_t h hb11
            refine Cod.region [([], []), ([], []), ([], []), ([], []), ([], []), ([], []), ([5001], [5001]), ([], [])] mixed (by kernel_rfl) ?_
            refine Chain.consA (StepOK.move .none (.tmp rfl (fun _ => trivial))) rfl ?_
            refine Chain.consA (StepOK.move .none (.tmp rfl (fun _ => trivial))) rfl ?_
            refine Chain.consA (StepOK.move .none (.tmp rfl (fun _ => trivial))) rfl ?_
            refine Chain.consA (StepOK.move .none (.tmp rfl (fun _ => trivial))) rfl ?_
            refine Chain.consA (StepOK.addW .none (.tmp rfl (fun _ => trivial)) (.tmp rfl (fun _ => trivial))) rfl ?_
            refine Chain.consA (StepOK.assign .none (.tmp rfl (fun _ => trivial))) rfl ?_
            refine Chain.consN (StepOK.storeAt0 (g := 5001) ty3 rfl (.tmp rfl (fun _ => trivial)) (.tmp rfl (fun _ => trivial))) rfl ?_
            obtain ⟨sum1, hv12, h⟩ := bnd_some h
            refine Chain.consA (StepOK.re hv12 (StepOK.assign .none (.tmp rfl (fun _ => trivial)))) rfl ?_
            refine Chain.nil ?_
            refine Ends.blkNormal ?_
            exact Ends.join _ (some_eq h) (.cons (t := 13) rfl (.cons (t := 15) rfl (.cons (t := 1) rfl (.cons (t := 4) rfl (.cons (t := 5) rfl (.cons (t := 7) rfl (.cons (t := 8) rfl (.cons (t := 14) rfl (.cons (t := 16) rfl Sub.nil))))))))) (.cons (t := 5001) rfl SubB.nil)
          · replace h := bif_f h hb11
            refine Cod.skip ?_
            refine Ends.blkNormal ?_
            exact Ends.join _ (some_eq h) (.cons (t := 13) rfl (.cons (t := 15) rfl (.cons (t := 1) rfl (.cons (t := 4) rfl (.cons (t := 5) rfl (.cons (t := 7) rfl (.cons (t := 8) rfl (.cons (t := 14) rfl (.cons (t := 16) rfl Sub.nil))))))))) (.cons (t := 5001) rfl SubB.nil)
      · subst hj4; have h := hK4; clear hK4
        refine Cod.region [] mixed (by kernel_rfl) ?_
        refine Chain.cons (StepOK.move .none (.tmp rfl (fun _ => trivial))) rfl ?_
        refine Chain.cons (StepOK.addW .none (.tmp rfl (fun _ => trivial)) (.int (by decide))) rfl ?_
        obtain ⟨width1, hv13, h⟩ := bnd_some h
        refine Chain.cons (StepOK.re hv13 (StepOK.assign .none (.tmp rfl (fun _ => trivial)))) rfl ?_
        refine Chain.nil ?_
        exact Ends.againL (some_eq h) (.cons (t := 13) rfl (.cons (t := 15) rfl (.cons (t := 16) rfl (.cons (t := 1) rfl (.cons (t := 4) rfl (.cons (t := 5) rfl (.cons (t := 7) rfl (.cons (t := 8) rfl (.cons (t := 14) rfl Sub.nil))))))))) (.cons (t := 5001) rfl SubB.nil)
    · replace h := bif_f h hb3
      refine Cod.exit ?_
      refine Ends.thenExit ?_
      refine Ends.thenExit ?_
      refine Ends.blkExit ?_
      replace h := hD2 _ (some_eq h)
      exact Ends.join _ (some_eq h) (.cons (t := 13) rfl (.cons (t := 15) rfl (.cons (t := 7) rfl (.cons (t := 8) rfl (.cons (t := 14) rfl Sub.nil))))) (.cons (t := 5001) rfl SubB.nil)
  · subst hj1; have h := hK1; clear hK1
    refine Cod.freezeBox (g := 5001) (ts := [14]) rfl (.cons (t := 14) rfl trivial .nil) SubB.nil rfl ?_
    refine Cod.seq ?_
    refine Cod.seq ?_
    refine Cod.region [] mixed (by kernel_rfl) ?_
    refine Chain.cons (StepOK.move .none (.tmp rfl (fun _ => trivial))) rfl ?_
    refine Chain.cons (StepOK.lt .none (.tmp rfl (fun _ => trivial)) (.int (by decide))) rfl ?_
    refine Chain.nil ?_
    refine Ends.then ?_
    refine Cod.cond (t := 69) rfl trivial (fun hb14 => ?_) (fun hb14 => ?_)
    · replace h := bif_t h hb14
      refine Cod.seq ?_
      refine Cod.region [] mixed (by kernel_rfl) ?_
      refine Chain.cons (StepOK.assign .none (.int (by decide))) rfl ?_
      refine Chain.cons (StepOK.assign .none (.int (by decide))) rfl ?_
      refine Chain.cons (StepOK.assign .none (.int (by decide))) rfl ?_
      refine Chain.nil ?_
      refine Ends.then ?_
      refine Cod.ret ?_
      refine Ends.thenRet ?_
      obtain rfl := some_eq h
      exact Ends.ret3 (.inl rfl) Tryd.results33 (ResOK.tmp rfl trivial Imp.refl) (ResOK.tmp rfl trivial Imp.refl) (ResOK.tmp rfl trivial Imp.refl)
    · replace h := bif_f h hb14
      refine Cod.skip ?_
      refine Ends.then ?_
      refine Cod.seq ?_
      refine Cod.region [([], []), ([], [21]), ([21], [21])] mixed (by kernel_rfl) ?_
      obtain ⟨v1, hv15, h⟩ := bnd_some h
      refine Chain.consA (StepOK.re hv15 (StepOK.buildF (y := (⟨(0 : Int), (0 : Int), 1, 1⟩ : Box)) .none bu48 zc48 rfl (.cons (.int (by decide)) (.cons (.int (by decide)) .nil)) (.cons rfl sf48_2 (.cons rfl sf48_3 .nil)))) rfl ?_
      refine Chain.consW (StepOK.alloc zo48 rfl) rfl rfl ?_
      refine Chain.consN (StepOK.store ty48 rfl rfl (.tmp rfl (fun _ => trivial))) rfl ?_
      refine Chain.nil ?_
      refine Ends.then ?_
      refine Cod.nameBox (t := 21) (g := 5002) rfl rfl (fun m5002 => ?_)
      refine Cod.seq ?_
      refine Cod.region [] mixed (by kernel_rfl) ?_
      refine Chain.cons (StepOK.makeFunc (ι := Box × Bool) (pre := fun i => (fun x0 => ref_FitOf_1 x0 kind1 pad1 j_1.2.2) i.1 = some i.2) (Ss := fun i => [rep i.1]) (S := fun i => rep i.2) .none fnok62 (fun i h => ref_FitOf_1_ok h) (.cons (.tmp rfl (fun _ => trivial)) (.cons (.tmp rfl (fun _ => trivial)) (.cons (.tmp rfl (fun _ => trivial)) .nil)))) rfl ?_
      refine Chain.cons (StepOK.assign .none (.tmp rfl (fun _ => trivial))) rfl ?_
      refine Chain.nil ?_
      refine Ends.then ?_
      refine Cod.seq ?_
      obtain ⟨o_16, h, hK16⟩ := bindR_some h
      refine Cod.thenJ (ι := Box) (fun j_16 => []) (fun j_16 => [(5002, some (boxAt m5002 48 j_16))]) (fun s => o_16 = Res.nx s) (.cons (t := 7) rfl (.cons (t := 8) rfl (.cons (t := 13) rfl (.cons (t := 21) rfl Sub.nil)))) SubB.nil ?_ (fun j_16 hj16 => ?_)
      · skip
        refine Cod.block ?_
        refine Cod.loopL h (fun s17_ => []) (fun s17_ => [(5002, some (boxAt m5002 48 s17_))]) Sub.nil (.cons (t := 5002) rfl SubB.nil) (.cons (t := 7) rfl (.cons (t := 8) rfl (.cons (t := 13) rfl (.cons (t := 14) rfl (.cons (t := 21) rfl (.cons (t := 22) rfl Sub.nil)))))) SubB.nil (fun s17_ o_17 h hD17 => ?_)
        unfold ref_FitOf_L2 at h
        refine Cod.seq ?_
        refine Cod.seq ?_
        refine Cod.region [([], []), ([5002], []), ([], []), ([], [])] mixed (by kernel_rfl) ?_
        refine Chain.consA (StepOK.move .none (.tmp rfl (fun _ => trivial))) rfl ?_
        refine Chain.consA (StepOK.loadAt0 (k := 5002) .none ty48 rfl (.tmp rfl (fun _ => trivial))) rfl ?_
        obtain ⟨r4, hv18, h⟩ := bind_some h
        refine Chain.consA (StepOK.callV (s17_, r4) .none (.tmp rfl (fun _ => trivial)) (fun _ => hv18) (.cons (.tmp rfl (fun _ => trivial)) .nil)) rfl ?_
        refine Chain.consA (StepOK.not .none (.tmp rfl (fun _ => trivial))) rfl ?_
        refine Chain.nil ?_
        refine Ends.then ?_
        refine Cod.cond (t := 75) rfl trivial (fun hb19 => ?_) (fun hb19 => ?_)
        · replace h := bif_t h hb19
          refine Cod.skip ?_
          refine Ends.then ?_
          refine Cod.block ?_
          refine Cod.seq ?_
          refine Cod.region [([], []), ([5002], []), ([], []), ([], []), ([5002], [5002])] mixed (by kernel_rfl) ?_
          refine Chain.consA (StepOK.fieldPtr .none fd48_3 (.tmp rfl (fun _ => trivial))) rfl ?_
          refine Chain.consA (StepOK.loadAt (k := 5002) .none ty3 rfl (.tmp rfl (fun _ => trivial)) hfd48_3) rfl ?_
          obtain ⟨v2, hv20, h⟩ := bnd_some h
          refine Chain.consA (StepOK.re hv20 (StepOK.addW .none (.tmp rfl (fun _ => trivial)) (.int (by decide)))) rfl ?_
          refine Chain.consA (StepOK.fieldPtr .none fd48_3 (.tmp rfl (fun _ => trivial))) rfl ?_
          refine Chain.consN (StepOK.storeAt (g := 5002) ty3 rfl (.tmp rfl (fun _ => trivial)) sf48_3 (.tmp rfl (fun _ => trivial))) rfl ?_
          refine Chain.nil ?_
          refine Ends.then ?_
          obtain ⟨out1, hv21, h⟩ := bnd_some h
          refine Cod.reB (t := 5002) rfl (congrArg (fun y => boxAt m5002 48 y) hv21) ?_
          refine Cod.seq ?_
          refine Cod.region [([], []), ([5002], []), ([], [])] mixed (by kernel_rfl) ?_
          refine Chain.consA (StepOK.fieldPtr .none fd48_3 (.tmp rfl (fun _ => trivial))) rfl ?_
          refine Chain.consA (StepOK.loadAt (k := 5002) .none ty3 rfl (.tmp rfl (fun _ => trivial)) hfd48_3) rfl ?_
          refine Chain.consA (StepOK.gt .none (.tmp rfl (fun _ => trivial)) (.int (by decide))) rfl ?_
          refine Chain.nil ?_
          refine Ends.then ?_
          refine Cod.cond (t := 82) rfl trivial (fun hb22 => ?_) (fun hb22 => ?_)
          · replace h := bif_t h hb22
            refine Cod.seq ?_
            refine Cod.region [] mixed (by kernel_rfl) ?_
            refine Chain.cons (StepOK.assign .none (.int (by decide))) rfl ?_
            refine Chain.cons (StepOK.assign .none (.int (by decide))) rfl ?_
            refine Chain.cons (StepOK.assign .none (.int (by decide))) rfl ?_
            refine Chain.nil ?_
            refine Ends.then ?_
            refine Cod.ret ?_
            refine Ends.blkRet ?_
            refine Ends.thenRet ?_
            refine Ends.blkRet ?_
            refine Ends.thenRet ?_
            replace h := hD17 _ (some_eq h)
            replace h := resb_ab hK16 (some_eq h)
            obtain rfl := some_eq h
            exact Ends.ret3 (.inl rfl) Tryd.results33 (ResOK.tmp rfl trivial Imp.refl) (ResOK.tmp rfl trivial Imp.refl) (ResOK.tmp rfl trivial Imp.refl)
          · replace h := bif_f h hb22
            refine Cod.skip ?_
            refine Ends.blkNormal ?_
            exact Ends.againL (some_eq h) (.cons (t := 7) rfl (.cons (t := 8) rfl (.cons (t := 13) rfl (.cons (t := 14) rfl (.cons (t := 21) rfl (.cons (t := 22) rfl Sub.nil)))))) (.cons (t := 5002) rfl SubB.nil)
        · replace h := bif_f h hb19
          refine Cod.exit ?_
          refine Ends.thenExit ?_
          refine Ends.thenExit ?_
          refine Ends.blkExit ?_
          replace h := hD17 _ (some_eq h)
          exact Ends.join _ (some_eq h) (.cons (t := 7) rfl (.cons (t := 8) rfl (.cons (t := 13) rfl (.cons (t := 21) rfl Sub.nil)))) (.cons (t := 5002) rfl SubB.nil)
      · have h := resb_nx hK16 hj16
        refine Cod.seq ?_
        refine Cod.region [([], []), ([5002], [5002])] mixed (by kernel_rfl) ?_
        refine Chain.consA (StepOK.fieldPtr .none fd48_2 (.tmp rfl (fun _ => trivial))) rfl ?_
        refine Chain.consN (StepOK.storeAt (g := 5002) ty3 rfl (.tmp rfl (fun _ => trivial)) sf48_2 (.int (by decide))) rfl ?_
        refine Chain.nil ?_
        refine Ends.then ?_
        obtain ⟨out2, hv23, h⟩ := bnd_some h
        refine Cod.reB (t := 5002) rfl (congrArg (fun y => boxAt m5002 48 y) hv23) ?_
        refine Cod.block ?_
        refine Cod.loopL h (fun s24_ => []) (fun s24_ => [(5002, some (boxAt m5002 48 s24_))]) Sub.nil (.cons (t := 5002) rfl SubB.nil) (.cons (t := 7) rfl (.cons (t := 8) rfl (.cons (t := 13) rfl (.cons (t := 21) rfl Sub.nil)))) SubB.nil (fun s24_ o_24 h hD24 => ?_)
        unfold ref_FitOf_L3 at h
        refine Cod.seq ?_
        refine Cod.block ?_
        refine Cod.seq ?_
        refine Cod.seq ?_
        refine Cod.region [([], []), ([5002], []), ([], [])] mixed (by kernel_rfl) ?_
        refine Chain.consA (StepOK.fieldPtr .none fd48_2 (.tmp rfl (fun _ => trivial))) rfl ?_
        refine Chain.consA (StepOK.loadAt (k := 5002) .none ty3 rfl (.tmp rfl (fun _ => trivial)) hfd48_2) rfl ?_
        refine Chain.consA (StepOK.gt .none (.tmp rfl (fun _ => trivial)) (.int (by decide))) rfl ?_
        refine Chain.nil ?_
        refine Ends.then ?_
        refine Cod.cond (t := 90) rfl trivial (fun hb25 => ?_) (fun hb25 => ?_)
        · replace h := bif_t h hb25
          refine Cod.seq ?_
          refine Cod.region [] mixed (by kernel_rfl) ?_
          refine Chain.cons (StepOK.assign .none (.int (by decide))) rfl ?_
          refine Chain.cons (StepOK.assign .none (.int (by decide))) rfl ?_
          refine Chain.cons (StepOK.assign .none (.int (by decide))) rfl ?_
          refine Chain.nil ?_
          refine Ends.then ?_
          refine Cod.ret ?_
          refine Ends.thenRet ?_
          refine Ends.blkRet ?_
          refine Ends.thenRet ?_
          refine Ends.thenRet ?_
          refine Ends.blkRet ?_
          replace h := hD24 _ (some_eq h)
          obtain rfl := some_eq h
          exact Ends.ret3 (.inl rfl) Tryd.results33 (ResOK.tmp rfl trivial Imp.refl) (ResOK.tmp rfl trivial Imp.refl) (ResOK.tmp rfl trivial Imp.refl)
        · replace h := bif_f h hb25
          refine Cod.skip ?_
          refine Ends.then ?_
          refine Cod.seq ?_
          refine Cod.region [([], []), ([5002], []), ([], []), ([], []), ([], []), ([], []), ([], []), ([], [23]), ([23], [23]), ([], [])] mixed (by kernel_rfl) ?_
          refine Chain.consA (StepOK.load .none ty3 (.tmp rfl (fun _ => trivial))) rfl ?_
          refine Chain.consA (StepOK.loadAt0 (k := 5002) .none ty48 rfl (.tmp rfl (fun _ => trivial))) rfl ?_
          refine Chain.consA (StepOK.load .none ty3 (.tmp rfl (fun _ => trivial))) rfl ?_
          obtain ⟨r5, hv26, h⟩ := bind_some h
          refine Chain.consA (StepOK.call .none (ref_InnerOf_ok hv26) (.cons (.tmp rfl (fun _ => trivial)) (.cons (.tmp rfl (fun _ => trivial)) (.cons (.tmp rfl (fun _ => trivial)) .nil)))) rfl ?_
          refine Chain.consA (StepOK.move .none (.tmp rfl (fun _ => trivial))) rfl ?_
          refine Chain.consA (StepOK.extract .none (.tmp rfl (fun _ => trivial)) rfl) rfl ?_
          refine Chain.consA (StepOK.extract .none (.tmp rfl (fun _ => trivial)) rfl) rfl ?_
          refine Chain.consW (StepOK.alloc zo48 rfl) rfl rfl ?_
          refine Chain.consN (StepOK.store ty48 rfl rfl (.tmp rfl (fun _ => trivial))) rfl ?_
          refine Chain.consA (StepOK.assign .none (.tmp rfl (fun _ => trivial))) rfl ?_
          refine Chain.nil ?_
          refine Ends.then ?_
          refine Cod.freeze (t := 23) rfl rfl (.cons (t := 5002) rfl SubB.nil) rfl ?_
          refine Cod.seq ?_
          refine Cod.region [] mixed (by kernel_rfl) ?_
          refine Chain.cons (StepOK.move .none (.tmp rfl (fun _ => trivial))) rfl ?_
          refine Chain.cons (StepOK.move .none (.tmp rfl (fun _ => trivial))) rfl ?_
          refine Chain.cons (StepOK.fieldAddr (.at rfl rfl) fd48_2 hfd48_2 (.tmp rfl (fun _ => trivial))) rfl ?_
          refine Chain.cons (StepOK.load (.at rfl rfl) ty3 (.tmp rfl id)) rfl ?_
          refine Chain.cons (StepOK.move (.at rfl rfl) (.tmp rfl (fun _ => trivial))) rfl ?_
          refine Chain.cons (StepOK.ge (.at rfl rfl) (.tmp rfl id) (.tmp rfl id)) rfl ?_
          refine Chain.cons (StepOK.pickAnd .none (.tmp rfl (fun _ => trivial)) (.tmp rfl id)) rfl ?_
          refine Chain.nil ?_
          refine Ends.then ?_
          refine Cod.cond (t := 104) rfl trivial (fun hb27 => ?_) (fun hb27 => ?_)
          · replace h := bif_t h hb27
            refine Cod.seq ?_
            refine Cod.region [([], []), ([5002], []), ([], []), ([5002], []), ([], []), ([], []), ([], [])] mixed (by kernel_rfl) ?_
            refine Chain.consA (StepOK.fieldPtr .none fd48_2 (.tmp rfl (fun _ => trivial))) rfl ?_
            refine Chain.consA (StepOK.loadAt (k := 5002) .none ty3 rfl (.tmp rfl (fun _ => trivial)) hfd48_2) rfl ?_
            refine Chain.consA (StepOK.fieldPtr .none fd48_3 (.tmp rfl (fun _ => trivial))) rfl ?_
            refine Chain.consA (StepOK.loadAt (k := 5002) .none ty3 rfl (.tmp rfl (fun _ => trivial)) hfd48_3) rfl ?_
            refine Chain.consA (StepOK.assign .none (.tmp rfl (fun _ => trivial))) rfl ?_
            refine Chain.consA (StepOK.assign .none (.tmp rfl (fun _ => trivial))) rfl ?_
            refine Chain.consA (StepOK.assign .none (.int (by decide))) rfl ?_
            refine Chain.nil ?_
            refine Ends.then ?_
            refine Cod.ret ?_
            refine Ends.blkRet ?_
            refine Ends.thenRet ?_
            refine Ends.thenRet ?_
            refine Ends.blkRet ?_
            replace h := hD24 _ (some_eq h)
            obtain rfl := some_eq h
            exact Ends.ret3 (.inl rfl) Tryd.results33 (ResOK.tmp rfl trivial Imp.refl) (ResOK.tmp rfl trivial Imp.refl) (ResOK.tmp rfl trivial Imp.refl)
          · replace h := bif_f h hb27
            refine Cod.skip ?_
            refine Ends.blkNormal ?_
            refine Ends.then ?_
            refine Cod.region [([], []), ([5002], []), ([], []), ([], []), ([5002], [5002])] mixed (by kernel_rfl) ?_
            refine Chain.consA (StepOK.fieldPtr .none fd48_2 (.tmp rfl (fun _ => trivial))) rfl ?_
            refine Chain.consA (StepOK.loadAt (k := 5002) .none ty3 rfl (.tmp rfl (fun _ => trivial)) hfd48_2) rfl ?_
            obtain ⟨v3, hv28, h⟩ := bnd_some h
            refine Chain.consA (StepOK.re hv28 (StepOK.addW .none (.tmp rfl (fun _ => trivial)) (.int (by decide)))) rfl ?_
            refine Chain.consA (StepOK.fieldPtr .none fd48_2 (.tmp rfl (fun _ => trivial))) rfl ?_
            refine Chain.consN (StepOK.storeAt (g := 5002) ty3 rfl (.tmp rfl (fun _ => trivial)) sf48_2 (.tmp rfl (fun _ => trivial))) rfl ?_
            refine Chain.nil ?_
            exact Ends.againL (some_eq h) (.cons (t := 7) rfl (.cons (t := 8) rfl (.cons (t := 13) rfl (.cons (t := 21) rfl Sub.nil)))) (.cons (t := 5002) rfl SubB.nil)


end Go.Proofs.YthopjimlhjgoiaaDoor
