/-
  The walks: what a function computes is what its plain function says (printed by a program of one's own).
-/
import Derived.Test.YthopjimlhjgoiaaDoorTxtWa1
set_option maxRecDepth 100000
set_option linter.unusedSimpArgs false
set_option linter.unusedVariables false
namespace Go.Proofs.YthopjimlhjgoiaaDoor
open Go Go.DB Go.RowKit

theorem ref_WrapOf_ok {f1 : Font} {text1 : Str} {width1 : Int} {r : ((List Str) × Bool)}  (h : ref_WrapOf f1 text1 width1 = some r) : FSpec Tryd.prog 24 [rep f1, rep text1, rep width1] (tup [rep r.1, rep r.2]) := by
  unfold ref_WrapOf at h
  refine FSpec.intro (n := 105) fnok24 Tryd.func24 rfl Tryd.ntmps24 rfl (fun F => ?_)
  refine Cod.seq ?_
  refine Cod.region [] mixed (by kernel_rfl) ?_
  refine Chain.cons (StepOK.box .none (.tmp rfl (fun _ => trivial))) rfl ?_
  refine Chain.cons (StepOK.assign .none (.const (x := ([] : (List Str))) (fun M w => ⟨_, ⟨none, 0, rfl, Nat.le_refl _, by decide, rfl⟩, rfl⟩))) rfl ?_
  refine Chain.cons (StepOK.assign .none .bool) rfl ?_
  refine Chain.nil ?_
  refine Ends.then ?_
  refine Cod.seq ?_
  refine Cod.region [([], [8])] mixed (by kernel_rfl) ?_
  refine Chain.consW (StepOK.nilRow (T := 9) (α := Str) rfl) rfl rfl ?_
  refine Chain.nil ?_
  refine Ends.then ?_
  refine Cod.nameRow (t := 8) (g := 5001) rfl rfl rfl (fun s5001 => ?_)
  refine Cod.seq ?_
  refine Cod.region [] mixed (by kernel_rfl) ?_
  refine Chain.cons (StepOK.assign .none .bool) rfl ?_
  refine Chain.nil ?_
  refine Ends.then ?_
  refine Cod.seq ?_
  refine Cod.seq ?_
  refine Cod.region [] mixed (by kernel_rfl) ?_
  refine Chain.cons (StepOK.move .none (.tmp rfl (fun _ => trivial))) rfl ?_
  obtain ⟨r1, hv1, h⟩ := bind_some h
  refine Chain.cons (StepOK.call .none (strings_Split_ok hv1).frz (.cons (.tmp rfl (fun _ => trivial)) (.cons (.str (l := [10]) (by decide)) .nil))) rfl ?_
  refine Chain.cons (StepOK.len .none sl30 (.tmp rfl (fun _ => trivial))) rfl ?_
  refine Chain.cons (StepOK.move .none (.int (by decide))) rfl ?_
  refine Chain.nil ?_
  refine Ends.then ?_
  obtain ⟨j_2, h, hK2⟩ := bind_some h
  refine Cod.thenJ (ι := ((List Str) × Bool)) (fun j_2 => [(9, ⟨True, rep j_2.2⟩)]) (fun j_2 => [(8, some (rowV 9 j_2.1))]) (fun s => j_2 = s) Sub.nil SubB.nil ?_ (fun j_2' hj2 => ?_)
  · skip
    refine Cod.block ?_
    refine Cod.anon (t := 8) (g := 5001) rfl rfl trivial rfl ?_
    refine Cod.rforL h (fun p3_ => [(21, ⟨True, rep p3_.1⟩), (9, ⟨True, rep p3_.2.2⟩)]) (fun p3_ => [(8, some (rowV 9 p3_.2.1))]) (.cons (t := 21) rfl (.cons (t := 9) rfl Sub.nil)) (.cons (t := 8) rfl SubB.nil) (.cons (t := 2) rfl (.cons (t := 3) rfl (.cons (t := 19) rfl (.cons (t := 20) rfl Sub.nil)))) SubB.nil (fun p3_ o_3 h hD3 => ?_)
    refine Cod.nameRow (t := 8) (g := 5002) rfl rfl rfl (fun s5002 => ?_)
    refine Cod.seq ?_
    refine Cod.region [] mixed (by kernel_rfl) ?_
    refine Chain.cons (StepOK.lt .none (.tmp rfl (fun _ => trivial)) (.tmp rfl (fun _ => trivial))) rfl ?_
    refine Chain.nil ?_
    refine Ends.then ?_
    refine Cod.seq ?_
    refine Cod.cond (t := 22) rfl trivial (fun hb4 => ?_) (fun hb4 => ?_)
    · replace h := bif_t h hb4
      refine Cod.skip ?_
      refine Ends.then ?_
      refine Cod.seq ?_
      obtain ⟨j_5, h, hK5⟩ := bind_some h
      unfold ref_WrapOf_L1 at h
      refine Cod.thenJ (ι := ((List Str) × Bool)) (fun j_5 => [(9, ⟨True, rep j_5.2⟩)]) (fun j_5 => [(8, some (rowV 9 j_5.1))]) (fun s => j_5 = s) (.cons (t := 2) rfl (.cons (t := 3) rfl (.cons (t := 19) rfl (.cons (t := 20) rfl (.cons (t := 21) rfl Sub.nil))))) SubB.nil ?_ (fun j_5' hj5 => ?_)
      · skip
        refine Cod.block ?_
        refine Cod.seq ?_
        refine Cod.region [] mixed (by kernel_rfl) ?_
        obtain ⟨hn6, h⟩ := need_some h
        refine Chain.cons (StepOK.indexAddr .none sl30 ty9 (.tmp rfl (fun _ => trivial)) (.tmp rfl (fun _ => trivial)) (fun _ => hn6)) rfl ?_
        refine Chain.cons (StepOK.load .none ty9 (.tmp rfl (fun _ => trivial))) rfl ?_
        refine Chain.cons (StepOK.assign .none (.tmp rfl (fun _ => trivial))) rfl ?_
        refine Chain.nil ?_
        refine Ends.then ?_
        refine Cod.seq ?_
        refine Cod.region [] mixed (by kernel_rfl) ?_
        refine Chain.cons (StepOK.assign .none (.str (l := []) (by decide))) rfl ?_
        refine Chain.cons (StepOK.assign .none .bool) rfl ?_
        refine Chain.nil ?_
        refine Ends.then ?_
        refine Cod.seq ?_
        refine Cod.seq ?_
        refine Cod.region [] mixed (by kernel_rfl) ?_
        refine Chain.cons (StepOK.move .none (.tmp rfl (fun _ => trivial))) rfl ?_
        obtain ⟨r2, hv7, h⟩ := bind_some h
        refine Chain.cons (StepOK.call .none (strings_Split_ok hv7).frz (.cons (.tmp rfl (fun _ => trivial)) (.cons (.str (l := [32]) (by decide)) .nil))) rfl ?_
        refine Chain.cons (StepOK.len .none sl30 (.tmp rfl (fun _ => trivial))) rfl ?_
        refine Chain.cons (StepOK.move .none (.int (by decide))) rfl ?_
        refine Chain.nil ?_
        refine Ends.then ?_
        obtain ⟨j_8, h, hK8⟩ := bind_some h
        refine Cod.thenJ (ι := ((List Str) × Bool × Str × Bool)) (fun j_8 => [(9, ⟨True, rep j_8.2.1⟩), (12, ⟨True, rep j_8.2.2.1⟩), (13, ⟨True, rep j_8.2.2.2⟩)]) (fun j_8 => [(8, some (rowV 9 j_8.1))]) (fun s => j_8 = s) (.cons (t := 2) rfl (.cons (t := 3) rfl (.cons (t := 19) rfl (.cons (t := 20) rfl (.cons (t := 21) rfl Sub.nil))))) SubB.nil ?_ (fun j_8' hj8 => ?_)
        · skip
          refine Cod.block ?_
          refine Cod.anon (t := 8) (g := 5002) rfl rfl trivial rfl ?_
          refine Cod.rforL h (fun p9_ => [(28, ⟨True, rep p9_.1⟩), (9, ⟨True, rep p9_.2.2.1⟩), (12, ⟨True, rep p9_.2.2.2.1⟩), (13, ⟨True, rep p9_.2.2.2.2⟩)]) (fun p9_ => [(8, some (rowV 9 p9_.2.1))]) (.cons (t := 28) rfl (.cons (t := 9) rfl (.cons (t := 12) rfl (.cons (t := 13) rfl Sub.nil)))) (.cons (t := 8) rfl SubB.nil) (.cons (t := 2) rfl (.cons (t := 3) rfl (.cons (t := 19) rfl (.cons (t := 20) rfl (.cons (t := 21) rfl (.cons (t := 26) rfl (.cons (t := 27) rfl Sub.nil))))))) SubB.nil (fun p9_ o_9 h hD9 => ?_)
          refine Cod.nameRow (t := 8) (g := 5003) rfl rfl rfl (fun s5003 => ?_)
          refine Cod.seq ?_
          refine Cod.region [] mixed (by kernel_rfl) ?_
          refine Chain.cons (StepOK.lt .none (.tmp rfl (fun _ => trivial)) (.tmp rfl (fun _ => trivial))) rfl ?_
          refine Chain.nil ?_
          refine Ends.then ?_
          refine Cod.seq ?_
          refine Cod.cond (t := 29) rfl trivial (fun hb10 => ?_) (fun hb10 => ?_)
          · replace h := bif_t h hb10
            refine Cod.skip ?_
            refine Ends.then ?_
            refine Cod.seq ?_
            obtain ⟨j_11, h, hK11⟩ := bind_some h
            unfold ref_WrapOf_L2 at h
            refine Cod.thenJ (ι := ((List Str) × Bool × Str × Bool)) (fun j_11 => [(9, ⟨True, rep j_11.2.1⟩), (12, ⟨True, rep j_11.2.2.1⟩), (13, ⟨True, rep j_11.2.2.2⟩)]) (fun j_11 => [(8, some (rowV 9 j_11.1))]) (fun s => j_11 = s) (.cons (t := 2) rfl (.cons (t := 3) rfl (.cons (t := 19) rfl (.cons (t := 20) rfl (.cons (t := 21) rfl (.cons (t := 26) rfl (.cons (t := 27) rfl (.cons (t := 28) rfl Sub.nil)))))))) SubB.nil ?_ (fun j_11' hj11 => ?_)
            · skip
              refine Cod.block ?_
              refine Cod.seq ?_
              refine Cod.region [] mixed (by kernel_rfl) ?_
              obtain ⟨hn12, h⟩ := need_some h
              refine Chain.cons (StepOK.indexAddr .none sl30 ty9 (.tmp rfl (fun _ => trivial)) (.tmp rfl (fun _ => trivial)) (fun _ => hn12)) rfl ?_
              refine Chain.cons (StepOK.load .none ty9 (.tmp rfl (fun _ => trivial))) rfl ?_
              obtain ⟨w1, hv13, h⟩ := bnd_some h
              refine Chain.cons (StepOK.re hv13 (StepOK.assign .none (.tmp rfl (fun _ => trivial)))) rfl ?_
              refine Chain.nil ?_
              refine Ends.then ?_
              refine Cod.seq ?_
              refine Cod.seq ?_
              refine Cod.region [] mixed (by kernel_rfl) ?_
              refine Chain.cons (StepOK.move .none (.tmp rfl (fun _ => trivial))) rfl ?_
              refine Chain.cons (StepOK.eqS .none (eqAt_str Tryd.underlying9) (.tmp rfl (fun _ => trivial)) (.str (l := []) (by decide))) rfl ?_
              refine Chain.nil ?_
              refine Ends.then ?_
              refine Cod.cond (t := 33) rfl trivial (fun hb14 => ?_) (fun hb14 => ?_)
              · replace h := bif_t h hb14
                refine Cod.exit ?_
                refine Ends.thenExit ?_
                refine Ends.blkExit ?_
                refine Ends.anon (t := 8) (g := 5003) rfl rfl trivial rfl ?_
                exact Ends.join _ (some_eq h) (.cons (t := 9) rfl (.cons (t := 12) rfl (.cons (t := 13) rfl (.cons (t := 2) rfl (.cons (t := 3) rfl (.cons (t := 19) rfl (.cons (t := 20) rfl (.cons (t := 21) rfl (.cons (t := 26) rfl (.cons (t := 27) rfl (.cons (t := 28) rfl Sub.nil))))))))))) (.cons (t := 8) rfl SubB.nil)
              · replace h := bif_f h hb14
                refine Cod.skip ?_
                refine Ends.then ?_
                refine Cod.seq ?_
                refine Cod.seq ?_
                refine Cod.region [] mixed (by kernel_rfl) ?_
                refine Chain.cons (StepOK.move .none (.tmp rfl (fun _ => trivial))) rfl ?_
                refine Chain.cons (StepOK.move .none (.tmp rfl (fun _ => trivial))) rfl ?_
                refine Chain.cons (StepOK.load (.at rfl rfl) ty23 (.tmp rfl (fun _ => trivial))) rfl ?_
                refine Chain.cons (StepOK.move (.at rfl rfl) (.tmp rfl (fun _ => trivial))) rfl ?_
                obtain ⟨hn15, h⟩ := need_some h
                refine Chain.cons (StepOK.addStr (.at rfl rfl) (.tmp rfl id) (.str (l := [32]) (by decide)) (fun hg => hn15 hg.2)) rfl ?_
                refine Chain.cons (StepOK.move (.at rfl rfl) (.tmp rfl (fun _ => trivial))) rfl ?_
                obtain ⟨hn16, h⟩ := need_some h
                refine Chain.cons (StepOK.addStr (.at rfl rfl) (.tmp rfl id) (.tmp rfl id) (fun hg => hn16 hg.2)) rfl ?_
                obtain ⟨r3, hv17, h⟩ := bind_some h
                refine Chain.cons (StepOK.callIf (.at rfl rfl) fnok20 (fun hg => ref_WidthOf_ok ((fun hg => gd_some hv17 (hg.2)) hg)) (.cons (.tmp rfl id) (.cons (.tmp rfl id) .nil)) (fun h => h)) rfl ?_
                refine Chain.cons (StepOK.move (.at rfl rfl) (.tmp rfl (fun _ => trivial))) rfl ?_
                refine Chain.cons (StepOK.le (.at rfl rfl) (.tmp rfl id) (.tmp rfl id)) rfl ?_
                refine Chain.cons (StepOK.pickAnd .none (.tmp rfl (fun _ => trivial)) (.tmp rfl id)) rfl ?_
                refine Chain.nil ?_
                refine Ends.then ?_
                refine Cod.cond (t := 44) rfl trivial (fun hb18 => ?_) (fun hb18 => ?_)
                · replace h := bif_t h hb18
                  refine Cod.seq ?_
                  refine Cod.region [] mixed (by kernel_rfl) ?_
                  refine Chain.cons (StepOK.move .none (.tmp rfl (fun _ => trivial))) rfl ?_
                  refine Chain.cons (StepOK.move .none (.tmp rfl (fun _ => trivial))) rfl ?_
                  obtain ⟨hn19, h⟩ := need_some h
                  refine Chain.cons (StepOK.addStr .none (.str (l := [32]) (by decide)) (.tmp rfl (fun _ => trivial)) (fun _ => hn19)) rfl ?_
                  obtain ⟨hn20, h⟩ := need_some h
                  refine Chain.cons (StepOK.addStr .none (.tmp rfl (fun _ => trivial)) (.tmp rfl (fun _ => trivial)) (fun _ => hn20)) rfl ?_
                  obtain ⟨line1, hv21, h⟩ := bnd_some h
                  refine Chain.cons (StepOK.re hv21 (StepOK.assign .none (.tmp rfl (fun _ => trivial)))) rfl ?_
                  refine Chain.nil ?_
                  refine Ends.then ?_
                  refine Cod.exit ?_
                  refine Ends.thenExit ?_
                  refine Ends.blkExit ?_
                  refine Ends.anon (t := 8) (g := 5003) rfl rfl trivial rfl ?_
                  exact Ends.join _ (some_eq h) (.cons (t := 9) rfl (.cons (t := 12) rfl (.cons (t := 13) rfl (.cons (t := 2) rfl (.cons (t := 3) rfl (.cons (t := 19) rfl (.cons (t := 20) rfl (.cons (t := 21) rfl (.cons (t := 26) rfl (.cons (t := 27) rfl (.cons (t := 28) rfl Sub.nil))))))))))) (.cons (t := 8) rfl SubB.nil)
                · replace h := bif_f h hb18
                  refine Cod.skip ?_
                  refine Ends.then ?_
                  refine Cod.seq ?_
                  refine Cod.seq ?_
                  refine Cod.region [] mixed (by kernel_rfl) ?_
                  refine Chain.cons (StepOK.move .none (.tmp rfl (fun _ => trivial))) rfl ?_
                  refine Chain.nil ?_
                  refine Ends.then ?_
                  obtain ⟨j_22, h, hK22⟩ := bind_some h
                  refine Cod.thenJ (ι := (List Str)) (fun j_22 => []) (fun j_22 => [(8, some (rowV 9 j_22))]) (fun s => j_22 = s) (.cons (t := 2) rfl (.cons (t := 3) rfl (.cons (t := 9) rfl (.cons (t := 15) rfl (.cons (t := 19) rfl (.cons (t := 20) rfl (.cons (t := 21) rfl (.cons (t := 26) rfl (.cons (t := 27) rfl (.cons (t := 28) rfl Sub.nil)))))))))) SubB.nil ?_ (fun j_22' hj22 => ?_)
                  · skip
                    refine Cod.cond (t := 49) rfl trivial (fun hb23 => ?_) (fun hb23 => ?_)
                    · replace h := bif_t h hb23
                      refine Cod.region [([], []), ([], []), ([], []), ([5003], [53, 5003]), ([53], [8, 53])] mixed (by kernel_rfl) ?_
                      refine Chain.consA (StepOK.move .none (.tmp rfl (fun _ => trivial))) rfl ?_
                      refine Chain.consA (StepOK.move .none (.tmp rfl (fun _ => trivial))) rfl ?_
                      refine Chain.consA (StepOK.buildSlice (xs := [_]) .none sl30 ty9 hz9 (.cons (.tmp rfl (fun _ => trivial)) .nil) rfl (by decide)) rfl ?_
                      obtain ⟨hn24, h⟩ := need_some h
                      refine Chain.consW (StepOK.append (k := 5003) rk30 rfl (.told (.tmp rfl (fun _ => trivial)) rfl) (.tmp rfl (fun _ => trivial)) hn24) rfl rfl ?_
                      refine Chain.consWD (StepOK.passRow rfl (.tmp rfl)) rfl rfl ?_
                      refine Chain.nil ?_
                      exact Ends.join _ (some_eq h) (.cons (t := 2) rfl (.cons (t := 3) rfl (.cons (t := 9) rfl (.cons (t := 15) rfl (.cons (t := 19) rfl (.cons (t := 20) rfl (.cons (t := 21) rfl (.cons (t := 26) rfl (.cons (t := 27) rfl (.cons (t := 28) rfl Sub.nil)))))))))) (.cons (t := 8) rfl SubB.nil)
                    · replace h := bif_f h hb23
                      refine Cod.skip ?_
                      refine Ends.anon (t := 8) (g := 5003) rfl rfl trivial rfl ?_
                      exact Ends.join _ (some_eq h) (.cons (t := 2) rfl (.cons (t := 3) rfl (.cons (t := 9) rfl (.cons (t := 15) rfl (.cons (t := 19) rfl (.cons (t := 20) rfl (.cons (t := 21) rfl (.cons (t := 26) rfl (.cons (t := 27) rfl (.cons (t := 28) rfl Sub.nil)))))))))) (.cons (t := 8) rfl SubB.nil)
                  · subst hj22; have h := hK22; clear hK22
                    refine Cod.nameRow (t := 8) (g := 5004) rfl rfl rfl (fun s5004 => ?_)
                    refine Cod.seq ?_
                    obtain ⟨j_25, h, hK25⟩ := bind_some h
                    refine Cod.thenJ (ι := ((List Str) × Bool × Str)) (fun j_25 => [(9, ⟨True, rep j_25.2.1⟩), (15, ⟨True, rep j_25.2.2⟩)]) (fun j_25 => [(8, some (rowV 9 j_25.1))]) (fun s => j_25 = s) (.cons (t := 2) rfl (.cons (t := 3) rfl (.cons (t := 19) rfl (.cons (t := 20) rfl (.cons (t := 21) rfl (.cons (t := 26) rfl (.cons (t := 27) rfl (.cons (t := 28) rfl Sub.nil)))))))) SubB.nil ?_ (fun j_25' hj25 => ?_)
                    · skip
                      refine Cod.block ?_
                      refine Cod.anon (t := 8) (g := 5004) rfl rfl trivial rfl ?_
                      refine Cod.loopL h (fun s26_ => [(9, ⟨True, rep s26_.2.1⟩), (15, ⟨True, rep s26_.2.2⟩)]) (fun s26_ => [(8, some (rowV 9 s26_.1))]) (.cons (t := 9) rfl (.cons (t := 15) rfl Sub.nil)) (.cons (t := 8) rfl SubB.nil) (.cons (t := 2) rfl (.cons (t := 3) rfl (.cons (t := 19) rfl (.cons (t := 20) rfl (.cons (t := 21) rfl (.cons (t := 26) rfl (.cons (t := 27) rfl (.cons (t := 28) rfl Sub.nil)))))))) SubB.nil (fun s26_ o_26 h hD26 => ?_)
                      unfold ref_WrapOf_L3 at h
                      refine Cod.nameRow (t := 8) (g := 5005) rfl rfl rfl (fun s5005 => ?_)
                      refine Cod.seq ?_
                      refine Cod.seq ?_
                      refine Cod.region [] mixed (by kernel_rfl) ?_
                      refine Chain.cons (StepOK.load .none ty23 (.tmp rfl (fun _ => trivial))) rfl ?_
                      refine Chain.cons (StepOK.move .none (.tmp rfl (fun _ => trivial))) rfl ?_
                      obtain ⟨r4, hv27, h⟩ := bind_some h
                      refine Chain.cons (StepOK.call .none (ref_WidthOf_ok hv27) (.cons (.tmp rfl (fun _ => trivial)) (.cons (.tmp rfl (fun _ => trivial)) .nil))) rfl ?_
                      refine Chain.cons (StepOK.move .none (.tmp rfl (fun _ => trivial))) rfl ?_
                      refine Chain.cons (StepOK.gt .none (.tmp rfl (fun _ => trivial)) (.tmp rfl (fun _ => trivial))) rfl ?_
                      refine Chain.nil ?_
                      refine Ends.then ?_
                      refine Cod.cond (t := 58) rfl trivial (fun hb28 => ?_) (fun hb28 => ?_)
                      · replace h := bif_t h hb28
                        refine Cod.skip ?_
                        refine Ends.then ?_
                        refine Cod.block ?_
                        refine Cod.seq ?_
                        refine Cod.region [] mixed (by kernel_rfl) ?_
                        refine Chain.cons (StepOK.assign .none (.int (by decide))) rfl ?_
                        refine Chain.nil ?_
                        refine Ends.then ?_
                        refine Cod.seq ?_
                        refine Cod.seq ?_
                        refine Cod.region [([], []), ([], [60])] mixed (by kernel_rfl) ?_
                        refine Chain.consA (StepOK.move .none (.tmp rfl (fun _ => trivial))) rfl ?_
                        refine Chain.consW (StepOK.rangeStr Tryd.underlying9 rfl (.tmp rfl (fun _ => trivial))) rfl rfl ?_
                        refine Chain.nil ?_
                        refine Ends.then ?_
                        refine Cod.nameAt (t := 60) (g := 5006) rfl rfl isBox_iter rfl (fun m5006 => ?_)
                        obtain ⟨j_29, h, hK29⟩ := bind_some h
                        refine Cod.thenJ (ι := Int) (fun j_29 => [(16, ⟨True, rep j_29⟩)]) (fun j_29 => []) (fun s => j_29 = s) (.cons (t := 2) rfl (.cons (t := 3) rfl (.cons (t := 8) rfl (.cons (t := 9) rfl (.cons (t := 15) rfl (.cons (t := 19) rfl (.cons (t := 20) rfl (.cons (t := 21) rfl (.cons (t := 26) rfl (.cons (t := 27) rfl (.cons (t := 28) rfl Sub.nil))))))))))) (.cons (t := 5005) rfl SubB.nil) ?_ (fun j_29' hj29 => ?_)
                        · skip
                          refine Cod.block ?_
                          refine Cod.loopL h (fun s30_ => [(16, ⟨True, rep s30_.1⟩)]) (fun s30_ => [(5006, some (CPred.at (ptr m5006 0) (iterV s26_.2.2 s30_.2)))]) (.cons (t := 16) rfl Sub.nil) (.cons (t := 5006) rfl SubB.nil) (.cons (t := 2) rfl (.cons (t := 3) rfl (.cons (t := 8) rfl (.cons (t := 9) rfl (.cons (t := 15) rfl (.cons (t := 19) rfl (.cons (t := 20) rfl (.cons (t := 21) rfl (.cons (t := 26) rfl (.cons (t := 27) rfl (.cons (t := 28) rfl (.cons (t := 60) rfl Sub.nil)))))))))))) (.cons (t := 5005) rfl SubB.nil) (fun s30_ o_30 h hD30 => ?_)
                          unfold ref_WrapOf_L4 at h
                          refine Cod.seq ?_
                          refine Cod.region [([5006], [5006]), ([], [])] mixed (by kernel_rfl) ?_
                          refine Chain.consW (StepOK.nextStr (k := 5006) rfl rfl (.tmp rfl (fun _ => trivial)) (by decide)) rfl rfl ?_
                          refine Chain.consA (StepOK.nextOk .none (.tmp rfl (fun _ => trivial))) rfl ?_
                          refine Chain.nil ?_
                          refine Ends.then ?_
                          obtain ⟨at1, hv31, h⟩ := bnd_some h
                          refine Cod.reB (t := 5006) rfl (congrArg (fun y => CPred.at (ptr m5006 0) (iterV s26_.2.2 y)) hv31) ?_
                          refine Cod.seq ?_
                          refine Cod.cond (t := 62) rfl trivial (fun hb32 => ?_) (fun hb32 => ?_)
                          · replace h := bif_t h hb32
                            refine Cod.skip ?_
                            refine Ends.then ?_
                            refine Cod.block ?_
                            refine Cod.seq ?_
                            refine Cod.region [] mixed (by kernel_rfl) ?_
                            obtain ⟨hn33, h⟩ := need_some h
                            refine Chain.cons (StepOK.nextAt .none (.tmp rfl (fun _ => trivial)) (fun _ => hn33)) rfl ?_
                            obtain ⟨i1, hv34, h⟩ := bnd_some h
                            refine Chain.cons (StepOK.re hv34 (StepOK.assign .none (.tmp rfl (fun _ => trivial)))) rfl ?_
                            refine Chain.nil ?_
                            refine Ends.then ?_
                            refine Cod.seq ?_
                            refine Cod.region [] mixed (by kernel_rfl) ?_
                            refine Chain.cons (StepOK.move .none (.tmp rfl (fun _ => trivial))) rfl ?_
                            refine Chain.cons (StepOK.gt .none (.tmp rfl (fun _ => trivial)) (.int (by decide))) rfl ?_
                            refine Chain.cons (StepOK.move .none (.tmp rfl (fun _ => trivial))) rfl ?_
                            refine Chain.cons (StepOK.load (.at rfl rfl) ty23 (.tmp rfl (fun _ => trivial))) rfl ?_
                            refine Chain.cons (StepOK.move (.at rfl rfl) (.tmp rfl (fun _ => trivial))) rfl ?_
                            refine Chain.cons (StepOK.move (.at rfl rfl) (.tmp rfl (fun _ => trivial))) rfl ?_
                            obtain ⟨hn35, h⟩ := need_some h
                            refine Chain.cons (StepOK.sliceStr (.at rfl rfl) Tryd.underlying9 (.tmp rfl id) rfl (.tmp rfl id) (fun hg => hn35 hg.2)) rfl ?_
                            obtain ⟨r5, hv36, h⟩ := bind_some h
                            refine Chain.cons (StepOK.callIf (.at rfl rfl) fnok20 (fun hg => ref_WidthOf_ok ((fun hg => gd_some hv36 (hg.2)) hg)) (.cons (.tmp rfl id) (.cons (.tmp rfl id) .nil)) (fun h => h)) rfl ?_
                            refine Chain.cons (StepOK.move (.at rfl rfl) (.tmp rfl (fun _ => trivial))) rfl ?_
                            refine Chain.cons (StepOK.le (.at rfl rfl) (.tmp rfl id) (.tmp rfl id)) rfl ?_
                            refine Chain.cons (StepOK.pickAnd .none (.tmp rfl (fun _ => trivial)) (.tmp rfl id)) rfl ?_
                            refine Chain.nil ?_
                            refine Ends.then ?_
                            refine Cod.cond (t := 74) rfl trivial (fun hb37 => ?_) (fun hb37 => ?_)
                            · replace h := bif_t h hb37
                              refine Cod.region [] mixed (by kernel_rfl) ?_
                              refine Chain.cons (StepOK.move .none (.tmp rfl (fun _ => trivial))) rfl ?_
                              refine Chain.cons (StepOK.assign .none (.tmp rfl (fun _ => trivial))) rfl ?_
                              refine Chain.nil ?_
                              refine Ends.blkNormal ?_
                              exact Ends.againL (some_eq h) (.cons (t := 16) rfl (.cons (t := 2) rfl (.cons (t := 3) rfl (.cons (t := 8) rfl (.cons (t := 9) rfl (.cons (t := 15) rfl (.cons (t := 19) rfl (.cons (t := 20) rfl (.cons (t := 21) rfl (.cons (t := 26) rfl (.cons (t := 27) rfl (.cons (t := 28) rfl (.cons (t := 60) rfl Sub.nil))))))))))))) (.cons (t := 5006) rfl (.cons (t := 5005) rfl SubB.nil))
                            · replace h := bif_f h hb37
                              refine Cod.skip ?_
                              refine Ends.blkNormal ?_
                              exact Ends.againL (some_eq h) (.cons (t := 16) rfl (.cons (t := 2) rfl (.cons (t := 3) rfl (.cons (t := 8) rfl (.cons (t := 9) rfl (.cons (t := 15) rfl (.cons (t := 19) rfl (.cons (t := 20) rfl (.cons (t := 21) rfl (.cons (t := 26) rfl (.cons (t := 27) rfl (.cons (t := 28) rfl (.cons (t := 60) rfl Sub.nil))))))))))))) (.cons (t := 5006) rfl (.cons (t := 5005) rfl SubB.nil))
                          · replace h := bif_f h hb32
                            refine Cod.exit ?_
                            refine Ends.thenExit ?_
                            refine Ends.thenExit ?_
                            refine Ends.blkExit ?_
                            replace h := hD30 _ (some_eq h)
                            exact Ends.join _ (some_eq h) (.cons (t := 16) rfl (.cons (t := 2) rfl (.cons (t := 3) rfl (.cons (t := 8) rfl (.cons (t := 9) rfl (.cons (t := 15) rfl (.cons (t := 19) rfl (.cons (t := 20) rfl (.cons (t := 21) rfl (.cons (t := 26) rfl (.cons (t := 27) rfl (.cons (t := 28) rfl Sub.nil)))))))))))) (.cons (t := 5005) rfl SubB.nil)
                        · subst hj29; have h := hK29; clear hK29
                          refine Cod.seq ?_
                          refine Cod.seq ?_
                          refine Cod.region [] mixed (by kernel_rfl) ?_
                          refine Chain.cons (StepOK.move .none (.tmp rfl (fun _ => trivial))) rfl ?_
                          refine Chain.cons (StepOK.eqI .none (.tmp rfl (fun _ => trivial)) (.int (by decide))) rfl ?_
                          refine Chain.nil ?_
                          refine Ends.then ?_
                          obtain ⟨j_38, h, hK38⟩ := bind_some h
                          refine Cod.thenJ (ι := Int) (fun j_38 => [(16, ⟨True, rep j_38⟩)]) (fun j_38 => []) (fun s => j_38 = s) (.cons (t := 2) rfl (.cons (t := 3) rfl (.cons (t := 8) rfl (.cons (t := 9) rfl (.cons (t := 15) rfl (.cons (t := 19) rfl (.cons (t := 20) rfl (.cons (t := 21) rfl (.cons (t := 26) rfl (.cons (t := 27) rfl (.cons (t := 28) rfl Sub.nil))))))))))) (.cons (t := 5005) rfl SubB.nil) ?_ (fun j_38' hj38 => ?_)
                          · skip
                            refine Cod.cond (t := 77) rfl trivial (fun hb39 => ?_) (fun hb39 => ?_)
                            · replace h := bif_t h hb39
                              refine Cod.region [] mixed (by kernel_rfl) ?_
                              refine Chain.cons (StepOK.move .none (.tmp rfl (fun _ => trivial))) rfl ?_
                              obtain ⟨r6, hv40, h⟩ := bind_some h
                              refine Chain.cons (StepOK.call .none (utf8_DecodeRuneInString_ok hv40) (.cons (.tmp rfl (fun _ => trivial)) .nil)) rfl ?_
                              refine Chain.cons (StepOK.move .none (.tmp rfl (fun _ => trivial))) rfl ?_
                              refine Chain.cons (StepOK.extract .none (.tmp rfl (fun _ => trivial)) rfl) rfl ?_
                              refine Chain.cons (StepOK.extract .none (.tmp rfl (fun _ => trivial)) rfl) rfl ?_
                              refine Chain.cons (StepOK.assign .none (.tmp rfl (fun _ => trivial))) rfl ?_
                              refine Chain.nil ?_
                              exact Ends.join _ (some_eq h) (.cons (t := 16) rfl (.cons (t := 2) rfl (.cons (t := 3) rfl (.cons (t := 8) rfl (.cons (t := 9) rfl (.cons (t := 15) rfl (.cons (t := 19) rfl (.cons (t := 20) rfl (.cons (t := 21) rfl (.cons (t := 26) rfl (.cons (t := 27) rfl (.cons (t := 28) rfl Sub.nil)))))))))))) (.cons (t := 5005) rfl SubB.nil)
                            · replace h := bif_f h hb39
                              refine Cod.skip ?_
                              exact Ends.join _ (some_eq h) (.cons (t := 16) rfl (.cons (t := 2) rfl (.cons (t := 3) rfl (.cons (t := 8) rfl (.cons (t := 9) rfl (.cons (t := 15) rfl (.cons (t := 19) rfl (.cons (t := 20) rfl (.cons (t := 21) rfl (.cons (t := 26) rfl (.cons (t := 27) rfl (.cons (t := 28) rfl Sub.nil)))))))))))) (.cons (t := 5005) rfl SubB.nil)
                          · subst hj38; have h := hK38; clear hK38
                            refine Cod.seq ?_
                            refine Cod.seq ?_
                            refine Cod.region [] mixed (by kernel_rfl) ?_
                            refine Chain.cons (StepOK.move .none (.tmp rfl (fun _ => trivial))) rfl ?_
                            refine Chain.cons (StepOK.move .none (.tmp rfl (fun _ => trivial))) rfl ?_
                            refine Chain.cons (StepOK.lenStr .none Tryd.underlying9 (.tmp rfl (fun _ => trivial))) rfl ?_
                            refine Chain.cons (StepOK.eqI .none (.tmp rfl (fun _ => trivial)) (.tmp rfl (fun _ => trivial))) rfl ?_
                            refine Chain.nil ?_
                            refine Ends.then ?_
                            refine Cod.cond (t := 86) rfl trivial (fun hb41 => ?_) (fun hb41 => ?_)
                            · replace h := bif_t h hb41
                              refine Cod.exit ?_
                              refine Ends.thenExit ?_
                              refine Ends.blkExitNe (by decide) ?_
                              refine Ends.thenExit ?_
                              refine Ends.blkExit ?_
                              refine Ends.anon (t := 8) (g := 5005) rfl rfl trivial rfl ?_
                              replace h := hD26 _ (some_eq h)
                              exact Ends.join _ (some_eq h) (.cons (t := 9) rfl (.cons (t := 15) rfl (.cons (t := 2) rfl (.cons (t := 3) rfl (.cons (t := 19) rfl (.cons (t := 20) rfl (.cons (t := 21) rfl (.cons (t := 26) rfl (.cons (t := 27) rfl (.cons (t := 28) rfl Sub.nil)))))))))) (.cons (t := 8) rfl SubB.nil)
                            · replace h := bif_f h hb41
                              refine Cod.skip ?_
                              refine Ends.then ?_
                              refine Cod.seq ?_
                              refine Cod.region [] mixed (by kernel_rfl) ?_
                              refine Chain.cons (StepOK.assign .none .bool) rfl ?_
                              refine Chain.nil ?_
                              refine Ends.then ?_
                              refine Cod.region [([], []), ([], []), ([], []), ([], []), ([], []), ([5005], [92, 5005]), ([], []), ([], []), ([], []), ([92], [8, 92]), ([], [])] mixed (by kernel_rfl) ?_
                              refine Chain.consA (StepOK.move .none (.tmp rfl (fun _ => trivial))) rfl ?_
                              refine Chain.consA (StepOK.move .none (.tmp rfl (fun _ => trivial))) rfl ?_
                              refine Chain.consA (StepOK.move .none (.tmp rfl (fun _ => trivial))) rfl ?_
                              obtain ⟨hn42, h⟩ := need_some h
                              refine Chain.consA (StepOK.sliceStr .none Tryd.underlying9 (.tmp rfl (fun _ => trivial)) rfl (.tmp rfl (fun _ => trivial)) (fun _ => hn42)) rfl ?_
                              refine Chain.consA (StepOK.buildSlice (xs := [_]) .none sl30 ty9 hz9 (.cons (.tmp rfl (fun _ => trivial)) .nil) rfl (by decide)) rfl ?_
                              obtain ⟨hn43, h⟩ := need_some h
                              refine Chain.consW (StepOK.append (k := 5005) rk30 rfl (.told (.tmp rfl (fun _ => trivial)) rfl) (.tmp rfl (fun _ => trivial)) hn43) rfl rfl ?_
                              refine Chain.consA (StepOK.move .none (.tmp rfl (fun _ => trivial))) rfl ?_
                              refine Chain.consA (StepOK.move .none (.tmp rfl (fun _ => trivial))) rfl ?_
                              obtain ⟨hn44, h⟩ := need_some h
                              refine Chain.consA (StepOK.sliceStr .none Tryd.underlying9 (.tmp rfl (fun _ => trivial)) (.tmp rfl (fun _ => trivial)) rfl (fun _ => hn44)) rfl ?_
                              refine Chain.consW (StepOK.passRow rfl (.tmp rfl)) rfl rfl ?_
                              obtain ⟨w2, hv45, h⟩ := bnd_some h
                              refine Chain.consA (StepOK.re hv45 (StepOK.assign .none (.tmp rfl (fun _ => trivial)))) rfl ?_
                              refine Chain.nil ?_
                              refine Ends.blkNormal ?_
                              exact Ends.againL (some_eq h) (.cons (t := 9) rfl (.cons (t := 15) rfl (.cons (t := 2) rfl (.cons (t := 3) rfl (.cons (t := 19) rfl (.cons (t := 20) rfl (.cons (t := 21) rfl (.cons (t := 26) rfl (.cons (t := 27) rfl (.cons (t := 28) rfl Sub.nil)))))))))) (.cons (t := 8) rfl SubB.nil)
                      · replace h := bif_f h hb28
                        refine Cod.exit ?_
                        refine Ends.thenExit ?_
                        refine Ends.thenExit ?_
                        refine Ends.blkExit ?_
                        refine Ends.anon (t := 8) (g := 5005) rfl rfl trivial rfl ?_
                        replace h := hD26 _ (some_eq h)
                        exact Ends.join _ (some_eq h) (.cons (t := 9) rfl (.cons (t := 15) rfl (.cons (t := 2) rfl (.cons (t := 3) rfl (.cons (t := 19) rfl (.cons (t := 20) rfl (.cons (t := 21) rfl (.cons (t := 26) rfl (.cons (t := 27) rfl (.cons (t := 28) rfl Sub.nil)))))))))) (.cons (t := 8) rfl SubB.nil)
                    · subst hj25; have h := hK25; clear hK25
                      refine Cod.nameRow (t := 8) (g := 5007) rfl rfl rfl (fun s5007 => ?_)
                      refine Cod.region [] mixed (by kernel_rfl) ?_
                      refine Chain.cons (StepOK.move .none (.tmp rfl (fun _ => trivial))) rfl ?_
                      refine Chain.cons (StepOK.assign .none (.tmp rfl (fun _ => trivial))) rfl ?_
                      refine Chain.cons (StepOK.assign .none .bool) rfl ?_
                      refine Chain.nil ?_
                      refine Ends.blkNormal ?_
                      refine Ends.anon (t := 8) (g := 5007) rfl rfl trivial rfl ?_
                      exact Ends.join _ (some_eq h) (.cons (t := 9) rfl (.cons (t := 12) rfl (.cons (t := 13) rfl (.cons (t := 2) rfl (.cons (t := 3) rfl (.cons (t := 19) rfl (.cons (t := 20) rfl (.cons (t := 21) rfl (.cons (t := 26) rfl (.cons (t := 27) rfl (.cons (t := 28) rfl Sub.nil))))))))))) (.cons (t := 8) rfl SubB.nil)
            · subst hj11; have h := hK11; clear hK11
              refine Cod.nameRow (t := 8) (g := 5008) rfl rfl rfl (fun s5008 => ?_)
              refine Cod.region [] mixed (by kernel_rfl) ?_
              refine Chain.cons (StepOK.addW .none (.tmp rfl (fun _ => trivial)) (.int (by decide))) rfl ?_
              refine Chain.cons (StepOK.move .none (.tmp rfl (fun _ => trivial))) rfl ?_
              refine Chain.nil ?_
              refine Ends.anon (t := 8) (g := 5008) rfl rfl trivial rfl ?_
              exact Ends.againL (some_eq h) (.cons (t := 28) rfl (.cons (t := 9) rfl (.cons (t := 12) rfl (.cons (t := 13) rfl (.cons (t := 2) rfl (.cons (t := 3) rfl (.cons (t := 19) rfl (.cons (t := 20) rfl (.cons (t := 21) rfl (.cons (t := 26) rfl (.cons (t := 27) rfl Sub.nil))))))))))) (.cons (t := 8) rfl SubB.nil)
          · replace h := bif_f h hb10
            refine Cod.exit ?_
            refine Ends.thenExit ?_
            refine Ends.thenExit ?_
            refine Ends.blkExit ?_
            refine Ends.anon (t := 8) (g := 5003) rfl rfl trivial rfl ?_
            replace h := hD9 _ (some_eq h)
            exact Ends.join _ (some_eq h) (.cons (t := 9) rfl (.cons (t := 12) rfl (.cons (t := 13) rfl (.cons (t := 2) rfl (.cons (t := 3) rfl (.cons (t := 19) rfl (.cons (t := 20) rfl (.cons (t := 21) rfl Sub.nil)))))))) (.cons (t := 8) rfl SubB.nil)
        · subst hj8; have h := hK8; clear hK8
          refine Cod.nameRow (t := 8) (g := 5009) rfl rfl rfl (fun s5009 => ?_)
          refine Cod.region [([], []), ([], []), ([], []), ([5009], [101, 5009]), ([101], [8, 101])] mixed (by kernel_rfl) ?_
          refine Chain.consA (StepOK.move .none (.tmp rfl (fun _ => trivial))) rfl ?_
          refine Chain.consA (StepOK.move .none (.tmp rfl (fun _ => trivial))) rfl ?_
          refine Chain.consA (StepOK.buildSlice (xs := [_]) .none sl30 ty9 hz9 (.cons (.tmp rfl (fun _ => trivial)) .nil) rfl (by decide)) rfl ?_
          obtain ⟨hn46, h⟩ := need_some h
          refine Chain.consW (StepOK.append (k := 5009) rk30 rfl (.told (.tmp rfl (fun _ => trivial)) rfl) (.tmp rfl (fun _ => trivial)) hn46) rfl rfl ?_
          refine Chain.consWD (StepOK.passRow rfl (.tmp rfl)) rfl rfl ?_
          refine Chain.nil ?_
          refine Ends.blkNormal ?_
          exact Ends.join _ (some_eq h) (.cons (t := 9) rfl (.cons (t := 2) rfl (.cons (t := 3) rfl (.cons (t := 19) rfl (.cons (t := 20) rfl (.cons (t := 21) rfl Sub.nil)))))) (.cons (t := 8) rfl SubB.nil)
      · subst hj5; have h := hK5; clear hK5
        refine Cod.nameRow (t := 8) (g := 5010) rfl rfl rfl (fun s5010 => ?_)
        refine Cod.region [] mixed (by kernel_rfl) ?_
        refine Chain.cons (StepOK.addW .none (.tmp rfl (fun _ => trivial)) (.int (by decide))) rfl ?_
        refine Chain.cons (StepOK.move .none (.tmp rfl (fun _ => trivial))) rfl ?_
        refine Chain.nil ?_
        refine Ends.anon (t := 8) (g := 5010) rfl rfl trivial rfl ?_
        exact Ends.againL (some_eq h) (.cons (t := 21) rfl (.cons (t := 9) rfl (.cons (t := 2) rfl (.cons (t := 3) rfl (.cons (t := 19) rfl (.cons (t := 20) rfl Sub.nil)))))) (.cons (t := 8) rfl SubB.nil)
    · replace h := bif_f h hb4
      refine Cod.exit ?_
      refine Ends.thenExit ?_
      refine Ends.thenExit ?_
      refine Ends.blkExit ?_
      refine Ends.anon (t := 8) (g := 5002) rfl rfl trivial rfl ?_
      replace h := hD3 _ (some_eq h)
      exact Ends.join _ (some_eq h) (.cons (t := 9) rfl Sub.nil) (.cons (t := 8) rfl SubB.nil)
  · subst hj2; have h := hK2; clear hK2
    refine Cod.freezeRowA (t := 8) rfl rfl SubB.nil rfl ?_
    refine Cod.seq ?_
    refine Cod.region [] mixed (by kernel_rfl) ?_
    refine Chain.cons (StepOK.move .none (.tmp rfl (fun _ => trivial))) rfl ?_
    refine Chain.cons (StepOK.move .none (.tmp rfl (fun _ => trivial))) rfl ?_
    refine Chain.cons (StepOK.assign .none (.tmp rfl (fun _ => trivial))) rfl ?_
    refine Chain.cons (StepOK.assign .none (.tmp rfl (fun _ => trivial))) rfl ?_
    refine Chain.nil ?_
    refine Ends.then ?_
    refine Cod.ret ?_
    obtain rfl := some_eq h
    exact Ends.ret2 (.inl rfl) Tryd.results24 (ResOK.tmp rfl trivial Imp.refl) (ResOK.tmp rfl trivial Imp.refl)

theorem law_TextsMatch_2_ok {c0_1 : Font} {c1_1 : Str} {c2_1 : Int} {r : (List Str)}  (h : law_TextsMatch_2 c0_1 c1_1 c2_1 = some r) : FSpec Tryd.prog 23 [ref c0_1, ref c1_1, ref c2_1] (rep r) := by
  unfold law_TextsMatch_2 at h
  refine FSpec.intro (n := 14) fnok23 Tryd.func23 rfl Tryd.ntmps23 rfl (fun F => ?_)
  refine Cod.seq ?_
  refine Cod.region [] mixed (by kernel_rfl) ?_
  refine Chain.cons (StepOK.assign .none (.const (x := ([] : (List Str))) (fun M w => ⟨_, ⟨none, 0, rfl, Nat.le_refl _, by decide, rfl⟩, rfl⟩))) rfl ?_
  refine Chain.nil ?_
  refine Ends.then ?_
  refine Cod.seq ?_
  refine Cod.region [] mixed (by kernel_rfl) ?_
  refine Chain.cons (StepOK.load .none ty23 (.tmp rfl (fun _ => trivial))) rfl ?_
  refine Chain.cons (StepOK.load .none ty9 (.tmp rfl (fun _ => trivial))) rfl ?_
  refine Chain.cons (StepOK.load .none ty3 (.tmp rfl (fun _ => trivial))) rfl ?_
  obtain ⟨r1, hv1, h⟩ := bind_some h
  refine Chain.cons (StepOK.call .none (ref_WrapOf_ok hv1) (.cons (.tmp rfl (fun _ => trivial)) (.cons (.tmp rfl (fun _ => trivial)) (.cons (.tmp rfl (fun _ => trivial)) .nil)))) rfl ?_
  refine Chain.cons (StepOK.move .none (.tmp rfl (fun _ => trivial))) rfl ?_
  refine Chain.cons (StepOK.extract .none (.tmp rfl (fun _ => trivial)) rfl) rfl ?_
  refine Chain.cons (StepOK.extract .none (.tmp rfl (fun _ => trivial)) rfl) rfl ?_
  refine Chain.cons (StepOK.assign .none (.tmp rfl (fun _ => trivial))) rfl ?_
  refine Chain.cons (StepOK.assign .none (.tmp rfl (fun _ => trivial))) rfl ?_
  refine Chain.nil ?_
  refine Ends.then ?_
  refine Cod.seq ?_
  refine Cod.region [] mixed (by kernel_rfl) ?_
  refine Chain.cons (StepOK.move .none (.tmp rfl (fun _ => trivial))) rfl ?_
  refine Chain.cons (StepOK.assign .none (.tmp rfl (fun _ => trivial))) rfl ?_
  refine Chain.nil ?_
  refine Ends.then ?_
  refine Cod.ret ?_
  obtain rfl := some_eq h
  exact Ends.ret1 (.inl rfl) Tryd.results23 (ResOK.tmp rfl trivial Imp.refl)

theorem slices_Equal_string_ok {s1_1 : (List Str)} {s2_1 : (List Str)} {r : Bool}  (h : slices_Equal_string s1_1 s2_1 = some r) : FSpec Tryd.prog 48 [rep s1_1, rep s2_1] (rep r) := by
  unfold slices_Equal_string at h
  refine FSpec.intro (n := 26) fnok48 Tryd.func48 rfl Tryd.ntmps48 rfl (fun F => ?_)
  refine Cod.seq ?_
  refine Cod.region [] mixed (by kernel_rfl) ?_
  refine Chain.cons (StepOK.assign .none .bool) rfl ?_
  refine Chain.nil ?_
  refine Ends.then ?_
  refine Cod.seq ?_
  refine Cod.seq ?_
  refine Cod.region [] mixed (by kernel_rfl) ?_
  refine Chain.cons (StepOK.move .none (.tmp rfl (fun _ => trivial))) rfl ?_
  refine Chain.cons (StepOK.len .none sl30 (.tmp rfl (fun _ => trivial))) rfl ?_
  refine Chain.cons (StepOK.move .none (.tmp rfl (fun _ => trivial))) rfl ?_
  refine Chain.cons (StepOK.len .none sl30 (.tmp rfl (fun _ => trivial))) rfl ?_
  refine Chain.cons (StepOK.neI .none (.tmp rfl (fun _ => trivial)) (.tmp rfl (fun _ => trivial))) rfl ?_
  refine Chain.nil ?_
  refine Ends.then ?_
  refine Cod.cond (t := 10) rfl trivial (fun hb1 => ?_) (fun hb1 => ?_)
  · replace h := bif_t h hb1
    refine Cod.seq ?_
    refine Cod.region [] mixed (by kernel_rfl) ?_
    refine Chain.cons (StepOK.assign .none .bool) rfl ?_
    refine Chain.nil ?_
    refine Ends.then ?_
    refine Cod.ret ?_
    refine Ends.thenRet ?_
    obtain rfl := some_eq h
    exact Ends.ret1 (.inl rfl) Tryd.results48 (ResOK.tmp rfl trivial Imp.refl)
  · replace h := bif_f h hb1
    refine Cod.skip ?_
    refine Ends.then ?_
    refine Cod.seq ?_
    refine Cod.seq ?_
    refine Cod.region [] mixed (by kernel_rfl) ?_
    refine Chain.cons (StepOK.move .none (.tmp rfl (fun _ => trivial))) rfl ?_
    refine Chain.cons (StepOK.len .none sl30 (.tmp rfl (fun _ => trivial))) rfl ?_
    refine Chain.cons (StepOK.move .none (.int (by decide))) rfl ?_
    refine Chain.nil ?_
    refine Ends.then ?_
    obtain ⟨o_2, h, hK2⟩ := bindR_some h
    refine Cod.thenJ (ι := Unit) (fun j_2 => []) (fun j_2 => []) (fun s => o_2 = Res.nx s) Sub.nil SubB.nil ?_ (fun j_2 hj2 => ?_)
    · skip
      refine Cod.block ?_
      refine Cod.rforEL h (fun p3_ => [(13, ⟨True, rep p3_.1⟩)]) (fun p3_ => []) (.cons (t := 13) rfl Sub.nil) SubB.nil (.cons (t := 0) rfl (.cons (t := 1) rfl (.cons (t := 12) rfl Sub.nil))) SubB.nil (fun p3_ o_3 h hD3 => ?_)
      refine Cod.seq ?_
      refine Cod.region [] mixed (by kernel_rfl) ?_
      refine Chain.cons (StepOK.lt .none (.tmp rfl (fun _ => trivial)) (.tmp rfl (fun _ => trivial))) rfl ?_
      refine Chain.nil ?_
      refine Ends.then ?_
      refine Cod.seq ?_
      refine Cod.cond (t := 14) rfl trivial (fun hb4 => ?_) (fun hb4 => ?_)
      · replace h := bif_t h hb4
        refine Cod.skip ?_
        refine Ends.then ?_
        refine Cod.seq ?_
        obtain ⟨o_5, h, hK5⟩ := bindD_some h
        unfold slices_Equal_string_L1 at h
        refine Cod.thenJ (ι := Unit) (fun j_5 => []) (fun j_5 => []) (fun s => o_5 = Res.nx s) (.cons (t := 0) rfl (.cons (t := 1) rfl (.cons (t := 12) rfl (.cons (t := 13) rfl Sub.nil)))) SubB.nil ?_ (fun j_5 hj5 => ?_)
        · skip
          refine Cod.block ?_
          refine Cod.seq ?_
          refine Cod.region [] mixed (by kernel_rfl) ?_
          refine Chain.cons (StepOK.move .none (.tmp rfl (fun _ => trivial))) rfl ?_
          refine Chain.cons (StepOK.assign .none (.tmp rfl (fun _ => trivial))) rfl ?_
          refine Chain.nil ?_
          refine Ends.then ?_
          refine Cod.seq ?_
          refine Cod.region [] mixed (by kernel_rfl) ?_
          refine Chain.cons (StepOK.move .none (.tmp rfl (fun _ => trivial))) rfl ?_
          refine Chain.cons (StepOK.move .none (.tmp rfl (fun _ => trivial))) rfl ?_
          obtain ⟨hn6, h⟩ := need_some h
          refine Chain.cons (StepOK.indexAddr .none sl30 ty9 (.tmp rfl (fun _ => trivial)) (.tmp rfl (fun _ => trivial)) (fun _ => hn6)) rfl ?_
          refine Chain.cons (StepOK.load .none ty9 (.tmp rfl (fun _ => trivial))) rfl ?_
          refine Chain.cons (StepOK.move .none (.tmp rfl (fun _ => trivial))) rfl ?_
          refine Chain.cons (StepOK.move .none (.tmp rfl (fun _ => trivial))) rfl ?_
          obtain ⟨hn7, h⟩ := need_some h
          refine Chain.cons (StepOK.indexAddr .none sl30 ty9 (.tmp rfl (fun _ => trivial)) (.tmp rfl (fun _ => trivial)) (fun _ => hn7)) rfl ?_
          refine Chain.cons (StepOK.load .none ty9 (.tmp rfl (fun _ => trivial))) rfl ?_
          refine Chain.cons (StepOK.neS .none (eqAt_str Tryd.underlying9) (.tmp rfl (fun _ => trivial)) (.tmp rfl (fun _ => trivial))) rfl ?_
          refine Chain.nil ?_
          refine Ends.then ?_
          refine Cod.cond (t := 24) rfl trivial (fun hb8 => ?_) (fun hb8 => ?_)
          · replace h := bif_t h hb8
            refine Cod.seq ?_
            refine Cod.region [] mixed (by kernel_rfl) ?_
            refine Chain.cons (StepOK.assign .none .bool) rfl ?_
            refine Chain.nil ?_
            refine Ends.then ?_
            refine Cod.ret ?_
            refine Ends.blkRet ?_
            refine Ends.thenRet ?_
            refine Ends.thenRet ?_
            refine Ends.blkRet ?_
            refine Ends.thenRet ?_
            replace h := resd_ab hK5 (some_eq h)
            replace h := hD3 _ (some_eq h)
            replace h := resb_ab hK2 (some_eq h)
            obtain rfl := some_eq h
            exact Ends.ret1 (.inl rfl) Tryd.results48 (ResOK.tmp rfl trivial Imp.refl)
          · replace h := bif_f h hb8
            refine Cod.skip ?_
            refine Ends.blkNormal ?_
            exact Ends.join _ (some_eq h) (.cons (t := 0) rfl (.cons (t := 1) rfl (.cons (t := 12) rfl (.cons (t := 13) rfl Sub.nil)))) SubB.nil
        · have h := resd_nx hK5 hj5
          refine Cod.region [] mixed (by kernel_rfl) ?_
          refine Chain.cons (StepOK.addW .none (.tmp rfl (fun _ => trivial)) (.int (by decide))) rfl ?_
          refine Chain.cons (StepOK.move .none (.tmp rfl (fun _ => trivial))) rfl ?_
          refine Chain.nil ?_
          exact Ends.againL (some_eq h) (.cons (t := 13) rfl (.cons (t := 0) rfl (.cons (t := 1) rfl (.cons (t := 12) rfl Sub.nil)))) SubB.nil
      · replace h := bif_f h hb4
        refine Cod.exit ?_
        refine Ends.thenExit ?_
        refine Ends.thenExit ?_
        refine Ends.blkExit ?_
        replace h := hD3 _ (some_eq h)
        exact Ends.join _ (some_eq h) Sub.nil SubB.nil
    · have h := resb_nx hK2 hj2
      refine Cod.seq ?_
      refine Cod.region [] mixed (by kernel_rfl) ?_
      refine Chain.cons (StepOK.assign .none .bool) rfl ?_
      refine Chain.nil ?_
      refine Ends.then ?_
      refine Cod.ret ?_
      obtain rfl := some_eq h
      exact Ends.ret1 (.inl rfl) Tryd.results48 (ResOK.tmp rfl trivial Imp.refl)

theorem law_lists_string_ok {got1 : (List Str)} {e1 : Int} {want1 : Int} {right1 : (Option (List Str))} {r : Bool}  (h : law_lists_string got1 e1 want1 right1 = some r) : FSpec Tryd.prog 21 [rep got1, rep e1, rep want1, fn0 Tryd.prog (rep (α := (List Str))) right1] (rep r) := by
  unfold law_lists_string at h
  refine FSpec.intro (n := 27) fnok21 Tryd.func21 rfl Tryd.ntmps21 rfl (fun F => ?_)
  refine Cod.seq ?_
  refine Cod.region [] mixed (by kernel_rfl) ?_
  refine Chain.cons (StepOK.assign .none .bool) rfl ?_
  refine Chain.nil ?_
  refine Ends.then ?_
  refine Cod.seq ?_
  refine Cod.seq ?_
  refine Cod.region [] mixed (by kernel_rfl) ?_
  refine Chain.cons (StepOK.move .none (.tmp rfl (fun _ => trivial))) rfl ?_
  refine Chain.cons (StepOK.neI .none (.tmp rfl (fun _ => trivial)) (.int (by decide))) rfl ?_
  refine Chain.nil ?_
  refine Ends.then ?_
  refine Cod.cond (t := 10) rfl trivial (fun hb1 => ?_) (fun hb1 => ?_)
  · replace h := bif_t h hb1
    refine Cod.seq ?_
    refine Cod.region [] mixed (by kernel_rfl) ?_
    refine Chain.cons (StepOK.move .none (.tmp rfl (fun _ => trivial))) rfl ?_
    refine Chain.cons (StepOK.len .none sl30 (.tmp rfl (fun _ => trivial))) rfl ?_
    refine Chain.cons (StepOK.eqI .none (.tmp rfl (fun _ => trivial)) (.int (by decide))) rfl ?_
    refine Chain.cons (StepOK.move .none (.tmp rfl (fun _ => trivial))) rfl ?_
    refine Chain.cons (StepOK.move (.at rfl rfl) (.tmp rfl (fun _ => trivial))) rfl ?_
    refine Chain.cons (StepOK.move (.at rfl rfl) (.tmp rfl (fun _ => trivial))) rfl ?_
    refine Chain.cons (StepOK.eqI (.at rfl rfl) (.tmp rfl id) (.tmp rfl id)) rfl ?_
    refine Chain.cons (StepOK.pickAnd .none (.tmp rfl (fun _ => trivial)) (.tmp rfl id)) rfl ?_
    refine Chain.cons (StepOK.assign .none (.tmp rfl (fun _ => trivial))) rfl ?_
    refine Chain.nil ?_
    refine Ends.then ?_
    refine Cod.ret ?_
    refine Ends.thenRet ?_
    obtain rfl := some_eq h
    exact Ends.ret1 (.inl rfl) Tryd.results21 (ResOK.tmp rfl trivial Imp.refl)
  · replace h := bif_f h hb1
    refine Cod.skip ?_
    refine Ends.then ?_
    refine Cod.seq ?_
    refine Cod.region [] mixed (by kernel_rfl) ?_
    refine Chain.cons (StepOK.move .none (.tmp rfl (fun _ => trivial))) rfl ?_
    refine Chain.cons (StepOK.eqI .none (.tmp rfl (fun _ => trivial)) (.int (by decide))) rfl ?_
    refine Chain.cons (StepOK.move .none (.tmp rfl (fun _ => trivial))) rfl ?_
    refine Chain.cons (StepOK.move (.at rfl rfl) (.tmp rfl (fun _ => trivial))) rfl ?_
    refine Chain.cons (StepOK.move (.at rfl rfl) (.tmp rfl (fun _ => trivial))) rfl ?_
    obtain ⟨r1, hv2, h⟩ := bind_some h
    refine Chain.cons (StepOK.callV _ (.at rfl rfl) (.tmp rfl id) (fun hg => gd_some hv2 (hg.2)) .nil) rfl ?_
    obtain ⟨r2, hv3, h⟩ := bind_some h
    refine Chain.cons (StepOK.callIf (.at rfl rfl) fnok48 (fun hg => slices_Equal_string_ok ((fun hg => gd_some hv3 (hg.2)) hg)) (.cons (.tmp rfl id) (.cons (.tmp rfl id) .nil)) (fun h => h)) rfl ?_
    refine Chain.cons (StepOK.pickAnd .none (.tmp rfl (fun _ => trivial)) (.tmp rfl id)) rfl ?_
    refine Chain.cons (StepOK.assign .none (.tmp rfl (fun _ => trivial))) rfl ?_
    refine Chain.nil ?_
    refine Ends.then ?_
    refine Cod.ret ?_
    obtain rfl := some_eq h
    exact Ends.ret1 (.inl rfl) Tryd.results21 (ResOK.tmp rfl trivial Imp.refl)

theorem law_TextsMatch_ok {f1 : Font} {s1 : Str} {width1 : Int} {r : Bool}  (h : law_TextsMatch f1 s1 width1 = some r) : FSpec Tryd.prog 3 [rep f1, rep s1, rep width1] (rep r) := by
  unfold law_TextsMatch at h
  refine FSpec.intro (n := 71) fnok3 Tryd.func3 rfl Tryd.ntmps3 rfl (fun F => ?_)
  refine Cod.seq ?_
  refine Cod.region [] mixed (by kernel_rfl) ?_
  refine Chain.cons (StepOK.box .none (.tmp rfl (fun _ => trivial))) rfl ?_
  refine Chain.cons (StepOK.box .none (.tmp rfl (fun _ => trivial))) rfl ?_
  refine Chain.cons (StepOK.box .none (.tmp rfl (fun _ => trivial))) rfl ?_
  refine Chain.cons (StepOK.assign .none .bool) rfl ?_
  refine Chain.nil ?_
  refine Ends.then ?_
  refine Cod.seq ?_
  refine Cod.region [] mixed (by kernel_rfl) ?_
  refine Chain.cons (StepOK.load .none ty23 (.tmp rfl (fun _ => trivial))) rfl ?_
  obtain ⟨r1, hv1, h⟩ := bind_some h
  refine Chain.cons (StepOK.call .none (ref_FontError_ok hv1) (.cons (.tmp rfl (fun _ => trivial)) .nil)) rfl ?_
  refine Chain.cons (StepOK.load .none ty9 (.tmp rfl (fun _ => trivial))) rfl ?_
  obtain ⟨r2, hv2, h⟩ := bind_some h
  refine Chain.cons (StepOK.call .none (ref_TextError_ok hv2) (.cons (.tmp rfl (fun _ => trivial)) .nil)) rfl ?_
  refine Chain.cons (StepOK.buildSlice (xs := [_, _]) .none sl74 ty24 hz24 (.cons (.tmp rfl (fun _ => trivial)) (.cons (.tmp rfl (fun _ => trivial)) .nil)) rfl (by decide)) rfl ?_
  obtain ⟨own1, hv3, h⟩ := bind_some h
  refine Chain.cons (StepOK.call .none (ref_First_ok hv3) (.cons (.tmp rfl (fun _ => trivial)) .nil)) rfl ?_
  refine Chain.cons (StepOK.assign .none (.tmp rfl (fun _ => trivial))) rfl ?_
  refine Chain.nil ?_
  refine Ends.then ?_
  refine Cod.seq ?_
  refine Cod.region [] mixed (by kernel_rfl) ?_
  refine Chain.cons (StepOK.load .none ty23 (.tmp rfl (fun _ => trivial))) rfl ?_
  refine Chain.cons (StepOK.load .none ty9 (.tmp rfl (fun _ => trivial))) rfl ?_
  obtain ⟨r3, hv4, h⟩ := bind_some h
  refine Chain.cons (StepOK.call .none (shape_Measure_ok hv4) (.cons (.tmp rfl (fun _ => trivial)) (.cons (.tmp rfl (fun _ => trivial)) .nil))) rfl ?_
  refine Chain.cons (StepOK.move .none (.tmp rfl (fun _ => trivial))) rfl ?_
  refine Chain.cons (StepOK.extract .none (.tmp rfl (fun _ => trivial)) rfl) rfl ?_
  refine Chain.cons (StepOK.extract .none (.tmp rfl (fun _ => trivial)) rfl) rfl ?_
  refine Chain.cons (StepOK.assign .none (.tmp rfl (fun _ => trivial))) rfl ?_
  refine Chain.cons (StepOK.assign .none (.tmp rfl (fun _ => trivial))) rfl ?_
  refine Chain.nil ?_
  refine Ends.then ?_
  refine Cod.seq ?_
  refine Cod.region [] mixed (by kernel_rfl) ?_
  refine Chain.cons (StepOK.load .none ty23 (.tmp rfl (fun _ => trivial))) rfl ?_
  refine Chain.cons (StepOK.load .none ty9 (.tmp rfl (fun _ => trivial))) rfl ?_
  refine Chain.cons (StepOK.load .none ty3 (.tmp rfl (fun _ => trivial))) rfl ?_
  obtain ⟨r4, hv5, h⟩ := bind_some h
  refine Chain.cons (StepOK.call .none (shape_Wrap_ok hv5) (.cons (.tmp rfl (fun _ => trivial)) (.cons (.tmp rfl (fun _ => trivial)) (.cons (.tmp rfl (fun _ => trivial)) .nil)))) rfl ?_
  refine Chain.cons (StepOK.move .none (.tmp rfl (fun _ => trivial))) rfl ?_
  refine Chain.cons (StepOK.extract .none (.tmp rfl (fun _ => trivial)) rfl) rfl ?_
  refine Chain.cons (StepOK.extract .none (.tmp rfl (fun _ => trivial)) rfl) rfl ?_
  refine Chain.cons (StepOK.assign .none (.tmp rfl (fun _ => trivial))) rfl ?_
  refine Chain.cons (StepOK.assign .none (.tmp rfl (fun _ => trivial))) rfl ?_
  refine Chain.nil ?_
  refine Ends.then ?_
  refine Cod.seq ?_
  refine Cod.region [] mixed (by kernel_rfl) ?_
  obtain ⟨r5, hv6, h⟩ := bind_some h
  refine Chain.cons (StepOK.call .none (law_shapes_ok hv6) .nil) rfl ?_
  refine Chain.cons (StepOK.move .none (.tmp rfl (fun _ => trivial))) rfl ?_
  refine Chain.cons (StepOK.load (.at rfl rfl) ty23 (.tmp rfl (fun _ => trivial))) rfl ?_
  obtain ⟨r6, hv7, h⟩ := bind_some h
  refine Chain.cons (StepOK.callIf (.at rfl rfl) fnok14 (fun hg => shape_CheckFont_ok ((fun hg => gd_some hv7 (hg.2)) hg)) (.cons (.tmp rfl id) .nil) (fun h => h)) rfl ?_
  refine Chain.cons (StepOK.load (.at rfl rfl) ty23 (.tmp rfl (fun _ => trivial))) rfl ?_
  obtain ⟨r7, hv8, h⟩ := bind_some h
  refine Chain.cons (StepOK.callIf (.at rfl rfl) fnok9 (fun hg => ref_FontError_ok ((fun hg => gd_some hv8 (hg.2)) hg)) (.cons (.tmp rfl id) .nil) (fun h => h)) rfl ?_
  refine Chain.cons (StepOK.eqI (.at rfl rfl) (.tmp rfl id) (.tmp rfl id)) rfl ?_
  refine Chain.cons (StepOK.pickAnd .none (.tmp rfl (fun _ => trivial)) (.tmp rfl id)) rfl ?_
  refine Chain.cons (StepOK.move .none (.tmp rfl (fun _ => trivial))) rfl ?_
  refine Chain.cons (StepOK.load (.at rfl rfl) ty9 (.tmp rfl (fun _ => trivial))) rfl ?_
  obtain ⟨r8, hv9, h⟩ := bind_some h
  refine Chain.cons (StepOK.callIf (.at rfl rfl) fnok15 (fun hg => shape_CheckText_ok ((fun hg => gd_some hv9 (hg.2)) hg)) (.cons (.tmp rfl id) .nil) (fun h => h)) rfl ?_
  refine Chain.cons (StepOK.load (.at rfl rfl) ty9 (.tmp rfl (fun _ => trivial))) rfl ?_
  obtain ⟨r9, hv10, h⟩ := bind_some h
  refine Chain.cons (StepOK.callIf (.at rfl rfl) fnok10 (fun hg => ref_TextError_ok ((fun hg => gd_some hv10 (hg.2)) hg)) (.cons (.tmp rfl id) .nil) (fun h => h)) rfl ?_
  refine Chain.cons (StepOK.eqI (.at rfl rfl) (.tmp rfl id) (.tmp rfl id)) rfl ?_
  refine Chain.cons (StepOK.pickAnd .none (.tmp rfl (fun _ => trivial)) (.tmp rfl id)) rfl ?_
  refine Chain.cons (StepOK.move .none (.tmp rfl (fun _ => trivial))) rfl ?_
  refine Chain.cons (StepOK.move (.at rfl rfl) (.tmp rfl (fun _ => trivial))) rfl ?_
  refine Chain.cons (StepOK.move (.at rfl rfl) (.tmp rfl (fun _ => trivial))) rfl ?_
  refine Chain.cons (StepOK.move (.at rfl rfl) (.tmp rfl (fun _ => trivial))) rfl ?_
  refine Chain.cons (StepOK.load (.at rfl rfl) ty9 (.tmp rfl (fun _ => trivial))) rfl ?_
  obtain ⟨r10, hv11, h⟩ := bind_some h
  refine Chain.cons (StepOK.callIf (.at rfl rfl) fnok18 (fun hg => strings_Contains_ok ((fun hg => gd_some hv11 (hg.2)) hg)) (.cons (.tmp rfl id) (.cons (.str (l := [10]) (by decide)) .nil)) (fun h => h)) rfl ?_
  obtain ⟨r11, hv12, h⟩ := bind_some h
  refine Chain.cons (StepOK.callIf (.at rfl rfl) fnok17 (fun hg => ref_When_ok ((fun hg => gd_some hv12 (hg.2)) hg)) (.cons (.tmp rfl id) (.cons (.int (by decide)) .nil)) (fun h => h)) rfl ?_
  refine Chain.cons (StepOK.buildSlice (xs := [_, _]) (.at rfl rfl) sl74 ty24 hz24 (.cons (.tmp rfl id) (.cons (.tmp rfl id) .nil)) rfl (by decide)) rfl ?_
  obtain ⟨r12, hv13, h⟩ := bind_some h
  refine Chain.cons (StepOK.callIf (.at rfl rfl) fnok8 (fun hg => ref_First_ok ((fun hg => gd_some hv13 (hg.2)) hg)) (.cons (.tmp rfl id) .nil) (fun h => h)) rfl ?_
  refine Chain.cons (StepOK.makeFunc (ι := Int) (pre := fun i => (law_TextsMatch_1 f1 s1)  = some i) (Ss := fun i => []) (S := fun i => rep i) (.at rfl rfl) fnok19 (fun i h => law_TextsMatch_1_ok h) (.cons (.tmp rfl (fun _ => trivial)) (.cons (.tmp rfl (fun _ => trivial)) .nil))) rfl ?_
  obtain ⟨r13, hv14, h⟩ := bind_some h
  refine Chain.cons (StepOK.callIf (.at rfl rfl) fnok16 (fun hg => law_is_int_ok ((fun hg => gd_some hv14 (hg.2)) hg)) (.cons (.tmp rfl id) (.cons (.tmp rfl id) (.cons (.tmp rfl id) (.cons (.tmp rfl id) .nil)))) (fun h => h)) rfl ?_
  refine Chain.cons (StepOK.pickAnd .none (.tmp rfl (fun _ => trivial)) (.tmp rfl id)) rfl ?_
  refine Chain.cons (StepOK.move .none (.tmp rfl (fun _ => trivial))) rfl ?_
  refine Chain.cons (StepOK.move (.at rfl rfl) (.tmp rfl (fun _ => trivial))) rfl ?_
  refine Chain.cons (StepOK.move (.at rfl rfl) (.tmp rfl (fun _ => trivial))) rfl ?_
  refine Chain.cons (StepOK.move (.at rfl rfl) (.tmp rfl (fun _ => trivial))) rfl ?_
  refine Chain.cons (StepOK.load (.at rfl rfl) ty3 (.tmp rfl (fun _ => trivial))) rfl ?_
  obtain ⟨r14, hv15, h⟩ := bind_some h
  refine Chain.cons (StepOK.callIf (.at rfl rfl) fnok22 (fun hg => ref_In_ok ((fun hg => gd_some hv15 (hg.2)) hg)) (.cons (.tmp rfl id) (.cons (.int (by decide)) (.cons (.int (by decide)) .nil))) (fun h => h)) rfl ?_
  refine Chain.cons (StepOK.not (.at rfl rfl) (.tmp rfl id)) rfl ?_
  obtain ⟨r15, hv16, h⟩ := bind_some h
  refine Chain.cons (StepOK.callIf (.at rfl rfl) fnok17 (fun hg => ref_When_ok ((fun hg => gd_some hv16 (hg.2)) hg)) (.cons (.tmp rfl id) (.cons (.int (by decide)) .nil)) (fun h => h)) rfl ?_
  refine Chain.cons (StepOK.buildSlice (xs := [_, _]) (.at rfl rfl) sl74 ty24 hz24 (.cons (.tmp rfl id) (.cons (.tmp rfl id) .nil)) rfl (by decide)) rfl ?_
  obtain ⟨r16, hv17, h⟩ := bind_some h
  refine Chain.cons (StepOK.callIf (.at rfl rfl) fnok8 (fun hg => ref_First_ok ((fun hg => gd_some hv17 (hg.2)) hg)) (.cons (.tmp rfl id) .nil) (fun h => h)) rfl ?_
  refine Chain.cons (StepOK.makeFunc (ι := (List Str)) (pre := fun i => (law_TextsMatch_2 f1 s1 width1)  = some i) (Ss := fun i => []) (S := fun i => rep i) (.at rfl rfl) fnok23 (fun i h => law_TextsMatch_2_ok h) (.cons (.tmp rfl (fun _ => trivial)) (.cons (.tmp rfl (fun _ => trivial)) (.cons (.tmp rfl (fun _ => trivial)) .nil)))) rfl ?_
  obtain ⟨r17, hv18, h⟩ := bind_some h
  refine Chain.cons (StepOK.callIf (.at rfl rfl) fnok21 (fun hg => law_lists_string_ok ((fun hg => gd_some hv18 (hg.2)) hg)) (.cons (.tmp rfl id) (.cons (.tmp rfl id) (.cons (.tmp rfl id) (.cons (.tmp rfl id) .nil)))) (fun h => h)) rfl ?_
  refine Chain.cons (StepOK.pickAnd .none (.tmp rfl (fun _ => trivial)) (.tmp rfl id)) rfl ?_
  refine Chain.cons (StepOK.assign .none (.tmp rfl (fun _ => trivial))) rfl ?_
  refine Chain.nil ?_
  refine Ends.then ?_
  refine Cod.ret ?_
  obtain rfl := some_eq h
  exact Ends.ret1 (.inl rfl) Tryd.results3 (ResOK.tmp rfl trivial Imp.refl)


end Go.Proofs.YthopjimlhjgoiaaDoor
