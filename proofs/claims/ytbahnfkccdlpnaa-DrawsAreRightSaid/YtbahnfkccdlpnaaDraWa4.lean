/-
  The walks: what a function computes is what its plain function says (printed by a program of one's own).
-/
import Derived.Test.YtbahnfkccdlpnaaDraWa3
set_option maxRecDepth 100000
set_option linter.unusedSimpArgs false
set_option linter.unusedVariables false
namespace Go.Proofs.Ytbahnfkccdlpnaa
open Go Go.DB Go.RowKit

set_option maxHeartbeats 4000000 in
theorem ref_IsDrawn_ok {sizes1 : (List Point)} {l1 : (List Link)} {gapx1 : Int} {gapy1 : Int} {at1 : (List Point)} {r : Bool}  (h : ref_IsDrawn sizes1 l1 gapx1 gapy1 at1 = some r) : FSpec Try.prog 49 [rep sizes1, rep l1, rep gapx1, rep gapy1, rep at1] (rep r) := by
 unfold ref_IsDrawn at h
 refine FSpec.intro (n := 179) fnok49 Try.func49 rfl Try.ntmps49 rfl (fun F => ?_)
 refine .seq (.region [] mixed (by kernel_rfl) ?_)
 refine .cons (.assign .none .bool) rfl ?_
 refine .nil (.then ?_)
 refine .seq (.region [] mixed (by kernel_rfl) ?_)
 refine .cons (.move .none (.s rfl)) rfl ?_
 refine .cons (.len .none sl71 (.s rfl)) rfl ?_
 obtain ⟨n1, hv1, h⟩ := bnd_some h
 refine .cons (.re hv1 (.assign .none (.s rfl))) rfl ?_
 refine .nil (.then ?_)
 refine .seq ?_
 refine .seq (.region [] mixed (by kernel_rfl) ?_)
 refine .cons (.move .none (.s rfl)) rfl ?_
 refine .cons (.len .none sl71 (.s rfl)) rfl ?_
 refine .cons (.move .none (.s rfl)) rfl ?_
 refine .cons (.neI .none (.s rfl) (.s rfl)) rfl ?_
 refine .nil (.then ?_)
 refine .cond (t := 31) rfl trivial (fun hb2 => ?_) (fun hb2 => ?_)
 ·
  replace h := bif_t h hb2
  refine .seq (.region [] mixed (by kernel_rfl) ?_)
  refine .cons (.assign .none .bool) rfl ?_
  refine .nil (.then ?_)
  refine .ret ?_
  refine .thenRet ?_
  obtain rfl := some_eq h
  exact Ends.ret1 (.inl rfl) Try.results49 (ResOK.tmp rfl trivial Imp.refl)
 ·
  replace h := bif_f h hb2
  refine .skip ?_
  refine .then ?_
  refine .seq (.region [([], [12])] mixed (by kernel_rfl) ?_)
  refine .consW (.nilRow (T := 3) (α := Int) rfl) rfl rfl ?_
  refine .nil (.then ?_)
  refine .nameRow (t := 12) (g := 5001) rfl rfl rfl (fun s5001 => ?_)
  refine .seq ?_
  refine .seq (.region [] mixed (by kernel_rfl) ?_)
  refine .cons (.move .none (.s rfl)) rfl ?_
  refine .cons (.len .none sl71 (.s rfl)) rfl ?_
  refine .cons (.move .none (.int (by decide))) rfl ?_
  refine .nil (.then ?_)
  obtain ⟨j_3, h, hK3⟩ := bind_some h
  refine .thenJ (ι := (List Int)) (fun j_3 => []) (fun j_3 => [(12, some (rowV 3 j_3))]) (fun s => j_3 = s) (.k 0 rfl (.k 1 rfl (.k 2 rfl (.k 3 rfl (.k 4 rfl (.k 11 rfl .nil)))))) SubB.nil ?_ (fun j_3' hj3 => ?_)
  ·
   skip
   refine .block ?_
   refine .anon (t := 12) (g := 5001) rfl rfl trivial rfl ?_
   refine .rforL h (fun p4_ => [(34, ⟨True, rep p4_.1⟩)]) (fun p4_ => [(12, some (rowV 3 p4_.2))]) (.k 34 rfl .nil) (.k 12 rfl .nil) (.k 0 rfl (.k 1 rfl (.k 2 rfl (.k 3 rfl (.k 4 rfl (.k 11 rfl (.k 32 rfl (.k 33 rfl .nil)))))))) SubB.nil (fun p4_ o_4 h hD4 => ?_)
   refine .nameRow (t := 12) (g := 5002) rfl rfl rfl (fun s5002 => ?_)
   refine .seq (.region [] mixed (by kernel_rfl) ?_)
   refine .cons (.lt .none (.s rfl) (.s rfl)) rfl ?_
   refine .nil (.then ?_)
   refine .seq ?_
   refine .cond (t := 35) rfl trivial (fun hb5 => ?_) (fun hb5 => ?_)
   ·
    replace h := bif_t h hb5
    refine .skip ?_
    refine .then ?_
    refine .seq ?_
    obtain ⟨j_6, h, hK6⟩ := bind_some h
    unfold ref_IsDrawn_L1 at h
    refine .thenJ (ι := (List Int)) (fun j_6 => []) (fun j_6 => [(12, some (rowV 3 j_6))]) (fun s => j_6 = s) (.k 0 rfl (.k 1 rfl (.k 2 rfl (.k 3 rfl (.k 4 rfl (.k 11 rfl (.k 32 rfl (.k 33 rfl (.k 34 rfl .nil))))))))) SubB.nil ?_ (fun j_6' hj6 => ?_)
    ·
     skip
     refine .block ?_
     refine .seq (.region [([], []), ([], []), ([], [14]), ([14], [14])] mixed (by kernel_rfl) ?_)
     obtain ⟨hn7, h⟩ := need_some h
     refine .consA (.indexAddr .none sl71 ty81 (.s rfl) (.s rfl) (fun _ => hn7)) rfl ?_
     obtain ⟨v1, hv8, h⟩ := bnd_some h
     refine .consA (.re hv8 (.load .none ty81 (.s rfl))) rfl ?_
     refine .consW (.alloc zo81 rfl) rfl rfl ?_
     refine .consN (.store ty81 rfl rfl (.s rfl)) rfl ?_
     refine .nil (.then ?_)
     refine .freeze (t := 14) rfl rfl (.k 5002 rfl .nil) rfl ?_
     refine .region [([], []), ([], []), ([], []), ([], []), ([5002], [42, 5002]), ([42], [12, 42])] mixed (by kernel_rfl) ?_
     refine .consA (.move .none (.s rfl)) rfl ?_
     refine .consA (.fieldAddr .none fd81_1 hfd81_1 (.s rfl)) rfl ?_
     refine .consA (.load .none ty3 (.s rfl)) rfl ?_
     refine .consA (.buildSlice (xs := [_]) .none sl32 ty3 hz3 (.cons (.s rfl) .nil) rfl (by decide)) rfl ?_
     obtain ⟨hn9, h⟩ := need_some h
     refine .consW (.append (k := 5002) rk32 rfl (.told (.s rfl) rfl) (.s rfl) hn9) rfl rfl ?_
     refine .consW (.passRow rfl (.tmp rfl)) rfl rfl ?_
     refine .nil ?_
     refine .blkNormal ?_
     exact Ends.join _ (some_eq h) (.k 0 rfl (.k 1 rfl (.k 2 rfl (.k 3 rfl (.k 4 rfl (.k 11 rfl (.k 32 rfl (.k 33 rfl (.k 34 rfl .nil))))))))) (.k 12 rfl .nil)
    ·
     subst hj6; have h := hK6; clear hK6
     refine .nameRow (t := 12) (g := 5003) rfl rfl rfl (fun s5003 => ?_)
     refine .region [] mixed (by kernel_rfl) ?_
     refine .cons (.addW .none (.s rfl) (.int (by decide))) rfl ?_
     refine .cons (.move .none (.s rfl)) rfl ?_
     refine .nil ?_
     refine .anon (t := 12) (g := 5003) rfl rfl trivial rfl ?_
     exact Ends.againL (some_eq h) (.k 34 rfl (.k 0 rfl (.k 1 rfl (.k 2 rfl (.k 3 rfl (.k 4 rfl (.k 11 rfl (.k 32 rfl (.k 33 rfl .nil))))))))) (.k 12 rfl .nil)
   ·
    replace h := bif_f h hb5
    refine .exit ?_
    refine .thenExit ?_
    refine .thenExit ?_
    refine .blkExit ?_
    refine .anon (t := 12) (g := 5002) rfl rfl trivial rfl ?_
    replace h := hD4 _ (some_eq h)
    exact Ends.join _ (some_eq h) (.k 0 rfl (.k 1 rfl (.k 2 rfl (.k 3 rfl (.k 4 rfl (.k 11 rfl .nil)))))) (.k 12 rfl .nil)
  ·
   subst hj3; have h := hK3; clear hK3
   refine .freezeRowA (t := 12) rfl rfl SubB.nil rfl ?_
   refine .seq (.region [([], []), ([], []), ([], [46]), ([46], [46]), ([], [])] mixed (by kernel_rfl) ?_)
   refine .consA (.move .none (.s rfl)) rfl ?_
   obtain ⟨r1, hv10, h⟩ := bind_some h
   refine .consA (.call .none (slices_Values_int_ok hv10) (.cons (.s rfl) .nil)) rfl ?_
   obtain ⟨r2, hv11, h⟩ := bind_some h
   refine .consW (.callO [] (slices_Sorted_int_ok hv11) (.cons (.s rfl) .nil) .nil rfl (by decide) (by decide) (by intro d h; cases h; decide)) rfl rfl ?_
   obtain ⟨ys1, hv12, h⟩ := bind_some h
   refine .consW (.tell (t := 46) rfl row_one rfl (by decide) (fun _ => StepOK.callO [46] ((slices_Compact_int_ok hv12).frzO1) (.cons (.s rfl) .nil) (.cons (k := 46) rfl .nil) rfl (by decide) (by decide) (by intro d h; cases h; decide))) rfl rfl ?_
   refine .consA (.assign .none (.s rfl)) rfl ?_
   refine .nil (.then ?_)
   refine .seq (.region [([], []), ([], [49]), ([49], [15, 49])] mixed (by kernel_rfl) ?_)
   refine .consA (.move .none (.s rfl)) rfl ?_
   obtain ⟨hn13, h⟩ := need_some h
   refine .consW (.makeSlice rk32 zo3 rfl (.s rfl) (.s rfl) hn13) rfl rfl ?_
   refine .consW (.passRow rfl (.tmp rfl)) rfl rfl ?_
   refine .nil (.then ?_)
   obtain ⟨ranks1, hv14, h⟩ := bnd_some h
   refine .reB (t := 15) rfl (congrArg (rowV 3) hv14) ?_
   refine .nameRow (t := 15) (g := 5004) rfl rfl rfl (fun s5004 => ?_)
   refine .seq (.region [] mixed (by kernel_rfl) ?_)
   refine .cons (.move .none (.s rfl)) rfl ?_
   obtain ⟨hn15, h⟩ := need_some h
   refine .cons (.indexAddr .none sl71 ty81 (.s rfl) (.int (by decide)) (fun _ => hn15)) rfl ?_
   refine .cons (.fieldAddr .none fd81_0 hfd81_0 (.s rfl)) rfl ?_
   refine .cons (.load .none ty3 (.s rfl)) rfl ?_
   obtain ⟨low1, hv16, h⟩ := bnd_some h
   refine .cons (.re hv16 (.assign .none (.s rfl))) rfl ?_
   refine .nil (.then ?_)
   refine .seq ?_
   refine .seq (.region [] mixed (by kernel_rfl) ?_)
   refine .cons (.move .none (.s rfl)) rfl ?_
   refine .cons (.len .none sl71 (.s rfl)) rfl ?_
   refine .cons (.move .none (.int (by decide))) rfl ?_
   refine .nil (.then ?_)
   obtain ⟨j_17, h, hK17⟩ := bind_some h
   refine .thenJ (ι := (Int × (List Int))) (fun j_17 => [(16, ⟨True, rep j_17.1⟩)]) (fun j_17 => [(5004, some (CPred.at s5004 (rowV 3 j_17.2)))]) (fun s => j_17 = s) (.k 0 rfl (.k 1 rfl (.k 2 rfl (.k 3 rfl (.k 4 rfl (.k 11 rfl (.k 12 rfl (.k 15 rfl .nil)))))))) SubB.nil ?_ (fun j_17' hj17 => ?_)
   ·
    skip
    refine .block ?_
    refine .rforL h (fun p18_ => [(56, ⟨True, rep p18_.1⟩), (16, ⟨True, rep p18_.2.1⟩)]) (fun p18_ => [(5004, some (CPred.at s5004 (rowV 3 p18_.2.2)))]) (.k 56 rfl (.k 16 rfl .nil)) (.k 5004 rfl .nil) (.k 0 rfl (.k 1 rfl (.k 2 rfl (.k 3 rfl (.k 4 rfl (.k 11 rfl (.k 12 rfl (.k 15 rfl (.k 54 rfl (.k 55 rfl .nil)))))))))) SubB.nil (fun p18_ o_18 h hD18 => ?_)
    refine .seq (.region [] mixed (by kernel_rfl) ?_)
    refine .cons (.lt .none (.s rfl) (.s rfl)) rfl ?_
    refine .nil (.then ?_)
    refine .seq ?_
    refine .cond (t := 57) rfl trivial (fun hb19 => ?_) (fun hb19 => ?_)
    ·
     replace h := bif_t h hb19
     refine .skip ?_
     refine .then ?_
     refine .seq ?_
     obtain ⟨j_20, h, hK20⟩ := bind_some h
     unfold ref_IsDrawn_L2 at h
     refine .thenJ (ι := (Int × (List Int))) (fun j_20 => [(16, ⟨True, rep j_20.1⟩)]) (fun j_20 => [(5004, some (CPred.at s5004 (rowV 3 j_20.2)))]) (fun s => j_20 = s) (.k 0 rfl (.k 1 rfl (.k 2 rfl (.k 3 rfl (.k 4 rfl (.k 11 rfl (.k 12 rfl (.k 15 rfl (.k 54 rfl (.k 55 rfl (.k 56 rfl .nil))))))))))) SubB.nil ?_ (fun j_20' hj20 => ?_)
     ·
      skip
      refine .block ?_
      refine .seq (.region [([], []), ([], []), ([], []), ([], [18]), ([], []), ([18], [18])] mixed (by kernel_rfl) ?_)
      refine .consA (.move .none (.s rfl)) rfl ?_
      obtain ⟨hn21, h⟩ := need_some h
      refine .consA (.indexAddr .none sl71 ty81 (.s rfl) (.s rfl) (fun _ => hn21)) rfl ?_
      obtain ⟨v2, hv22, h⟩ := bnd_some h
      refine .consA (.re hv22 (.load .none ty81 (.s rfl))) rfl ?_
      refine .consW (.alloc zo81 rfl) rfl rfl ?_
      refine .consA (.assign .none (.s rfl)) rfl ?_
      refine .consN (.store ty81 rfl rfl (.s rfl)) rfl ?_
      refine .nil (.then ?_)
      refine .freeze (t := 18) rfl rfl (.k 5004 rfl .nil) rfl ?_
      refine .seq (.region [([], []), ([], []), ([], []), ([], []), ([], []), ([], []), ([5004], []), ([5004], [5004])] mixed (by kernel_rfl) ?_)
      refine .consA (.move .none (.s rfl)) rfl ?_
      refine .consA (.move .none (.s rfl)) rfl ?_
      refine .consA (.move .none (.s rfl)) rfl ?_
      refine .consA (.fieldAddr .none fd81_1 hfd81_1 (.s rfl)) rfl ?_
      refine .consA (.load .none ty3 (.s rfl)) rfl ?_
      obtain ⟨r3, hv23, h⟩ := bind_some h
      refine .consA (.call .none (slices_Index_int_ok hv23) (.cons (.s rfl) (.cons (.s rfl) .nil))) rfl ?_
      obtain ⟨hn24, h⟩ := need_some h
      refine .consA (.indexAddrO (k := 5004) .none sl32 ty3 (.s rfl) rfl (.s rfl) (fun _ => hn24)) rfl ?_
      refine .consN (.storeElem0 (k := 5004) ty3 (.s rfl) rfl (.s rfl) hn24) rfl ?_
      refine .nil (.then ?_)
      obtain ⟨ranks2, hv25, h⟩ := bnd_some h
      refine .reB (t := 5004) rfl (congrArg (fun y => CPred.at s5004 (rowV 3 y)) hv25) ?_
      refine .region [] mixed (by kernel_rfl) ?_
      refine .cons (.move .none (.s rfl)) rfl ?_
      refine .cons (.fieldAddr .none fd81_0 hfd81_0 (.s rfl)) rfl ?_
      refine .cons (.load .none ty3 (.s rfl)) rfl ?_
      refine .cons (.min2 .none (.s rfl) (.s rfl)) rfl ?_
      obtain ⟨low2, hv26, h⟩ := bnd_some h
      refine .cons (.re hv26 (.assign .none (.s rfl))) rfl ?_
      refine .nil ?_
      refine .blkNormal ?_
      exact Ends.join _ (some_eq h) (.k 16 rfl (.k 0 rfl (.k 1 rfl (.k 2 rfl (.k 3 rfl (.k 4 rfl (.k 11 rfl (.k 12 rfl (.k 15 rfl (.k 54 rfl (.k 55 rfl (.k 56 rfl .nil)))))))))))) (.k 5004 rfl .nil)
     ·
      subst hj20; have h := hK20; clear hK20
      refine .region [] mixed (by kernel_rfl) ?_
      refine .cons (.addW .none (.s rfl) (.int (by decide))) rfl ?_
      refine .cons (.move .none (.s rfl)) rfl ?_
      refine .nil ?_
      exact Ends.againL (some_eq h) (.k 56 rfl (.k 16 rfl (.k 0 rfl (.k 1 rfl (.k 2 rfl (.k 3 rfl (.k 4 rfl (.k 11 rfl (.k 12 rfl (.k 15 rfl (.k 54 rfl (.k 55 rfl .nil)))))))))))) (.k 5004 rfl .nil)
    ·
     replace h := bif_f h hb19
     refine .exit ?_
     refine .thenExit ?_
     refine .thenExit ?_
     refine .blkExit ?_
     replace h := hD18 _ (some_eq h)
     exact Ends.join _ (some_eq h) (.k 16 rfl (.k 0 rfl (.k 1 rfl (.k 2 rfl (.k 3 rfl (.k 4 rfl (.k 11 rfl (.k 12 rfl (.k 15 rfl .nil))))))))) (.k 5004 rfl .nil)
   ·
    subst hj17; have h := hK17; clear hK17
    refine .freezeRow (g := 5004) (ts := [15]) rfl (.cons (t := 15) rfl trivial .nil) SubB.nil rfl ?_
    refine .seq (.region [] mixed (by kernel_rfl) ?_)
    refine .cons (.assign .none (.int (by decide))) rfl ?_
    refine .nil (.then ?_)
    refine .seq ?_
    refine .seq (.region [] mixed (by kernel_rfl) ?_)
    refine .cons (.move .none (.s rfl)) rfl ?_
    refine .cons (.len .none sl32 (.s rfl)) rfl ?_
    refine .cons (.move .none (.int (by decide))) rfl ?_
    refine .nil (.then ?_)
    obtain ⟨o_27, h, hK27⟩ := bindR_some h
    refine .thenJ (ι := Int) (fun j_27 => [(19, ⟨True, rep j_27⟩)]) (fun j_27 => []) (fun s => o_27 = Res.nx s) (.k 1 rfl (.k 11 rfl (.k 15 rfl (.k 16 rfl .nil)))) SubB.nil ?_ (fun j_27 hj27 => ?_)
    ·
     skip
     refine .block ?_
     refine .rforEL h (fun p28_ => [(75, ⟨True, rep p28_.1⟩), (19, ⟨True, rep p28_.2⟩)]) (fun p28_ => []) (.k 75 rfl (.k 19 rfl .nil)) SubB.nil (.k 0 rfl (.k 1 rfl (.k 2 rfl (.k 3 rfl (.k 4 rfl (.k 11 rfl (.k 15 rfl (.k 16 rfl (.k 73 rfl (.k 74 rfl .nil)))))))))) SubB.nil (fun p28_ o_28 h hD28 => ?_)
     refine .seq (.region [] mixed (by kernel_rfl) ?_)
     refine .cons (.lt .none (.s rfl) (.s rfl)) rfl ?_
     refine .nil (.then ?_)
     refine .seq ?_
     refine .cond (t := 76) rfl trivial (fun hb29 => ?_) (fun hb29 => ?_)
     ·
      replace h := bif_t h hb29
      refine .skip ?_
      refine .then ?_
      refine .seq ?_
      obtain ⟨o_30, h, hK30⟩ := bindD_some h
      unfold ref_IsDrawn_L3 at h
      refine .thenJ (ι := Int) (fun j_30 => [(19, ⟨True, rep j_30⟩)]) (fun j_30 => []) (fun s => o_30 = Res.nx s) (.k 0 rfl (.k 1 rfl (.k 2 rfl (.k 3 rfl (.k 4 rfl (.k 11 rfl (.k 15 rfl (.k 16 rfl (.k 73 rfl (.k 74 rfl (.k 75 rfl .nil))))))))))) SubB.nil ?_ (fun j_30 hj30 => ?_)
      ·
       skip
       refine .block ?_
       refine .seq (.region [] mixed (by kernel_rfl) ?_)
       refine .cons (.move .none (.s rfl)) rfl ?_
       obtain ⟨hn31, h⟩ := need_some h
       refine .cons (.indexAddr .none sl32 ty3 (.s rfl) (.s rfl) (fun _ => hn31)) rfl ?_
       refine .cons (.load .none ty3 (.s rfl)) rfl ?_
       refine .cons (.assign .none (.s rfl)) rfl ?_
       refine .cons (.assign .none (.s rfl)) rfl ?_
       refine .nil (.then ?_)
       refine .seq ?_
       refine .seq (.region [] mixed (by kernel_rfl) ?_)
       refine .cons (.move .none (.s rfl)) rfl ?_
       refine .cons (.move .none (.s rfl)) rfl ?_
       refine .cons (.neI .none (.s rfl) (.s rfl)) rfl ?_
       refine .nil (.then ?_)
       refine .cond (t := 82) rfl trivial (fun hb32 => ?_) (fun hb32 => ?_)
       ·
        replace h := bif_t h hb32
        refine .seq (.region [] mixed (by kernel_rfl) ?_)
        refine .cons (.assign .none .bool) rfl ?_
        refine .nil (.then ?_)
        refine .ret ?_
        refine .thenRet ?_
        refine .blkRet ?_
        refine .thenRet ?_
        refine .thenRet ?_
        refine .blkRet ?_
        refine .thenRet ?_
        replace h := resd_ab hK30 (some_eq h)
        replace h := hD28 _ (some_eq h)
        replace h := resb_ab hK27 (some_eq h)
        obtain rfl := some_eq h
        exact Ends.ret1 (.inl rfl) Try.results49 (ResOK.tmp rfl trivial Imp.refl)
       ·
        replace h := bif_f h hb32
        refine .skip ?_
        refine .then ?_
        refine .seq (.region [] mixed (by kernel_rfl) ?_)
        refine .cons (.assign .none (.int (by decide))) rfl ?_
        refine .nil (.then ?_)
        refine .seq ?_
        refine .seq (.region [] mixed (by kernel_rfl) ?_)
        refine .cons (.move .none (.s rfl)) rfl ?_
        refine .cons (.move .none (.int (by decide))) rfl ?_
        refine .nil (.then ?_)
        obtain ⟨o_33, h, hK33⟩ := bindR_some h
        refine .thenJ (ι := Int) (fun j_33 => [(22, ⟨True, rep j_33⟩)]) (fun j_33 => []) (fun s => o_33 = Res.nx s) (.k 0 rfl (.k 1 rfl (.k 2 rfl (.k 3 rfl (.k 4 rfl (.k 11 rfl (.k 15 rfl (.k 16 rfl (.k 19 rfl (.k 73 rfl (.k 74 rfl (.k 75 rfl .nil)))))))))))) SubB.nil ?_ (fun j_33 hj33 => ?_)
        ·
         skip
         refine .block ?_
         refine .rforEL h (fun p34_ => [(84, ⟨True, rep p34_.1⟩), (22, ⟨True, rep p34_.2⟩)]) (fun p34_ => []) (.k 84 rfl (.k 22 rfl .nil)) SubB.nil (.k 0 rfl (.k 1 rfl (.k 2 rfl (.k 3 rfl (.k 4 rfl (.k 11 rfl (.k 15 rfl (.k 16 rfl (.k 19 rfl (.k 20 rfl (.k 73 rfl (.k 74 rfl (.k 75 rfl (.k 83 rfl .nil)))))))))))))) SubB.nil (fun p34_ o_34 h hD34 => ?_)
         refine .seq (.region [] mixed (by kernel_rfl) ?_)
         refine .cons (.lt .none (.s rfl) (.s rfl)) rfl ?_
         refine .nil (.then ?_)
         refine .seq ?_
         refine .cond (t := 85) rfl trivial (fun hb35 => ?_) (fun hb35 => ?_)
         ·
          replace h := bif_t h hb35
          refine .skip ?_
          refine .then ?_
          refine .seq ?_
          obtain ⟨o_36, h, hK36⟩ := bindD_some h
          unfold ref_IsDrawn_L4 at h
          refine .thenJ (ι := Int) (fun j_36 => [(22, ⟨True, rep j_36⟩)]) (fun j_36 => []) (fun s => o_36 = Res.nx s) (.k 0 rfl (.k 1 rfl (.k 2 rfl (.k 3 rfl (.k 4 rfl (.k 11 rfl (.k 15 rfl (.k 16 rfl (.k 19 rfl (.k 20 rfl (.k 73 rfl (.k 74 rfl (.k 75 rfl (.k 83 rfl (.k 84 rfl .nil))))))))))))))) SubB.nil ?_ (fun j_36 hj36 => ?_)
          ·
           skip
           refine .block ?_
           refine .seq (.region [] mixed (by kernel_rfl) ?_)
           refine .cons (.move .none (.s rfl)) rfl ?_
           refine .cons (.assign .none (.s rfl)) rfl ?_
           refine .nil (.then ?_)
           refine .seq ?_
           refine .seq (.region [] mixed (by kernel_rfl) ?_)
           refine .cons (.move .none (.s rfl)) rfl ?_
           refine .cons (.move .none (.s rfl)) rfl ?_
           obtain ⟨hn37, h⟩ := need_some h
           refine .cons (.indexAddr .none sl32 ty3 (.s rfl) (.s rfl) (fun _ => hn37)) rfl ?_
           refine .cons (.load .none ty3 (.s rfl)) rfl ?_
           refine .cons (.move .none (.s rfl)) rfl ?_
           refine .cons (.neI .none (.s rfl) (.s rfl)) rfl ?_
           refine .nil (.then ?_)
           refine .cond (t := 92) rfl trivial (fun hb38 => ?_) (fun hb38 => ?_)
           ·
            replace h := bif_t h hb38
            refine .exit ?_
            refine .thenExit ?_
            refine .blkExit ?_
            exact Ends.join _ (some_eq h) (.k 22 rfl (.k 0 rfl (.k 1 rfl (.k 2 rfl (.k 3 rfl (.k 4 rfl (.k 11 rfl (.k 15 rfl (.k 16 rfl (.k 19 rfl (.k 20 rfl (.k 73 rfl (.k 74 rfl (.k 75 rfl (.k 83 rfl (.k 84 rfl .nil)))))))))))))))) SubB.nil
           ·
            replace h := bif_f h hb38
            refine .skip ?_
            refine .then ?_
            refine .seq (.region [] mixed (by kernel_rfl) ?_)
            refine .cons (.move .none (.s rfl)) rfl ?_
            refine .cons (.move .none (.s rfl)) rfl ?_
            refine .cons (.move .none (.s rfl)) rfl ?_
            obtain ⟨hn39, h⟩ := need_some h
            refine .cons (.indexAddr .none sl71 ty81 (.s rfl) (.s rfl) (fun _ => hn39)) rfl ?_
            refine .cons (.fieldAddr .none fd81_1 hfd81_1 (.s rfl)) rfl ?_
            refine .cons (.load .none ty3 (.s rfl)) rfl ?_
            refine .cons (.max2 .none (.s rfl) (.s rfl)) rfl ?_
            obtain ⟨high1, hv40, h⟩ := bnd_some h
            refine .cons (.re hv40 (.assign .none (.s rfl))) rfl ?_
            refine .nil (.then ?_)
            refine .seq (.region [] mixed (by kernel_rfl) ?_)
            refine .cons (.move .none (.s rfl)) rfl ?_
            refine .cons (.move .none (.int (by decide))) rfl ?_
            refine .nil (.then ?_)
            obtain ⟨o_41, h, hK41⟩ := bindR_some h
            refine .tailJ (ι := Unit) (fun j_41 => []) (fun j_41 => []) (fun s => o_41 = Res.nx s) (.k 0 rfl (.k 1 rfl (.k 2 rfl (.k 3 rfl (.k 4 rfl (.k 11 rfl (.k 15 rfl (.k 16 rfl (.k 19 rfl (.k 20 rfl (.k 22 rfl (.k 73 rfl (.k 74 rfl (.k 75 rfl (.k 83 rfl (.k 84 rfl .nil)))))))))))))))) SubB.nil ?_ (fun j_41 hj41 => ?_)
            ·
             skip
             refine .block ?_
             refine .rforEL h (fun p42_ => [(101, ⟨True, rep p42_.1⟩)]) (fun p42_ => []) (.k 101 rfl .nil) SubB.nil (.k 0 rfl (.k 1 rfl (.k 2 rfl (.k 3 rfl (.k 4 rfl (.k 11 rfl (.k 15 rfl (.k 16 rfl (.k 19 rfl (.k 20 rfl (.k 22 rfl (.k 23 rfl (.k 73 rfl (.k 74 rfl (.k 75 rfl (.k 83 rfl (.k 84 rfl (.k 100 rfl .nil)))))))))))))))))) SubB.nil (fun p42_ o_42 h hD42 => ?_)
             refine .seq (.region [] mixed (by kernel_rfl) ?_)
             refine .cons (.lt .none (.s rfl) (.s rfl)) rfl ?_
             refine .nil (.then ?_)
             refine .seq ?_
             refine .cond (t := 102) rfl trivial (fun hb43 => ?_) (fun hb43 => ?_)
             ·
              replace h := bif_t h hb43
              refine .skip ?_
              refine .then ?_
              refine .seq ?_
              obtain ⟨o_44, h, hK44⟩ := bindD_some h
              unfold ref_IsDrawn_L5 at h
              refine .thenJ (ι := Unit) (fun j_44 => []) (fun j_44 => []) (fun s => o_44 = Res.nx s) (.k 0 rfl (.k 1 rfl (.k 2 rfl (.k 3 rfl (.k 4 rfl (.k 11 rfl (.k 15 rfl (.k 16 rfl (.k 19 rfl (.k 20 rfl (.k 22 rfl (.k 23 rfl (.k 73 rfl (.k 74 rfl (.k 75 rfl (.k 83 rfl (.k 84 rfl (.k 100 rfl (.k 101 rfl .nil))))))))))))))))))) SubB.nil ?_ (fun j_44 hj44 => ?_)
              ·
               skip
               refine .block ?_
               refine .seq (.region [] mixed (by kernel_rfl) ?_)
               refine .cons (.move .none (.s rfl)) rfl ?_
               refine .cons (.assign .none (.s rfl)) rfl ?_
               refine .nil (.then ?_)
               refine .seq (.region [] mixed (by kernel_rfl) ?_)
               refine .cons (.move .none (.s rfl)) rfl ?_
               refine .cons (.move .none (.s rfl)) rfl ?_
               obtain ⟨hn45, h⟩ := need_some h
               refine .cons (.indexAddr .none sl32 ty3 (.s rfl) (.s rfl) (fun _ => hn45)) rfl ?_
               refine .cons (.load .none ty3 (.s rfl)) rfl ?_
               refine .cons (.move .none (.s rfl)) rfl ?_
               refine .cons (.eqI .none (.s rfl) (.s rfl)) rfl ?_
               refine .cons (.move .none (.s rfl)) rfl ?_
               refine .cons (.move (.at rfl rfl) (.s rfl)) rfl ?_
               refine .cons (.move (.at rfl rfl) (.s rfl)) rfl ?_
               obtain ⟨hn46, h⟩ := need_some h
               refine .cons (.indexAddr (.at rfl rfl) sl71 ty81 (.tmp rfl id) (.tmp rfl id) (fun hg => hn46 hg.2)) rfl ?_
               refine .cons (.fieldAddr (.at rfl rfl) fd81_0 hfd81_0 (.tmp rfl id)) rfl ?_
               refine .cons (.load (.at rfl rfl) ty3 (.tmp rfl id)) rfl ?_
               refine .cons (.move (.at rfl rfl) (.s rfl)) rfl ?_
               refine .cons (.move (.at rfl rfl) (.s rfl)) rfl ?_
               obtain ⟨hn47, h⟩ := need_some h
               refine .cons (.indexAddr (.at rfl rfl) sl71 ty81 (.tmp rfl id) (.tmp rfl id) (fun hg => hn47 hg.2)) rfl ?_
               refine .cons (.fieldAddr (.at rfl rfl) fd81_0 hfd81_0 (.tmp rfl id)) rfl ?_
               refine .cons (.load (.at rfl rfl) ty3 (.tmp rfl id)) rfl ?_
               refine .cons (.move (.at rfl rfl) (.s rfl)) rfl ?_
               refine .cons (.move (.at rfl rfl) (.s rfl)) rfl ?_
               obtain ⟨hn48, h⟩ := need_some h
               refine .cons (.indexAddr (.at rfl rfl) sl71 ty81 (.tmp rfl id) (.tmp rfl id) (fun hg => hn48 hg.2)) rfl ?_
               refine .cons (.fieldAddr (.at rfl rfl) fd81_0 hfd81_0 (.tmp rfl id)) rfl ?_
               refine .cons (.load (.at rfl rfl) ty3 (.tmp rfl id)) rfl ?_
               refine .cons (.addW (.at rfl rfl) (.tmp rfl id) (.tmp rfl id)) rfl ?_
               refine .cons (.move (.at rfl rfl) (.s rfl)) rfl ?_
               refine .cons (.addW (.at rfl rfl) (.tmp rfl id) (.tmp rfl id)) rfl ?_
               refine .cons (.lt (.at rfl rfl) (.tmp rfl id) (.tmp rfl id)) rfl ?_
               refine .cons (.pickAnd .none (.s rfl) (.tmp rfl id)) rfl ?_
               refine .cons (.move .none (.s rfl)) rfl ?_
               refine .cons (.move (.at rfl rfl) (.s rfl)) rfl ?_
               refine .cons (.move (.at rfl rfl) (.s rfl)) rfl ?_
               obtain ⟨hn49, h⟩ := need_some h
               refine .cons (.indexAddr (.at rfl rfl) sl71 ty81 (.tmp rfl id) (.tmp rfl id) (fun hg => hn49 hg.2)) rfl ?_
               refine .cons (.fieldAddr (.at rfl rfl) fd81_0 hfd81_0 (.tmp rfl id)) rfl ?_
               refine .cons (.load (.at rfl rfl) ty3 (.tmp rfl id)) rfl ?_
               refine .cons (.move (.at rfl rfl) (.s rfl)) rfl ?_
               refine .cons (.move (.at rfl rfl) (.s rfl)) rfl ?_
               obtain ⟨hn50, h⟩ := need_some h
               refine .cons (.indexAddr (.at rfl rfl) sl71 ty81 (.tmp rfl id) (.tmp rfl id) (fun hg => hn50 hg.2)) rfl ?_
               refine .cons (.fieldAddr (.at rfl rfl) fd81_0 hfd81_0 (.tmp rfl id)) rfl ?_
               refine .cons (.load (.at rfl rfl) ty3 (.tmp rfl id)) rfl ?_
               refine .cons (.move (.at rfl rfl) (.s rfl)) rfl ?_
               refine .cons (.move (.at rfl rfl) (.s rfl)) rfl ?_
               obtain ⟨hn51, h⟩ := need_some h
               refine .cons (.indexAddr (.at rfl rfl) sl71 ty81 (.tmp rfl id) (.tmp rfl id) (fun hg => hn51 hg.2)) rfl ?_
               refine .cons (.fieldAddr (.at rfl rfl) fd81_0 hfd81_0 (.tmp rfl id)) rfl ?_
               refine .cons (.load (.at rfl rfl) ty3 (.tmp rfl id)) rfl ?_
               refine .cons (.addW (.at rfl rfl) (.tmp rfl id) (.tmp rfl id)) rfl ?_
               refine .cons (.move (.at rfl rfl) (.s rfl)) rfl ?_
               refine .cons (.addW (.at rfl rfl) (.tmp rfl id) (.tmp rfl id)) rfl ?_
               refine .cons (.lt (.at rfl rfl) (.tmp rfl id) (.tmp rfl id)) rfl ?_
               refine .cons (.pickAnd .none (.s rfl) (.tmp rfl id)) rfl ?_
               refine .nil (.then ?_)
               refine .cond (t := 151) rfl trivial (fun hb52 => ?_) (fun hb52 => ?_)
               ·
                replace h := bif_t h hb52
                refine .seq (.region [] mixed (by kernel_rfl) ?_)
                refine .cons (.assign .none .bool) rfl ?_
                refine .nil (.then ?_)
                refine .ret ?_
                refine .blkRet ?_
                refine .thenRet ?_
                refine .thenRet ?_
                refine .blkRet ?_
                refine .thenRet ?_
                refine .blkRet ?_
                refine .thenRet ?_
                refine .thenRet ?_
                refine .blkRet ?_
                refine .thenRet ?_
                refine .blkRet ?_
                refine .thenRet ?_
                refine .thenRet ?_
                refine .blkRet ?_
                refine .thenRet ?_
                replace h := resd_ab hK44 (some_eq h)
                replace h := hD42 _ (some_eq h)
                replace h := resb_ab hK41 (some_eq h)
                replace h := resd_ab hK36 (some_eq h)
                replace h := hD34 _ (some_eq h)
                replace h := resb_ab hK33 (some_eq h)
                replace h := resd_ab hK30 (some_eq h)
                replace h := hD28 _ (some_eq h)
                replace h := resb_ab hK27 (some_eq h)
                obtain rfl := some_eq h
                exact Ends.ret1 (.inl rfl) Try.results49 (ResOK.tmp rfl trivial Imp.refl)
               ·
                replace h := bif_f h hb52
                refine .skip ?_
                refine .blkNormal ?_
                exact Ends.join _ (some_eq h) (.k 0 rfl (.k 1 rfl (.k 2 rfl (.k 3 rfl (.k 4 rfl (.k 11 rfl (.k 15 rfl (.k 16 rfl (.k 19 rfl (.k 20 rfl (.k 22 rfl (.k 23 rfl (.k 73 rfl (.k 74 rfl (.k 75 rfl (.k 83 rfl (.k 84 rfl (.k 100 rfl (.k 101 rfl .nil))))))))))))))))))) SubB.nil
              ·
               have h := resd_nx hK44 hj44
               refine .region [] mixed (by kernel_rfl) ?_
               refine .cons (.addW .none (.s rfl) (.int (by decide))) rfl ?_
               refine .cons (.move .none (.s rfl)) rfl ?_
               refine .nil ?_
               exact Ends.againL (some_eq h) (.k 101 rfl (.k 0 rfl (.k 1 rfl (.k 2 rfl (.k 3 rfl (.k 4 rfl (.k 11 rfl (.k 15 rfl (.k 16 rfl (.k 19 rfl (.k 20 rfl (.k 22 rfl (.k 23 rfl (.k 73 rfl (.k 74 rfl (.k 75 rfl (.k 83 rfl (.k 84 rfl (.k 100 rfl .nil))))))))))))))))))) SubB.nil
             ·
              replace h := bif_f h hb43
              refine .exit ?_
              refine .thenExit ?_
              refine .thenExit ?_
              refine .blkExit ?_
              replace h := hD42 _ (some_eq h)
              exact Ends.join _ (some_eq h) (.k 0 rfl (.k 1 rfl (.k 2 rfl (.k 3 rfl (.k 4 rfl (.k 11 rfl (.k 15 rfl (.k 16 rfl (.k 19 rfl (.k 20 rfl (.k 22 rfl (.k 73 rfl (.k 74 rfl (.k 75 rfl (.k 83 rfl (.k 84 rfl .nil)))))))))))))))) SubB.nil
            ·
             have h := resb_nx hK41 hj41
             refine .blkNormal ?_
             exact Ends.join _ (some_eq h) (.k 22 rfl (.k 0 rfl (.k 1 rfl (.k 2 rfl (.k 3 rfl (.k 4 rfl (.k 11 rfl (.k 15 rfl (.k 16 rfl (.k 19 rfl (.k 20 rfl (.k 73 rfl (.k 74 rfl (.k 75 rfl (.k 83 rfl (.k 84 rfl .nil)))))))))))))))) SubB.nil
          ·
           have h := resd_nx hK36 hj36
           refine .region [] mixed (by kernel_rfl) ?_
           refine .cons (.addW .none (.s rfl) (.int (by decide))) rfl ?_
           refine .cons (.move .none (.s rfl)) rfl ?_
           refine .nil ?_
           exact Ends.againL (some_eq h) (.k 84 rfl (.k 22 rfl (.k 0 rfl (.k 1 rfl (.k 2 rfl (.k 3 rfl (.k 4 rfl (.k 11 rfl (.k 15 rfl (.k 16 rfl (.k 19 rfl (.k 20 rfl (.k 73 rfl (.k 74 rfl (.k 75 rfl (.k 83 rfl .nil)))))))))))))))) SubB.nil
         ·
          replace h := bif_f h hb35
          refine .exit ?_
          refine .thenExit ?_
          refine .thenExit ?_
          refine .blkExit ?_
          replace h := hD34 _ (some_eq h)
          exact Ends.join _ (some_eq h) (.k 22 rfl (.k 0 rfl (.k 1 rfl (.k 2 rfl (.k 3 rfl (.k 4 rfl (.k 11 rfl (.k 15 rfl (.k 16 rfl (.k 19 rfl (.k 73 rfl (.k 74 rfl (.k 75 rfl .nil))))))))))))) SubB.nil
        ·
         have h := resb_nx hK33 hj33
         refine .region [] mixed (by kernel_rfl) ?_
         refine .cons (.move .none (.s rfl)) rfl ?_
         refine .cons (.move .none (.s rfl)) rfl ?_
         refine .cons (.move .none (.s rfl)) rfl ?_
         refine .cons (.addW .none (.s rfl) (.s rfl)) rfl ?_
         refine .cons (.addW .none (.s rfl) (.s rfl)) rfl ?_
         obtain ⟨y1, hv53, h⟩ := bnd_some h
         refine .cons (.re hv53 (.assign .none (.s rfl))) rfl ?_
         refine .nil ?_
         refine .blkNormal ?_
         exact Ends.join _ (some_eq h) (.k 19 rfl (.k 0 rfl (.k 1 rfl (.k 2 rfl (.k 3 rfl (.k 4 rfl (.k 11 rfl (.k 15 rfl (.k 16 rfl (.k 73 rfl (.k 74 rfl (.k 75 rfl .nil)))))))))))) SubB.nil
      ·
       have h := resd_nx hK30 hj30
       refine .region [] mixed (by kernel_rfl) ?_
       refine .cons (.addW .none (.s rfl) (.int (by decide))) rfl ?_
       refine .cons (.move .none (.s rfl)) rfl ?_
       refine .nil ?_
       exact Ends.againL (some_eq h) (.k 75 rfl (.k 19 rfl (.k 0 rfl (.k 1 rfl (.k 2 rfl (.k 3 rfl (.k 4 rfl (.k 11 rfl (.k 15 rfl (.k 16 rfl (.k 73 rfl (.k 74 rfl .nil)))))))))))) SubB.nil
     ·
      replace h := bif_f h hb29
      refine .exit ?_
      refine .thenExit ?_
      refine .thenExit ?_
      refine .blkExit ?_
      replace h := hD28 _ (some_eq h)
      exact Ends.join _ (some_eq h) (.k 19 rfl (.k 1 rfl (.k 11 rfl (.k 15 rfl (.k 16 rfl .nil))))) SubB.nil
    ·
     have h := resb_nx hK27 hj27
     refine .seq (.region [] mixed (by kernel_rfl) ?_)
     refine .cons (.move .none (.s rfl)) rfl ?_
     refine .cons (.move .none (.s rfl)) rfl ?_
     refine .cons (.move .none (.s rfl)) rfl ?_
     obtain ⟨r4, hv54, h⟩ := bind_some h
     refine .cons (.call .none (ref_TurnedOf_ok hv54) (.cons (.s rfl) (.cons (.s rfl) .nil))) rfl ?_
     obtain ⟨s1, hv55, h⟩ := bind_some h
     refine .cons (.call .none (ref_Straight_ok hv55) (.cons (.s rfl) (.cons (.s rfl) .nil))) rfl ?_
     refine .cons (.assign .none (.s rfl)) rfl ?_
     refine .nil (.then ?_)
     refine .seq (.region [] mixed (by kernel_rfl) ?_)
     refine .cons (.move .none (.s rfl)) rfl ?_
     refine .cons (.eqI .none (.s rfl) (.int (by decide))) rfl ?_
     refine .cons (.move .none (.s rfl)) rfl ?_
     refine .cons (.move (.at rfl rfl) (.s rfl)) rfl ?_
     refine .cons (.move (.at rfl rfl) (.s rfl)) rfl ?_
     refine .cons (.move (.at rfl rfl) (.s rfl)) rfl ?_
     obtain ⟨r5, hv56, h⟩ := bind_some h
     refine .cons (.callIf (.at rfl rfl) fnok35 (fun hg => ref_AreRanks_ok ((fun hg => gd_some hv56 (hg.2)) hg)) (.cons (.tmp rfl id) (.cons (.tmp rfl id) (.cons (.tmp rfl id) .nil))) (fun h => h)) rfl ?_
     refine .cons (.pickAnd .none (.s rfl) (.tmp rfl id)) rfl ?_
     refine .cons (.move .none (.s rfl)) rfl ?_
     refine .cons (.move (.at rfl rfl) (.s rfl)) rfl ?_
     refine .cons (.move (.at rfl rfl) (.s rfl)) rfl ?_
     refine .cons (.move (.at rfl rfl) (.s rfl)) rfl ?_
     obtain ⟨r6, hv57, h⟩ := bind_some h
     refine .cons (.callIf (.at rfl rfl) fnok36 (fun hg => ref_AreLeast_ok ((fun hg => gd_some hv57 (hg.2)) hg)) (.cons (.tmp rfl id) (.cons (.tmp rfl id) (.cons (.tmp rfl id) .nil))) (fun h => h)) rfl ?_
     refine .cons (.pickAnd .none (.s rfl) (.tmp rfl id)) rfl ?_
     refine .cons (.assign .none (.s rfl)) rfl ?_
     refine .nil (.then ?_)
     refine .ret ?_
     obtain rfl := some_eq h
     exact Ends.ret1 (.inl rfl) Try.results49 (ResOK.tmp rfl trivial Imp.refl)

theorem law_DrawsAreRight_ok {sizes1 : (List Point)} {l1 : (List Link)} {gapx1 : Int} {gapy1 : Int} {r : Bool}  (h : law_DrawsAreRight sizes1 l1 gapx1 gapy1 = some r) : FSpec Try.prog 8 [rep sizes1, rep l1, rep gapx1, rep gapy1] (rep r) := by
 unfold law_DrawsAreRight at h
 refine FSpec.intro (n := 52) fnok8 Try.func8 rfl Try.ntmps8 rfl (fun F => ?_)
 refine .seq (.region [] mixed (by kernel_rfl) ?_)
 refine .cons (.assign .none .bool) rfl ?_
 refine .nil (.then ?_)
 refine .seq (.region [] mixed (by kernel_rfl) ?_)
 refine .cons (.move .none (.s rfl)) rfl ?_
 refine .cons (.move .none (.s rfl)) rfl ?_
 refine .cons (.move .none (.s rfl)) rfl ?_
 refine .cons (.move .none (.s rfl)) rfl ?_
 obtain ⟨r1, hv1, h⟩ := bind_some h
 refine .cons (.call .none (layer_Draw_ok hv1) (.cons (.s rfl) (.cons (.s rfl) (.cons (.s rfl) (.cons (.s rfl) .nil))))) rfl ?_
 refine .cons (.move .none (.s rfl)) rfl ?_
 refine .cons (.extract .none (.s rfl) rfl) rfl ?_
 refine .cons (.extract .none (.s rfl) rfl) rfl ?_
 refine .cons (.assign .none (.s rfl)) rfl ?_
 refine .cons (.assign .none (.s rfl)) rfl ?_
 refine .nil (.then ?_)
 refine .seq ?_
 refine .seq (.region [] mixed (by kernel_rfl) ?_)
 refine .cons (.move .none (.s rfl)) rfl ?_
 refine .cons (.move .none (.s rfl)) rfl ?_
 refine .cons (.move .none (.s rfl)) rfl ?_
 refine .cons (.move .none (.s rfl)) rfl ?_
 obtain ⟨want1, hv2, h⟩ := bind_some h
 refine .cons (.call .none (ref_DrawError_ok hv2) (.cons (.s rfl) (.cons (.s rfl) (.cons (.s rfl) (.cons (.s rfl) .nil))))) rfl ?_
 refine .cons (.assign .none (.s rfl)) rfl ?_
 refine .nil (.then ?_)
 refine .seq (.region [] mixed (by kernel_rfl) ?_)
 obtain ⟨r2, hv3, h⟩ := bind_some h
 refine .cons (.call .none (law_layers_ok hv3) .nil) rfl ?_
 refine .cons (.not .none (.s rfl)) rfl ?_
 refine .cons (.move .none (.s rfl)) rfl ?_
 refine .cons (.move (.at rfl rfl) (.s rfl)) rfl ?_
 refine .cons (.neI (.at rfl rfl) (.tmp rfl id) (.int (by decide))) rfl ?_
 refine .cons (.pickOr .none (.s rfl) (.tmp rfl id)) rfl ?_
 refine .nil (.then ?_)
 refine .cond (t := 30) rfl trivial (fun hb4 => ?_) (fun hb4 => ?_)
 ·
  replace h := bif_t h hb4
  refine .seq (.region [] mixed (by kernel_rfl) ?_)
  obtain ⟨r3, hv5, h⟩ := bind_some h
  refine .cons (.call .none (law_layers_ok hv5) .nil) rfl ?_
  refine .cons (.move .none (.s rfl)) rfl ?_
  refine .cons (.move (.at rfl rfl) (.s rfl)) rfl ?_
  refine .cons (.len (.at rfl rfl) sl71 (.tmp rfl id)) rfl ?_
  refine .cons (.eqI (.at rfl rfl) (.tmp rfl id) (.int (by decide))) rfl ?_
  refine .cons (.pickAnd .none (.s rfl) (.tmp rfl id)) rfl ?_
  refine .cons (.move .none (.s rfl)) rfl ?_
  refine .cons (.move (.at rfl rfl) (.s rfl)) rfl ?_
  refine .cons (.move (.at rfl rfl) (.s rfl)) rfl ?_
  refine .cons (.eqI (.at rfl rfl) (.tmp rfl id) (.tmp rfl id)) rfl ?_
  refine .cons (.pickAnd .none (.s rfl) (.tmp rfl id)) rfl ?_
  refine .cons (.assign .none (.s rfl)) rfl ?_
  refine .nil (.then ?_)
  refine .ret ?_
  refine .thenRet ?_
  obtain rfl := some_eq h
  exact Ends.ret1 (.inl rfl) Try.results8 (ResOK.tmp rfl trivial Imp.refl)
 ·
  replace h := bif_f h hb4
  refine .skip ?_
  refine .then ?_
  refine .seq (.region [] mixed (by kernel_rfl) ?_)
  refine .cons (.move .none (.s rfl)) rfl ?_
  refine .cons (.eqI .none (.s rfl) (.int (by decide))) rfl ?_
  refine .cons (.move .none (.s rfl)) rfl ?_
  refine .cons (.move (.at rfl rfl) (.s rfl)) rfl ?_
  refine .cons (.move (.at rfl rfl) (.s rfl)) rfl ?_
  refine .cons (.move (.at rfl rfl) (.s rfl)) rfl ?_
  refine .cons (.move (.at rfl rfl) (.s rfl)) rfl ?_
  refine .cons (.move (.at rfl rfl) (.s rfl)) rfl ?_
  obtain ⟨r4, hv6, h⟩ := bind_some h
  refine .cons (.callIf (.at rfl rfl) fnok49 (fun hg => ref_IsDrawn_ok ((fun hg => gd_some hv6 (hg.2)) hg)) (.cons (.tmp rfl id) (.cons (.tmp rfl id) (.cons (.tmp rfl id) (.cons (.tmp rfl id) (.cons (.tmp rfl id) .nil))))) (fun h => h)) rfl ?_
  refine .cons (.pickAnd .none (.s rfl) (.tmp rfl id)) rfl ?_
  refine .cons (.assign .none (.s rfl)) rfl ?_
  refine .nil (.then ?_)
  refine .ret ?_
  obtain rfl := some_eq h
  exact Ends.ret1 (.inl rfl) Try.results8 (ResOK.tmp rfl trivial Imp.refl)


end Go.Proofs.Ytbahnfkccdlpnaa
