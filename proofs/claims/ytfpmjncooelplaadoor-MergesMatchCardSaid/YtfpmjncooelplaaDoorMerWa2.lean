/-
  The walks: what a function computes is what its plain function says (printed by a program of one's own).
-/
import Derived.Test.YtfpmjncooelplaaDoorMerWa1
set_option maxRecDepth 100000
set_option linter.unusedSimpArgs false
set_option linter.unusedVariables false
namespace Go.Proofs.YtfpmjncooelplaaDoor
open Go Go.DB Go.RowKit

theorem ref_OpsError_ok {l1 : (List DOp)} {r : Int}  (h : ref_OpsError l1 = some r) : FSpec Tryd.prog 5 [rep l1] (rep r) := by
 unfold ref_OpsError at h
 refine FSpec.intro (n := 101) fnok5 Tryd.func5 rfl Tryd.ntmps5 rfl (fun F => ?_)
 refine .seq (.region [] mixed (by kernel_rfl) ?_)
 refine .cons (.assign .none (.int (by decide))) rfl ?_
 refine .nil (.then ?_)
 refine .seq ?_
 refine .seq (.region [] mixed (by kernel_rfl) ?_)
 refine .cons (.move .none (.s rfl)) rfl ?_
 refine .cons (.len .none sl22 (.s rfl)) rfl ?_
 refine .cons (.gt .none (.s rfl) (.int (by decide))) rfl ?_
 refine .nil (.then ?_)
 refine .cond (t := 10) rfl trivial (fun hb1 => ?_) (fun hb1 => ?_)
 ·
  replace h := bif_t h hb1
  refine .seq (.region [] mixed (by kernel_rfl) ?_)
  refine .cons (.assign .none (.int (by decide))) rfl ?_
  refine .nil (.then ?_)
  refine .ret ?_
  refine .thenRet ?_
  obtain rfl := some_eq h
  exact Ends.ret1 (.inl rfl) Tryd.results5 (ResOK.tmp rfl trivial Imp.refl)
 ·
  replace h := bif_f h hb1
  refine .skip ?_
  refine .then ?_
  refine .seq (.region [([], []), ([], [3]), ([3], [3])] mixed (by kernel_rfl) ?_)
  obtain ⟨v1, hv2, h⟩ := bnd_some h
  refine .consA (.re hv2 (.buildF (y := (⟨(⟨(0 : Int), Str.nil, (0 : Int)⟩ : Stamp), (0 : Int), Str.nil, Str.nil, Str.nil, (0 : Int)⟩ : DOp)) .none bu34 zc34 rfl .nil .nil)) rfl ?_
  refine .consW (.alloc zo34 rfl) rfl rfl ?_
  refine .consN (.store ty34 rfl rfl (.s rfl)) rfl ?_
  refine .nil (.then ?_)
  refine .nameBox (t := 3) (g := 5001) rfl rfl (fun m5001 => ?_)
  refine .seq ?_
  refine .seq (.region [] mixed (by kernel_rfl) ?_)
  refine .cons (.move .none (.s rfl)) rfl ?_
  refine .cons (.len .none sl22 (.s rfl)) rfl ?_
  refine .cons (.move .none (.int (by decide))) rfl ?_
  refine .nil (.then ?_)
  obtain ⟨o_3, h, hK3⟩ := bindR_some h
  refine .thenJ (ι := DOp) (fun j_3 => []) (fun j_3 => [(5001, some (boxAt m5001 34 j_3))]) (fun s => o_3 = Res.nx s) (.k 3 rfl .nil) SubB.nil ?_ (fun j_3 hj3 => ?_)
  ·
   skip
   refine .block ?_
   refine .rforEL h (fun p4_ => [(14, ⟨True, rep p4_.1⟩)]) (fun p4_ => [(5001, some (boxAt m5001 34 p4_.2))]) (.k 14 rfl .nil) (.k 5001 rfl .nil) (.k 0 rfl (.k 3 rfl (.k 12 rfl (.k 13 rfl .nil)))) SubB.nil (fun p4_ o_4 h hD4 => ?_)
   refine .seq (.region [] mixed (by kernel_rfl) ?_)
   refine .cons (.lt .none (.s rfl) (.s rfl)) rfl ?_
   refine .nil (.then ?_)
   refine .seq ?_
   refine .cond (t := 15) rfl trivial (fun hb5 => ?_) (fun hb5 => ?_)
   ·
    replace h := bif_t h hb5
    refine .skip ?_
    refine .then ?_
    refine .seq ?_
    obtain ⟨o_6, h, hK6⟩ := bindD_some h
    unfold ref_OpsError_L1 at h
    refine .thenJ (ι := DOp) (fun j_6 => []) (fun j_6 => [(5001, some (boxAt m5001 34 j_6))]) (fun s => o_6 = Res.nx s) (.k 0 rfl (.k 3 rfl (.k 12 rfl (.k 13 rfl (.k 14 rfl .nil))))) SubB.nil ?_ (fun j_6 hj6 => ?_)
    ·
     skip
     refine .block ?_
     refine .seq (.region [([], []), ([], []), ([], []), ([], [5]), ([], []), ([5], [5])] mixed (by kernel_rfl) ?_)
     refine .consA (.move .none (.s rfl)) rfl ?_
     obtain ⟨hn7, h⟩ := need_some h
     refine .consA (.indexAddr .none sl22 ty34 (.s rfl) (.s rfl) (fun _ => hn7)) rfl ?_
     obtain ⟨v2, hv8, h⟩ := bnd_some h
     refine .consA (.re hv8 (.load .none ty34 (.s rfl))) rfl ?_
     refine .consW (.alloc zo34 rfl) rfl rfl ?_
     refine .consA (.assign .none (.s rfl)) rfl ?_
     refine .consN (.store ty34 rfl rfl (.s rfl)) rfl ?_
     refine .nil (.then ?_)
     refine .freeze (t := 5) rfl rfl (.k 5001 rfl .nil) rfl ?_
     refine .seq ?_
     refine .seq (.region [([], []), ([], []), ([], []), ([], []), ([], []), ([5001], []), ([], [])] mixed (by kernel_rfl) ?_)
     refine .consA (.fieldAddr .none fd34_0 hfd34_0 (.s rfl)) rfl ?_
     refine .consA (.fieldAddr .none fd32_1 hfd32_1 (.s rfl)) rfl ?_
     refine .consA (.load .none ty9 (.s rfl)) rfl ?_
     refine .consA (.fieldPtr .none fd34_0 (.s rfl)) rfl ?_
     refine .consA (.fieldPtr .none fd32_1 (.s rfl)) rfl ?_
     refine .consA (.loadAt (k := 5001) .none ty9 rfl (.s rfl) (HasField.comp (o2 := 1) hfd34_0 hfd32_1)) rfl ?_
     refine .consA (.neS .none (eqAt_str Tryd.underlying9) (.s rfl) (.s rfl)) rfl ?_
     refine .nil (.then ?_)
     obtain ⟨j_9, h, hK9⟩ := bind_some h
     refine .thenJ (ι := DOp) (fun j_9 => []) (fun j_9 => [(5001, some (boxAt m5001 34 j_9))]) (fun s => j_9 = s) (.k 0 rfl (.k 3 rfl (.k 4 rfl (.k 5 rfl (.k 12 rfl (.k 13 rfl (.k 14 rfl .nil))))))) SubB.nil ?_ (fun j_9' hj9 => ?_)
     ·
      skip
      refine .cond (t := 25) rfl trivial (fun hb10 => ?_) (fun hb10 => ?_)
      ·
       replace h := bif_t h hb10
       refine .region [([], []), ([], []), ([5001], [5001]), ([], []), ([], []), ([5001], [5001])] mixed (by kernel_rfl) ?_
       refine .consA (.fieldPtr .none fd34_0 (.s rfl)) rfl ?_
       refine .consA (.fieldPtr .none fd32_2 (.s rfl)) rfl ?_
       refine .consN (.storeAt (g := 5001) ty3 rfl (.s rfl) (SetField.comp (o2 := 2) hfd34_0 sf34_0 sf32_2) (.int (by decide))) rfl ?_
       refine .consA (.fieldPtr .none fd34_0 (.s rfl)) rfl ?_
       refine .consA (.fieldPtr .none fd32_0 (.s rfl)) rfl ?_
       refine .consN (.storeAt (g := 5001) ty3 rfl (.s rfl) (SetField.comp (o2 := 0) hfd34_0 sf34_0 sf32_0) (.int (by decide))) rfl ?_
       refine .nil ?_
       exact Ends.join _ (some_eq h) (.k 0 rfl (.k 3 rfl (.k 4 rfl (.k 5 rfl (.k 12 rfl (.k 13 rfl (.k 14 rfl .nil))))))) (.k 5001 rfl .nil)
      ·
       replace h := bif_f h hb10
       refine .skip ?_
       exact Ends.join _ (some_eq h) (.k 0 rfl (.k 3 rfl (.k 4 rfl (.k 5 rfl (.k 12 rfl (.k 13 rfl (.k 14 rfl .nil))))))) (.k 5001 rfl .nil)
     ·
      subst hj9; have h := hK9; clear hK9
      refine .seq (.region [([], []), ([], []), ([], []), ([], []), ([5001], []), ([], []), ([], []), ([], []), ([], [])] mixed (by kernel_rfl) ?_)
      refine .consA (.move .none (.s rfl)) rfl ?_
      refine .consA (.gt .none (.s rfl) (.int (by decide))) rfl ?_
      refine .consA (.move .none (.s rfl)) rfl ?_
      refine .consA (.load (.at rfl rfl) ty34 (.s rfl)) rfl ?_
      refine .consA (.loadAt0 (k := 5001) (.at rfl rfl) ty34 rfl (.s rfl)) rfl ?_
      obtain ⟨r1, hv11, h⟩ := bind_some h
      refine .consA (.callIf (.at rfl rfl) fnok26 (fun hg => ref_byOp_ok ((fun hg => gd_some hv11 (hg.2)) hg)) (.cons (.tmp rfl id) (.cons (.tmp rfl id) .nil)) (fun h => h)) rfl ?_
      refine .consA (.le (.at rfl rfl) (.tmp rfl id) (.int (by decide))) rfl ?_
      refine .consA (.pickAnd .none (.s rfl) (.tmp rfl id)) rfl ?_
      refine .consA (.assign .none (.s rfl)) rfl ?_
      refine .nil (.then ?_)
      refine .seq ?_
      refine .seq (.region [([], []), ([], []), ([], []), ([], []), ([], []), ([5001], []), ([], []), ([], []), ([], []), ([], []), ([], [])] mixed (by kernel_rfl) ?_)
      refine .consA (.fieldAddr .none fd34_0 hfd34_0 (.s rfl)) rfl ?_
      refine .consA (.fieldAddr .none fd32_1 hfd32_1 (.s rfl)) rfl ?_
      refine .consA (.load .none ty9 (.s rfl)) rfl ?_
      refine .consA (.fieldPtr .none fd34_0 (.s rfl)) rfl ?_
      refine .consA (.fieldPtr .none fd32_1 (.s rfl)) rfl ?_
      refine .consA (.loadAt (k := 5001) .none ty9 rfl (.s rfl) (HasField.comp (o2 := 1) hfd34_0 hfd32_1)) rfl ?_
      refine .consA (.neS .none (eqAt_str Tryd.underlying9) (.s rfl) (.s rfl)) rfl ?_
      refine .consA (.move .none (.s rfl)) rfl ?_
      refine .consA (.move (.at rfl rfl) (.s rfl)) rfl ?_
      refine .consA (.gt (.at rfl rfl) (.tmp rfl id) (.int (by decide))) rfl ?_
      refine .consA (.pickAnd .none (.s rfl) (.tmp rfl id)) rfl ?_
      refine .nil (.then ?_)
      obtain ⟨j_12, h, hK12⟩ := bind_some h
      refine .thenJ (ι := Bool) (fun j_12 => [(6, ⟨True, rep j_12⟩)]) (fun j_12 => []) (fun s => j_12 = s) (.k 0 rfl (.k 3 rfl (.k 5 rfl (.k 12 rfl (.k 13 rfl (.k 14 rfl .nil)))))) (.k 5001 rfl .nil) ?_ (fun j_12' hj12 => ?_)
      ·
       skip
       refine .cond (t := 48) rfl trivial (fun hb13 => ?_) (fun hb13 => ?_)
       ·
        replace h := bif_t h hb13
        refine .region [] mixed (by kernel_rfl) ?_
        refine .cons (.fieldAddr .none fd34_0 hfd34_0 (.s rfl)) rfl ?_
        refine .cons (.fieldAddr .none fd32_1 hfd32_1 (.s rfl)) rfl ?_
        refine .cons (.load .none ty9 (.s rfl)) rfl ?_
        refine .cons (.move .none (.s rfl)) rfl ?_
        refine .cons (.move .none (.s rfl)) rfl ?_
        refine .cons (.subW .none (.s rfl) (.int (by decide))) rfl ?_
        obtain ⟨hn14, h⟩ := need_some h
        refine .cons (.indexAddr .none sl22 ty34 (.s rfl) (.s rfl) (fun _ => hn14)) rfl ?_
        refine .cons (.fieldAddr .none fd34_0 hfd34_0 (.s rfl)) rfl ?_
        refine .cons (.fieldAddr .none fd32_1 hfd32_1 (.s rfl)) rfl ?_
        refine .cons (.load .none ty9 (.s rfl)) rfl ?_
        refine .cons (.ltStr .none (.s rfl) (.s rfl)) rfl ?_
        refine .cons (.assign .none (.s rfl)) rfl ?_
        refine .nil ?_
        exact Ends.join _ (some_eq h) (.k 6 rfl (.k 0 rfl (.k 3 rfl (.k 5 rfl (.k 12 rfl (.k 13 rfl (.k 14 rfl .nil))))))) (.k 5001 rfl .nil)
       ·
        replace h := bif_f h hb13
        refine .skip ?_
        exact Ends.join _ (some_eq h) (.k 6 rfl (.k 0 rfl (.k 3 rfl (.k 5 rfl (.k 12 rfl (.k 13 rfl (.k 14 rfl .nil))))))) (.k 5001 rfl .nil)
      ·
       subst hj12; have h := hK12; clear hK12
       refine .seq (.region [([], []), ([], []), ([], []), ([], []), ([], []), ([], []), ([], []), ([], []), ([], []), ([], []), ([], []), ([], []), ([], []), ([5001], []), ([], []), ([], []), ([], []), ([], []), ([], []), ([], []), ([], []), ([], []), ([], []), ([], []), ([], []), ([], []), ([], []), ([], []), ([], []), ([5001], []), ([], []), ([], []), ([], []), ([], []), ([], []), ([], []), ([], [])] mixed (by kernel_rfl) ?_)
       refine .consA (.fieldAddr .none fd34_0 hfd34_0 (.s rfl)) rfl ?_
       refine .consA (.fieldAddr .none fd32_1 hfd32_1 (.s rfl)) rfl ?_
       refine .consA (.load .none ty9 (.s rfl)) rfl ?_
       obtain ⟨r2, hv15, h⟩ := bind_some h
       refine .consA (.call .none (ref_NameOf_ok hv15) (.cons (.s rfl) .nil)) rfl ?_
       refine .consA (.not .none (.s rfl)) rfl ?_
       obtain ⟨r3, hv16, h⟩ := bind_some h
       refine .consA (.call .none (ref_When_ok hv16) (.cons (.s rfl) (.cons (.int (by decide)) .nil))) rfl ?_
       refine .consA (.move .none (.s rfl)) rfl ?_
       obtain ⟨r4, hv17, h⟩ := bind_some h
       refine .consA (.call .none (ref_When_ok hv17) (.cons (.s rfl) (.cons (.int (by decide)) .nil))) rfl ?_
       refine .consA (.fieldAddr .none fd34_0 hfd34_0 (.s rfl)) rfl ?_
       refine .consA (.fieldAddr .none fd32_2 hfd32_2 (.s rfl)) rfl ?_
       refine .consA (.load .none ty3 (.s rfl)) rfl ?_
       refine .consA (.fieldPtr .none fd34_0 (.s rfl)) rfl ?_
       refine .consA (.fieldPtr .none fd32_2 (.s rfl)) rfl ?_
       refine .consA (.loadAt (k := 5001) .none ty3 rfl (.s rfl) (HasField.comp (o2 := 2) hfd34_0 hfd32_2)) rfl ?_
       refine .consA (.addW .none (.s rfl) (.int (by decide))) rfl ?_
       refine .consA (.neI .none (.s rfl) (.s rfl)) rfl ?_
       refine .consA (.move .none (.s rfl)) rfl ?_
       refine .consA (.fieldAddr (.at rfl rfl) fd34_0 hfd34_0 (.s rfl)) rfl ?_
       refine .consA (.fieldAddr (.at rfl rfl) fd32_0 hfd32_0 (.tmp rfl id)) rfl ?_
       refine .consA (.load (.at rfl rfl) ty3 (.tmp rfl id)) rfl ?_
       obtain ⟨r5, hv18, h⟩ := bind_some h
       refine .consA (.callIf (.at rfl rfl) fnok29 (fun hg => ref_In_ok ((fun hg => gd_some hv18 ((notT hg.2))) hg)) (.cons (.tmp rfl id) (.cons (.int (by decide)) (.cons (.int (by decide)) .nil))) (fun h => h)) rfl ?_
       refine .consA (.not (.at rfl rfl) (.tmp rfl id)) rfl ?_
       refine .consA (.pickOr .none (.s rfl) (.tmp rfl id)) rfl ?_
       obtain ⟨r6, hv19, h⟩ := bind_some h
       refine .consA (.call .none (ref_When_ok hv19) (.cons (.s rfl) (.cons (.int (by decide)) .nil))) rfl ?_
       refine .consA (.fieldAddr .none fd34_0 hfd34_0 (.s rfl)) rfl ?_
       refine .consA (.fieldAddr .none fd32_0 hfd32_0 (.s rfl)) rfl ?_
       refine .consA (.load .none ty3 (.s rfl)) rfl ?_
       refine .consA (.fieldPtr .none fd34_0 (.s rfl)) rfl ?_
       refine .consA (.fieldPtr .none fd32_0 (.s rfl)) rfl ?_
       refine .consA (.loadAt (k := 5001) .none ty3 rfl (.s rfl) (HasField.comp (o2 := 0) hfd34_0 hfd32_0)) rfl ?_
       refine .consA (.le .none (.s rfl) (.s rfl)) rfl ?_
       obtain ⟨r7, hv20, h⟩ := bind_some h
       refine .consA (.call .none (ref_When_ok hv20) (.cons (.s rfl) (.cons (.int (by decide)) .nil))) rfl ?_
       refine .consA (.load .none ty34 (.s rfl)) rfl ?_
       obtain ⟨r8, hv21, h⟩ := bind_some h
       refine .consA (.call .none (ref_opError_ok hv21) (.cons (.s rfl) .nil)) rfl ?_
       refine .consA (.buildSlice (xs := [_, _, _, _, _]) .none sl71 ty23 hz23 (.cons (.s rfl) (.cons (.s rfl) (.cons (.s rfl) (.cons (.s rfl) (.cons (.s rfl) .nil))))) rfl (by decide)) rfl ?_
       obtain ⟨e1, hv22, h⟩ := bind_some h
       refine .consA (.call .none (ref_First_ok hv22) (.cons (.s rfl) .nil)) rfl ?_
       refine .consA (.assign .none (.s rfl)) rfl ?_
       refine .nil (.then ?_)
       refine .seq ?_
       refine .seq (.region [] mixed (by kernel_rfl) ?_)
       refine .cons (.move .none (.s rfl)) rfl ?_
       refine .cons (.neI .none (.s rfl) (.int (by decide))) rfl ?_
       refine .nil (.then ?_)
       refine .cond (t := 97) rfl trivial (fun hb23 => ?_) (fun hb23 => ?_)
       ·
        replace h := bif_t h hb23
        refine .seq (.region [] mixed (by kernel_rfl) ?_)
        refine .cons (.move .none (.s rfl)) rfl ?_
        refine .cons (.assign .none (.s rfl)) rfl ?_
        refine .nil (.then ?_)
        refine .ret ?_
        refine .thenRet ?_
        refine .blkRet ?_
        refine .thenRet ?_
        refine .thenRet ?_
        refine .blkRet ?_
        refine .thenRet ?_
        replace h := resd_ab hK6 (some_eq h)
        replace h := hD4 _ (some_eq h)
        replace h := resb_ab hK3 (some_eq h)
        obtain rfl := some_eq h
        exact Ends.ret1 (.inl rfl) Tryd.results5 (ResOK.tmp rfl trivial Imp.refl)
       ·
        replace h := bif_f h hb23
        refine .skip ?_
        refine .then ?_
        refine .region [([], []), ([5001], [5001])] mixed (by kernel_rfl) ?_
        refine .consA (.load .none ty34 (.s rfl)) rfl ?_
        refine .consN (.storeAt0 (g := 5001) ty34 rfl (.s rfl) (.s rfl)) rfl ?_
        refine .nil ?_
        refine .blkNormal ?_
        exact Ends.join _ (some_eq h) (.k 0 rfl (.k 3 rfl (.k 12 rfl (.k 13 rfl (.k 14 rfl .nil))))) (.k 5001 rfl .nil)
    ·
     have h := resd_nx hK6 hj6
     refine .region [] mixed (by kernel_rfl) ?_
     refine .cons (.addW .none (.s rfl) (.int (by decide))) rfl ?_
     refine .cons (.move .none (.s rfl)) rfl ?_
     refine .nil ?_
     exact Ends.againL (some_eq h) (.k 14 rfl (.k 0 rfl (.k 3 rfl (.k 12 rfl (.k 13 rfl .nil))))) (.k 5001 rfl .nil)
   ·
    replace h := bif_f h hb5
    refine .exit ?_
    refine .thenExit ?_
    refine .thenExit ?_
    refine .blkExit ?_
    replace h := hD4 _ (some_eq h)
    exact Ends.join _ (some_eq h) (.k 3 rfl .nil) (.k 5001 rfl .nil)
  ·
   have h := resb_nx hK3 hj3
   refine .seq (.region [] mixed (by kernel_rfl) ?_)
   refine .cons (.assign .none (.int (by decide))) rfl ?_
   refine .nil (.then ?_)
   refine .ret ?_
   obtain rfl := some_eq h
   exact Ends.ret1 (.inl rfl) Tryd.results5 (ResOK.tmp rfl trivial Imp.refl)

theorem slices_Clone_Op_ok {s1 : (List DOp)} {r : (List DOp)}  (h : slices_Clone_Op s1 = some r) : FSpecO Tryd.prog 45 [rep s1] [] (anyV) [some (rowV 34 r)] := by
 unfold slices_Clone_Op at h
 refine FSpecO.intro (n := 8) fnok45 Tryd.func45 rfl Tryd.ntmps45 rfl (fun F => ?_)
 refine .seq (.region [] mixed (by kernel_rfl) ?_)
 refine .cons (.assign .none (.const (x := ([] : (List DOp))) (fun M w => ⟨_, ⟨none, 0, rfl, Nat.le_refl _, by decide, rfl⟩, rfl⟩))) rfl ?_
 refine .nil (.then ?_)
 refine .seq ?_
 refine .seq (.region [] mixed (by kernel_rfl) ?_)
 refine .cons (.move .none (.s rfl)) rfl ?_
 refine .cons (.eqNil .none sl22 (.s rfl)) rfl ?_
 refine .nil (.then ?_)
 refine .condNil (t := 4) rfl trivial (fun hb1 => ?_) ?_
 ·
  replace h := nilc_t h hb1
  refine .seq (.region [([], [2])] mixed (by kernel_rfl) ?_)
  refine .consW (.nilRow (T := 34) (α := DOp) rfl) rfl rfl ?_
  refine .nil (.then ?_)
  refine .nameRow (t := 2) (g := 5001) rfl rfl rfl (fun s5001 => ?_)
  refine .ret ?_
  refine .thenRet ?_
  refine .anon (t := 2) (g := 5001) rfl rfl trivial rfl ?_
  obtain rfl := some_eq h
  exact Ends.ret1O (.inl rfl) [2] Tryd.results45 (by decide) (.res rfl rfl) (ResOK.tmp rfl trivial (fun _ _ _ _ => trivial))
 ·
  replace h := nilc_f h
  refine .skip ?_
  refine .then ?_
  refine .seq (.region [([], [5]), ([], []), ([5], [7, 5]), ([7], [2, 7])] mixed (by kernel_rfl) ?_)
  refine .consW (.buildSliceO (xs := []) rfl sl22 ty34 hz34 .nil rfl (by decide)) rfl rfl ?_
  refine .consA (.move .none (.s rfl)) rfl ?_
  obtain ⟨hn2, h⟩ := need_some h
  refine .consW (.append (k := 5) rk22 rfl (.tmp rfl) (.s rfl) hn2) rfl rfl ?_
  refine .consW (.passRow rfl (.tmp rfl)) rfl rfl ?_
  refine .nil (.then ?_)
  obtain ⟨v1, hv3, h⟩ := bnd_some h
  refine .reB (t := 2) rfl (congrArg (rowV 34) hv3) ?_
  refine .nameRow (t := 2) (g := 5002) rfl rfl rfl (fun s5002 => ?_)
  refine .ret ?_
  refine .anon (t := 2) (g := 5002) rfl rfl trivial rfl ?_
  obtain rfl := some_eq h
  exact Ends.ret1O (.inl rfl) [2] Tryd.results45 (by decide) (.res rfl rfl) (ResOK.tmp rfl trivial (fun _ _ _ _ => trivial))

theorem ref_MergeOf_1_ok {y1 : DOp} {c0_1 : DOp} {r : Bool}  (h : ref_MergeOf_1 y1 c0_1 = some r) : FSpec Tryd.prog 47 [rep y1, ref c0_1] (rep r) := by
 unfold ref_MergeOf_1 at h
 refine FSpec.intro (n := 8) fnok47 Tryd.func47 rfl Tryd.ntmps47 rfl (fun F => ?_)
 refine .seq (.region [] mixed (by kernel_rfl) ?_)
 refine .cons (.box .none (.s rfl)) rfl ?_
 refine .cons (.assign .none .bool) rfl ?_
 refine .nil (.then ?_)
 refine .seq (.region [] mixed (by kernel_rfl) ?_)
 refine .cons (.load .none ty34 (.s rfl)) rfl ?_
 refine .cons (.load .none ty34 (.s rfl)) rfl ?_
 obtain ⟨r1, hv1, h⟩ := bind_some h
 refine .cons (.call .none (ref_byOp_ok hv1) (.cons (.s rfl) (.cons (.s rfl) .nil))) rfl ?_
 refine .cons (.eqI .none (.s rfl) (.int (by decide))) rfl ?_
 refine .cons (.assign .none (.s rfl)) rfl ?_
 refine .nil (.then ?_)
 refine .ret ?_
 obtain rfl := some_eq h
 exact Ends.ret1 (.inl rfl) Tryd.results47 (ResOK.tmp rfl trivial Imp.refl)

theorem slices_IndexFunc_Op_ok {s1 : (List DOp)} {f1 : (DOp → Option Bool)} {r : Int}  (h : slices_IndexFunc_Op s1 f1 = some r) : FSpec Tryd.prog 46 [rep s1, fn1 Tryd.prog (rep (α := Bool)) f1] (rep r) := by
 unfold slices_IndexFunc_Op at h
 refine FSpec.intro (n := 19) fnok46 Tryd.func46 rfl Tryd.ntmps46 rfl (fun F => ?_)
 refine .seq (.region [] mixed (by kernel_rfl) ?_)
 refine .cons (.assign .none (.int (by decide))) rfl ?_
 refine .nil (.then ?_)
 refine .seq ?_
 refine .seq (.region [] mixed (by kernel_rfl) ?_)
 refine .cons (.move .none (.s rfl)) rfl ?_
 refine .cons (.len .none sl22 (.s rfl)) rfl ?_
 refine .cons (.move .none (.int (by decide))) rfl ?_
 refine .nil (.then ?_)
 obtain ⟨o_1, h, hK1⟩ := bindR_some h
 refine .thenJ (ι := Unit) (fun j_1 => []) (fun j_1 => []) (fun s => o_1 = Res.nx s) Sub.nil SubB.nil ?_ (fun j_1 hj1 => ?_)
 ·
  skip
  refine .block ?_
  refine .rforEL h (fun p2_ => [(8, ⟨True, rep p2_.1⟩)]) (fun p2_ => []) (.k 8 rfl .nil) SubB.nil (.k 0 rfl (.k 1 rfl (.k 7 rfl .nil))) SubB.nil (fun p2_ o_2 h hD2 => ?_)
  refine .seq (.region [] mixed (by kernel_rfl) ?_)
  refine .cons (.lt .none (.s rfl) (.s rfl)) rfl ?_
  refine .nil (.then ?_)
  refine .seq ?_
  refine .cond (t := 9) rfl trivial (fun hb3 => ?_) (fun hb3 => ?_)
  ·
   replace h := bif_t h hb3
   refine .skip ?_
   refine .then ?_
   refine .seq ?_
   obtain ⟨o_4, h, hK4⟩ := bindD_some h
   unfold slices_IndexFunc_Op_L1 at h
   refine .thenJ (ι := Unit) (fun j_4 => []) (fun j_4 => []) (fun s => o_4 = Res.nx s) (.k 0 rfl (.k 1 rfl (.k 7 rfl (.k 8 rfl .nil)))) SubB.nil ?_ (fun j_4 hj4 => ?_)
   ·
    skip
    refine .block ?_
    refine .seq (.region [] mixed (by kernel_rfl) ?_)
    refine .cons (.move .none (.s rfl)) rfl ?_
    refine .cons (.assign .none (.s rfl)) rfl ?_
    refine .nil (.then ?_)
    refine .seq (.region [] mixed (by kernel_rfl) ?_)
    refine .cons (.move .none (.s rfl)) rfl ?_
    refine .cons (.move .none (.s rfl)) rfl ?_
    refine .cons (.move .none (.s rfl)) rfl ?_
    obtain ⟨hn5, h⟩ := need_some h
    refine .cons (.indexAddr .none sl22 ty34 (.s rfl) (.s rfl) (fun _ => hn5)) rfl ?_
    refine .cons (.load .none ty34 (.s rfl)) rfl ?_
    obtain ⟨r1, hv6, h⟩ := bind_some h
    refine .cons (.callV (gx s1 p2_.1, r1) .none (.s rfl) (fun _ => hv6) (.cons (.s rfl) .nil)) rfl ?_
    refine .nil (.then ?_)
    refine .cond (t := 16) rfl trivial (fun hb7 => ?_) (fun hb7 => ?_)
    ·
     replace h := bif_t h hb7
     refine .seq (.region [] mixed (by kernel_rfl) ?_)
     refine .cons (.move .none (.s rfl)) rfl ?_
     refine .cons (.assign .none (.s rfl)) rfl ?_
     refine .nil (.then ?_)
     refine .ret ?_
     refine .blkRet ?_
     refine .thenRet ?_
     refine .thenRet ?_
     refine .blkRet ?_
     refine .thenRet ?_
     replace h := resd_ab hK4 (some_eq h)
     replace h := hD2 _ (some_eq h)
     replace h := resb_ab hK1 (some_eq h)
     obtain rfl := some_eq h
     exact Ends.ret1 (.inl rfl) Tryd.results46 (ResOK.tmp rfl trivial Imp.refl)
    ·
     replace h := bif_f h hb7
     refine .skip ?_
     refine .blkNormal ?_
     exact Ends.join _ (some_eq h) (.k 0 rfl (.k 1 rfl (.k 7 rfl (.k 8 rfl .nil)))) SubB.nil
   ·
    have h := resd_nx hK4 hj4
    refine .region [] mixed (by kernel_rfl) ?_
    refine .cons (.addW .none (.s rfl) (.int (by decide))) rfl ?_
    refine .cons (.move .none (.s rfl)) rfl ?_
    refine .nil ?_
    exact Ends.againL (some_eq h) (.k 8 rfl (.k 0 rfl (.k 1 rfl (.k 7 rfl .nil)))) SubB.nil
  ·
   replace h := bif_f h hb3
   refine .exit ?_
   refine .thenExit ?_
   refine .thenExit ?_
   refine .blkExit ?_
   replace h := hD2 _ (some_eq h)
   exact Ends.join _ (some_eq h) Sub.nil SubB.nil
 ·
  have h := resb_nx hK1 hj1
  refine .seq (.region [] mixed (by kernel_rfl) ?_)
  refine .cons (.assign .none (.int (by decide))) rfl ?_
  refine .nil (.then ?_)
  refine .ret ?_
  obtain rfl := some_eq h
  exact Ends.ret1 (.inl rfl) Tryd.results46 (ResOK.tmp rfl trivial Imp.refl)

instance : Enc Stamp := Enc.via (fun x : Stamp => (x.Time, x.Site, x.No))
instance : Enc DOp := Enc.via (fun x : DOp => (x.Stamp, x.Kind, x.Id, x.Field, x.Value, x.Of))

theorem sortO_DOp : Sort.SWO (Proofs.ltOf sortC_DOp) := by
 have h : ∀ x y : { x : DOp // sortQ_DOp x }, Proofs.ltOf sortC_DOp x y = decide (cmpO x.1.Stamp.Site.b x.1.Stamp.No y.1.Stamp.Site.b y.1.Stamp.No < 0) := fun x y => rfl
 constructor
 ·
  intro x; rw [h, cmpO_self]; rfl
 ·
  intro x y z h1 h2
  rw [h] at *
  simp only [decide_eq_true_eq] at *
  exact (cmpO_trans (Int.le_of_lt h1) (Int.le_of_lt h2)).2 (.inl h1)
 ·
  intro x y z h1 h2
  rw [h] at *
  simp only [decide_eq_false_iff_not, Int.not_lt] at *
  have e1 := cmpO_swap x.1.Stamp.Site.b x.1.Stamp.No y.1.Stamp.Site.b y.1.Stamp.No
  have e2 := cmpO_swap y.1.Stamp.Site.b y.1.Stamp.No z.1.Stamp.Site.b z.1.Stamp.No
  have e3 := cmpO_swap x.1.Stamp.Site.b x.1.Stamp.No z.1.Stamp.Site.b z.1.Stamp.No
  have := (cmpO_trans (s := z.1.Stamp.Site.b) (n := z.1.Stamp.No) (t := y.1.Stamp.Site.b) (m := y.1.Stamp.No) (u := x.1.Stamp.Site.b) (k := x.1.Stamp.No) (by omega) (by omega)).1
  omega

theorem sortX_DOp_at (a1 a3 a4 a8 b1 b3 b4 b8 r : Int) (a2 a5 a6 a7 b2 b5 b6 b7 : Str) (w0 : World) (hr1 : Lib.compareBytes a2.b b2.b ≠ 0 → r = Lib.compareBytes a2.b b2.b) (hr2 : Lib.compareBytes a2.b b2.b = 0 → r = if a3 < b3 then (-1 : Int) else if b3 < a3 then 1 else 0) :
  Calls Tryd.prog 26 #[.agg #[.int .i64 a1, .string ⟨a2.b.toArray⟩, .int .i64 a3, .int .i64 a4, .string ⟨a5.b.toArray⟩, .string ⟨a6.b.toArray⟩, .string ⟨a7.b.toArray⟩, .int .i64 a8], .agg #[.int .i64 b1, .string ⟨b2.b.toArray⟩, .int .i64 b3, .int .i64 b4, .string ⟨b5.b.toArray⟩, .string ⟨b6.b.toArray⟩, .string ⟨b7.b.toArray⟩, .int .i64 b8]] w0 fun e w' => e = .returned (.int .i64 r) ∧ ∃ q os', w' = Go.Sort.grow (w0.drewN q) os' := by
 go_enter Tryd.func26, Tryd.ntmps26
 go_wp2
 obtain ⟨w1, hw1⟩ : ∃ w1, w1 = (w0.alloc (.cells #[.int .i64 a1, .string ⟨a2.b.toArray⟩, .int .i64 a3, .int .i64 a4, .string ⟨a5.b.toArray⟩, .string ⟨a6.b.toArray⟩, .string ⟨a7.b.toArray⟩, .int .i64 a8] 34)).alloc (.cells #[.int .i64 b1, .string ⟨b2.b.toArray⟩, .int .i64 b3, .int .i64 b4, .string ⟨b5.b.toArray⟩, .string ⟨b6.b.toArray⟩, .string ⟨b7.b.toArray⟩, .int .i64 b8] 34) := ⟨_, rfl⟩
 rw [← hw1]
 have k1 : w1.drew.cell? ⟨w0.heap.size, 1, none⟩ = some (.string ⟨a2.b.toArray⟩) := by rw [hw1]; go_simp
 have k2 : w1.drew.cell? ⟨w0.heap.size, 2, none⟩ = some (.int .i64 a3) := by rw [hw1]; go_simp
 have k3 : w1.drew.cell? ⟨w0.heap.size + 1, 1, none⟩ = some (.string ⟨b2.b.toArray⟩) := by rw [hw1]; go_simp
 have k4 : w1.drew.cell? ⟨w0.heap.size + 1, 2, none⟩ = some (.int .i64 b3) := by rw [hw1]; go_simp
 refine wp_region_still_tail 14 (by kernel_rfl) (by kernel_rfl) ?_
 change wpStill _ _ w1.drew (fun a' => wpList _ _ _ _ a' w1.drew) _ _
 generalize hw2 : w1.drew = w2 at *
 simp only [List.take_succ_cons, List.take_zero, List.drop_succ_cons, List.drop_zero]
 repeat still_step
 still_call (Proofs.Any.strings_Compare compareStr_lay _ _ _)
 repeat still_step
 still_call (cmpI_ok _ _ _)
 refine wpStill_nil ?_
 generalize hcc : (if a3 < b3 then (-1 : Int) else if b3 < a3 then 1 else 0) = cc
 go_wp2_with (go_at_call 54; refine Calls.mono (orJ_at _ _ _ _ r _ hr1 (fun h => (hr2 h).trans hcc) (pair_cells _ _ _ _).1 (pair_cells _ _ _ _).2) ?_; rintro e w' ⟨rfl, rfl⟩)
 go_ret
 exact ⟨rfl, 1, _, by rw [Go.Sort.alloc_eq_grow, ← hw2, hw1, Go.Sort.alloc_eq_grow, Go.Sort.alloc_eq_grow, Go.Sort.grow_grow, Go.Sort.drew_grow, Go.Sort.grow_grow]; rfl⟩
theorem sortX_DOp (x y : { x : DOp // sortQ_DOp x }) (w0 : World) : Calls Tryd.prog 26 #[.agg (Enc.enc x.1).toArray, .agg (Enc.enc y.1).toArray] w0 fun e w' => e = .returned (.int .i64 (sortC_DOp x y)) ∧ ∃ q os', w' = Go.Sort.grow (w0.drewN q) os' := by
 obtain ⟨⟨⟨a1, a2, a3⟩, a4, a5, a6, a7, a8⟩, hx⟩ := x
 obtain ⟨⟨⟨b1, b2, b3⟩, b4, b5, b6, b7, b8⟩, hy⟩ := y
 exact sortX_DOp_at a1 a3 a4 a8 b1 b3 b4 b8 (cmpO a2.b a3 b2.b b3) a2 a5 a6 a7 b2 b5 b6 b7 w0 (fun h => by rw [compareBytes_eq] at *; exact if_pos h) (fun h => by rw [compareBytes_eq] at h; exact if_neg (fun e => e h))

theorem slices_SortFunc_Op_ok {l r : List DOp} {s : Value} (h : slices_SortFunc_Op l = some r) : FSpecO Tryd.prog 48 [isV s, cloV 26 []] [(s, rowV 34 l)] (anyV) [some (rowV 34 r)] := by
 obtain ⟨hl, h⟩ := need_some h
 obtain rfl := some_eq h
 exact sortF_spec sortF34_lay rfl rfl fnok48 fnok26 Tryd.underlying34 ty34 sortO_DOp sortX_DOp hl.1 hl.2

theorem ref_MergeOf_ok {a1 : (List DOp)} {b1 : (List DOp)} {r : ((List DOp) × Int)}  (h : ref_MergeOf a1 b1 = some r) : FSpec Tryd.prog 14 [rep a1, rep b1] (tup [rep r.1, rep r.2]) := by
 unfold ref_MergeOf at h
 refine FSpec.intro (n := 50) fnok14 Tryd.func14 rfl Tryd.ntmps14 rfl (fun F => ?_)
 refine .seq (.region [] mixed (by kernel_rfl) ?_)
 refine .cons (.assign .none (.const (x := ([] : (List DOp))) (fun M w => ⟨_, ⟨none, 0, rfl, Nat.le_refl _, by decide, rfl⟩, rfl⟩))) rfl ?_
 refine .cons (.assign .none (.int (by decide))) rfl ?_
 refine .nil (.then ?_)
 refine .seq ?_
 refine .seq (.region [] mixed (by kernel_rfl) ?_)
 refine .cons (.move .none (.s rfl)) rfl ?_
 refine .cons (.len .none sl22 (.s rfl)) rfl ?_
 refine .cons (.gt .none (.s rfl) (.int (by decide))) rfl ?_
 refine .nil (.then ?_)
 refine .cond (t := 13) rfl trivial (fun hb1 => ?_) (fun hb1 => ?_)
 ·
  replace h := bif_t h hb1
  refine .seq (.region [] mixed (by kernel_rfl) ?_)
  refine .cons (.assign .none (.const (x := ([] : (List DOp))) (fun M w => ⟨_, ⟨none, 0, rfl, Nat.le_refl _, by decide, rfl⟩, rfl⟩))) rfl ?_
  refine .cons (.assign .none (.int (by decide))) rfl ?_
  refine .nil (.then ?_)
  refine .ret ?_
  refine .thenRet ?_
  obtain rfl := some_eq h
  exact Ends.ret2 (.inl rfl) Tryd.results14 (ResOK.tmp rfl trivial Imp.refl) (ResOK.tmp rfl trivial Imp.refl)
 ·
  replace h := bif_f h hb1
  refine .skip ?_
  refine .then ?_
  refine .seq (.region [([], []), ([], [15]), ([15], [6, 15])] mixed (by kernel_rfl) ?_)
  refine .consA (.move .none (.s rfl)) rfl ?_
  obtain ⟨out1, hv2, h⟩ := bind_some h
  refine .consW (.callO [] (slices_Clone_Op_ok hv2) (.cons (.s rfl) .nil) .nil rfl (by decide) (by decide) (by intro d h; cases h; decide)) rfl rfl ?_
  refine .consW (.passRow rfl (.tmp rfl)) rfl rfl ?_
  refine .nil (.then ?_)
  refine .nameRow (t := 6) (g := 5001) rfl rfl rfl (fun s5001 => ?_)
  refine .seq ?_
  refine .seq (.region [] mixed (by kernel_rfl) ?_)
  refine .cons (.move .none (.s rfl)) rfl ?_
  refine .cons (.len .none sl22 (.s rfl)) rfl ?_
  refine .cons (.move .none (.int (by decide))) rfl ?_
  refine .nil (.then ?_)
  obtain ⟨o_3, h, hK3⟩ := bindR_some h
  refine .thenJ (ι := (List DOp)) (fun j_3 => []) (fun j_3 => [(6, some (rowV 34 j_3))]) (fun s => o_3 = Res.nx s) Sub.nil SubB.nil ?_ (fun j_3 hj3 => ?_)
  ·
   skip
   refine .block ?_
   refine .anon (t := 6) (g := 5001) rfl rfl trivial rfl ?_
   refine .rforEL h (fun p4_ => [(18, ⟨True, rep p4_.1⟩)]) (fun p4_ => [(6, some (rowV 34 p4_.2))]) (.k 18 rfl .nil) (.k 6 rfl .nil) (.k 16 rfl (.k 17 rfl .nil)) SubB.nil (fun p4_ o_4 h hD4 => ?_)
   refine .nameRow (t := 6) (g := 5002) rfl rfl rfl (fun s5002 => ?_)
   refine .seq (.region [] mixed (by kernel_rfl) ?_)
   refine .cons (.lt .none (.s rfl) (.s rfl)) rfl ?_
   refine .nil (.then ?_)
   refine .seq ?_
   refine .cond (t := 19) rfl trivial (fun hb5 => ?_) (fun hb5 => ?_)
   ·
    replace h := bif_t h hb5
    refine .skip ?_
    refine .then ?_
    refine .seq ?_
    obtain ⟨o_6, h, hK6⟩ := bindD_some h
    unfold ref_MergeOf_L1 at h
    refine .thenJ (ι := (List DOp)) (fun j_6 => []) (fun j_6 => [(6, some (rowV 34 j_6))]) (fun s => o_6 = Res.nx s) (.k 16 rfl (.k 17 rfl (.k 18 rfl .nil))) SubB.nil ?_ (fun j_6 hj6 => ?_)
    ·
     skip
     refine .block ?_
     refine .seq (.region [([], []), ([], []), ([], [8]), ([8], [8])] mixed (by kernel_rfl) ?_)
     obtain ⟨hn7, h⟩ := need_some h
     refine .consA (.indexAddr .none sl22 ty34 (.s rfl) (.s rfl) (fun _ => hn7)) rfl ?_
     obtain ⟨v1, hv8, h⟩ := bnd_some h
     refine .consA (.re hv8 (.load .none ty34 (.s rfl))) rfl ?_
     refine .consW (.alloc zo34 rfl) rfl rfl ?_
     refine .consN (.store ty34 rfl rfl (.s rfl)) rfl ?_
     refine .nil (.then ?_)
     refine .freeze (t := 8) rfl rfl (.k 5002 rfl .nil) rfl ?_
     refine .seq (.region [([], []), ([], []), ([5002], []), ([], [])] mixed (by kernel_rfl) ?_)
     refine .consA (.move .none (.s rfl)) rfl ?_
     refine .consA (.makeFunc (ι := DOp × Bool) (pre := fun i => (fun x0 => ref_MergeOf_1 x0 v1) i.1 = some i.2) (Ss := fun i => [rep i.1]) (S := fun i => rep i.2) .none fnok47 (fun i h => ref_MergeOf_1_ok h) (.cons (.s rfl) .nil)) rfl ?_
     obtain ⟨k1, hv9, h⟩ := bind_some h
     refine .consA (.callC .none fnok46 (fun hg => slices_IndexFunc_Op_ok  hv9) .rep (.lend (k := 5002) (.told (.s rfl) rfl) (.cons (.s rfl) .nil))) rfl ?_
     refine .consA (.assign .none (.s rfl)) rfl ?_
     refine .nil (.then ?_)
     refine .seq ?_
     refine .seq (.region [([], []), ([], []), ([], []), ([], []), ([], []), ([5002], []), ([5002], []), ([], []), ([], []), ([], [])] mixed (by kernel_rfl) ?_)
     refine .consA (.move .none (.s rfl)) rfl ?_
     refine .consA (.ge .none (.s rfl) (.int (by decide))) rfl ?_
     refine .consA (.move .none (.s rfl)) rfl ?_
     refine .consA (.move (.at rfl rfl) (.s rfl)) rfl ?_
     refine .consA (.move (.at rfl rfl) (.s rfl)) rfl ?_
     obtain ⟨hn10, h⟩ := need_some h
     refine .consA (.indexAddrO (k := 5002) (.at rfl rfl) sl22 ty34 (.tmp rfl id) rfl (.tmp rfl id) (fun hg => hn10 hg.2)) rfl ?_
     refine .consA (.loadElem0 (k := 5002) (.at rfl rfl) ty34 (.tmp rfl id) rfl (fun hg => hn10 hg.2)) rfl ?_
     refine .consA (.load (.at rfl rfl) ty34 (.s rfl)) rfl ?_
     refine .consA (.neS (.at rfl rfl) eqa34 (.tmp rfl id) (.tmp rfl id)) rfl ?_
     refine .consA (.pickAnd .none (.s rfl) (.tmp rfl id)) rfl ?_
     refine .nil (.then ?_)
     refine .cond (t := 34) rfl trivial (fun hb11 => ?_) (fun hb11 => ?_)
     ·
      replace h := bif_t h hb11
      refine .seq (.region [] mixed (by kernel_rfl) ?_)
      refine .cons (.assign .none (.const (x := ([] : (List DOp))) (fun M w => ⟨_, ⟨none, 0, rfl, Nat.le_refl _, by decide, rfl⟩, rfl⟩))) rfl ?_
      refine .cons (.assign .none (.int (by decide))) rfl ?_
      refine .nil (.then ?_)
      refine .ret ?_
      refine .thenRet ?_
      refine .blkRet ?_
      refine .thenRet ?_
      refine .thenRet ?_
      refine .blkRet ?_
      refine .thenRet ?_
      replace h := resd_ab hK6 (some_eq h)
      replace h := hD4 _ (some_eq h)
      replace h := resb_ab hK3 (some_eq h)
      obtain rfl := some_eq h
      exact Ends.ret2 (.inl rfl) Tryd.results14 (ResOK.tmp rfl trivial Imp.refl) (ResOK.tmp rfl trivial Imp.refl)
     ·
      replace h := bif_f h hb11
      refine .skip ?_
      refine .then ?_
      refine .seq (.region [] mixed (by kernel_rfl) ?_)
      refine .cons (.move .none (.s rfl)) rfl ?_
      refine .cons (.lt .none (.s rfl) (.int (by decide))) rfl ?_
      refine .nil (.then ?_)
      refine .cond (t := 36) rfl trivial (fun hb12 => ?_) (fun hb12 => ?_)
      ·
       replace h := bif_t h hb12
       refine .region [([], []), ([], []), ([], []), ([5002], [40, 5002]), ([40], [6, 40])] mixed (by kernel_rfl) ?_
       refine .consA (.move .none (.s rfl)) rfl ?_
       refine .consA (.load .none ty34 (.s rfl)) rfl ?_
       refine .consA (.buildSlice (xs := [_]) .none sl22 ty34 hz34 (.cons (.s rfl) .nil) rfl (by decide)) rfl ?_
       obtain ⟨hn13, h⟩ := need_some h
       refine .consW (.append (k := 5002) rk22 rfl (.told (.s rfl) rfl) (.s rfl) hn13) rfl rfl ?_
       refine .consW (.passRow rfl (.tmp rfl)) rfl rfl ?_
       refine .nil ?_
       refine .blkNormal ?_
       exact Ends.join _ (some_eq h) (.k 16 rfl (.k 17 rfl (.k 18 rfl .nil))) (.k 6 rfl .nil)
      ·
       replace h := bif_f h hb12
       refine .skip ?_
       refine .blkNormal ?_
       refine .anon (t := 6) (g := 5002) rfl rfl trivial rfl ?_
       exact Ends.join _ (some_eq h) (.k 16 rfl (.k 17 rfl (.k 18 rfl .nil))) (.k 6 rfl .nil)
    ·
     have h := resd_nx hK6 hj6
     refine .nameRow (t := 6) (g := 5003) rfl rfl rfl (fun s5003 => ?_)
     refine .region [] mixed (by kernel_rfl) ?_
     refine .cons (.addW .none (.s rfl) (.int (by decide))) rfl ?_
     refine .cons (.move .none (.s rfl)) rfl ?_
     refine .nil ?_
     refine .anon (t := 6) (g := 5003) rfl rfl trivial rfl ?_
     exact Ends.againL (some_eq h) (.k 18 rfl (.k 16 rfl (.k 17 rfl .nil))) (.k 6 rfl .nil)
   ·
    replace h := bif_f h hb5
    refine .exit ?_
    refine .thenExit ?_
    refine .thenExit ?_
    refine .blkExit ?_
    refine .anon (t := 6) (g := 5002) rfl rfl trivial rfl ?_
    replace h := hD4 _ (some_eq h)
    exact Ends.join _ (some_eq h) Sub.nil (.k 6 rfl .nil)
  ·
   have h := resb_nx hK3 hj3
   refine .nameRow (t := 6) (g := 5004) rfl rfl rfl (fun s5004 => ?_)
   refine .seq (.region [([], []), ([5004], [5004])] mixed (by kernel_rfl) ?_)
   refine .consA (.move .none (.s rfl)) rfl ?_
   obtain ⟨r1, hv14, h⟩ := bind_some h
   refine .consW (.callO [5004] (slices_SortFunc_Op_ok hv14) (.cons (.s rfl) (.cons .funcC .nil)) (.cons (k := 5004) rfl .nil) rfl (by decide) (by decide) (by intro d h; cases h; decide)) rfl rfl ?_
   refine .nil (.then ?_)
   refine .freezeRow (g := 5004) (ts := [6]) rfl (.cons (t := 6) rfl trivial .nil) SubB.nil rfl ?_
   refine .seq ?_
   refine .seq (.region [] mixed (by kernel_rfl) ?_)
   refine .cons (.move .none (.s rfl)) rfl ?_
   obtain ⟨e1, hv15, h⟩ := bind_some h
   refine .cons (.call .none (ref_OpsError_ok hv15) (.cons (.s rfl) .nil)) rfl ?_
   refine .cons (.assign .none (.s rfl)) rfl ?_
   refine .nil (.then ?_)
   refine .seq (.region [] mixed (by kernel_rfl) ?_)
   refine .cons (.move .none (.s rfl)) rfl ?_
   refine .cons (.neI .none (.s rfl) (.int (by decide))) rfl ?_
   refine .nil (.then ?_)
   refine .cond (t := 47) rfl trivial (fun hb16 => ?_) (fun hb16 => ?_)
   ·
    replace h := bif_t h hb16
    refine .seq (.region [] mixed (by kernel_rfl) ?_)
    refine .cons (.move .none (.s rfl)) rfl ?_
    refine .cons (.assign .none (.const (x := ([] : (List DOp))) (fun M w => ⟨_, ⟨none, 0, rfl, Nat.le_refl _, by decide, rfl⟩, rfl⟩))) rfl ?_
    refine .cons (.assign .none (.s rfl)) rfl ?_
    refine .nil (.then ?_)
    refine .ret ?_
    refine .thenRet ?_
    obtain rfl := some_eq h
    exact Ends.ret2 (.inl rfl) Tryd.results14 (ResOK.tmp rfl trivial Imp.refl) (ResOK.tmp rfl trivial Imp.refl)
   ·
    replace h := bif_f h hb16
    refine .skip ?_
    refine .then ?_
    refine .seq (.region [] mixed (by kernel_rfl) ?_)
    refine .cons (.move .none (.s rfl)) rfl ?_
    refine .cons (.assign .none (.s rfl)) rfl ?_
    refine .cons (.assign .none (.int (by decide))) rfl ?_
    refine .nil (.then ?_)
    refine .ret ?_
    obtain rfl := some_eq h
    exact Ends.ret2 (.inl rfl) Tryd.results14 (ResOK.tmp rfl trivial Imp.refl) (ResOK.tmp rfl trivial Imp.refl)

theorem law_edits_ok  {r : Bool}  (h : law_edits  = some r) : FSpec Tryd.prog 6 [] (rep r) := by
 unfold law_edits at h
 refine FSpec.intro (n := 9) fnok6 Tryd.func6 rfl Tryd.ntmps6 rfl (fun F => ?_)
 refine .seq (.region [] mixed (by kernel_rfl) ?_)
 refine .cons (.assign .none .bool) rfl ?_
 refine .nil (.then ?_)
 refine .seq (.region [] mixed (by kernel_rfl) ?_)
 obtain ⟨r1, hv1, h⟩ := bind_some h
 refine .cons (.call .none (edit_Check_ok hv1) (.cons (.const (x := ([] : (List DOp))) (fun M w => ⟨_, ⟨none, 0, rfl, Nat.le_refl _, by decide, rfl⟩, rfl⟩)) .nil)) rfl ?_
 refine .cons (.eqI .none (.s rfl) (.int (by decide))) rfl ?_
 refine .cons (.move .none (.s rfl)) rfl ?_
 refine .cons (.buildF (y := (⟨(⟨(0 : Int), Str.nil, (0 : Int)⟩ : Stamp), (0 : Int), Str.nil, Str.nil, Str.nil, (0 : Int)⟩ : DOp)) (.at rfl rfl) bu34 zc34 rfl .nil .nil) rfl ?_
 refine .cons (.buildSlice (xs := [_]) (.at rfl rfl) sl22 ty34 hz34 (.cons (.tmp rfl id) .nil) rfl (by decide)) rfl ?_
 obtain ⟨r2, hv2, h⟩ := bind_some h
 refine .cons (.callIf (.at rfl rfl) fnok31 (fun hg => edit_Check_ok ((fun hg => gd_some hv2 (hg.2)) hg)) (.cons (.tmp rfl id) .nil) (fun h => h)) rfl ?_
 refine .cons (.eqI (.at rfl rfl) (.tmp rfl id) (.int (by decide))) rfl ?_
 refine .cons (.pickAnd .none (.s rfl) (.tmp rfl id)) rfl ?_
 refine .cons (.assign .none (.s rfl)) rfl ?_
 refine .nil (.then ?_)
 refine .ret ?_
 obtain rfl := some_eq h
 exact Ends.ret1 (.inl rfl) Tryd.results6 (ResOK.tmp rfl trivial Imp.refl)

theorem law_MergesMatch_1_ok {c0_1 : (List DOp)} {r : (List DOp)}  (h : law_MergesMatch_1 c0_1 = some r) : FSpec Tryd.prog 16 [ref c0_1] (rep r) := by
 unfold law_MergesMatch_1 at h
 refine FSpec.intro (n := 3) fnok16 Tryd.func16 rfl Tryd.ntmps16 rfl (fun F => ?_)
 refine .seq (.region [] mixed (by kernel_rfl) ?_)
 refine .cons (.assign .none (.const (x := ([] : (List DOp))) (fun M w => ⟨_, ⟨none, 0, rfl, Nat.le_refl _, by decide, rfl⟩, rfl⟩))) rfl ?_
 refine .nil (.then ?_)
 refine .seq (.region [] mixed (by kernel_rfl) ?_)
 refine .cons (.load .none ty22 (.s rfl)) rfl ?_
 refine .cons (.assign .none (.s rfl)) rfl ?_
 refine .nil (.then ?_)
 refine .ret ?_
 obtain rfl := some_eq h
 exact Ends.ret1 (.inl rfl) Tryd.results16 (ResOK.tmp rfl trivial Imp.refl)

theorem slices_Equal_Op_ok {s1_1 : (List DOp)} {s2_1 : (List DOp)} {r : Bool}  (h : slices_Equal_Op s1_1 s2_1 = some r) : FSpec Tryd.prog 12 [rep s1_1, rep s2_1] (rep r) := by
 unfold slices_Equal_Op at h
 refine FSpec.intro (n := 26) fnok12 Tryd.func12 rfl Tryd.ntmps12 rfl (fun F => ?_)
 refine .seq (.region [] mixed (by kernel_rfl) ?_)
 refine .cons (.assign .none .bool) rfl ?_
 refine .nil (.then ?_)
 refine .seq ?_
 refine .seq (.region [] mixed (by kernel_rfl) ?_)
 refine .cons (.move .none (.s rfl)) rfl ?_
 refine .cons (.len .none sl22 (.s rfl)) rfl ?_
 refine .cons (.move .none (.s rfl)) rfl ?_
 refine .cons (.len .none sl22 (.s rfl)) rfl ?_
 refine .cons (.neI .none (.s rfl) (.s rfl)) rfl ?_
 refine .nil (.then ?_)
 refine .cond (t := 10) rfl trivial (fun hb1 => ?_) (fun hb1 => ?_)
 ·
  replace h := bif_t h hb1
  refine .seq (.region [] mixed (by kernel_rfl) ?_)
  refine .cons (.assign .none .bool) rfl ?_
  refine .nil (.then ?_)
  refine .ret ?_
  refine .thenRet ?_
  obtain rfl := some_eq h
  exact Ends.ret1 (.inl rfl) Tryd.results12 (ResOK.tmp rfl trivial Imp.refl)
 ·
  replace h := bif_f h hb1
  refine .skip ?_
  refine .then ?_
  refine .seq ?_
  refine .seq (.region [] mixed (by kernel_rfl) ?_)
  refine .cons (.move .none (.s rfl)) rfl ?_
  refine .cons (.len .none sl22 (.s rfl)) rfl ?_
  refine .cons (.move .none (.int (by decide))) rfl ?_
  refine .nil (.then ?_)
  obtain ⟨o_2, h, hK2⟩ := bindR_some h
  refine .thenJ (ι := Unit) (fun j_2 => []) (fun j_2 => []) (fun s => o_2 = Res.nx s) Sub.nil SubB.nil ?_ (fun j_2 hj2 => ?_)
  ·
   skip
   refine .block ?_
   refine .rforEL h (fun p3_ => [(13, ⟨True, rep p3_.1⟩)]) (fun p3_ => []) (.k 13 rfl .nil) SubB.nil (.k 0 rfl (.k 1 rfl (.k 12 rfl .nil))) SubB.nil (fun p3_ o_3 h hD3 => ?_)
   refine .seq (.region [] mixed (by kernel_rfl) ?_)
   refine .cons (.lt .none (.s rfl) (.s rfl)) rfl ?_
   refine .nil (.then ?_)
   refine .seq ?_
   refine .cond (t := 14) rfl trivial (fun hb4 => ?_) (fun hb4 => ?_)
   ·
    replace h := bif_t h hb4
    refine .skip ?_
    refine .then ?_
    refine .seq ?_
    obtain ⟨o_5, h, hK5⟩ := bindD_some h
    unfold slices_Equal_Op_L1 at h
    refine .thenJ (ι := Unit) (fun j_5 => []) (fun j_5 => []) (fun s => o_5 = Res.nx s) (.k 0 rfl (.k 1 rfl (.k 12 rfl (.k 13 rfl .nil)))) SubB.nil ?_ (fun j_5 hj5 => ?_)
    ·
     skip
     refine .block ?_
     refine .seq (.region [] mixed (by kernel_rfl) ?_)
     refine .cons (.move .none (.s rfl)) rfl ?_
     refine .cons (.assign .none (.s rfl)) rfl ?_
     refine .nil (.then ?_)
     refine .seq (.region [] mixed (by kernel_rfl) ?_)
     refine .cons (.move .none (.s rfl)) rfl ?_
     refine .cons (.move .none (.s rfl)) rfl ?_
     obtain ⟨hn6, h⟩ := need_some h
     refine .cons (.indexAddr .none sl22 ty34 (.s rfl) (.s rfl) (fun _ => hn6)) rfl ?_
     refine .cons (.load .none ty34 (.s rfl)) rfl ?_
     refine .cons (.move .none (.s rfl)) rfl ?_
     refine .cons (.move .none (.s rfl)) rfl ?_
     obtain ⟨hn7, h⟩ := need_some h
     refine .cons (.indexAddr .none sl22 ty34 (.s rfl) (.s rfl) (fun _ => hn7)) rfl ?_
     refine .cons (.load .none ty34 (.s rfl)) rfl ?_
     refine .cons (.neS .none eqa34 (.s rfl) (.s rfl)) rfl ?_
     refine .nil (.then ?_)
     refine .cond (t := 24) rfl trivial (fun hb8 => ?_) (fun hb8 => ?_)
     ·
      replace h := bif_t h hb8
      refine .seq (.region [] mixed (by kernel_rfl) ?_)
      refine .cons (.assign .none .bool) rfl ?_
      refine .nil (.then ?_)
      refine .ret ?_
      refine .blkRet ?_
      refine .thenRet ?_
      refine .thenRet ?_
      refine .blkRet ?_
      refine .thenRet ?_
      replace h := resd_ab hK5 (some_eq h)
      replace h := hD3 _ (some_eq h)
      replace h := resb_ab hK2 (some_eq h)
      obtain rfl := some_eq h
      exact Ends.ret1 (.inl rfl) Tryd.results12 (ResOK.tmp rfl trivial Imp.refl)
     ·
      replace h := bif_f h hb8
      refine .skip ?_
      refine .blkNormal ?_
      exact Ends.join _ (some_eq h) (.k 0 rfl (.k 1 rfl (.k 12 rfl (.k 13 rfl .nil)))) SubB.nil
    ·
     have h := resd_nx hK5 hj5
     refine .region [] mixed (by kernel_rfl) ?_
     refine .cons (.addW .none (.s rfl) (.int (by decide))) rfl ?_
     refine .cons (.move .none (.s rfl)) rfl ?_
     refine .nil ?_
     exact Ends.againL (some_eq h) (.k 13 rfl (.k 0 rfl (.k 1 rfl (.k 12 rfl .nil)))) SubB.nil
   ·
    replace h := bif_f h hb4
    refine .exit ?_
    refine .thenExit ?_
    refine .thenExit ?_
    refine .blkExit ?_
    replace h := hD3 _ (some_eq h)
    exact Ends.join _ (some_eq h) Sub.nil SubB.nil
  ·
   have h := resb_nx hK2 hj2
   refine .seq (.region [] mixed (by kernel_rfl) ?_)
   refine .cons (.assign .none .bool) rfl ?_
   refine .nil (.then ?_)
   refine .ret ?_
   obtain rfl := some_eq h
   exact Ends.ret1 (.inl rfl) Tryd.results12 (ResOK.tmp rfl trivial Imp.refl)

theorem law_lists_Op_ok {got1 : (List DOp)} {e1 : Int} {want1 : Int} {right1 : (Option (List DOp))} {r : Bool}  (h : law_lists_Op got1 e1 want1 right1 = some r) : FSpec Tryd.prog 15 [rep got1, rep e1, rep want1, fn0 Tryd.prog (rep (α := (List DOp))) right1] (rep r) := by
 unfold law_lists_Op at h
 refine FSpec.intro (n := 27) fnok15 Tryd.func15 rfl Tryd.ntmps15 rfl (fun F => ?_)
 refine .seq (.region [] mixed (by kernel_rfl) ?_)
 refine .cons (.assign .none .bool) rfl ?_
 refine .nil (.then ?_)
 refine .seq ?_
 refine .seq (.region [] mixed (by kernel_rfl) ?_)
 refine .cons (.move .none (.s rfl)) rfl ?_
 refine .cons (.neI .none (.s rfl) (.int (by decide))) rfl ?_
 refine .nil (.then ?_)
 refine .cond (t := 10) rfl trivial (fun hb1 => ?_) (fun hb1 => ?_)
 ·
  replace h := bif_t h hb1
  refine .seq (.region [] mixed (by kernel_rfl) ?_)
  refine .cons (.move .none (.s rfl)) rfl ?_
  refine .cons (.len .none sl22 (.s rfl)) rfl ?_
  refine .cons (.eqI .none (.s rfl) (.int (by decide))) rfl ?_
  refine .cons (.move .none (.s rfl)) rfl ?_
  refine .cons (.move (.at rfl rfl) (.s rfl)) rfl ?_
  refine .cons (.move (.at rfl rfl) (.s rfl)) rfl ?_
  refine .cons (.eqI (.at rfl rfl) (.tmp rfl id) (.tmp rfl id)) rfl ?_
  refine .cons (.pickAnd .none (.s rfl) (.tmp rfl id)) rfl ?_
  refine .cons (.assign .none (.s rfl)) rfl ?_
  refine .nil (.then ?_)
  refine .ret ?_
  refine .thenRet ?_
  obtain rfl := some_eq h
  exact Ends.ret1 (.inl rfl) Tryd.results15 (ResOK.tmp rfl trivial Imp.refl)
 ·
  replace h := bif_f h hb1
  refine .skip ?_
  refine .then ?_
  refine .seq (.region [] mixed (by kernel_rfl) ?_)
  refine .cons (.move .none (.s rfl)) rfl ?_
  refine .cons (.eqI .none (.s rfl) (.int (by decide))) rfl ?_
  refine .cons (.move .none (.s rfl)) rfl ?_
  refine .cons (.move (.at rfl rfl) (.s rfl)) rfl ?_
  refine .cons (.move (.at rfl rfl) (.s rfl)) rfl ?_
  obtain ⟨r1, hv2, h⟩ := bind_some h
  refine .cons (.callV _ (.at rfl rfl) (.tmp rfl id) (fun hg => gd_some hv2 (hg.2)) .nil) rfl ?_
  obtain ⟨r2, hv3, h⟩ := bind_some h
  refine .cons (.callIf (.at rfl rfl) fnok12 (fun hg => slices_Equal_Op_ok ((fun hg => gd_some hv3 (hg.2)) hg)) (.cons (.tmp rfl id) (.cons (.tmp rfl id) .nil)) (fun h => h)) rfl ?_
  refine .cons (.pickAnd .none (.s rfl) (.tmp rfl id)) rfl ?_
  refine .cons (.assign .none (.s rfl)) rfl ?_
  refine .nil (.then ?_)
  refine .ret ?_
  obtain rfl := some_eq h
  exact Ends.ret1 (.inl rfl) Tryd.results15 (ResOK.tmp rfl trivial Imp.refl)

theorem edit_Seen_ok {l1 : (List DOp)} {r : ((List Stamp) × Int)}  (h : edit_Seen l1 = some r) : FSpec Tryd.prog 17 [rep l1] (tup [rep r.1, rep r.2]) := by
 unfold edit_Seen at h
 refine FSpec.intro (n := 45) fnok17 Tryd.func17 rfl Tryd.ntmps17 rfl (fun F => ?_)
 refine .seq (.region [] mixed (by kernel_rfl) ?_)
 refine .cons (.assign .none (.const (x := ([] : (List Stamp))) (fun M w => ⟨_, ⟨none, 0, rfl, Nat.le_refl _, by decide, rfl⟩, rfl⟩))) rfl ?_
 refine .cons (.assign .none (.int (by decide))) rfl ?_
 refine .nil (.then ?_)
 refine .seq ?_
 refine .seq (.region [] mixed (by kernel_rfl) ?_)
 refine .cons (.move .none (.s rfl)) rfl ?_
 obtain ⟨e1, hv1, h⟩ := bind_some h
 refine .cons (.call .none (edit_Check_ok hv1) (.cons (.s rfl) .nil)) rfl ?_
 refine .cons (.assign .none (.s rfl)) rfl ?_
 refine .nil (.then ?_)
 refine .seq (.region [] mixed (by kernel_rfl) ?_)
 refine .cons (.move .none (.s rfl)) rfl ?_
 refine .cons (.neI .none (.s rfl) (.int (by decide))) rfl ?_
 refine .nil (.then ?_)
 refine .cond (t := 11) rfl trivial (fun hb2 => ?_) (fun hb2 => ?_)
 ·
  replace h := bif_t h hb2
  refine .seq (.region [] mixed (by kernel_rfl) ?_)
  refine .cons (.move .none (.s rfl)) rfl ?_
  refine .cons (.assign .none (.const (x := ([] : (List Stamp))) (fun M w => ⟨_, ⟨none, 0, rfl, Nat.le_refl _, by decide, rfl⟩, rfl⟩))) rfl ?_
  refine .cons (.assign .none (.s rfl)) rfl ?_
  refine .nil (.then ?_)
  refine .ret ?_
  refine .thenRet ?_
  obtain rfl := some_eq h
  exact Ends.ret2 (.inl rfl) Tryd.results17 (ResOK.tmp rfl trivial Imp.refl) (ResOK.tmp rfl trivial Imp.refl)
 ·
  replace h := bif_f h hb2
  refine .skip ?_
  refine .then ?_
  refine .seq (.region [([], [5])] mixed (by kernel_rfl) ?_)
  refine .consW (.nilRow (T := 32) (α := Stamp) rfl) rfl rfl ?_
  refine .nil (.then ?_)
  refine .nameRow (t := 5) (g := 5001) rfl rfl rfl (fun s5001 => ?_)
  refine .seq ?_
  refine .seq (.region [] mixed (by kernel_rfl) ?_)
  refine .cons (.move .none (.s rfl)) rfl ?_
  refine .cons (.len .none sl22 (.s rfl)) rfl ?_
  refine .cons (.move .none (.int (by decide))) rfl ?_
  refine .nil (.then ?_)
  obtain ⟨j_3, h, hK3⟩ := bind_some h
  refine .thenJ (ι := (List Stamp)) (fun j_3 => []) (fun j_3 => [(5, some (rowV 32 j_3))]) (fun s => j_3 = s) Sub.nil SubB.nil ?_ (fun j_3' hj3 => ?_)
  ·
   skip
   refine .block ?_
   refine .anon (t := 5) (g := 5001) rfl rfl trivial rfl ?_
   refine .rforL h (fun p4_ => [(15, ⟨True, rep p4_.1⟩)]) (fun p4_ => [(5, some (rowV 32 p4_.2))]) (.k 15 rfl .nil) (.k 5 rfl .nil) (.k 0 rfl (.k 13 rfl (.k 14 rfl .nil))) SubB.nil (fun p4_ o_4 h hD4 => ?_)
   refine .nameRow (t := 5) (g := 5002) rfl rfl rfl (fun s5002 => ?_)
   refine .seq (.region [] mixed (by kernel_rfl) ?_)
   refine .cons (.lt .none (.s rfl) (.s rfl)) rfl ?_
   refine .nil (.then ?_)
   refine .seq ?_
   refine .cond (t := 16) rfl trivial (fun hb5 => ?_) (fun hb5 => ?_)
   ·
    replace h := bif_t h hb5
    refine .skip ?_
    refine .then ?_
    refine .seq ?_
    obtain ⟨j_6, h, hK6⟩ := bind_some h
    unfold edit_Seen_L1 at h
    refine .thenJ (ι := (List Stamp)) (fun j_6 => []) (fun j_6 => [(5, some (rowV 32 j_6))]) (fun s => j_6 = s) (.k 0 rfl (.k 13 rfl (.k 14 rfl (.k 15 rfl .nil)))) SubB.nil ?_ (fun j_6' hj6 => ?_)
    ·
     skip
     refine .block ?_
     refine .seq (.region [([], []), ([], []), ([], []), ([], [7]), ([], []), ([7], [7])] mixed (by kernel_rfl) ?_)
     refine .consA (.move .none (.s rfl)) rfl ?_
     obtain ⟨hn7, h⟩ := need_some h
     refine .consA (.indexAddr .none sl22 ty34 (.s rfl) (.s rfl) (fun _ => hn7)) rfl ?_
     obtain ⟨v1, hv8, h⟩ := bnd_some h
     refine .consA (.re hv8 (.load .none ty34 (.s rfl))) rfl ?_
     refine .consW (.alloc zo34 rfl) rfl rfl ?_
     refine .consA (.assign .none (.s rfl)) rfl ?_
     refine .consN (.store ty34 rfl rfl (.s rfl)) rfl ?_
     refine .nil (.then ?_)
     refine .freeze (t := 7) rfl rfl (.k 5002 rfl .nil) rfl ?_
     refine .seq (.region [] mixed (by kernel_rfl) ?_)
     refine .cons (.move .none (.s rfl)) rfl ?_
     refine .cons (.addW .none (.s rfl) (.int (by decide))) rfl ?_
     refine .cons (.move .none (.s rfl)) rfl ?_
     refine .cons (.len .none sl22 (.s rfl)) rfl ?_
     refine .cons (.eqI .none (.s rfl) (.s rfl)) rfl ?_
     refine .cons (.move .none (.s rfl)) rfl ?_
     refine .cons (.move (.at rfl rfl) (.s rfl)) rfl ?_
     refine .cons (.move (.at rfl rfl) (.s rfl)) rfl ?_
     refine .cons (.addW (.at rfl rfl) (.tmp rfl id) (.int (by decide))) rfl ?_
     obtain ⟨hn9, h⟩ := need_some h
     refine .cons (.indexAddr (.at rfl rfl) sl22 ty34 (.tmp rfl id) (.tmp rfl id) (fun hg => hn9 hg.2)) rfl ?_
     refine .cons (.fieldAddr (.at rfl rfl) fd34_0 hfd34_0 (.tmp rfl id)) rfl ?_
     refine .cons (.fieldAddr (.at rfl rfl) fd32_1 hfd32_1 (.tmp rfl id)) rfl ?_
     refine .cons (.load (.at rfl rfl) ty9 (.tmp rfl id)) rfl ?_
     refine .cons (.fieldAddr (.at rfl rfl) fd34_0 hfd34_0 (.s rfl)) rfl ?_
     refine .cons (.fieldAddr (.at rfl rfl) fd32_1 hfd32_1 (.tmp rfl id)) rfl ?_
     refine .cons (.load (.at rfl rfl) ty9 (.tmp rfl id)) rfl ?_
     refine .cons (.neS (.at rfl rfl) (eqAt_str Tryd.underlying9) (.tmp rfl id) (.tmp rfl id)) rfl ?_
     refine .cons (.pickOr .none (.s rfl) (.tmp rfl id)) rfl ?_
     refine .nil (.then ?_)
     refine .cond (t := 37) rfl trivial (fun hb10 => ?_) (fun hb10 => ?_)
     ·
      replace h := bif_t h hb10
      refine .region [([], []), ([], []), ([], []), ([], []), ([5002], [42, 5002]), ([42], [5, 42])] mixed (by kernel_rfl) ?_
      refine .consA (.move .none (.s rfl)) rfl ?_
      refine .consA (.fieldAddr .none fd34_0 hfd34_0 (.s rfl)) rfl ?_
      refine .consA (.load .none ty32 (.s rfl)) rfl ?_
      refine .consA (.buildSlice (xs := [_]) .none sl36 ty32 hz32 (.cons (.s rfl) .nil) rfl (by decide)) rfl ?_
      obtain ⟨hn11, h⟩ := need_some h
      refine .consW (.append (k := 5002) rk36 rfl (.told (.s rfl) rfl) (.s rfl) hn11) rfl rfl ?_
      refine .consW (.passRow rfl (.tmp rfl)) rfl rfl ?_
      refine .nil ?_
      refine .blkNormal ?_
      exact Ends.join _ (some_eq h) (.k 0 rfl (.k 13 rfl (.k 14 rfl (.k 15 rfl .nil)))) (.k 5 rfl .nil)
     ·
      replace h := bif_f h hb10
      refine .skip ?_
      refine .blkNormal ?_
      refine .anon (t := 5) (g := 5002) rfl rfl trivial rfl ?_
      exact Ends.join _ (some_eq h) (.k 0 rfl (.k 13 rfl (.k 14 rfl (.k 15 rfl .nil)))) (.k 5 rfl .nil)
    ·
     subst hj6; have h := hK6; clear hK6
     refine .nameRow (t := 5) (g := 5003) rfl rfl rfl (fun s5003 => ?_)
     refine .region [] mixed (by kernel_rfl) ?_
     refine .cons (.addW .none (.s rfl) (.int (by decide))) rfl ?_
     refine .cons (.move .none (.s rfl)) rfl ?_
     refine .nil ?_
     refine .anon (t := 5) (g := 5003) rfl rfl trivial rfl ?_
     exact Ends.againL (some_eq h) (.k 15 rfl (.k 0 rfl (.k 13 rfl (.k 14 rfl .nil)))) (.k 5 rfl .nil)
   ·
    replace h := bif_f h hb5
    refine .exit ?_
    refine .thenExit ?_
    refine .thenExit ?_
    refine .blkExit ?_
    refine .anon (t := 5) (g := 5002) rfl rfl trivial rfl ?_
    replace h := hD4 _ (some_eq h)
    exact Ends.join _ (some_eq h) Sub.nil (.k 5 rfl .nil)
  ·
   subst hj3; have h := hK3; clear hK3
   refine .freezeRowA (t := 5) rfl rfl SubB.nil rfl ?_
   refine .seq (.region [] mixed (by kernel_rfl) ?_)
   refine .cons (.move .none (.s rfl)) rfl ?_
   refine .cons (.assign .none (.s rfl)) rfl ?_
   refine .cons (.assign .none (.int (by decide))) rfl ?_
   refine .nil (.then ?_)
   refine .ret ?_
   obtain rfl := some_eq h
   exact Ends.ret2 (.inl rfl) Tryd.results17 (ResOK.tmp rfl trivial Imp.refl) (ResOK.tmp rfl trivial Imp.refl)

theorem edit_Since_ok {l1 : (List DOp)} {seen1 : (List Stamp)} {r : ((List DOp) × Int)}  (h : edit_Since l1 seen1 = some r) : FSpec Tryd.prog 18 [rep l1, rep seen1] (tup [rep r.1, rep r.2]) := by
 unfold edit_Since at h
 refine FSpec.intro (n := 76) fnok18 Tryd.func18 rfl Tryd.ntmps18 rfl (fun F => ?_)
 refine .seq (.region [] mixed (by kernel_rfl) ?_)
 refine .cons (.assign .none (.const (x := ([] : (List DOp))) (fun M w => ⟨_, ⟨none, 0, rfl, Nat.le_refl _, by decide, rfl⟩, rfl⟩))) rfl ?_
 refine .cons (.assign .none (.int (by decide))) rfl ?_
 refine .nil (.then ?_)
 refine .seq ?_
 refine .seq (.region [] mixed (by kernel_rfl) ?_)
 refine .cons (.move .none (.s rfl)) rfl ?_
 obtain ⟨e1, hv1, h⟩ := bind_some h
 refine .cons (.call .none (edit_Check_ok hv1) (.cons (.s rfl) .nil)) rfl ?_
 refine .cons (.assign .none (.s rfl)) rfl ?_
 refine .nil (.then ?_)
 refine .seq (.region [] mixed (by kernel_rfl) ?_)
 refine .cons (.move .none (.s rfl)) rfl ?_
 refine .cons (.neI .none (.s rfl) (.int (by decide))) rfl ?_
 refine .nil (.then ?_)
 refine .cond (t := 16) rfl trivial (fun hb2 => ?_) (fun hb2 => ?_)
 ·
  replace h := bif_t h hb2
  refine .seq (.region [] mixed (by kernel_rfl) ?_)
  refine .cons (.move .none (.s rfl)) rfl ?_
  refine .cons (.assign .none (.const (x := ([] : (List DOp))) (fun M w => ⟨_, ⟨none, 0, rfl, Nat.le_refl _, by decide, rfl⟩, rfl⟩))) rfl ?_
  refine .cons (.assign .none (.s rfl)) rfl ?_
  refine .nil (.then ?_)
  refine .ret ?_
  refine .thenRet ?_
  obtain rfl := some_eq h
  exact Ends.ret2 (.inl rfl) Tryd.results18 (ResOK.tmp rfl trivial Imp.refl) (ResOK.tmp rfl trivial Imp.refl)
 ·
  replace h := bif_f h hb2
  refine .skip ?_
  refine .then ?_
  refine .seq (.region [([], [18]), ([18], [7, 18])] mixed (by kernel_rfl) ?_)
  refine .consW (.makeMap (K := Str) (V := Int) rfl) rfl rfl ?_
  refine .consW (.passRow rfl (.tmp rfl)) rfl rfl ?_
  refine .nil (.then ?_)
  obtain ⟨last1, hv3, h⟩ := bnd_some h
  refine .reB (t := 7) rfl (congrArg mapV hv3) ?_
  refine .nameMap (t := 7) (g := 5001) rfl rfl rfl (fun s5001 => ?_)
  refine .seq ?_
  refine .seq (.region [] mixed (by kernel_rfl) ?_)
  refine .cons (.move .none (.s rfl)) rfl ?_
  refine .cons (.len .none sl36 (.s rfl)) rfl ?_
  refine .cons (.move .none (.int (by decide))) rfl ?_
  refine .nil (.then ?_)
  obtain ⟨o_4, h, hK4⟩ := bindR_some h
  refine .thenJ (ι := (GMap Str Int)) (fun j_4 => []) (fun j_4 => [(5001, some (CPred.at s5001 (mapV j_4)))]) (fun s => o_4 = Res.nx s) (.k 0 rfl (.k 7 rfl .nil)) SubB.nil ?_ (fun j_4 hj4 => ?_)
  ·
   skip
   refine .block ?_
   refine .rforEL h (fun p5_ => [(21, ⟨True, rep p5_.1⟩)]) (fun p5_ => [(5001, some (CPred.at s5001 (mapV p5_.2)))]) (.k 21 rfl .nil) (.k 5001 rfl .nil) (.k 0 rfl (.k 1 rfl (.k 7 rfl (.k 19 rfl (.k 20 rfl .nil))))) SubB.nil (fun p5_ o_5 h hD5 => ?_)
   refine .seq (.region [] mixed (by kernel_rfl) ?_)
   refine .cons (.lt .none (.s rfl) (.s rfl)) rfl ?_
   refine .nil (.then ?_)
   refine .seq ?_
   refine .cond (t := 22) rfl trivial (fun hb6 => ?_) (fun hb6 => ?_)
   ·
    replace h := bif_t h hb6
    refine .skip ?_
    refine .then ?_
    refine .seq ?_
    obtain ⟨o_7, h, hK7⟩ := bindD_some h
    unfold edit_Since_L1 at h
    refine .thenJ (ι := (GMap Str Int)) (fun j_7 => []) (fun j_7 => [(5001, some (CPred.at s5001 (mapV j_7)))]) (fun s => o_7 = Res.nx s) (.k 0 rfl (.k 1 rfl (.k 7 rfl (.k 19 rfl (.k 20 rfl (.k 21 rfl .nil)))))) SubB.nil ?_ (fun j_7 hj7 => ?_)
    ·
     skip
     refine .block ?_
     refine .seq (.region [([], []), ([], []), ([], []), ([], [9]), ([], []), ([9], [9])] mixed (by kernel_rfl) ?_)
     refine .consA (.move .none (.s rfl)) rfl ?_
     obtain ⟨hn8, h⟩ := need_some h
     refine .consA (.indexAddr .none sl36 ty32 (.s rfl) (.s rfl) (fun _ => hn8)) rfl ?_
     obtain ⟨v1, hv9, h⟩ := bnd_some h
     refine .consA (.re hv9 (.load .none ty32 (.s rfl))) rfl ?_
     refine .consW (.alloc zo32 rfl) rfl rfl ?_
     refine .consA (.assign .none (.s rfl)) rfl ?_
     refine .consN (.store ty32 rfl rfl (.s rfl)) rfl ?_
     refine .nil (.then ?_)
     refine .freeze (t := 9) rfl rfl (.k 5001 rfl .nil) rfl ?_
     refine .seq ?_
     refine .block ?_
     refine .seq (.region [] mixed (by kernel_rfl) ?_)
     refine .cons (.fieldAddr .none fd32_1 hfd32_1 (.s rfl)) rfl ?_
     refine .cons (.load .none ty9 (.s rfl)) rfl ?_
     obtain ⟨r1, hv10, h⟩ := bind_some h
     refine .cons (.call .none (edit_isName_ok hv10) (.cons (.s rfl) .nil)) rfl ?_
     refine .cons (.not .none (.s rfl)) rfl ?_
     refine .cons (.assign .none (.s rfl)) rfl ?_
     refine .nil (.then ?_)
     refine .cond (t := 26) rfl trivial (fun hb11 => ?_) (fun hb11 => ?_)
     ·
      replace h := bif_t h hb11
      refine .seq (.region [] mixed (by kernel_rfl) ?_)
      refine .cons (.assign .none (.const (x := ([] : (List DOp))) (fun M w => ⟨_, ⟨none, 0, rfl, Nat.le_refl _, by decide, rfl⟩, rfl⟩))) rfl ?_
      refine .cons (.assign .none (.int (by decide))) rfl ?_
      refine .nil (.then ?_)
      refine .ret ?_
      refine .blkRet ?_
      refine .thenRet ?_
      refine .blkRet ?_
      refine .thenRet ?_
      refine .thenRet ?_
      refine .blkRet ?_
      refine .thenRet ?_
      replace h := resd_ab hK7 (some_eq h)
      replace h := hD5 _ (some_eq h)
      replace h := resb_ab hK4 (some_eq h)
      obtain rfl := some_eq h
      exact Ends.ret2 (.inl rfl) Tryd.results18 (ResOK.tmp rfl trivial Imp.refl) (ResOK.tmp rfl trivial Imp.refl)
     ·
      replace h := bif_f h hb11
      refine .seq (.region [] mixed (by kernel_rfl) ?_)
      refine .cons (.move .none (.s rfl)) rfl ?_
      refine .cons (.gt .none (.s rfl) (.int (by decide))) rfl ?_
      refine .cons (.move .none (.s rfl)) rfl ?_
      refine .cons (.fieldAddr (.at rfl rfl) fd32_1 hfd32_1 (.s rfl)) rfl ?_
      refine .cons (.load (.at rfl rfl) ty9 (.tmp rfl id)) rfl ?_
      refine .cons (.move (.at rfl rfl) (.s rfl)) rfl ?_
      refine .cons (.move (.at rfl rfl) (.s rfl)) rfl ?_
      refine .cons (.subW (.at rfl rfl) (.tmp rfl id) (.int (by decide))) rfl ?_
      obtain ⟨hn12, h⟩ := need_some h
      refine .cons (.indexAddr (.at rfl rfl) sl36 ty32 (.tmp rfl id) (.tmp rfl id) (fun hg => hn12 hg.2)) rfl ?_
      refine .cons (.fieldAddr (.at rfl rfl) fd32_1 hfd32_1 (.tmp rfl id)) rfl ?_
      refine .cons (.load (.at rfl rfl) ty9 (.tmp rfl id)) rfl ?_
      refine .cons (.leStr (.at rfl rfl) (.tmp rfl id) (.tmp rfl id)) rfl ?_
      refine .cons (.pickAnd .none (.s rfl) (.tmp rfl id)) rfl ?_
      refine .cons (.assign .none (.s rfl)) rfl ?_
      refine .nil (.then ?_)
      refine .cond (t := 31) rfl trivial (fun hb13 => ?_) (fun hb13 => ?_)
      ·
       replace h := bif_t h hb13
       refine .seq (.region [] mixed (by kernel_rfl) ?_)
       refine .cons (.assign .none (.const (x := ([] : (List DOp))) (fun M w => ⟨_, ⟨none, 0, rfl, Nat.le_refl _, by decide, rfl⟩, rfl⟩))) rfl ?_
       refine .cons (.assign .none (.int (by decide))) rfl ?_
       refine .nil (.then ?_)
       refine .ret ?_
       refine .blkRet ?_
       refine .thenRet ?_
       refine .blkRet ?_
       refine .thenRet ?_
       refine .thenRet ?_
       refine .blkRet ?_
       refine .thenRet ?_
       replace h := resd_ab hK7 (some_eq h)
       replace h := hD5 _ (some_eq h)
       replace h := resb_ab hK4 (some_eq h)
       obtain rfl := some_eq h
       exact Ends.ret2 (.inl rfl) Tryd.results18 (ResOK.tmp rfl trivial Imp.refl) (ResOK.tmp rfl trivial Imp.refl)
      ·
       replace h := bif_f h hb13
       refine .seq (.region [] mixed (by kernel_rfl) ?_)
       refine .cons (.fieldAddr .none fd32_2 hfd32_2 (.s rfl)) rfl ?_
       refine .cons (.load .none ty3 (.s rfl)) rfl ?_
       refine .cons (.lt .none (.s rfl) (.int (by decide))) rfl ?_
       refine .cons (.assign .none (.s rfl)) rfl ?_
       refine .nil (.then ?_)
       refine .cond (t := 45) rfl trivial (fun hb14 => ?_) (fun hb14 => ?_)
       ·
        replace h := bif_t h hb14
        refine .seq (.region [] mixed (by kernel_rfl) ?_)
        refine .cons (.assign .none (.const (x := ([] : (List DOp))) (fun M w => ⟨_, ⟨none, 0, rfl, Nat.le_refl _, by decide, rfl⟩, rfl⟩))) rfl ?_
        refine .cons (.assign .none (.int (by decide))) rfl ?_
        refine .nil (.then ?_)
        refine .ret ?_
        refine .blkRet ?_
        refine .thenRet ?_
        refine .blkRet ?_
        refine .thenRet ?_
        refine .thenRet ?_
        refine .blkRet ?_
        refine .thenRet ?_
        replace h := resd_ab hK7 (some_eq h)
        replace h := hD5 _ (some_eq h)
        replace h := resb_ab hK4 (some_eq h)
        obtain rfl := some_eq h
        exact Ends.ret2 (.inl rfl) Tryd.results18 (ResOK.tmp rfl trivial Imp.refl) (ResOK.tmp rfl trivial Imp.refl)
       ·
        replace h := bif_f h hb14
        refine .skip ?_
        refine .blkNormal ?_
        refine .then ?_
        refine .region [([], []), ([], []), ([], []), ([], []), ([], []), ([5001], [5001])] mixed (by kernel_rfl) ?_
        refine .consA (.move .none (.s rfl)) rfl ?_
        refine .consA (.fieldAddr .none fd32_1 hfd32_1 (.s rfl)) rfl ?_
        refine .consA (.load .none ty9 (.s rfl)) rfl ?_
        refine .consA (.fieldAddr .none fd32_2 hfd32_2 (.s rfl)) rfl ?_
        refine .consA (.load .none ty3 (.s rfl)) rfl ?_
        refine .consN (.mapUpdate (q := 5001) mo69 (.s rfl) rfl (.s rfl) (.s rfl)) rfl ?_
        refine .nil ?_
        refine .blkNormal ?_
        exact Ends.join _ (some_eq h) (.k 0 rfl (.k 1 rfl (.k 7 rfl (.k 19 rfl (.k 20 rfl (.k 21 rfl .nil)))))) (.k 5001 rfl .nil)
    ·
     have h := resd_nx hK7 hj7
     refine .region [] mixed (by kernel_rfl) ?_
     refine .cons (.addW .none (.s rfl) (.int (by decide))) rfl ?_
     refine .cons (.move .none (.s rfl)) rfl ?_
     refine .nil ?_
     exact Ends.againL (some_eq h) (.k 21 rfl (.k 0 rfl (.k 1 rfl (.k 7 rfl (.k 19 rfl (.k 20 rfl .nil)))))) (.k 5001 rfl .nil)
   ·
    replace h := bif_f h hb6
    refine .exit ?_
    refine .thenExit ?_
    refine .thenExit ?_
    refine .blkExit ?_
    replace h := hD5 _ (some_eq h)
    exact Ends.join _ (some_eq h) (.k 0 rfl (.k 7 rfl .nil)) (.k 5001 rfl .nil)
  ·
   have h := resb_nx hK4 hj4
   refine .freezeAt (g := 5001) (S := rep j_4) (ts := [7]) rfl (.cons (t := 7) rfl trivial .nil) SubB.nil rfl (fun M D w h hms => mapV_rep h hms) ?_
   refine .seq (.region [([], [10])] mixed (by kernel_rfl) ?_)
   refine .consW (.nilRow (T := 34) (α := DOp) rfl) rfl rfl ?_
   refine .nil (.then ?_)
   refine .nameRow (t := 10) (g := 5002) rfl rfl rfl (fun s5002 => ?_)
   refine .seq ?_
   refine .seq (.region [] mixed (by kernel_rfl) ?_)
   refine .cons (.move .none (.s rfl)) rfl ?_
   refine .cons (.len .none sl22 (.s rfl)) rfl ?_
   refine .cons (.move .none (.int (by decide))) rfl ?_
   refine .nil (.then ?_)
   obtain ⟨j_15, h, hK15⟩ := bind_some h
   refine .thenJ (ι := (List DOp)) (fun j_15 => []) (fun j_15 => [(10, some (rowV 34 j_15))]) (fun s => j_15 = s) Sub.nil SubB.nil ?_ (fun j_15' hj15 => ?_)
   ·
    skip
    refine .block ?_
    refine .anon (t := 10) (g := 5002) rfl rfl trivial rfl ?_
    refine .rforL h (fun p16_ => [(57, ⟨True, rep p16_.1⟩)]) (fun p16_ => [(10, some (rowV 34 p16_.2))]) (.k 57 rfl .nil) (.k 10 rfl .nil) (.k 7 rfl (.k 55 rfl (.k 56 rfl .nil))) SubB.nil (fun p16_ o_16 h hD16 => ?_)
    refine .nameRow (t := 10) (g := 5003) rfl rfl rfl (fun s5003 => ?_)
    refine .seq (.region [] mixed (by kernel_rfl) ?_)
    refine .cons (.lt .none (.s rfl) (.s rfl)) rfl ?_
    refine .nil (.then ?_)
    refine .seq ?_
    refine .cond (t := 58) rfl trivial (fun hb17 => ?_) (fun hb17 => ?_)
    ·
     replace h := bif_t h hb17
     refine .skip ?_
     refine .then ?_
     refine .seq ?_
     obtain ⟨j_18, h, hK18⟩ := bind_some h
     unfold edit_Since_L2 at h
     refine .thenJ (ι := (List DOp)) (fun j_18 => []) (fun j_18 => [(10, some (rowV 34 j_18))]) (fun s => j_18 = s) (.k 7 rfl (.k 55 rfl (.k 56 rfl (.k 57 rfl .nil)))) SubB.nil ?_ (fun j_18' hj18 => ?_)
     ·
      skip
      refine .block ?_
      refine .seq (.region [([], []), ([], []), ([], [12]), ([12], [12])] mixed (by kernel_rfl) ?_)
      obtain ⟨hn19, h⟩ := need_some h
      refine .consA (.indexAddr .none sl22 ty34 (.s rfl) (.s rfl) (fun _ => hn19)) rfl ?_
      obtain ⟨v2, hv20, h⟩ := bnd_some h
      refine .consA (.re hv20 (.load .none ty34 (.s rfl))) rfl ?_
      refine .consW (.alloc zo34 rfl) rfl rfl ?_
      refine .consN (.store ty34 rfl rfl (.s rfl)) rfl ?_
      refine .nil (.then ?_)
      refine .freeze (t := 12) rfl rfl (.k 5003 rfl .nil) rfl ?_
      refine .seq (.region [] mixed (by kernel_rfl) ?_)
      refine .cons (.fieldAddr .none fd34_0 hfd34_0 (.s rfl)) rfl ?_
      refine .cons (.fieldAddr .none fd32_2 hfd32_2 (.s rfl)) rfl ?_
      refine .cons (.load .none ty3 (.s rfl)) rfl ?_
      refine .cons (.move .none (.s rfl)) rfl ?_
      refine .cons (.fieldAddr .none fd34_0 hfd34_0 (.s rfl)) rfl ?_
      refine .cons (.fieldAddr .none fd32_1 hfd32_1 (.s rfl)) rfl ?_
      refine .cons (.load .none ty9 (.s rfl)) rfl ?_
      refine .cons (.lookup .none mo69 zo3 (.s rfl) (.s rfl)) rfl ?_
      refine .cons (.gt .none (.s rfl) (.s rfl)) rfl ?_
      refine .nil (.then ?_)
      refine .cond (t := 69) rfl trivial (fun hb21 => ?_) (fun hb21 => ?_)
      ·
       replace h := bif_t h hb21
       refine .region [([], []), ([], []), ([], []), ([5003], [73, 5003]), ([73], [10, 73])] mixed (by kernel_rfl) ?_
       refine .consA (.move .none (.s rfl)) rfl ?_
       refine .consA (.load .none ty34 (.s rfl)) rfl ?_
       refine .consA (.buildSlice (xs := [_]) .none sl22 ty34 hz34 (.cons (.s rfl) .nil) rfl (by decide)) rfl ?_
       obtain ⟨hn22, h⟩ := need_some h
       refine .consW (.append (k := 5003) rk22 rfl (.told (.s rfl) rfl) (.s rfl) hn22) rfl rfl ?_
       refine .consW (.passRow rfl (.tmp rfl)) rfl rfl ?_
       refine .nil ?_
       refine .blkNormal ?_
       exact Ends.join _ (some_eq h) (.k 7 rfl (.k 55 rfl (.k 56 rfl (.k 57 rfl .nil)))) (.k 10 rfl .nil)
      ·
       replace h := bif_f h hb21
       refine .skip ?_
       refine .blkNormal ?_
       refine .anon (t := 10) (g := 5003) rfl rfl trivial rfl ?_
       exact Ends.join _ (some_eq h) (.k 7 rfl (.k 55 rfl (.k 56 rfl (.k 57 rfl .nil)))) (.k 10 rfl .nil)
     ·
      subst hj18; have h := hK18; clear hK18
      refine .nameRow (t := 10) (g := 5004) rfl rfl rfl (fun s5004 => ?_)
      refine .region [] mixed (by kernel_rfl) ?_
      refine .cons (.addW .none (.s rfl) (.int (by decide))) rfl ?_
      refine .cons (.move .none (.s rfl)) rfl ?_
      refine .nil ?_
      refine .anon (t := 10) (g := 5004) rfl rfl trivial rfl ?_
      exact Ends.againL (some_eq h) (.k 57 rfl (.k 7 rfl (.k 55 rfl (.k 56 rfl .nil)))) (.k 10 rfl .nil)
    ·
     replace h := bif_f h hb17
     refine .exit ?_
     refine .thenExit ?_
     refine .thenExit ?_
     refine .blkExit ?_
     refine .anon (t := 10) (g := 5003) rfl rfl trivial rfl ?_
     replace h := hD16 _ (some_eq h)
     exact Ends.join _ (some_eq h) Sub.nil (.k 10 rfl .nil)
   ·
    subst hj15; have h := hK15; clear hK15
    refine .freezeRowA (t := 10) rfl rfl SubB.nil rfl ?_
    refine .seq (.region [] mixed (by kernel_rfl) ?_)
    refine .cons (.move .none (.s rfl)) rfl ?_
    refine .cons (.assign .none (.s rfl)) rfl ?_
    refine .cons (.assign .none (.int (by decide))) rfl ?_
    refine .nil (.then ?_)
    refine .ret ?_
    obtain rfl := some_eq h
    exact Ends.ret2 (.inl rfl) Tryd.results18 (ResOK.tmp rfl trivial Imp.refl) (ResOK.tmp rfl trivial Imp.refl)

theorem ref_SeenOf_ok {l1 : (List DOp)} {r : (List Stamp)}  (h : ref_SeenOf l1 = some r) : FSpec Tryd.prog 21 [rep l1] (rep r) := by
 unfold ref_SeenOf at h
 refine FSpec.intro (n := 38) fnok21 Tryd.func21 rfl Tryd.ntmps21 rfl (fun F => ?_)
 refine .seq (.region [] mixed (by kernel_rfl) ?_)
 refine .cons (.assign .none (.const (x := ([] : (List Stamp))) (fun M w => ⟨_, ⟨none, 0, rfl, Nat.le_refl _, by decide, rfl⟩, rfl⟩))) rfl ?_
 refine .nil (.then ?_)
 refine .seq (.region [([], [3])] mixed (by kernel_rfl) ?_)
 refine .consW (.nilRow (T := 32) (α := Stamp) rfl) rfl rfl ?_
 refine .nil (.then ?_)
 refine .nameRow (t := 3) (g := 5001) rfl rfl rfl (fun s5001 => ?_)
 refine .seq ?_
 refine .seq (.region [] mixed (by kernel_rfl) ?_)
 refine .cons (.move .none (.s rfl)) rfl ?_
 refine .cons (.len .none sl22 (.s rfl)) rfl ?_
 refine .cons (.move .none (.int (by decide))) rfl ?_
 refine .nil (.then ?_)
 obtain ⟨j_1, h, hK1⟩ := bind_some h
 refine .thenJ (ι := (List Stamp)) (fun j_1 => []) (fun j_1 => [(3, some (rowV 32 j_1))]) (fun s => j_1 = s) Sub.nil SubB.nil ?_ (fun j_1' hj1 => ?_)
 ·
  skip
  refine .block ?_
  refine .anon (t := 3) (g := 5001) rfl rfl trivial rfl ?_
  refine .rforL h (fun p2_ => [(8, ⟨True, rep p2_.1⟩)]) (fun p2_ => [(3, some (rowV 32 p2_.2))]) (.k 8 rfl .nil) (.k 3 rfl .nil) (.k 0 rfl (.k 6 rfl (.k 7 rfl .nil))) SubB.nil (fun p2_ o_2 h hD2 => ?_)
  refine .nameRow (t := 3) (g := 5002) rfl rfl rfl (fun s5002 => ?_)
  refine .seq (.region [] mixed (by kernel_rfl) ?_)
  refine .cons (.lt .none (.s rfl) (.s rfl)) rfl ?_
  refine .nil (.then ?_)
  refine .seq ?_
  refine .cond (t := 9) rfl trivial (fun hb3 => ?_) (fun hb3 => ?_)
  ·
   replace h := bif_t h hb3
   refine .skip ?_
   refine .then ?_
   refine .seq ?_
   obtain ⟨j_4, h, hK4⟩ := bind_some h
   unfold ref_SeenOf_L1 at h
   refine .thenJ (ι := (List Stamp)) (fun j_4 => []) (fun j_4 => [(3, some (rowV 32 j_4))]) (fun s => j_4 = s) (.k 0 rfl (.k 6 rfl (.k 7 rfl (.k 8 rfl .nil)))) SubB.nil ?_ (fun j_4' hj4 => ?_)
   ·
    skip
    refine .block ?_
    refine .seq (.region [([], []), ([], []), ([], []), ([], [5]), ([], []), ([5], [5])] mixed (by kernel_rfl) ?_)
    refine .consA (.move .none (.s rfl)) rfl ?_
    obtain ⟨hn5, h⟩ := need_some h
    refine .consA (.indexAddr .none sl22 ty34 (.s rfl) (.s rfl) (fun _ => hn5)) rfl ?_
    obtain ⟨v1, hv6, h⟩ := bnd_some h
    refine .consA (.re hv6 (.load .none ty34 (.s rfl))) rfl ?_
    refine .consW (.alloc zo34 rfl) rfl rfl ?_
    refine .consA (.assign .none (.s rfl)) rfl ?_
    refine .consN (.store ty34 rfl rfl (.s rfl)) rfl ?_
    refine .nil (.then ?_)
    refine .freeze (t := 5) rfl rfl (.k 5002 rfl .nil) rfl ?_
    refine .seq (.region [] mixed (by kernel_rfl) ?_)
    refine .cons (.move .none (.s rfl)) rfl ?_
    refine .cons (.addW .none (.s rfl) (.int (by decide))) rfl ?_
    refine .cons (.move .none (.s rfl)) rfl ?_
    refine .cons (.len .none sl22 (.s rfl)) rfl ?_
    refine .cons (.eqI .none (.s rfl) (.s rfl)) rfl ?_
    refine .cons (.move .none (.s rfl)) rfl ?_
    refine .cons (.move (.at rfl rfl) (.s rfl)) rfl ?_
    refine .cons (.move (.at rfl rfl) (.s rfl)) rfl ?_
    refine .cons (.addW (.at rfl rfl) (.tmp rfl id) (.int (by decide))) rfl ?_
    obtain ⟨hn7, h⟩ := need_some h
    refine .cons (.indexAddr (.at rfl rfl) sl22 ty34 (.tmp rfl id) (.tmp rfl id) (fun hg => hn7 hg.2)) rfl ?_
    refine .cons (.fieldAddr (.at rfl rfl) fd34_0 hfd34_0 (.tmp rfl id)) rfl ?_
    refine .cons (.fieldAddr (.at rfl rfl) fd32_1 hfd32_1 (.tmp rfl id)) rfl ?_
    refine .cons (.load (.at rfl rfl) ty9 (.tmp rfl id)) rfl ?_
    refine .cons (.fieldAddr (.at rfl rfl) fd34_0 hfd34_0 (.s rfl)) rfl ?_
    refine .cons (.fieldAddr (.at rfl rfl) fd32_1 hfd32_1 (.tmp rfl id)) rfl ?_
    refine .cons (.load (.at rfl rfl) ty9 (.tmp rfl id)) rfl ?_
    refine .cons (.neS (.at rfl rfl) (eqAt_str Tryd.underlying9) (.tmp rfl id) (.tmp rfl id)) rfl ?_
    refine .cons (.pickOr .none (.s rfl) (.tmp rfl id)) rfl ?_
    refine .nil (.then ?_)
    refine .cond (t := 30) rfl trivial (fun hb8 => ?_) (fun hb8 => ?_)
    ·
     replace h := bif_t h hb8
     refine .region [([], []), ([], []), ([], []), ([], []), ([5002], [35, 5002]), ([35], [3, 35])] mixed (by kernel_rfl) ?_
     refine .consA (.move .none (.s rfl)) rfl ?_
     refine .consA (.fieldAddr .none fd34_0 hfd34_0 (.s rfl)) rfl ?_
     refine .consA (.load .none ty32 (.s rfl)) rfl ?_
     refine .consA (.buildSlice (xs := [_]) .none sl36 ty32 hz32 (.cons (.s rfl) .nil) rfl (by decide)) rfl ?_
     obtain ⟨hn9, h⟩ := need_some h
     refine .consW (.append (k := 5002) rk36 rfl (.told (.s rfl) rfl) (.s rfl) hn9) rfl rfl ?_
     refine .consW (.passRow rfl (.tmp rfl)) rfl rfl ?_
     refine .nil ?_
     refine .blkNormal ?_
     exact Ends.join _ (some_eq h) (.k 0 rfl (.k 6 rfl (.k 7 rfl (.k 8 rfl .nil)))) (.k 3 rfl .nil)
    ·
     replace h := bif_f h hb8
     refine .skip ?_
     refine .blkNormal ?_
     refine .anon (t := 3) (g := 5002) rfl rfl trivial rfl ?_
     exact Ends.join _ (some_eq h) (.k 0 rfl (.k 6 rfl (.k 7 rfl (.k 8 rfl .nil)))) (.k 3 rfl .nil)
   ·
    subst hj4; have h := hK4; clear hK4
    refine .nameRow (t := 3) (g := 5003) rfl rfl rfl (fun s5003 => ?_)
    refine .region [] mixed (by kernel_rfl) ?_
    refine .cons (.addW .none (.s rfl) (.int (by decide))) rfl ?_
    refine .cons (.move .none (.s rfl)) rfl ?_
    refine .nil ?_
    refine .anon (t := 3) (g := 5003) rfl rfl trivial rfl ?_
    exact Ends.againL (some_eq h) (.k 8 rfl (.k 0 rfl (.k 6 rfl (.k 7 rfl .nil)))) (.k 3 rfl .nil)
  ·
   replace h := bif_f h hb3
   refine .exit ?_
   refine .thenExit ?_
   refine .thenExit ?_
   refine .blkExit ?_
   refine .anon (t := 3) (g := 5002) rfl rfl trivial rfl ?_
   replace h := hD2 _ (some_eq h)
   exact Ends.join _ (some_eq h) Sub.nil (.k 3 rfl .nil)
 ·
  subst hj1; have h := hK1; clear hK1
  refine .freezeRowA (t := 3) rfl rfl SubB.nil rfl ?_
  refine .seq (.region [] mixed (by kernel_rfl) ?_)
  refine .cons (.move .none (.s rfl)) rfl ?_
  refine .cons (.assign .none (.s rfl)) rfl ?_
  refine .nil (.then ?_)
  refine .ret ?_
  obtain rfl := some_eq h
  exact Ends.ret1 (.inl rfl) Tryd.results21 (ResOK.tmp rfl trivial Imp.refl)

theorem law_MergesMatch_2_ok {c0_1 : (List DOp)} {r : (List Stamp)}  (h : law_MergesMatch_2 c0_1 = some r) : FSpec Tryd.prog 20 [ref c0_1] (rep r) := by
 unfold law_MergesMatch_2 at h
 refine FSpec.intro (n := 4) fnok20 Tryd.func20 rfl Tryd.ntmps20 rfl (fun F => ?_)
 refine .seq (.region [] mixed (by kernel_rfl) ?_)
 refine .cons (.assign .none (.const (x := ([] : (List Stamp))) (fun M w => ⟨_, ⟨none, 0, rfl, Nat.le_refl _, by decide, rfl⟩, rfl⟩))) rfl ?_
 refine .nil (.then ?_)
 refine .seq (.region [] mixed (by kernel_rfl) ?_)
 refine .cons (.load .none ty22 (.s rfl)) rfl ?_
 obtain ⟨r1, hv1, h⟩ := bind_some h
 refine .cons (.call .none (ref_SeenOf_ok hv1) (.cons (.s rfl) .nil)) rfl ?_
 refine .cons (.assign .none (.s rfl)) rfl ?_
 refine .nil (.then ?_)
 refine .ret ?_
 obtain rfl := some_eq h
 exact Ends.ret1 (.inl rfl) Tryd.results20 (ResOK.tmp rfl trivial Imp.refl)

theorem slices_Equal_Stamp_ok {s1_1 : (List Stamp)} {s2_1 : (List Stamp)} {r : Bool}  (h : slices_Equal_Stamp s1_1 s2_1 = some r) : FSpec Tryd.prog 49 [rep s1_1, rep s2_1] (rep r) := by
 unfold slices_Equal_Stamp at h
 refine FSpec.intro (n := 26) fnok49 Tryd.func49 rfl Tryd.ntmps49 rfl (fun F => ?_)
 refine .seq (.region [] mixed (by kernel_rfl) ?_)
 refine .cons (.assign .none .bool) rfl ?_
 refine .nil (.then ?_)
 refine .seq ?_
 refine .seq (.region [] mixed (by kernel_rfl) ?_)
 refine .cons (.move .none (.s rfl)) rfl ?_
 refine .cons (.len .none sl36 (.s rfl)) rfl ?_
 refine .cons (.move .none (.s rfl)) rfl ?_
 refine .cons (.len .none sl36 (.s rfl)) rfl ?_
 refine .cons (.neI .none (.s rfl) (.s rfl)) rfl ?_
 refine .nil (.then ?_)
 refine .cond (t := 10) rfl trivial (fun hb1 => ?_) (fun hb1 => ?_)
 ·
  replace h := bif_t h hb1
  refine .seq (.region [] mixed (by kernel_rfl) ?_)
  refine .cons (.assign .none .bool) rfl ?_
  refine .nil (.then ?_)
  refine .ret ?_
  refine .thenRet ?_
  obtain rfl := some_eq h
  exact Ends.ret1 (.inl rfl) Tryd.results49 (ResOK.tmp rfl trivial Imp.refl)
 ·
  replace h := bif_f h hb1
  refine .skip ?_
  refine .then ?_
  refine .seq ?_
  refine .seq (.region [] mixed (by kernel_rfl) ?_)
  refine .cons (.move .none (.s rfl)) rfl ?_
  refine .cons (.len .none sl36 (.s rfl)) rfl ?_
  refine .cons (.move .none (.int (by decide))) rfl ?_
  refine .nil (.then ?_)
  obtain ⟨o_2, h, hK2⟩ := bindR_some h
  refine .thenJ (ι := Unit) (fun j_2 => []) (fun j_2 => []) (fun s => o_2 = Res.nx s) Sub.nil SubB.nil ?_ (fun j_2 hj2 => ?_)
  ·
   skip
   refine .block ?_
   refine .rforEL h (fun p3_ => [(13, ⟨True, rep p3_.1⟩)]) (fun p3_ => []) (.k 13 rfl .nil) SubB.nil (.k 0 rfl (.k 1 rfl (.k 12 rfl .nil))) SubB.nil (fun p3_ o_3 h hD3 => ?_)
   refine .seq (.region [] mixed (by kernel_rfl) ?_)
   refine .cons (.lt .none (.s rfl) (.s rfl)) rfl ?_
   refine .nil (.then ?_)
   refine .seq ?_
   refine .cond (t := 14) rfl trivial (fun hb4 => ?_) (fun hb4 => ?_)
   ·
    replace h := bif_t h hb4
    refine .skip ?_
    refine .then ?_
    refine .seq ?_
    obtain ⟨o_5, h, hK5⟩ := bindD_some h
    unfold slices_Equal_Stamp_L1 at h
    refine .thenJ (ι := Unit) (fun j_5 => []) (fun j_5 => []) (fun s => o_5 = Res.nx s) (.k 0 rfl (.k 1 rfl (.k 12 rfl (.k 13 rfl .nil)))) SubB.nil ?_ (fun j_5 hj5 => ?_)
    ·
     skip
     refine .block ?_
     refine .seq (.region [] mixed (by kernel_rfl) ?_)
     refine .cons (.move .none (.s rfl)) rfl ?_
     refine .cons (.assign .none (.s rfl)) rfl ?_
     refine .nil (.then ?_)
     refine .seq (.region [] mixed (by kernel_rfl) ?_)
     refine .cons (.move .none (.s rfl)) rfl ?_
     refine .cons (.move .none (.s rfl)) rfl ?_
     obtain ⟨hn6, h⟩ := need_some h
     refine .cons (.indexAddr .none sl36 ty32 (.s rfl) (.s rfl) (fun _ => hn6)) rfl ?_
     refine .cons (.load .none ty32 (.s rfl)) rfl ?_
     refine .cons (.move .none (.s rfl)) rfl ?_
     refine .cons (.move .none (.s rfl)) rfl ?_
     obtain ⟨hn7, h⟩ := need_some h
     refine .cons (.indexAddr .none sl36 ty32 (.s rfl) (.s rfl) (fun _ => hn7)) rfl ?_
     refine .cons (.load .none ty32 (.s rfl)) rfl ?_
     refine .cons (.neS .none eqa32 (.s rfl) (.s rfl)) rfl ?_
     refine .nil (.then ?_)
     refine .cond (t := 24) rfl trivial (fun hb8 => ?_) (fun hb8 => ?_)
     ·
      replace h := bif_t h hb8
      refine .seq (.region [] mixed (by kernel_rfl) ?_)
      refine .cons (.assign .none .bool) rfl ?_
      refine .nil (.then ?_)
      refine .ret ?_
      refine .blkRet ?_
      refine .thenRet ?_
      refine .thenRet ?_
      refine .blkRet ?_
      refine .thenRet ?_
      replace h := resd_ab hK5 (some_eq h)
      replace h := hD3 _ (some_eq h)
      replace h := resb_ab hK2 (some_eq h)
      obtain rfl := some_eq h
      exact Ends.ret1 (.inl rfl) Tryd.results49 (ResOK.tmp rfl trivial Imp.refl)
     ·
      replace h := bif_f h hb8
      refine .skip ?_
      refine .blkNormal ?_
      exact Ends.join _ (some_eq h) (.k 0 rfl (.k 1 rfl (.k 12 rfl (.k 13 rfl .nil)))) SubB.nil
    ·
     have h := resd_nx hK5 hj5
     refine .region [] mixed (by kernel_rfl) ?_
     refine .cons (.addW .none (.s rfl) (.int (by decide))) rfl ?_
     refine .cons (.move .none (.s rfl)) rfl ?_
     refine .nil ?_
     exact Ends.againL (some_eq h) (.k 13 rfl (.k 0 rfl (.k 1 rfl (.k 12 rfl .nil)))) SubB.nil
   ·
    replace h := bif_f h hb4
    refine .exit ?_
    refine .thenExit ?_
    refine .thenExit ?_
    refine .blkExit ?_
    replace h := hD3 _ (some_eq h)
    exact Ends.join _ (some_eq h) Sub.nil SubB.nil
  ·
   have h := resb_nx hK2 hj2
   refine .seq (.region [] mixed (by kernel_rfl) ?_)
   refine .cons (.assign .none .bool) rfl ?_
   refine .nil (.then ?_)
   refine .ret ?_
   obtain rfl := some_eq h
   exact Ends.ret1 (.inl rfl) Tryd.results49 (ResOK.tmp rfl trivial Imp.refl)

theorem law_lists_Stamp_ok {got1 : (List Stamp)} {e1 : Int} {want1 : Int} {right1 : (Option (List Stamp))} {r : Bool}  (h : law_lists_Stamp got1 e1 want1 right1 = some r) : FSpec Tryd.prog 19 [rep got1, rep e1, rep want1, fn0 Tryd.prog (rep (α := (List Stamp))) right1] (rep r) := by
 unfold law_lists_Stamp at h
 refine FSpec.intro (n := 27) fnok19 Tryd.func19 rfl Tryd.ntmps19 rfl (fun F => ?_)
 refine .seq (.region [] mixed (by kernel_rfl) ?_)
 refine .cons (.assign .none .bool) rfl ?_
 refine .nil (.then ?_)
 refine .seq ?_
 refine .seq (.region [] mixed (by kernel_rfl) ?_)
 refine .cons (.move .none (.s rfl)) rfl ?_
 refine .cons (.neI .none (.s rfl) (.int (by decide))) rfl ?_
 refine .nil (.then ?_)
 refine .cond (t := 10) rfl trivial (fun hb1 => ?_) (fun hb1 => ?_)
 ·
  replace h := bif_t h hb1
  refine .seq (.region [] mixed (by kernel_rfl) ?_)
  refine .cons (.move .none (.s rfl)) rfl ?_
  refine .cons (.len .none sl36 (.s rfl)) rfl ?_
  refine .cons (.eqI .none (.s rfl) (.int (by decide))) rfl ?_
  refine .cons (.move .none (.s rfl)) rfl ?_
  refine .cons (.move (.at rfl rfl) (.s rfl)) rfl ?_
  refine .cons (.move (.at rfl rfl) (.s rfl)) rfl ?_
  refine .cons (.eqI (.at rfl rfl) (.tmp rfl id) (.tmp rfl id)) rfl ?_
  refine .cons (.pickAnd .none (.s rfl) (.tmp rfl id)) rfl ?_
  refine .cons (.assign .none (.s rfl)) rfl ?_
  refine .nil (.then ?_)
  refine .ret ?_
  refine .thenRet ?_
  obtain rfl := some_eq h
  exact Ends.ret1 (.inl rfl) Tryd.results19 (ResOK.tmp rfl trivial Imp.refl)
 ·
  replace h := bif_f h hb1
  refine .skip ?_
  refine .then ?_
  refine .seq (.region [] mixed (by kernel_rfl) ?_)
  refine .cons (.move .none (.s rfl)) rfl ?_
  refine .cons (.eqI .none (.s rfl) (.int (by decide))) rfl ?_
  refine .cons (.move .none (.s rfl)) rfl ?_
  refine .cons (.move (.at rfl rfl) (.s rfl)) rfl ?_
  refine .cons (.move (.at rfl rfl) (.s rfl)) rfl ?_
  obtain ⟨r1, hv2, h⟩ := bind_some h
  refine .cons (.callV _ (.at rfl rfl) (.tmp rfl id) (fun hg => gd_some hv2 (hg.2)) .nil) rfl ?_
  obtain ⟨r2, hv3, h⟩ := bind_some h
  refine .cons (.callIf (.at rfl rfl) fnok49 (fun hg => slices_Equal_Stamp_ok ((fun hg => gd_some hv3 (hg.2)) hg)) (.cons (.tmp rfl id) (.cons (.tmp rfl id) .nil)) (fun h => h)) rfl ?_
  refine .cons (.pickAnd .none (.s rfl) (.tmp rfl id)) rfl ?_
  refine .cons (.assign .none (.s rfl)) rfl ?_
  refine .nil (.then ?_)
  refine .ret ?_
  obtain rfl := some_eq h
  exact Ends.ret1 (.inl rfl) Tryd.results19 (ResOK.tmp rfl trivial Imp.refl)

theorem ref_StampsError_ok {l1 : (List Stamp)} {r : Int}  (h : ref_StampsError l1 = some r) : FSpec Tryd.prog 23 [rep l1] (rep r) := by
 unfold ref_StampsError at h
 refine FSpec.intro (n := 43) fnok23 Tryd.func23 rfl Tryd.ntmps23 rfl (fun F => ?_)
 refine .seq (.region [] mixed (by kernel_rfl) ?_)
 refine .cons (.assign .none (.int (by decide))) rfl ?_
 refine .nil (.then ?_)
 refine .seq ?_
 refine .seq (.region [] mixed (by kernel_rfl) ?_)
 refine .cons (.move .none (.s rfl)) rfl ?_
 refine .cons (.len .none sl36 (.s rfl)) rfl ?_
 refine .cons (.move .none (.int (by decide))) rfl ?_
 refine .nil (.then ?_)
 obtain ⟨o_1, h, hK1⟩ := bindR_some h
 refine .thenJ (ι := Unit) (fun j_1 => []) (fun j_1 => []) (fun s => o_1 = Res.nx s) Sub.nil SubB.nil ?_ (fun j_1 hj1 => ?_)
 ·
  skip
  refine .block ?_
  refine .rforEL h (fun p2_ => [(8, ⟨True, rep p2_.1⟩)]) (fun p2_ => []) (.k 8 rfl .nil) SubB.nil (.k 0 rfl (.k 6 rfl (.k 7 rfl .nil))) SubB.nil (fun p2_ o_2 h hD2 => ?_)
  refine .seq (.region [] mixed (by kernel_rfl) ?_)
  refine .cons (.lt .none (.s rfl) (.s rfl)) rfl ?_
  refine .nil (.then ?_)
  refine .seq ?_
  refine .cond (t := 9) rfl trivial (fun hb3 => ?_) (fun hb3 => ?_)
  ·
   replace h := bif_t h hb3
   refine .skip ?_
   refine .then ?_
   refine .seq ?_
   obtain ⟨o_4, h, hK4⟩ := bindD_some h
   unfold ref_StampsError_L1 at h
   refine .thenJ (ι := Unit) (fun j_4 => []) (fun j_4 => []) (fun s => o_4 = Res.nx s) (.k 0 rfl (.k 6 rfl (.k 7 rfl (.k 8 rfl .nil)))) SubB.nil ?_ (fun j_4 hj4 => ?_)
   ·
    skip
    refine .block ?_
    refine .seq (.region [([], []), ([], []), ([], []), ([], [4]), ([], []), ([4], [4])] mixed (by kernel_rfl) ?_)
    refine .consA (.move .none (.s rfl)) rfl ?_
    obtain ⟨hn5, h⟩ := need_some h
    refine .consA (.indexAddr .none sl36 ty32 (.s rfl) (.s rfl) (fun _ => hn5)) rfl ?_
    obtain ⟨v1, hv6, h⟩ := bnd_some h
    refine .consA (.re hv6 (.load .none ty32 (.s rfl))) rfl ?_
    refine .consW (.alloc zo32 rfl) rfl rfl ?_
    refine .consA (.assign .none (.s rfl)) rfl ?_
    refine .consN (.store ty32 rfl rfl (.s rfl)) rfl ?_
    refine .nil (.then ?_)
    refine .freeze (t := 4) rfl rfl SubB.nil rfl ?_
    refine .seq (.region [] mixed (by kernel_rfl) ?_)
    refine .cons (.fieldAddr .none fd32_1 hfd32_1 (.s rfl)) rfl ?_
    refine .cons (.load .none ty9 (.s rfl)) rfl ?_
    obtain ⟨r1, hv7, h⟩ := bind_some h
    refine .cons (.call .none (ref_NameOf_ok hv7) (.cons (.s rfl) .nil)) rfl ?_
    refine .cons (.not .none (.s rfl)) rfl ?_
    obtain ⟨r2, hv8, h⟩ := bind_some h
    refine .cons (.call .none (ref_When_ok hv8) (.cons (.s rfl) (.cons (.int (by decide)) .nil))) rfl ?_
    refine .cons (.move .none (.s rfl)) rfl ?_
    refine .cons (.gt .none (.s rfl) (.int (by decide))) rfl ?_
    refine .cons (.move .none (.s rfl)) rfl ?_
    refine .cons (.fieldAddr (.at rfl rfl) fd32_1 hfd32_1 (.s rfl)) rfl ?_
    refine .cons (.load (.at rfl rfl) ty9 (.tmp rfl id)) rfl ?_
    refine .cons (.move (.at rfl rfl) (.s rfl)) rfl ?_
    refine .cons (.move (.at rfl rfl) (.s rfl)) rfl ?_
    refine .cons (.max2 (.at rfl rfl) (.tmp rfl id) (.int (by decide))) rfl ?_
    refine .cons (.subW (.at rfl rfl) (.tmp rfl id) (.int (by decide))) rfl ?_
    obtain ⟨hn9, h⟩ := need_some h
    refine .cons (.indexAddr (.at rfl rfl) sl36 ty32 (.tmp rfl id) (.tmp rfl id) (fun hg => hn9 hg.2)) rfl ?_
    refine .cons (.fieldAddr (.at rfl rfl) fd32_1 hfd32_1 (.tmp rfl id)) rfl ?_
    refine .cons (.load (.at rfl rfl) ty9 (.tmp rfl id)) rfl ?_
    refine .cons (.leStr (.at rfl rfl) (.tmp rfl id) (.tmp rfl id)) rfl ?_
    refine .cons (.pickAnd .none (.s rfl) (.tmp rfl id)) rfl ?_
    obtain ⟨r3, hv10, h⟩ := bind_some h
    refine .cons (.call .none (ref_When_ok hv10) (.cons (.s rfl) (.cons (.int (by decide)) .nil))) rfl ?_
    refine .cons (.fieldAddr .none fd32_2 hfd32_2 (.s rfl)) rfl ?_
    refine .cons (.load .none ty3 (.s rfl)) rfl ?_
    refine .cons (.lt .none (.s rfl) (.int (by decide))) rfl ?_
    obtain ⟨r4, hv11, h⟩ := bind_some h
    refine .cons (.call .none (ref_When_ok hv11) (.cons (.s rfl) (.cons (.int (by decide)) .nil))) rfl ?_
    refine .cons (.buildSlice (xs := [_, _, _]) .none sl71 ty23 hz23 (.cons (.s rfl) (.cons (.s rfl) (.cons (.s rfl) .nil))) rfl (by decide)) rfl ?_
    obtain ⟨e1, hv12, h⟩ := bind_some h
    refine .cons (.call .none (ref_First_ok hv12) (.cons (.s rfl) .nil)) rfl ?_
    refine .cons (.assign .none (.s rfl)) rfl ?_
    refine .nil (.then ?_)
    refine .seq (.region [] mixed (by kernel_rfl) ?_)
    refine .cons (.move .none (.s rfl)) rfl ?_
    refine .cons (.neI .none (.s rfl) (.int (by decide))) rfl ?_
    refine .nil (.then ?_)
    refine .cond (t := 40) rfl trivial (fun hb13 => ?_) (fun hb13 => ?_)
    ·
     replace h := bif_t h hb13
     refine .seq (.region [] mixed (by kernel_rfl) ?_)
     refine .cons (.move .none (.s rfl)) rfl ?_
     refine .cons (.assign .none (.s rfl)) rfl ?_
     refine .nil (.then ?_)
     refine .ret ?_
     refine .blkRet ?_
     refine .thenRet ?_
     refine .thenRet ?_
     refine .blkRet ?_
     refine .thenRet ?_
     replace h := resd_ab hK4 (some_eq h)
     replace h := hD2 _ (some_eq h)
     replace h := resb_ab hK1 (some_eq h)
     obtain rfl := some_eq h
     exact Ends.ret1 (.inl rfl) Tryd.results23 (ResOK.tmp rfl trivial Imp.refl)
    ·
     replace h := bif_f h hb13
     refine .skip ?_
     refine .blkNormal ?_
     exact Ends.join _ (some_eq h) (.k 0 rfl (.k 6 rfl (.k 7 rfl (.k 8 rfl .nil)))) SubB.nil
   ·
    have h := resd_nx hK4 hj4
    refine .region [] mixed (by kernel_rfl) ?_
    refine .cons (.addW .none (.s rfl) (.int (by decide))) rfl ?_
    refine .cons (.move .none (.s rfl)) rfl ?_
    refine .nil ?_
    exact Ends.againL (some_eq h) (.k 8 rfl (.k 0 rfl (.k 6 rfl (.k 7 rfl .nil)))) SubB.nil
  ·
   replace h := bif_f h hb3
   refine .exit ?_
   refine .thenExit ?_
   refine .thenExit ?_
   refine .blkExit ?_
   replace h := hD2 _ (some_eq h)
   exact Ends.join _ (some_eq h) Sub.nil SubB.nil
 ·
  have h := resb_nx hK1 hj1
  refine .seq (.region [] mixed (by kernel_rfl) ?_)
  refine .cons (.assign .none (.int (by decide))) rfl ?_
  refine .nil (.then ?_)
  refine .ret ?_
  obtain rfl := some_eq h
  exact Ends.ret1 (.inl rfl) Tryd.results23 (ResOK.tmp rfl trivial Imp.refl)

theorem ref_SinceOf_1_1_ok {s1 : Stamp} {c0_1 : DOp} {r : Bool}  (h : ref_SinceOf_1_1 s1 c0_1 = some r) : FSpec Tryd.prog 53 [rep s1, ref c0_1] (rep r) := by
 unfold ref_SinceOf_1_1 at h
 refine FSpec.intro (n := 18) fnok53 Tryd.func53 rfl Tryd.ntmps53 rfl (fun F => ?_)
 refine .seq (.region [] mixed (by kernel_rfl) ?_)
 refine .cons (.box .none (.s rfl)) rfl ?_
 refine .cons (.assign .none .bool) rfl ?_
 refine .nil (.then ?_)
 refine .seq (.region [] mixed (by kernel_rfl) ?_)
 refine .cons (.fieldAddr .none fd32_1 hfd32_1 (.s rfl)) rfl ?_
 refine .cons (.load .none ty9 (.s rfl)) rfl ?_
 refine .cons (.fieldAddr .none fd34_0 hfd34_0 (.s rfl)) rfl ?_
 refine .cons (.fieldAddr .none fd32_1 hfd32_1 (.s rfl)) rfl ?_
 refine .cons (.load .none ty9 (.s rfl)) rfl ?_
 refine .cons (.eqS .none (eqAt_str Tryd.underlying9) (.s rfl) (.s rfl)) rfl ?_
 refine .cons (.move .none (.s rfl)) rfl ?_
 refine .cons (.fieldAddr (.at rfl rfl) fd34_0 hfd34_0 (.s rfl)) rfl ?_
 refine .cons (.fieldAddr (.at rfl rfl) fd32_2 hfd32_2 (.tmp rfl id)) rfl ?_
 refine .cons (.load (.at rfl rfl) ty3 (.tmp rfl id)) rfl ?_
 refine .cons (.fieldAddr (.at rfl rfl) fd32_2 hfd32_2 (.s rfl)) rfl ?_
 refine .cons (.load (.at rfl rfl) ty3 (.tmp rfl id)) rfl ?_
 refine .cons (.le (.at rfl rfl) (.tmp rfl id) (.tmp rfl id)) rfl ?_
 refine .cons (.pickAnd .none (.s rfl) (.tmp rfl id)) rfl ?_
 refine .cons (.assign .none (.s rfl)) rfl ?_
 refine .nil (.then ?_)
 refine .ret ?_
 obtain rfl := some_eq h
 exact Ends.ret1 (.inl rfl) Tryd.results53 (ResOK.tmp rfl trivial Imp.refl)

theorem slices_IndexFunc_Stamp_ok {s1 : (List Stamp)} {f1 : (Stamp → Option Bool)} {r : Int}  (h : slices_IndexFunc_Stamp s1 f1 = some r) : FSpec Tryd.prog 68 [rep s1, fn1 Tryd.prog (rep (α := Bool)) f1] (rep r) := by
 unfold slices_IndexFunc_Stamp at h
 refine FSpec.intro (n := 19) fnok68 Tryd.func68 rfl Tryd.ntmps68 rfl (fun F => ?_)
 refine .seq (.region [] mixed (by kernel_rfl) ?_)
 refine .cons (.assign .none (.int (by decide))) rfl ?_
 refine .nil (.then ?_)
 refine .seq ?_
 refine .seq (.region [] mixed (by kernel_rfl) ?_)
 refine .cons (.move .none (.s rfl)) rfl ?_
 refine .cons (.len .none sl36 (.s rfl)) rfl ?_
 refine .cons (.move .none (.int (by decide))) rfl ?_
 refine .nil (.then ?_)
 obtain ⟨o_1, h, hK1⟩ := bindR_some h
 refine .thenJ (ι := Unit) (fun j_1 => []) (fun j_1 => []) (fun s => o_1 = Res.nx s) Sub.nil SubB.nil ?_ (fun j_1 hj1 => ?_)
 ·
  skip
  refine .block ?_
  refine .rforEL h (fun p2_ => [(8, ⟨True, rep p2_.1⟩)]) (fun p2_ => []) (.k 8 rfl .nil) SubB.nil (.k 0 rfl (.k 1 rfl (.k 7 rfl .nil))) SubB.nil (fun p2_ o_2 h hD2 => ?_)
  refine .seq (.region [] mixed (by kernel_rfl) ?_)
  refine .cons (.lt .none (.s rfl) (.s rfl)) rfl ?_
  refine .nil (.then ?_)
  refine .seq ?_
  refine .cond (t := 9) rfl trivial (fun hb3 => ?_) (fun hb3 => ?_)
  ·
   replace h := bif_t h hb3
   refine .skip ?_
   refine .then ?_
   refine .seq ?_
   obtain ⟨o_4, h, hK4⟩ := bindD_some h
   unfold slices_IndexFunc_Stamp_L1 at h
   refine .thenJ (ι := Unit) (fun j_4 => []) (fun j_4 => []) (fun s => o_4 = Res.nx s) (.k 0 rfl (.k 1 rfl (.k 7 rfl (.k 8 rfl .nil)))) SubB.nil ?_ (fun j_4 hj4 => ?_)
   ·
    skip
    refine .block ?_
    refine .seq (.region [] mixed (by kernel_rfl) ?_)
    refine .cons (.move .none (.s rfl)) rfl ?_
    refine .cons (.assign .none (.s rfl)) rfl ?_
    refine .nil (.then ?_)
    refine .seq (.region [] mixed (by kernel_rfl) ?_)
    refine .cons (.move .none (.s rfl)) rfl ?_
    refine .cons (.move .none (.s rfl)) rfl ?_
    refine .cons (.move .none (.s rfl)) rfl ?_
    obtain ⟨hn5, h⟩ := need_some h
    refine .cons (.indexAddr .none sl36 ty32 (.s rfl) (.s rfl) (fun _ => hn5)) rfl ?_
    refine .cons (.load .none ty32 (.s rfl)) rfl ?_
    obtain ⟨r1, hv6, h⟩ := bind_some h
    refine .cons (.callV (gx s1 p2_.1, r1) .none (.s rfl) (fun _ => hv6) (.cons (.s rfl) .nil)) rfl ?_
    refine .nil (.then ?_)
    refine .cond (t := 16) rfl trivial (fun hb7 => ?_) (fun hb7 => ?_)
    ·
     replace h := bif_t h hb7
     refine .seq (.region [] mixed (by kernel_rfl) ?_)
     refine .cons (.move .none (.s rfl)) rfl ?_
     refine .cons (.assign .none (.s rfl)) rfl ?_
     refine .nil (.then ?_)
     refine .ret ?_
     refine .blkRet ?_
     refine .thenRet ?_
     refine .thenRet ?_
     refine .blkRet ?_
     refine .thenRet ?_
     replace h := resd_ab hK4 (some_eq h)
     replace h := hD2 _ (some_eq h)
     replace h := resb_ab hK1 (some_eq h)
     obtain rfl := some_eq h
     exact Ends.ret1 (.inl rfl) Tryd.results68 (ResOK.tmp rfl trivial Imp.refl)
    ·
     replace h := bif_f h hb7
     refine .skip ?_
     refine .blkNormal ?_
     exact Ends.join _ (some_eq h) (.k 0 rfl (.k 1 rfl (.k 7 rfl (.k 8 rfl .nil)))) SubB.nil
   ·
    have h := resd_nx hK4 hj4
    refine .region [] mixed (by kernel_rfl) ?_
    refine .cons (.addW .none (.s rfl) (.int (by decide))) rfl ?_
    refine .cons (.move .none (.s rfl)) rfl ?_
    refine .nil ?_
    exact Ends.againL (some_eq h) (.k 8 rfl (.k 0 rfl (.k 1 rfl (.k 7 rfl .nil)))) SubB.nil
  ·
   replace h := bif_f h hb3
   refine .exit ?_
   refine .thenExit ?_
   refine .thenExit ?_
   refine .blkExit ?_
   replace h := hD2 _ (some_eq h)
   exact Ends.join _ (some_eq h) Sub.nil SubB.nil
 ·
  have h := resb_nx hK1 hj1
  refine .seq (.region [] mixed (by kernel_rfl) ?_)
  refine .cons (.assign .none (.int (by decide))) rfl ?_
  refine .nil (.then ?_)
  refine .ret ?_
  obtain rfl := some_eq h
  exact Ends.ret1 (.inl rfl) Tryd.results68 (ResOK.tmp rfl trivial Imp.refl)

theorem slices_ContainsFunc_Stamp_ok {s1 : (List Stamp)} {f1 : (Stamp → Option Bool)} {r : Bool}  (h : slices_ContainsFunc_Stamp s1 f1 = some r) : FSpec Tryd.prog 52 [rep s1, fn1 Tryd.prog (rep (α := Bool)) f1] (rep r) := by
 unfold slices_ContainsFunc_Stamp at h
 refine FSpec.intro (n := 9) fnok52 Tryd.func52 rfl Tryd.ntmps52 rfl (fun F => ?_)
 refine .seq (.region [] mixed (by kernel_rfl) ?_)
 refine .cons (.assign .none .bool) rfl ?_
 refine .nil (.then ?_)
 refine .seq (.region [] mixed (by kernel_rfl) ?_)
 refine .cons (.move .none (.s rfl)) rfl ?_
 refine .cons (.move .none (.s rfl)) rfl ?_
 obtain ⟨r1, hv1, h⟩ := bind_some h
 refine .cons (.call .none (slices_IndexFunc_Stamp_ok hv1) (.cons (.s rfl) (.cons (.s rfl) .nil))) rfl ?_
 refine .cons (.ge .none (.s rfl) (.int (by decide))) rfl ?_
 refine .cons (.assign .none (.s rfl)) rfl ?_
 refine .nil (.then ?_)
 refine .ret ?_
 obtain rfl := some_eq h
 exact Ends.ret1 (.inl rfl) Tryd.results52 (ResOK.tmp rfl trivial Imp.refl)

theorem ref_SinceOf_1_ok {x1 : DOp} {c0_1 : (List Stamp)} {r : Bool}  (h : ref_SinceOf_1 x1 c0_1 = some r) : FSpec Tryd.prog 51 [rep x1, ref c0_1] (rep r) := by
 unfold ref_SinceOf_1 at h
 refine FSpec.intro (n := 7) fnok51 Tryd.func51 rfl Tryd.ntmps51 rfl (fun F => ?_)
 refine .seq (.region [] mixed (by kernel_rfl) ?_)
 refine .cons (.box .none (.s rfl)) rfl ?_
 refine .cons (.assign .none .bool) rfl ?_
 refine .nil (.then ?_)
 refine .seq (.region [] mixed (by kernel_rfl) ?_)
 refine .cons (.load .none ty36 (.s rfl)) rfl ?_
 refine .cons (.makeFunc (ι := Stamp × Bool) (pre := fun i => (fun x0 => ref_SinceOf_1_1 x0 x1) i.1 = some i.2) (Ss := fun i => [rep i.1]) (S := fun i => rep i.2) .none fnok53 (fun i h => ref_SinceOf_1_1_ok h) (.cons (.s rfl) .nil)) rfl ?_
 obtain ⟨r1, hv1, h⟩ := bind_some h
 refine .cons (.call .none (slices_ContainsFunc_Stamp_ok hv1) (.cons (.s rfl) (.cons (.s rfl) .nil))) rfl ?_
 refine .cons (.assign .none (.s rfl)) rfl ?_
 refine .nil (.then ?_)
 refine .ret ?_
 obtain rfl := some_eq h
 exact Ends.ret1 (.inl rfl) Tryd.results51 (ResOK.tmp rfl trivial Imp.refl)

theorem slices_DeleteFunc_Op_ok {s1 : (List DOp)} {del1 : (DOp → Option Bool)} {r : (List DOp)} {s42 : Value} (h : slices_DeleteFunc_Op s1 del1 = some r) : FSpecO Tryd.prog 50 [isV s42, fn1 Tryd.prog (rep (α := Bool)) del1] [(s42, rowV 34 s1)] (anyV) [none, some (rowV 34 r)] := by
 unfold slices_DeleteFunc_Op at h
 refine FSpecO.intro (n := 42) fnok50 Tryd.func50 rfl Tryd.ntmps50 rfl (fun F => ?_)
 refine .seq (.region [] mixed (by kernel_rfl) ?_)
 refine .cons (.assign .none (.const (x := ([] : (List DOp))) (fun M w => ⟨_, ⟨none, 0, rfl, Nat.le_refl _, by decide, rfl⟩, rfl⟩))) rfl ?_
 refine .nil (.then ?_)
 refine .seq (.region [([], []), ([], []), ([42], []), ([], [])] mixed (by kernel_rfl) ?_)
 refine .consA (.move .none (.s rfl)) rfl ?_
 refine .consA (.move .none (.s rfl)) rfl ?_
 obtain ⟨i1, hv1, h⟩ := bind_some h
 refine .consA (.callC .none fnok46 (fun hg => slices_IndexFunc_Op_ok  hv1) .rep (.lend (k := 42) (.told (.s rfl) rfl) (.cons (.s rfl) .nil))) rfl ?_
 refine .consA (.assign .none (.s rfl)) rfl ?_
 refine .nil (.then ?_)
 refine .seq ?_
 refine .seq (.region [] mixed (by kernel_rfl) ?_)
 refine .cons (.move .none (.s rfl)) rfl ?_
 refine .cons (.eqI .none (.s rfl) (.int (by decide))) rfl ?_
 refine .nil (.then ?_)
 refine .cond (t := 12) rfl trivial (fun hb2 => ?_) (fun hb2 => ?_)
 ·
  replace h := bif_t h hb2
  refine .seq (.region [] mixed (by kernel_rfl) ?_)
  refine .cons (.move .none (.s rfl)) rfl ?_
  refine .cons (.assign .none (.s rfl)) rfl ?_
  refine .nil (.then ?_)
  refine .ret ?_
  refine .thenRet ?_
  refine .anon (t := 4) (g := 42) rfl rfl trivial rfl ?_
  obtain rfl := some_eq h
  exact Ends.ret1O (.inl rfl) [42, 4] Tryd.results50 (by decide) (.skip (.res rfl rfl)) (ResOK.tmp rfl trivial (fun _ _ _ _ => trivial))
 ·
  replace h := bif_f h hb2
  refine .skip ?_
  refine .then ?_
  refine .seq ?_
  refine .seq (.region [] mixed (by kernel_rfl) ?_)
  refine .cons (.move .none (.s rfl)) rfl ?_
  refine .cons (.addW .none (.s rfl) (.int (by decide))) rfl ?_
  obtain ⟨j1, hv3, h⟩ := bnd_some h
  refine .cons (.re hv3 (.assign .none (.s rfl))) rfl ?_
  refine .nil (.then ?_)
  obtain ⟨j_4, h, hK4⟩ := bind_some h
  refine .thenJ (ι := (Int × (List DOp))) (fun j_4 => [(5, ⟨True, rep j_4.1⟩)]) (fun j_4 => [(42, some (CPred.at s42 (rowV 34 j_4.2)))]) (fun s => j_4 = s) (.k 0 rfl .nil) SubB.nil ?_ (fun j_4' hj4 => ?_)
  ·
   skip
   refine .block ?_
   refine .loopL h (fun s5_ => [(5, ⟨True, rep s5_.1⟩), (6, ⟨True, rep s5_.2.1⟩)]) (fun s5_ => [(42, some (CPred.at s42 (rowV 34 s5_.2.2)))]) (.k 5 rfl (.k 6 rfl .nil)) (.k 42 rfl .nil) (.k 0 rfl (.k 1 rfl .nil)) SubB.nil (fun s5_ o_5 h hD5 => ?_)
   unfold slices_DeleteFunc_Op_L1 at h
   refine .seq ?_
   refine .seq (.region [([], []), ([], []), ([42], []), ([], [])] mixed (by kernel_rfl) ?_)
   refine .consA (.move .none (.s rfl)) rfl ?_
   refine .consA (.move .none (.s rfl)) rfl ?_
   refine .consA (.lenO (k := 42) sl22 (.told (.s rfl) rfl)) rfl ?_
   refine .consA (.lt .none (.s rfl) (.s rfl)) rfl ?_
   refine .nil (.then ?_)
   refine .cond (t := 19) rfl trivial (fun hb6 => ?_) (fun hb6 => ?_)
   ·
    replace h := bif_t h hb6
    refine .skip ?_
    refine .then ?_
    refine .seq ?_
    obtain ⟨j_7, h, hK7⟩ := bind_some h
    refine .thenJ (ι := (Int × (List DOp))) (fun j_7 => [(5, ⟨True, rep j_7.1⟩)]) (fun j_7 => [(42, some (CPred.at s42 (rowV 34 j_7.2)))]) (fun s => j_7 = s) (.k 0 rfl (.k 1 rfl (.k 6 rfl .nil))) SubB.nil ?_ (fun j_7' hj7 => ?_)
    ·
     skip
     refine .block ?_
     refine .seq (.region [([], []), ([], []), ([42], []), ([42], []), ([], [7]), ([7], [7])] mixed (by kernel_rfl) ?_)
     refine .consA (.move .none (.s rfl)) rfl ?_
     refine .consA (.move .none (.s rfl)) rfl ?_
     obtain ⟨hn8, h⟩ := need_some h
     refine .consA (.indexAddrO (k := 42) .none sl22 ty34 (.s rfl) rfl (.s rfl) (fun _ => hn8)) rfl ?_
     obtain ⟨v1, hv9, h⟩ := bnd_some h
     refine .consA (.re hv9 (.loadElem0 (k := 42) .none ty34 (.s rfl) rfl (fun _ => hn8))) rfl ?_
     refine .consW (.alloc zo34 rfl) rfl rfl ?_
     refine .consN (.store ty34 rfl rfl (.s rfl)) rfl ?_
     refine .nil (.then ?_)
     refine .freeze (t := 7) rfl rfl (.k 42 rfl .nil) rfl ?_
     refine .seq (.region [] mixed (by kernel_rfl) ?_)
     refine .cons (.move .none (.s rfl)) rfl ?_
     refine .cons (.load .none ty34 (.s rfl)) rfl ?_
     obtain ⟨r1, hv10, h⟩ := bind_some h
     refine .cons (.callV (v1, r1) .none (.s rfl) (fun _ => hv10) (.cons (.s rfl) .nil)) rfl ?_
     refine .cons (.not .none (.s rfl)) rfl ?_
     refine .nil (.then ?_)
     refine .cond (t := 29) rfl trivial (fun hb11 => ?_) (fun hb11 => ?_)
     ·
      replace h := bif_t h hb11
      refine .seq (.region [([], []), ([], []), ([], []), ([42], []), ([42], [42])] mixed (by kernel_rfl) ?_)
      refine .consA (.move .none (.s rfl)) rfl ?_
      refine .consA (.move .none (.s rfl)) rfl ?_
      refine .consA (.load .none ty34 (.s rfl)) rfl ?_
      obtain ⟨hn12, h⟩ := need_some h
      refine .consA (.indexAddrO (k := 42) .none sl22 ty34 (.s rfl) rfl (.s rfl) (fun _ => hn12)) rfl ?_
      refine .consN (.storeElem0 (k := 42) ty34 (.s rfl) rfl (.s rfl) hn12) rfl ?_
      refine .nil (.then ?_)
      obtain ⟨s2, hv13, h⟩ := bnd_some h
      refine .reB (t := 42) rfl (congrArg (fun y => CPred.at s42 (rowV 34 y)) hv13) ?_
      refine .region [] mixed (by kernel_rfl) ?_
      refine .cons (.move .none (.s rfl)) rfl ?_
      refine .cons (.addW .none (.s rfl) (.int (by decide))) rfl ?_
      obtain ⟨i2, hv14, h⟩ := bnd_some h
      refine .cons (.re hv14 (.assign .none (.s rfl))) rfl ?_
      refine .nil ?_
      refine .blkNormal ?_
      exact Ends.join _ (some_eq h) (.k 5 rfl (.k 0 rfl (.k 1 rfl (.k 6 rfl .nil)))) (.k 42 rfl .nil)
     ·
      replace h := bif_f h hb11
      refine .skip ?_
      refine .blkNormal ?_
      exact Ends.join _ (some_eq h) (.k 5 rfl (.k 0 rfl (.k 1 rfl (.k 6 rfl .nil)))) (.k 42 rfl .nil)
    ·
     subst hj7; have h := hK7; clear hK7
     refine .region [] mixed (by kernel_rfl) ?_
     refine .cons (.move .none (.s rfl)) rfl ?_
     refine .cons (.addW .none (.s rfl) (.int (by decide))) rfl ?_
     obtain ⟨j2, hv15, h⟩ := bnd_some h
     refine .cons (.re hv15 (.assign .none (.s rfl))) rfl ?_
     refine .nil ?_
     exact Ends.againL (some_eq h) (.k 5 rfl (.k 6 rfl (.k 0 rfl (.k 1 rfl .nil)))) (.k 42 rfl .nil)
   ·
    replace h := bif_f h hb6
    refine .exit ?_
    refine .thenExit ?_
    refine .thenExit ?_
    refine .blkExit ?_
    replace h := hD5 _ (some_eq h)
    exact Ends.join _ (some_eq h) (.k 5 rfl (.k 0 rfl .nil)) (.k 42 rfl .nil)
  ·
   subst hj4; have h := hK4; clear hK4
   refine .seq (.region [([], []), ([], []), ([42], []), ([42], [42])] mixed (by kernel_rfl) ?_)
   refine .consA (.move .none (.s rfl)) rfl ?_
   refine .consA (.move .none (.s rfl)) rfl ?_
   obtain ⟨hn16, h⟩ := need_some h
   refine .consA (.sliceLend (k := 42) sl22 ty34 (.s rfl) rfl (.s rfl) rfl hn16) rfl ?_
   refine .consN (.clearPart (k := 42) sl22 zo34 (.s rfl) rfl hn16) rfl ?_
   refine .nil (.then ?_)
   obtain ⟨s3, hv17, h⟩ := bnd_some h
   refine .reB (t := 42) rfl (congrArg (fun y => CPred.at s42 (rowV 34 y)) hv17) ?_
   refine .seq (.region [([], []), ([], []), ([42], [41, 42]), ([41], [4, 41])] mixed (by kernel_rfl) ?_)
   refine .consA (.move .none (.s rfl)) rfl ?_
   refine .consA (.move .none (.s rfl)) rfl ?_
   obtain ⟨hn18, h⟩ := need_some h
   refine .consW (.sliceRow (k := 42) sl22 ty34 rfl (.s rfl) rfl rfl (.s rfl) hn18) rfl rfl ?_
   refine .consW (.passRow rfl (.tmp rfl)) rfl rfl ?_
   refine .nil (.then ?_)
   obtain ⟨v2, hv19, h⟩ := bnd_some h
   refine .reB (t := 4) rfl (congrArg (rowV 34) hv19) ?_
   refine .nameRow (t := 4) (g := 5001) rfl rfl rfl (fun s5001 => ?_)
   refine .ret ?_
   refine .anon (t := 4) (g := 5001) rfl rfl trivial rfl ?_
   obtain rfl := some_eq h
   exact Ends.ret1O (.inl rfl) [42, 4] Tryd.results50 (by decide) (.skip (.res rfl rfl)) (ResOK.tmp rfl trivial (fun _ _ _ _ => trivial))

theorem ref_SinceOf_ok {l1 : (List DOp)} {seen1 : (List Stamp)} {r : (List DOp)}  (h : ref_SinceOf l1 seen1 = some r) : FSpec Tryd.prog 25 [rep l1, rep seen1] (rep r) := by
 unfold ref_SinceOf at h
 refine FSpec.intro (n := 9) fnok25 Tryd.func25 rfl Tryd.ntmps25 rfl (fun F => ?_)
 refine .seq (.region [] mixed (by kernel_rfl) ?_)
 refine .cons (.box .none (.s rfl)) rfl ?_
 refine .cons (.assign .none (.const (x := ([] : (List DOp))) (fun M w => ⟨_, ⟨none, 0, rfl, Nat.le_refl _, by decide, rfl⟩, rfl⟩))) rfl ?_
 refine .nil (.then ?_)
 refine .seq (.region [([], []), ([], [6]), ([], []), ([6], [6]), ([], [])] mixed (by kernel_rfl) ?_)
 refine .consA (.move .none (.s rfl)) rfl ?_
 obtain ⟨r1, hv1, h⟩ := bind_some h
 refine .consW (.callO [] (slices_Clone_Op_ok hv1) (.cons (.s rfl) .nil) .nil rfl (by decide) (by decide) (by intro d h; cases h; decide)) rfl rfl ?_
 refine .consA (.makeFunc (ι := DOp × Bool) (pre := fun i => (fun x0 => ref_SinceOf_1 x0 seen1) i.1 = some i.2) (Ss := fun i => [rep i.1]) (S := fun i => rep i.2) .none fnok51 (fun i h => ref_SinceOf_1_ok h) (.cons (.s rfl) .nil)) rfl ?_
 obtain ⟨r2, hv2, h⟩ := bind_some h
 refine .consW (.tell (t := 6) rfl row_one rfl (by decide) (fun _ => StepOK.callO [6] ((slices_DeleteFunc_Op_ok hv2).frzO1) (.cons (.s rfl) (.cons (.s rfl) .nil)) (.cons (k := 6) rfl .nil) rfl (by decide) (by decide) (by intro d h; cases h; decide))) rfl rfl ?_
 refine .consA (.assign .none (.s rfl)) rfl ?_
 refine .nil (.then ?_)
 refine .ret ?_
 obtain rfl := some_eq h
 exact Ends.ret1 (.inl rfl) Tryd.results25 (ResOK.tmp rfl trivial Imp.refl)

theorem law_MergesMatch_3_ok {c0_1 : (List DOp)} {c1_1 : (List Stamp)} {r : (List DOp)}  (h : law_MergesMatch_3 c0_1 c1_1 = some r) : FSpec Tryd.prog 24 [ref c0_1, ref c1_1] (rep r) := by
 unfold law_MergesMatch_3 at h
 refine FSpec.intro (n := 6) fnok24 Tryd.func24 rfl Tryd.ntmps24 rfl (fun F => ?_)
 refine .seq (.region [] mixed (by kernel_rfl) ?_)
 refine .cons (.assign .none (.const (x := ([] : (List DOp))) (fun M w => ⟨_, ⟨none, 0, rfl, Nat.le_refl _, by decide, rfl⟩, rfl⟩))) rfl ?_
 refine .nil (.then ?_)
 refine .seq (.region [] mixed (by kernel_rfl) ?_)
 refine .cons (.load .none ty22 (.s rfl)) rfl ?_
 refine .cons (.load .none ty36 (.s rfl)) rfl ?_
 obtain ⟨r1, hv1, h⟩ := bind_some h
 refine .cons (.call .none (ref_SinceOf_ok hv1) (.cons (.s rfl) (.cons (.s rfl) .nil))) rfl ?_
 refine .cons (.assign .none (.s rfl)) rfl ?_
 refine .nil (.then ?_)
 refine .ret ?_
 obtain rfl := some_eq h
 exact Ends.ret1 (.inl rfl) Tryd.results24 (ResOK.tmp rfl trivial Imp.refl)

theorem law_MergesMatch_ok {a1 : (List DOp)} {b1 : (List DOp)} {seen1 : (List Stamp)} {r : Bool}  (h : law_MergesMatch a1 b1 seen1 = some r) : FSpec Tryd.prog 4 [rep a1, rep b1, rep seen1] (rep r) := by
 unfold law_MergesMatch at h
 refine FSpec.intro (n := 70) fnok4 Tryd.func4 rfl Tryd.ntmps4 rfl (fun F => ?_)
 refine .seq (.region [] mixed (by kernel_rfl) ?_)
 refine .cons (.box .none (.s rfl)) rfl ?_
 refine .cons (.box .none (.s rfl)) rfl ?_
 refine .cons (.assign .none .bool) rfl ?_
 refine .nil (.then ?_)
 refine .seq (.region [] mixed (by kernel_rfl) ?_)
 refine .cons (.load .none ty22 (.s rfl)) rfl ?_
 refine .cons (.move .none (.s rfl)) rfl ?_
 obtain ⟨r1, hv1, h⟩ := bind_some h
 refine .cons (.call .none (edit_Merge_ok hv1) (.cons (.s rfl) (.cons (.s rfl) .nil))) rfl ?_
 refine .cons (.move .none (.s rfl)) rfl ?_
 refine .cons (.extract .none (.s rfl) rfl) rfl ?_
 refine .cons (.extract .none (.s rfl) rfl) rfl ?_
 refine .cons (.assign .none (.s rfl)) rfl ?_
 refine .cons (.assign .none (.s rfl)) rfl ?_
 refine .nil (.then ?_)
 refine .seq (.region [] mixed (by kernel_rfl) ?_)
 refine .cons (.load .none ty22 (.s rfl)) rfl ?_
 obtain ⟨want1, hv2, h⟩ := bind_some h
 refine .cons (.call .none (ref_OpsError_ok hv2) (.cons (.s rfl) .nil)) rfl ?_
 refine .cons (.assign .none (.s rfl)) rfl ?_
 refine .nil (.then ?_)
 refine .seq (.region [([], [10])] mixed (by kernel_rfl) ?_)
 refine .consW (.alloc zo22 rfl) rfl rfl ?_
 refine .nil (.then ?_)
 refine .nameBox (t := 10) (g := 5001) rfl rfl (fun m5001 => ?_)
 refine .seq ?_
 refine .seq (.region [] mixed (by kernel_rfl) ?_)
 refine .cons (.move .none (.s rfl)) rfl ?_
 refine .cons (.eqI .none (.s rfl) (.int (by decide))) rfl ?_
 refine .nil (.then ?_)
 obtain ⟨j_3, h, hK3⟩ := bind_some h
 refine .thenJ (ι := (Int × (List DOp))) (fun j_3 => [(9, ⟨True, rep j_3.1⟩)]) (fun j_3 => [(5001, some (boxAt m5001 22 j_3.2))]) (fun s => j_3 = s) (.k 3 rfl (.k 5 rfl (.k 7 rfl (.k 8 rfl (.k 10 rfl .nil))))) SubB.nil ?_ (fun j_3' hj3 => ?_)
 ·
  skip
  refine .cond (t := 24) rfl trivial (fun hb4 => ?_) (fun hb4 => ?_)
  ·
   replace h := bif_t h hb4
   refine .region [([], []), ([], []), ([], []), ([], []), ([], []), ([], []), ([5001], [5001]), ([], [])] mixed (by kernel_rfl) ?_
   refine .consA (.load .none ty22 (.s rfl)) rfl ?_
   refine .consA (.move .none (.s rfl)) rfl ?_
   obtain ⟨r2, hv5, h⟩ := bind_some h
   refine .consA (.call .none (ref_MergeOf_ok hv5) (.cons (.s rfl) (.cons (.s rfl) .nil))) rfl ?_
   refine .consA (.move .none (.s rfl)) rfl ?_
   refine .consA (.extract .none (.s rfl) rfl) rfl ?_
   refine .consA (.extract .none (.s rfl) rfl) rfl ?_
   refine .consN (.storeAt0 (g := 5001) ty22 rfl (.s rfl) (.s rfl)) rfl ?_
   refine .consA (.assign .none (.s rfl)) rfl ?_
   refine .nil ?_
   exact Ends.join _ (some_eq h) (.k 9 rfl (.k 3 rfl (.k 5 rfl (.k 7 rfl (.k 8 rfl (.k 10 rfl .nil)))))) (.k 5001 rfl .nil)
  ·
   replace h := bif_f h hb4
   refine .skip ?_
   exact Ends.join _ (some_eq h) (.k 9 rfl (.k 3 rfl (.k 5 rfl (.k 7 rfl (.k 8 rfl (.k 10 rfl .nil)))))) (.k 5001 rfl .nil)
 ·
  subst hj3; have h := hK3; clear hK3
  refine .freezeBox (g := 5001) (ts := [10]) rfl (.cons (t := 10) rfl trivial .nil) SubB.nil rfl ?_
  refine .seq ?_
  refine .seq (.region [] mixed (by kernel_rfl) ?_)
  obtain ⟨r3, hv6, h⟩ := bind_some h
  refine .cons (.call .none (law_edits_ok hv6) .nil) rfl ?_
  refine .cons (.not .none (.s rfl)) rfl ?_
  refine .cons (.move .none (.s rfl)) rfl ?_
  refine .cons (.move (.at rfl rfl) (.s rfl)) rfl ?_
  refine .cons (.move (.at rfl rfl) (.s rfl)) rfl ?_
  refine .cons (.move (.at rfl rfl) (.s rfl)) rfl ?_
  refine .cons (.makeFunc (ι := (List DOp)) (pre := fun i => (law_MergesMatch_1 j_3.2)  = some i) (Ss := fun i => []) (S := fun i => rep i) (.at rfl rfl) fnok16 (fun i h => law_MergesMatch_1_ok h) (.cons (.s rfl) .nil)) rfl ?_
  obtain ⟨r4, hv7, h⟩ := bind_some h
  refine .cons (.callIf (.at rfl rfl) fnok15 (fun hg => law_lists_Op_ok ((fun hg => gd_some hv7 ((notT hg.2))) hg)) (.cons (.tmp rfl id) (.cons (.tmp rfl id) (.cons (.tmp rfl id) (.cons (.tmp rfl id) .nil)))) (fun h => h)) rfl ?_
  refine .cons (.not (.at rfl rfl) (.tmp rfl id)) rfl ?_
  refine .cons (.pickOr .none (.s rfl) (.tmp rfl id)) rfl ?_
  refine .nil (.then ?_)
  refine .cond (t := 40) rfl trivial (fun hb8 => ?_) (fun hb8 => ?_)
  ·
   replace h := bif_t h hb8
   refine .seq (.region [] mixed (by kernel_rfl) ?_)
   refine .cons (.assign .none .bool) rfl ?_
   refine .nil (.then ?_)
   refine .ret ?_
   refine .thenRet ?_
   obtain rfl := some_eq h
   exact Ends.ret1 (.inl rfl) Tryd.results4 (ResOK.tmp rfl trivial Imp.refl)
  ·
   replace h := bif_f h hb8
   refine .skip ?_
   refine .then ?_
   refine .seq (.region [] mixed (by kernel_rfl) ?_)
   refine .cons (.load .none ty22 (.s rfl)) rfl ?_
   obtain ⟨own1, hv9, h⟩ := bind_some h
   refine .cons (.call .none (ref_OpsError_ok hv9) (.cons (.s rfl) .nil)) rfl ?_
   refine .cons (.assign .none (.s rfl)) rfl ?_
   refine .nil (.then ?_)
   refine .seq (.region [] mixed (by kernel_rfl) ?_)
   refine .cons (.load .none ty22 (.s rfl)) rfl ?_
   obtain ⟨r5, hv10, h⟩ := bind_some h
   refine .cons (.call .none (edit_Seen_ok hv10) (.cons (.s rfl) .nil)) rfl ?_
   refine .cons (.move .none (.s rfl)) rfl ?_
   refine .cons (.extract .none (.s rfl) rfl) rfl ?_
   refine .cons (.extract .none (.s rfl) rfl) rfl ?_
   refine .cons (.assign .none (.s rfl)) rfl ?_
   refine .cons (.assign .none (.s rfl)) rfl ?_
   refine .nil (.then ?_)
   refine .seq (.region [] mixed (by kernel_rfl) ?_)
   refine .cons (.load .none ty22 (.s rfl)) rfl ?_
   refine .cons (.load .none ty36 (.s rfl)) rfl ?_
   obtain ⟨r6, hv11, h⟩ := bind_some h
   refine .cons (.call .none (edit_Since_ok hv11) (.cons (.s rfl) (.cons (.s rfl) .nil))) rfl ?_
   refine .cons (.move .none (.s rfl)) rfl ?_
   refine .cons (.extract .none (.s rfl) rfl) rfl ?_
   refine .cons (.extract .none (.s rfl) rfl) rfl ?_
   refine .cons (.assign .none (.s rfl)) rfl ?_
   refine .cons (.assign .none (.s rfl)) rfl ?_
   refine .nil (.then ?_)
   refine .seq (.region [] mixed (by kernel_rfl) ?_)
   refine .cons (.move .none (.s rfl)) rfl ?_
   refine .cons (.move .none (.s rfl)) rfl ?_
   refine .cons (.move .none (.s rfl)) rfl ?_
   refine .cons (.makeFunc (ι := (List Stamp)) (pre := fun i => (law_MergesMatch_2 a1)  = some i) (Ss := fun i => []) (S := fun i => rep i) .none fnok20 (fun i h => law_MergesMatch_2_ok h) (.cons (.s rfl) .nil)) rfl ?_
   obtain ⟨r7, hv12, h⟩ := bind_some h
   refine .cons (.call .none (law_lists_Stamp_ok hv12) (.cons (.s rfl) (.cons (.s rfl) (.cons (.s rfl) (.cons (.s rfl) .nil))))) rfl ?_
   refine .cons (.move .none (.s rfl)) rfl ?_
   refine .cons (.move (.at rfl rfl) (.s rfl)) rfl ?_
   refine .cons (.move (.at rfl rfl) (.s rfl)) rfl ?_
   refine .cons (.move (.at rfl rfl) (.s rfl)) rfl ?_
   refine .cons (.load (.at rfl rfl) ty36 (.s rfl)) rfl ?_
   obtain ⟨r8, hv13, h⟩ := bind_some h
   refine .cons (.callIf (.at rfl rfl) fnok23 (fun hg => ref_StampsError_ok ((fun hg => gd_some hv13 (hg.2)) hg)) (.cons (.tmp rfl id) .nil) (fun h => h)) rfl ?_
   refine .cons (.buildSlice (xs := [_, _]) (.at rfl rfl) sl71 ty23 hz23 (.cons (.tmp rfl id) (.cons (.tmp rfl id) .nil)) rfl (by decide)) rfl ?_
   obtain ⟨r9, hv14, h⟩ := bind_some h
   refine .cons (.callIf (.at rfl rfl) fnok22 (fun hg => ref_First_ok ((fun hg => gd_some hv14 (hg.2)) hg)) (.cons (.tmp rfl id) .nil) (fun h => h)) rfl ?_
   refine .cons (.makeFunc (ι := (List DOp)) (pre := fun i => (law_MergesMatch_3 a1 seen1)  = some i) (Ss := fun i => []) (S := fun i => rep i) (.at rfl rfl) fnok24 (fun i h => law_MergesMatch_3_ok h) (.cons (.s rfl) (.cons (.s rfl) .nil))) rfl ?_
   obtain ⟨r10, hv15, h⟩ := bind_some h
   refine .cons (.callIf (.at rfl rfl) fnok15 (fun hg => law_lists_Op_ok ((fun hg => gd_some hv15 (hg.2)) hg)) (.cons (.tmp rfl id) (.cons (.tmp rfl id) (.cons (.tmp rfl id) (.cons (.tmp rfl id) .nil)))) (fun h => h)) rfl ?_
   refine .cons (.pickAnd .none (.s rfl) (.tmp rfl id)) rfl ?_
   refine .cons (.assign .none (.s rfl)) rfl ?_
   refine .nil (.then ?_)
   refine .ret ?_
   obtain rfl := some_eq h
   exact Ends.ret1 (.inl rfl) Tryd.results4 (ResOK.tmp rfl trivial Imp.refl)


end Go.Proofs.YtfpmjncooelplaaDoor
