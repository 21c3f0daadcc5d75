/-
  The walks: what a function computes is what its plain function says (printed by a program of one's own).
-/
import Derived.Test.YtclcheggnlhamaaGreatDoorChgWa2
set_option maxRecDepth 100000
set_option linter.unusedSimpArgs false
set_option linter.unusedVariables false
namespace Go.Proofs.YtclcheggnlhamaaGreatDoor
open Go Go.DB Go.RowKit

theorem ref_FrontOf_ok {d1 : Doc} {ids1 : (List Str)} {back1 : Bool} {r : Doc}  (h : ref_FrontOf d1 ids1 back1 = some r) : FSpec Tryz.prog 47 [rep d1, rep ids1, rep back1] (rep r) := by
 unfold ref_FrontOf at h
 obtain ⟨v1, hv1, h⟩ := bnd_some h
 obtain ⟨r1, hv2, h⟩ := bind_some h
 obtain ⟨roots1, hv3, h⟩ := bind_some h
 refine FSpec.i Tryz.func47 rfl Tryz.ntmps47 rfl (fun F => (.sr [oo, ([], [6])] mx (.cA (.box .none (.s rfl)) (.al zo25 rfl (.nil (.reB (t := 6) rfl (congrArg (cont 25) hv1) (.nameBox (t := 6) (g := 5001) rfl rfl (fun m5001 => (.sr [oo, oo, ([], [7]), ([7], [7])] mx (.ldA ty25 rfl (.cA (.call .none (ref_Copied_fz hv2) (.cons (.s rfl) .nil)) (.al zo25 rfl (.st ty25 rfl rfl rfl (.nil (.nameBox (t := 7) (g := 5002) rfl rfl (fun m5002 => (.sn mx (.ld ty25 rfl (.mv rfl (.c (.call .none (ref_RootsOf_ok hv3) (.cons (.s rfl) (.cons (.s rfl) .nil))) (.asn rfl (.nil (.sr [([], [9]), ([], [10])] mx (.cW (.nilRow (T := 44) (α := DNode) rfl) (.cW (.nilRow (T := 44) (α := DNode) rfl) (.nil (.nameRow (t := 9) (g := 5003) rfl rfl rfl (fun s5003 => (.nameRow (t := 10) (g := 5004) rfl rfl rfl (fun s5004 => (.seq (.sn mx (.fa fd25_0 hfd25_0 rfl (.ld ty22 rfl (.ln sl22 rfl (.mvi (.nil ?_)))))))))))))))))))))))))))))))))))))
 obtain ⟨j_4, h, hK4⟩ := bind_some h
 refine .thenJ (ι := ((List DNode) × (List DNode))) (fun j_4 => []) (fun j_4 => [(9, some (rowV 44 j_4.1)), (10, some (rowV 44 j_4.2))]) (fun s => j_4 = s) (.k2 2 6 rfl rfl (.k 7 rfl .nil)) (.k2 5001 5002 rfl rfl .nil) ?_ (fun j_4' hj4 => ?_)
 ·
  refine .block (.anon (t := 9) (g := 5003) rfl rfl trivial rfl (.anon (t := 10) (g := 5004) rfl rfl trivial rfl (.rforL h (fun p5_ => [(21, ⟨True, rep p5_.1⟩)]) (fun p5_ => [(9, some (rowV 44 p5_.2.1)), (10, some (rowV 44 p5_.2.2))]) (.k 21 rfl .nil) (.k2 9 10 rfl rfl .nil) (.k4 2 6 7 8 rfl rfl rfl rfl (.k2 19 20 rfl rfl .nil)) (.k2 5001 5002 rfl rfl .nil) (fun p5_ o_5 h hD5 => (.nameRow (t := 9) (g := 5005) rfl rfl rfl (fun s5005 => (.nameRow (t := 10) (g := 5006) rfl rfl rfl (fun s5006 => (.sn mx (.lt rfl rfl (.nil (.seq (.cb rfl h (fun _ h => ?_) fun _ h => ?_)))))))))))))
  ·
   refine .skip (.then (.seq ?_))
   obtain ⟨j_7, h, hK7⟩ := bind_some h
   unfold ref_FrontOf_L1 at h
   refine .thenJ (ι := ((List DNode) × (List DNode))) (fun j_7 => []) (fun j_7 => [(9, some (rowV 44 j_7.1)), (10, some (rowV 44 j_7.2))]) (fun s => j_7 = s) (.k4 2 6 7 8 rfl rfl rfl rfl (.k2 19 20 rfl rfl (.k 21 rfl .nil))) (.k2 5001 5002 rfl rfl .nil) ?_ (fun j_7' hj7 => ?_)
   ·
    obtain ⟨hn8, h⟩ := need_some h
    obtain ⟨v2, hv9, h⟩ := bnd_some h
    obtain ⟨r2, hv10, h⟩ := bind_some h
    refine .block (.sr [oo, oo, ([], [12]), ([12], [12])] mx (.ixA sl22 ty44 rfl rfl hn8 (.rlA hv9 ty44 rfl (.al zo44 rfl (.st ty44 rfl rfl rfl (.nil (.freeze (t := 12) rfl rfl (.k2 5001 5002 rfl rfl (.k2 5005 5006 rfl rfl .nil)) rfl (.sn mx (.mv rfl (.fa fd44_0 hfd44_0 rfl (.ld ty9 rfl (.c (.call .none (slices_Contains_string_ok hv10) (.cons (.s rfl) (.cons (.s rfl) .nil))) (.nil (.cb rfl h (fun _ h => ?_) fun _ h => ?_))))))))))))))
    ·
     obtain ⟨hn12, h⟩ := need_some h
     exact .rg [oo, oo, oo, ([5005], [32, 5005]), ([32], [9, 32])] mx (.mvA rfl (.ldA ty44 rfl (.cA (.buildSlice (xs := [_]) .none sl22 ty44 hz44 (.cons (.s rfl) .nil) rfl (by decide)) (.cW (.append (k := 5005) rk22 rfl (.told (.s rfl) rfl) (.s rfl) hn12) (.cW (.passRow rfl (.tmp rfl)) (.nil (.blkNormal (.anon (t := 10) (g := 5006) rfl rfl trivial rfl (Ends.j _ (some_eq h))))))))))
    ·
     obtain ⟨hn13, h⟩ := need_some h
     exact .rg [oo, oo, oo, ([5006], [36, 5006]), ([36], [10, 36])] mx (.mvA rfl (.ldA ty44 rfl (.cA (.buildSlice (xs := [_]) .none sl22 ty44 hz44 (.cons (.s rfl) .nil) rfl (by decide)) (.cW (.append (k := 5006) rk22 rfl (.told (.s rfl) rfl) (.s rfl) hn13) (.cW (.passRow rfl (.tmp rfl)) (.nil (.blkNormal (.anon (t := 9) (g := 5005) rfl rfl trivial rfl (Ends.j _ (some_eq h))))))))))
   ·
    subst hj7; have h := hK7; clear hK7
    exact .nameRow (t := 9) (g := 5007) rfl rfl rfl (fun s5007 => (.nameRow (t := 10) (g := 5008) rfl rfl rfl (fun s5008 => (.rn mx (.adi rfl (.mv rfl (.nil (.anon (t := 9) (g := 5007) rfl rfl trivial rfl (.anon (t := 10) (g := 5008) rfl rfl trivial rfl (Ends.ag (some_eq h)))))))))))
  ·
   refine .exit (.thenExit (.thenExit (.blkExit (.anon (t := 9) (g := 5005) rfl rfl trivial rfl (.anon (t := 10) (g := 5006) rfl rfl trivial rfl ?_)))))
   replace h := hD5 _ (some_eq h)
   exact Ends.j _ (some_eq h)
 ·
  subst hj4; have h := hK4; clear hK4
  obtain ⟨hn14, h⟩ := need_some h
  obtain ⟨v3, hv15, h⟩ := bnd_some h
  refine .nameRow (t := 9) (g := 5009) rfl rfl rfl (fun s5009 => (.nameRow (t := 10) (g := 5010) rfl rfl rfl (fun s5010 => (.sr [oo, oo, ([5010, 5009], [5010]), oo, ([5002], [5002])] mx (.mvA rfl (.mvA rfl (.cW (.re hv15 (.appendFz (k := 5010) (k2 := 5009) rk22 (.s rfl) rfl (.s rfl) rfl hn14 (by decide) inferInstance)) (.cA (.fieldPtr .none fd25_0 (.s rfl)) (.cN (.storeAt (g := 5002) ty22 rfl (.s rfl) sf25_0 (.s rfl)) (.nil (.freezeAt (g := 5010) (S := rep j_4.2) (ts := [10]) rfl (.cons (t := 10) rfl trivial .nil) (.k2 5001 5002 rfl rfl (.k 5009 rfl .nil)) rfl (fun M D w h hms => frzVal M D _ w h hms) ?_)))))))))))
  obtain ⟨out1, hv16, h⟩ := bnd_some h
  refine .reB (t := 5002) rfl (congrArg (fun y => boxAt m5002 25 y) hv16) (.seq (.sn mx (.mv rfl (.nil ?_))))
  obtain ⟨j_17, h, hK17⟩ := bind_some h
  refine .thenJ (ι := Doc) (fun j_17 => []) (fun j_17 => [(5002, some (boxAt m5002 25 j_17))]) (fun s => j_17 = s) (.k2 6 7 rfl rfl .nil) (.k 5001 rfl .nil) ?_ (fun j_17' hj17 => ?_)
  ·
   refine .cb rfl h (fun _ h => ?_) fun _ h => ?_
   ·
    obtain ⟨hn19, h⟩ := need_some h
    obtain ⟨v4, hv20, h⟩ := bnd_some h
    exact .rg [oo, oo, ([5009], [5009]), oo, ([5002], [5002])] mx (.mvA rfl (.mvA rfl (.cW (.re hv20 (.appendFz2 (k := 5009) rk22 (.s rfl) rfl (.s rfl) hn19 inferInstance)) (.cA (.fieldPtr .none fd25_0 (.s rfl)) (.cN (.storeAt (g := 5002) ty22 rfl (.s rfl) sf25_0 (.s rfl)) (.nil (Ends.j _ (some_eq h))))))))
   ·
    exact .skip (Ends.j _ (some_eq h))
  ·
   subst hj17; have h := hK17; clear hK17
   refine .freezeBox (g := 5002) (ts := [7]) rfl (.cons (t := 7) rfl trivial .nil) (.k 5001 rfl .nil) rfl (.sr [oo, ([5001], [5001])] mx (.ldA ty25 rfl (.s0 5001 ty25 rfl rfl rfl (.nil (.fb 5001 [6] rfl (.cons (t := 6) rfl trivial .nil) (.ret ?_))))))
   obtain rfl := some_eq h
   exact Ends.ret1 (.inl rfl) Tryz.results47 (ResOK.cellR ty25 rfl trivial Imp.refl)

theorem law_ChangesMatch_ok {d1 : Doc} {ids1 : (List Str)} {id1 : Str} {back1 : Bool} {end1 : Str} {dx1 : Int} {dy1 : Int} {r : Bool}  (h : law_ChangesMatch d1 ids1 id1 back1 end1 dx1 dy1 = some r) : FSpec Tryz.prog 4 [rep d1, rep ids1, rep id1, rep back1, rep end1, rep dx1, rep dy1] (rep r) := by
 unfold law_ChangesMatch at h
 obtain ⟨own1, hv1, h⟩ := bind_some h
 obtain ⟨r1, hv2, h⟩ := bind_some h
 obtain ⟨r2, hv3, h⟩ := bind_some h
 obtain ⟨r3, hv4, h⟩ := bind_some h
 obtain ⟨r4, hv5, h⟩ := bind_some h
 obtain ⟨r5, hv6, h⟩ := bind_some h
 refine FSpec.i Tryz.func4 rfl Tryz.ntmps4 rfl (fun F => (.sn mx (.c (.box .none (.s rfl)) (.asb (.nil (.sn mx (.ld ty25 rfl (.mv rfl (.c (.call .none (law_selected_ok hv1) (.cons (.s rfl) (.cons (.s rfl) .nil))) (.asn rfl (.nil (.sr [oo, oo, oo, oo, oo, oo, oo, ([], [16]), ([16], [16]), oo] mx (.ldA ty25 rfl (.mvA rfl (.mvA rfl (.cA (.call .none (page_Front_ok hv2) (.cons (.s rfl) (.cons (.s rfl) (.cons (.s rfl) .nil)))) (.mvA rfl (.exA rfl rfl (.exA rfl rfl (.al zo25 rfl (.st ty25 rfl rfl rfl (.asnA rfl (.nil (.freeze (t := 16) rfl rfl SubB.nil rfl (.sr [oo, oo, oo, oo, oo, oo, oo, ([], [18]), ([18], [18]), oo] mx (.ldA ty25 rfl (.mvA rfl (.mvA rfl (.cA (.call .none (page_Group_ok hv3) (.cons (.s rfl) (.cons (.s rfl) (.cons (.s rfl) .nil)))) (.mvA rfl (.exA rfl rfl (.exA rfl rfl (.al zo25 rfl (.st ty25 rfl rfl rfl (.asnA rfl (.nil (.freeze (t := 18) rfl rfl SubB.nil rfl (.sr [oo, oo, oo, oo, oo, oo, ([], [20]), ([20], [20]), oo] mx (.ldA ty25 rfl (.mvA rfl (.cA (.call .none (page_Delete_ok hv4) (.cons (.s rfl) (.cons (.s rfl) .nil))) (.mvA rfl (.exA rfl rfl (.exA rfl rfl (.al zo25 rfl (.st ty25 rfl rfl rfl (.asnA rfl (.nil (.freeze (t := 20) rfl rfl SubB.nil rfl (.sr [oo, oo, oo, oo, oo, oo, oo, oo, oo, ([], [22]), ([22], [22]), oo] mx (.ldA ty25 rfl (.mvA rfl (.mvA rfl (.mvA rfl (.mvA rfl (.cA (.call .none (page_Copy_ok hv5) (.cons (.s rfl) (.cons (.s rfl) (.cons (.s rfl) (.cons (.s rfl) (.cons (.s rfl) .nil)))))) (.mvA rfl (.exA rfl rfl (.exA rfl rfl (.al zo25 rfl (.st ty25 rfl rfl rfl (.asnA rfl (.nil (.freeze (t := 22) rfl rfl SubB.nil rfl (.seq (.sn mx (.c (.call .none (law_pages_ok hv6) .nil) (.c (.not .none (.s rfl)) (.mv rfl (.mg rfl rfl rfl (.c (.neI (.at rfl rfl) (.tmp rfl id) .i) (.po rfl rfl ?_))))))))))))))))))))))))))))))))))))))))))))))))))))))))))))))))))))))))
 refine .nil (.cb rfl h (fun _ h => ?_) fun _ h => ?_)
 ·
  obtain ⟨r6, hv8, h⟩ := bind_some h
  obtain ⟨r7, hv9, h⟩ := bind_some h
  refine .sn mx (.c (.call .none (law_pages_ok hv8) .nil) (.mv rfl (.c (.load (.at rfl rfl) ty25 (.s rfl)) (.mg rfl rfl rfl (.mg rfl rfl rfl (.c (.load (.at rfl rfl) ty25 (.s rfl)) (.c (.callIf (.at rfl rfl) fnok43 (fun hg => law_docIs_ok ((fun hg => gd_some hv9 (hg.2)) hg)) (.cons (.tmp rfl id) (.cons (.tmp rfl id) (.cons (.tmp rfl id) (.cons (.tmp rfl id) .nil)))) (fun h => h)) ?_)))))))
  obtain ⟨r8, hv10, h⟩ := bind_some h
  refine .pa rfl rfl (.mv rfl (.c (.load (.at rfl rfl) ty25 (.s rfl)) (.mg rfl rfl rfl (.mg rfl rfl rfl (.c (.load (.at rfl rfl) ty25 (.s rfl)) (.c (.callIf (.at rfl rfl) fnok43 (fun hg => law_docIs_ok ((fun hg => gd_some hv10 (hg.2)) hg)) (.cons (.tmp rfl id) (.cons (.tmp rfl id) (.cons (.tmp rfl id) (.cons (.tmp rfl id) .nil)))) (fun h => h)) ?_))))))
  obtain ⟨r9, hv11, h⟩ := bind_some h
  refine .pa rfl rfl (.mv rfl (.c (.load (.at rfl rfl) ty25 (.s rfl)) (.mg rfl rfl rfl (.mg rfl rfl rfl (.c (.load (.at rfl rfl) ty25 (.s rfl)) (.c (.callIf (.at rfl rfl) fnok43 (fun hg => law_docIs_ok ((fun hg => gd_some hv11 (hg.2)) hg)) (.cons (.tmp rfl id) (.cons (.tmp rfl id) (.cons (.tmp rfl id) (.cons (.tmp rfl id) .nil)))) (fun h => h)) ?_))))))
  obtain ⟨r10, hv12, h⟩ := bind_some h
  refine .pa rfl rfl (.mv rfl (.c (.load (.at rfl rfl) ty25 (.s rfl)) (.mg rfl rfl rfl (.mg rfl rfl rfl (.c (.load (.at rfl rfl) ty25 (.s rfl)) (.c (.callIf (.at rfl rfl) fnok43 (fun hg => law_docIs_ok ((fun hg => gd_some hv12 (hg.2)) hg)) (.cons (.tmp rfl id) (.cons (.tmp rfl id) (.cons (.tmp rfl id) (.cons (.tmp rfl id) .nil)))) (fun h => h)) (.pa rfl rfl (.asn rfl (.nil (.ret (.thenRet ?_)))))))))))
  obtain rfl := some_eq h
  exact Ends.rt Tryz.results4 rfl
 ·
  obtain ⟨r11, hv13, h⟩ := bind_some h
  obtain ⟨r12, hv14, h⟩ := bind_some h
  obtain ⟨r13, hv15, h⟩ := bind_some h
  obtain ⟨r14, hv16, h⟩ := bind_some h
  obtain ⟨r15, hv17, h⟩ := bind_some h
  obtain ⟨r16, hv18, h⟩ := bind_some h
  refine .skip (.then (.sr [oo, oo, oo, oo, oo, oo, oo, ([], [24]), ([24], [24]), oo] mx (.ldA ty25 rfl (.mvA rfl (.mvA rfl (.cA (.call .none (ref_GroupOf_ok hv13) (.cons (.s rfl) (.cons (.s rfl) (.cons (.s rfl) .nil)))) (.mvA rfl (.exA rfl rfl (.exA rfl rfl (.al zo25 rfl (.st ty25 rfl rfl rfl (.asnA rfl (.nil (.freeze (t := 24) rfl rfl SubB.nil rfl (.sr [oo, oo, oo, oo, oo, oo, ([], [26]), ([26], [26]), oo] mx (.ldA ty25 rfl (.mvA rfl (.cA (.call .none (ref_DeleteOf_ok hv14) (.cons (.s rfl) (.cons (.s rfl) .nil))) (.mvA rfl (.exA rfl rfl (.exA rfl rfl (.al zo25 rfl (.st ty25 rfl rfl rfl (.asnA rfl (.nil (.freeze (t := 26) rfl rfl SubB.nil rfl (.sr [oo, oo, oo, oo, oo, oo, oo, oo, oo, ([], [28]), ([28], [28]), oo] mx (.ldA ty25 rfl (.mvA rfl (.mvA rfl (.mvA rfl (.mvA rfl (.cA (.call .none (ref_CopyOf_ok hv15) (.cons (.s rfl) (.cons (.s rfl) (.cons (.s rfl) (.cons (.s rfl) (.cons (.s rfl) .nil)))))) (.mvA rfl (.exA rfl rfl (.exA rfl rfl (.al zo25 rfl (.st ty25 rfl rfl rfl (.asnA rfl (.nil (.freeze (t := 28) rfl rfl SubB.nil rfl (.sn mx (.ld ty25 rfl (.mv rfl (.ld ty25 rfl (.mv rfl (.mv rfl (.c (.call .none (ref_FrontOf_ok hv16) (.cons (.s rfl) (.cons (.s rfl) (.cons (.s rfl) .nil)))) (.c (.call .none (law_docIs_ok hv17) (.cons (.s rfl) (.cons (.s rfl) (.cons .i (.cons (.s rfl) .nil))))) (.mv rfl (.c (.load (.at rfl rfl) ty25 (.s rfl)) (.mg rfl rfl rfl (.mg rfl rfl rfl (.c (.load (.at rfl rfl) ty25 (.s rfl)) (.c (.callIf (.at rfl rfl) fnok43 (fun hg => law_docIs_ok ((fun hg => gd_some hv18 (hg.2)) hg)) (.cons (.tmp rfl id) (.cons (.tmp rfl id) (.cons (.tmp rfl id) (.cons (.tmp rfl id) .nil)))) (fun h => h)) ?_)))))))))))))))))))))))))))))))))))))))))))))))))))))))
  obtain ⟨r17, hv19, h⟩ := bind_some h
  refine .pa rfl rfl (.mv rfl (.c (.load (.at rfl rfl) ty25 (.s rfl)) (.mg rfl rfl rfl (.mg rfl rfl rfl (.c (.load (.at rfl rfl) ty25 (.s rfl)) (.c (.callIf (.at rfl rfl) fnok43 (fun hg => law_docIs_ok ((fun hg => gd_some hv19 (hg.2)) hg)) (.cons (.tmp rfl id) (.cons (.tmp rfl id) (.cons (.tmp rfl id) (.cons (.tmp rfl id) .nil)))) (fun h => h)) ?_))))))
  obtain ⟨r18, hv20, h⟩ := bind_some h
  refine .pa rfl rfl (.mv rfl (.c (.load (.at rfl rfl) ty25 (.s rfl)) (.mg rfl rfl rfl (.mg rfl rfl rfl (.c (.load (.at rfl rfl) ty25 (.s rfl)) (.c (.callIf (.at rfl rfl) fnok43 (fun hg => law_docIs_ok ((fun hg => gd_some hv20 (hg.2)) hg)) (.cons (.tmp rfl id) (.cons (.tmp rfl id) (.cons (.tmp rfl id) (.cons (.tmp rfl id) .nil)))) (fun h => h)) (.pa rfl rfl (.asn rfl (.nil (.ret ?_))))))))))
  obtain rfl := some_eq h
  exact Ends.rt Tryz.results4 rfl


end Go.Proofs.YtclcheggnlhamaaGreatDoor
