/-
  The walks: what a function computes is what its plain function says (printed by a program of one's own).
-/
import Derived.Test.YtjkfpjpepjjhlaaRabWa1
set_option maxRecDepth 100000
set_option linter.unusedSimpArgs false
set_option linter.unusedVariables false
namespace Go.Proofs.Ytjkfpjpepjjhlaa
open Go Go.DB Go.RowKit

theorem ref_IsWay_ok {t1 : Task} {l1 : (List Point)} {r : Bool}  (h : ref_IsWay t1 l1 = some r) : FSpec Try.prog 14 [rep t1, rep l1] (rep r) := by
 unfold ref_IsWay at h
 obtain ⟨n1, hv1, h⟩ := bnd_some h
 obtain ⟨r1, hv2, h⟩ := bind_some h
 obtain ⟨hn3, h⟩ := need_some h
 obtain ⟨hn4, h⟩ := need_some h
 obtain ⟨r2, hv5, h⟩ := bind_some h
 refine FSpec.i Try.func14 rfl Try.ntmps14 rfl (fun F => (.sn mx (.c (.box .none (.s rfl)) (.asb (.nil (.sn mx (.mv rfl (.ln sl27 rfl (.ra hv1 rfl (.nil (.seq (.sn mx (.mv rfl (.c (.call .none (ref_IsRight_ok hv2) (.cons (.s rfl) .nil)) (.c (.not .none (.s rfl)) (.mv rfl (.mg rfl rfl rfl (.c (.indexAddr (.at rfl rfl) sl27 ty23 (.tmp rfl id) .i (fun hg => hn3 hg.2)) (.lg ty23 rfl rfl rfl (.fg fd26_0 hfd26_0 rfl rfl rfl (.lg ty23 rfl rfl rfl (.c (.neS (.at rfl rfl) eq23 (.tmp rfl id) (.tmp rfl id)) (.po rfl rfl (.mv rfl (.mg rfl rfl rfl (.mg rfl rfl rfl (.c (.subW (.at rfl rfl) (.tmp rfl id) .i) (.c (.indexAddr (.at rfl rfl) sl27 ty23 (.tmp rfl id) (.tmp rfl id) (fun hg => hn4 hg.2)) (.lg ty23 rfl rfl rfl (.fg fd26_2 hfd26_2 rfl rfl rfl (.lg ty23 rfl rfl rfl (.c (.neS (.at rfl rfl) eq23 (.tmp rfl id) (.tmp rfl id)) (.po rfl rfl (.mv rfl (.mg rfl rfl rfl (.c (.callIf (.at rfl rfl) fnok44 (fun hg => ref_TidyOf_ok ((fun hg => gd_some hv5 ((notT hg.2))) hg)) (.cons (.tmp rfl id) .nil) (fun h => h)) ?_))))))))))))))))))))))))))))))))))))
 obtain ⟨r3, hv6, h⟩ := bind_some h
 refine .mg rfl rfl rfl (.c (.callIf (.at rfl rfl) fnok21 (fun hg => slices_Equal_Point_ok ((fun hg => gd_some hv6 ((notT hg.2))) hg)) (.cons (.tmp rfl id) (.cons (.tmp rfl id) .nil)) (fun h => h)) (.c (.not (.at rfl rfl) (.tmp rfl id)) (.po rfl rfl (.nil (.cb rfl h (fun _ h => ?_) fun _ h => ?_)))))
 ·
  refine .sn mx (.asb (.nil (.ret (.thenRet ?_))))
  obtain rfl := some_eq h
  exact Ends.rt Try.results14 rfl
 ·
  refine .skip (.then (.seq (.sn mx (.asi (.nil ?_)))))
  obtain ⟨o_8, h, hK8⟩ := bindR_some h
  refine .tJ (fun s => o_8 = Res.nx s) (.k2 1 2 rfl rfl (.k 5 rfl .nil)) SubB.nil ?_ (fun j_8 hj8 => ?_)
  ·
   refine .block (.loopL h (fun s9_ => [(6, ⟨True, rep s9_⟩)]) (fun s9_ => []) (.k 6 rfl .nil) SubB.nil (.k2 1 2 rfl rfl (.k 5 rfl .nil)) SubB.nil (fun s9_ o_9 h hD9 => ?_))
   unfold ref_IsWay_L1 at h
   refine .seq (.sn mx (.mv rfl (.adi rfl (.mv rfl (.lt rfl rfl (.nil (.cb rfl h (fun _ h => ?_) fun _ h => ?_)))))))
   ·
    obtain ⟨hn11, h⟩ := need_some h
    obtain ⟨hn12, h⟩ := need_some h
    obtain ⟨hn13, h⟩ := need_some h
    obtain ⟨hn14, h⟩ := need_some h
    refine .skip (.then (.seq (.block (.sn mx (.mv rfl (.mv rfl (.c (.subW .none (.s rfl) .i) (.ix sl27 ty23 rfl rfl hn11 (.fa fd23_0 hfd23_0 rfl (.ld ty3 rfl (.mv rfl (.mv rfl (.ix sl27 ty23 rfl rfl hn12 (.fa fd23_0 hfd23_0 rfl (.ld ty3 rfl (.c (.eqI .none (.s rfl) (.s rfl)) (.mv rfl (.mv rfl (.ix sl27 ty23 rfl rfl hn13 (.fa fd23_0 hfd23_0 rfl (.ld ty3 rfl (.mv rfl (.mv rfl (.adi rfl (.ix sl27 ty23 rfl rfl hn14 (.fa fd23_0 hfd23_0 rfl (.ld ty3 rfl (.c (.eqI .none (.s rfl) (.s rfl)) (.c (.eqS .none (eqAt_bool Try.underlying4) (.s rfl) (.s rfl)) (.nil (.cb rfl h (fun _ h => ?_) fun _ h => ?_)))))))))))))))))))))))))))))))
    ·
     refine .sn mx (.asb (.nil (.ret (.blkRet (.thenRet (.thenRet (.blkRet (.thenRet ?_))))))))
     replace h := hD9 _ (some_eq h)
     replace h := resb_ab hK8 (some_eq h)
     obtain rfl := some_eq h
     exact Ends.rt Try.results14 rfl
    ·
     obtain ⟨i1, hv16, h⟩ := bnd_some h
     exact .skip (.blkNormal (.then (.rn mx (.mv rfl (.adi rfl (.ra hv16 rfl (.nil (Ends.ag (some_eq h)))))))))
   ·
    refine .exit (.thenExit (.thenExit (.blkExit ?_)))
    replace h := hD9 _ (some_eq h)
    exact Ends.j _ (some_eq h)
  ·
   have h := resb_nx hK8 hj8
   obtain ⟨r4, hv17, h⟩ := bind_some h
   obtain ⟨hn18, h⟩ := need_some h
   obtain ⟨hn19, h⟩ := need_some h
   obtain ⟨r5, hv20, h⟩ := bind_some h
   obtain ⟨r6, hv21, h⟩ := bind_some h
   obtain ⟨hn22, h⟩ := need_some h
   obtain ⟨hn23, h⟩ := need_some h
   obtain ⟨r7, hv24, h⟩ := bind_some h
   refine .sr [oo, oo, oo, ([], [7]), ([7], [7])] mx (.faA fd26_3 hfd26_3 rfl (.ldA ty3 rfl (.cA (.call .none (ref_toward_ok hv17) (.cons (.s rfl) .nil)) (.al zo23 rfl (.st ty23 rfl rfl rfl (.nil (.freeze (t := 7) rfl rfl SubB.nil rfl (.seq (.sn mx (.mv rfl (.c (.indexAddr .none sl27 ty23 (.s rfl) .i (fun _ => hn18)) (.ld ty23 rfl (.mv rfl (.c (.indexAddr .none sl27 ty23 (.s rfl) .i (fun _ => hn19)) (.ld ty23 rfl (.c (.call .none (ref_way_ok hv20) (.cons (.s rfl) (.cons (.s rfl) .nil))) (.fa fd26_1 hfd26_1 rfl (.ld ty3 rfl (.c (.call .none (ref_toward_ok hv21) (.cons (.s rfl) .nil)) (.c (.neS .none eq23 (.s rfl) (.s rfl)) (.mv rfl (.mg rfl rfl rfl (.mg rfl rfl rfl (.c (.subW (.at rfl rfl) (.tmp rfl id) .i) (.c (.indexAddr (.at rfl rfl) sl27 ty23 (.tmp rfl id) (.tmp rfl id) (fun hg => hn22 hg.2)) (.lg ty23 rfl rfl rfl (.mg rfl rfl rfl (.mg rfl rfl rfl (.c (.subW (.at rfl rfl) (.tmp rfl id) .i) (.c (.indexAddr (.at rfl rfl) sl27 ty23 (.tmp rfl id) (.tmp rfl id) (fun hg => hn23 hg.2)) (.lg ty23 rfl rfl rfl (.c (.callIf (.at rfl rfl) fnok46 (fun hg => ref_way_ok ((fun hg => gd_some hv24 ((notT hg.2))) hg)) (.cons (.tmp rfl id) (.cons (.tmp rfl id) .nil)) (fun h => h)) (.c (.load (.at rfl rfl) ty23 (.s rfl)) (.c (.neS (.at rfl rfl) eq23 (.tmp rfl id) (.tmp rfl id)) (.po rfl rfl (.nil (.cb rfl h (fun _ h => ?_) fun _ h => ?_)))))))))))))))))))))))))))))))))))))
   ·
    refine .sn mx (.asb (.nil (.ret (.thenRet ?_))))
    obtain rfl := some_eq h
    exact Ends.rt Try.results14 rfl
   ·
    obtain ⟨hn26, h⟩ := need_some h
    obtain ⟨hn27, h⟩ := need_some h
    obtain ⟨r8, hv28, h⟩ := bind_some h
    refine .skip (.then (.seq (.sn mx (.mv rfl (.eqi rfl (.mv rfl (.mg rfl rfl rfl (.c (.indexAddr (.at rfl rfl) sl27 ty23 (.tmp rfl id) .i (fun hg => hn26 hg.2)) (.lg ty23 rfl rfl rfl (.mg rfl rfl rfl (.c (.indexAddr (.at rfl rfl) sl27 ty23 (.tmp rfl id) .i (fun hg => hn27 hg.2)) (.lg ty23 rfl rfl rfl (.c (.callIf (.at rfl rfl) fnok47 (fun hg => ref_Far_ok ((fun hg => gd_some hv28 (hg.2)) hg)) (.cons (.tmp rfl id) (.cons (.tmp rfl id) .nil)) (fun h => h)) ?_)))))))))))))
    obtain ⟨hn29, h⟩ := need_some h
    obtain ⟨hn30, h⟩ := need_some h
    obtain ⟨r9, hv31, h⟩ := bind_some h
    refine .fg fd26_5 hfd26_5 rfl rfl rfl (.lg ty3 rfl rfl rfl (.c (.mulW (.at rfl rfl) .i (.tmp rfl id)) (.c (.lt (.at rfl rfl) (.tmp rfl id) (.tmp rfl id)) (.pa rfl rfl (.mv rfl (.mg rfl rfl rfl (.c (.indexAddr (.at rfl rfl) sl27 ty23 (.tmp rfl id) .i (fun hg => hn29 hg.2)) (.lg ty23 rfl rfl rfl (.mg rfl rfl rfl (.c (.indexAddr (.at rfl rfl) sl27 ty23 (.tmp rfl id) .i (fun hg => hn30 hg.2)) (.lg ty23 rfl rfl rfl (.c (.callIf (.at rfl rfl) fnok47 (fun hg => ref_Far_ok ((fun hg => gd_some hv31 ((notT hg.2))) hg)) (.cons (.tmp rfl id) (.cons (.tmp rfl id) .nil)) (fun h => h)) ?_))))))))))))
    obtain ⟨hn32, h⟩ := need_some h
    obtain ⟨hn33, h⟩ := need_some h
    obtain ⟨r10, hv34, h⟩ := bind_some h
    refine .fg fd26_5 hfd26_5 rfl rfl rfl (.lg ty3 rfl rfl rfl (.c (.lt (.at rfl rfl) (.tmp rfl id) (.tmp rfl id)) (.po rfl rfl (.mv rfl (.mg rfl rfl rfl (.mg rfl rfl rfl (.c (.subW (.at rfl rfl) (.tmp rfl id) .i) (.c (.indexAddr (.at rfl rfl) sl27 ty23 (.tmp rfl id) (.tmp rfl id) (fun hg => hn32 hg.2)) (.lg ty23 rfl rfl rfl (.mg rfl rfl rfl (.mg rfl rfl rfl (.c (.subW (.at rfl rfl) (.tmp rfl id) .i) (.c (.indexAddr (.at rfl rfl) sl27 ty23 (.tmp rfl id) (.tmp rfl id) (fun hg => hn33 hg.2)) (.lg ty23 rfl rfl rfl (.c (.callIf (.at rfl rfl) fnok47 (fun hg => ref_Far_ok ((fun hg => gd_some hv34 ((notT hg.2))) hg)) (.cons (.tmp rfl id) (.cons (.tmp rfl id) .nil)) (fun h => h)) (.fg fd26_5 hfd26_5 rfl rfl rfl (.lg ty3 rfl rfl rfl (.c (.lt (.at rfl rfl) (.tmp rfl id) (.tmp rfl id)) (.po rfl rfl (.nil (.cb rfl h (fun _ h => ?_) fun _ h => ?_)))))))))))))))))))))
    ·
     refine .sn mx (.asb (.nil (.ret (.thenRet ?_))))
     obtain rfl := some_eq h
     exact Ends.rt Try.results14 rfl
    ·
     obtain ⟨r11, hv36, h⟩ := bind_some h
     obtain ⟨hn37, h⟩ := need_some h
     obtain ⟨v1, hv38, h⟩ := bnd_some h
     refine .skip (.then (.sn mx (.ld ty26 rfl (.c (.call .none (ref_gridLines_ok hv36) (.cons (.s rfl) .nil)) (.mv rfl (.ex rfl rfl (.ex rfl rfl (.asn rfl (.asn rfl (.nil (.seq (.sn mx (.mv rfl (.mv rfl (.c (.subW .none (.s rfl) .i) (.c (.re hv38 (.slice .none sl27 ty23 (.s rfl) .i (.s rfl) (fun _ => hn37))) (.ln sl27 rfl (.mvi (.nil ?_)))))))))))))))))))
     obtain ⟨o_39, h, hK39⟩ := bindR_some h
     refine .tJ (fun s => o_39 = Res.nx s) (.k2 1 2 rfl rfl (.k 5 rfl .nil)) SubB.nil ?_ (fun j_39 hj39 => ?_)
     ·
      refine .block (.rforEL h (fun p40_ => [(161, ⟨True, rep p40_.1⟩)]) (fun p40_ => []) (.k 161 rfl .nil) SubB.nil (.k4 1 2 5 8 rfl rfl rfl rfl (.k2 9 159 rfl rfl (.k 160 rfl .nil))) SubB.nil (fun p40_ o_40 h hD40 => (.sn mx (.lt rfl rfl (.nil (.seq (.cb rfl h (fun _ h => ?_) fun _ h => ?_)))))))
      ·
       refine .skip (.then (.seq ?_))
       obtain ⟨o_42, h, hK42⟩ := bindD_some h
       unfold ref_IsWay_L2 at h
       refine .tJ (fun s => o_42 = Res.nx s) (.k4 1 2 5 8 rfl rfl rfl rfl (.k4 9 159 160 161 rfl rfl rfl rfl .nil)) SubB.nil ?_ (fun j_42 hj42 => ?_)
       ·
        obtain ⟨hn43, h⟩ := need_some h
        obtain ⟨v2, hv44, h⟩ := bnd_some h
        obtain ⟨r12, hv45, h⟩ := bind_some h
        obtain ⟨r13, hv46, h⟩ := bind_some h
        refine .block (.sr [oo, oo, ([], [11]), ([11], [11])] mx (.ixA sl27 ty23 rfl rfl hn43 (.rlA hv44 ty23 rfl (.al zo23 rfl (.st ty23 rfl rfl rfl (.nil (.freeze (t := 11) rfl rfl SubB.nil rfl (.sn mx (.mv rfl (.fa fd23_0 hfd23_0 rfl (.ld ty3 rfl (.c (.call .none (slices_BinarySearch_int_ok hv45) (.cons (.s rfl) (.cons (.s rfl) .nil))) (.mv rfl (.ex rfl rfl (.ex rfl rfl (.asn rfl (.asn rfl (.nil (.sn mx (.mv rfl (.fa fd23_1 hfd23_1 rfl (.ld ty3 rfl (.c (.call .none (slices_BinarySearch_int_ok hv46) (.cons (.s rfl) (.cons (.s rfl) .nil))) (.mv rfl (.ex rfl rfl (.ex rfl rfl (.asn rfl (.asn rfl (.nil (.sn mx (.mv rfl (.c (.not .none (.s rfl)) (.mv rfl (.mg rfl rfl rfl (.c (.not (.at rfl rfl) (.tmp rfl id)) (.po rfl rfl (.nil (.cb rfl h (fun _ h => ?_) fun _ h => ?_))))))))))))))))))))))))))))))))))))))
        ·
         refine .sn mx (.asb (.nil (.ret (.blkRet (.thenRet (.thenRet (.blkRet (.thenRet ?_))))))))
         replace h := resd_ab hK42 (some_eq h)
         replace h := hD40 _ (some_eq h)
         replace h := resb_ab hK39 (some_eq h)
         obtain rfl := some_eq h
         exact Ends.rt Try.results14 rfl
        ·
         exact .skip (.blkNormal (Ends.j _ (some_eq h)))
       ·
        have h := resd_nx hK42 hj42
        exact .rn mx (.adi rfl (.mv rfl (.nil (Ends.ag (some_eq h)))))
      ·
       refine .exit (.thenExit (.thenExit (.blkExit ?_)))
       replace h := hD40 _ (some_eq h)
       exact Ends.j _ (some_eq h)
     ·
      have h := resb_nx hK39 hj39
      obtain ⟨m1, hv48, h⟩ := bind_some h
      obtain ⟨r14, hv49, h⟩ := bind_some h
      obtain ⟨hn50, h⟩ := need_some h
      obtain ⟨hn51, h⟩ := need_some h
      refine .sr [oo, ([], [187]), ([187], [16, 187])] mx (.mvA rfl (.cW (.cO [] (slices_Clone_Point_ok hv48) (.cons (.s rfl) .nil) .nil rfl) (.cW (.passRow rfl (.tmp rfl)) (.nil (.nameRow (t := 16) (g := 5001) rfl rfl rfl (fun s5001 => (.sr [oo, oo, oo, oo, oo, oo, oo, oo, oo, ([5001], []), ([5001], [5001]), ([5001], []), ([5001], [5001])] mx (.mvA rfl (.mvA rfl (.mvA rfl (.cA (.subW .none (.s rfl) .i) (.ldA ty26 rfl (.cA (.call .none (ref_Ends_ok hv49) (.cons (.s rfl) .nil)) (.mvA rfl (.exA rfl rfl (.exA rfl rfl (.cA (.indexAddrO (k := 5001) .none sl27 ty23 (.s rfl) rfl .i (fun _ => hn50)) (.cN (.storeElem0 (k := 5001) ty23 (.s rfl) rfl (.s rfl) hn50) (.ixO 5001 sl27 ty23 rfl rfl rfl hn51 (.cN (.storeElem0 (k := 5001) ty23 (.s rfl) rfl (.s rfl) hn51) (.nil (.freezeRow (g := 5001) (ts := [16]) rfl (.cons (t := 16) rfl trivial .nil) SubB.nil rfl (.seq (.sn mx (.asi (.nil ?_))))))))))))))))))))))))))
      obtain ⟨o_52, h, hK52⟩ := bindR_some h
      refine .tJ (fun s => o_52 = Res.nx s) Sub.nil SubB.nil ?_ (fun j_52 hj52 => ?_)
      ·
       refine .block (.loopL h (fun s53_ => [(17, ⟨True, rep s53_⟩)]) (fun s53_ => []) (.k 17 rfl .nil) SubB.nil (.k2 2 5 rfl rfl (.k 16 rfl .nil)) SubB.nil (fun s53_ o_53 h hD53 => ?_))
       unfold ref_IsWay_L3 at h
       refine .seq (.sn mx (.mv rfl (.mv rfl (.lt rfl rfl (.nil (.cb rfl h (fun _ h => ?_) fun _ h => ?_))))))
       ·
        obtain ⟨hn55, h⟩ := need_some h
        obtain ⟨hn56, h⟩ := need_some h
        obtain ⟨r15, hv57, h⟩ := bind_some h
        refine .skip (.then (.seq (.block (.sn mx (.ld ty26 rfl (.mv rfl (.mv rfl (.c (.subW .none (.s rfl) .i) (.ix sl27 ty23 rfl rfl hn55 (.ld ty23 rfl (.mv rfl (.mv rfl (.ix sl27 ty23 rfl rfl hn56 (.ld ty23 rfl (.c (.call .none (ref_blocked_ok hv57) (.cons (.s rfl) (.cons (.s rfl) (.cons (.s rfl) .nil)))) (.nil (.cb rfl h (fun _ h => ?_) fun _ h => ?_)))))))))))))))))
        ·
         refine .sn mx (.asb (.nil (.ret (.blkRet (.thenRet (.thenRet (.blkRet (.thenRet ?_))))))))
         replace h := hD53 _ (some_eq h)
         replace h := resb_ab hK52 (some_eq h)
         obtain rfl := some_eq h
         exact Ends.rt Try.results14 rfl
        ·
         obtain ⟨i2, hv59, h⟩ := bnd_some h
         exact .skip (.blkNormal (.then (.rn mx (.mv rfl (.adi rfl (.ra hv59 rfl (.nil (Ends.ag (some_eq h)))))))))
       ·
        refine .exit (.thenExit (.thenExit (.blkExit ?_)))
        replace h := hD53 _ (some_eq h)
        exact Ends.j _ (some_eq h)
      ·
       have h := resb_nx hK52 hj52
       refine .sn mx (.asb (.nil (.ret ?_)))
       obtain rfl := some_eq h
       exact Ends.rt Try.results14 rfl

theorem ref_CheapestWay_1_ok {s1 : Ref_state} {c0_1 : (List Int)} {c1_1 : (List Int)} {r : Point}  (h : ref_CheapestWay_1 s1 c0_1 c1_1 = some r) : FSpec Try.prog 52 [rep s1, ref c0_1, ref c1_1] (rep r) := by
 unfold ref_CheapestWay_1 at h
 obtain ⟨v1, hv1, h⟩ := bnd_some h
 obtain ⟨hn2, h⟩ := need_some h
 obtain ⟨hn3, h⟩ := need_some h
 obtain ⟨v2, hv4, h⟩ := bnd_some h
 refine FSpec.i Try.func52 rfl Try.ntmps52 rfl (fun F => (.sr [oo, ([], [4])] mx (.cA (.box .none (.s rfl)) (.al zo23 rfl (.nil (.reB (t := 4) rfl (congrArg (cont 23) hv1) (.nameBox (t := 4) (g := 5001) rfl rfl (fun m5001 => (.sr [oo, oo, oo, oo, oo, oo, oo, oo, oo, oo, oo, ([5001], [5001])] mx (.ldA ty61 rfl (.faA fd88_0 hfd88_0 rfl (.ldA ty3 rfl (.ixA sl61 ty3 rfl rfl hn2 (.ldA ty3 rfl (.ldA ty61 rfl (.faA fd88_1 hfd88_1 rfl (.ldA ty3 rfl (.ixA sl61 ty3 rfl rfl hn3 (.ldA ty3 rfl (.cA (.re hv4 (.buildF (y := (⟨gx c0_1 s1.x, gx c1_1 s1.y⟩ : Point)) .none bu23 zc23 rfl (.cons (.s rfl) (.cons (.s rfl) .nil)) (.cons rfl sf23_0 (.cons rfl sf23_1 .nil)))) (.s0 5001 ty23 rfl rfl rfl (.nil (.fb 5001 [4] rfl (.cons (t := 4) rfl trivial .nil) (.ret ?_))))))))))))))))))))))))
 obtain rfl := some_eq h
 exact Ends.ret1 (.inl rfl) Try.results52 (ResOK.cellR ty23 rfl trivial Imp.refl)

theorem ref_CheapestWay_2_ok {p1 : Point} {way1 : Int} {c0_1 : (List Int)} {c1_1 : (List Int)} {r : Ref_state}  (h : ref_CheapestWay_2 p1 way1 c0_1 c1_1 = some r) : FSpec Try.prog 53 [rep p1, rep way1, ref c0_1, ref c1_1] (rep r) := by
 unfold ref_CheapestWay_2 at h
 obtain ⟨v1, hv1, h⟩ := bnd_some h
 obtain ⟨r1, hv2, h⟩ := bind_some h
 obtain ⟨r2, hv3, h⟩ := bind_some h
 obtain ⟨v2, hv4, h⟩ := bnd_some h
 refine FSpec.i Try.func53 rfl Try.ntmps53 rfl (fun F => (.sr [oo, ([], [6])] mx (.cA (.box .none (.s rfl)) (.al zo88 rfl (.nil (.reB (t := 6) rfl (congrArg (cont 88) hv1) (.nameBox (t := 6) (g := 5001) rfl rfl (fun m5001 => (.sn mx (.ld ty61 rfl (.fa fd23_0 hfd23_0 rfl (.ld ty3 rfl (.c (.call .none (slices_BinarySearch_int_ok hv2) (.cons (.s rfl) (.cons (.s rfl) .nil))) (.mv rfl (.ex rfl rfl (.ex rfl rfl (.asn rfl (.asn rfl (.nil (.sn mx (.ld ty61 rfl (.fa fd23_1 hfd23_1 rfl (.ld ty3 rfl (.c (.call .none (slices_BinarySearch_int_ok hv3) (.cons (.s rfl) (.cons (.s rfl) .nil))) (.mv rfl (.ex rfl rfl (.ex rfl rfl (.asn rfl (.asn rfl (.nil (.sr [oo, oo, oo, oo, ([5001], [5001])] mx (.mvA rfl (.mvA rfl (.mvA rfl (.cA (.re hv4 (.buildF (y := (⟨r1.1, r2.1, way1⟩ : Ref_state)) .none bu88 zc88 rfl (.cons (.s rfl) (.cons (.s rfl) (.cons (.s rfl) .nil))) (.cons rfl sf88_0 (.cons rfl sf88_1 (.cons rfl sf88_2 .nil))))) (.s0 5001 ty88 rfl rfl rfl (.nil (.fb 5001 [6] rfl (.cons (t := 6) rfl trivial .nil) (.ret ?_)))))))))))))))))))))))))))))))))))))))
 obtain rfl := some_eq h
 exact Ends.ret1 (.inl rfl) Try.results53 (ResOK.cellR ty88 rfl trivial Imp.refl)

set_option maxHeartbeats 4000000 in
theorem ref_CheapestWay_ok {t1 : Task} {r : (Int × Int × Bool)}  (h : ref_CheapestWay t1 = some r) : FSpec Try.prog 15 [rep t1] (tup [rep r.1, rep r.2.1, rep r.2.2]) := by
 unfold ref_CheapestWay at h
 obtain ⟨r1, hv1, h⟩ := bind_some h
 obtain ⟨r2, hv2, h⟩ := bind_some h
 refine FSpec.i Try.func15 rfl Try.ntmps15 rfl (fun F => (.sn mx (.c (.box .none (.s rfl)) (.asi (.asi (.asb (.nil (.sr [oo, oo, oo, oo, oo, ([], [5]), ([], [6]), ([5], [5]), ([6], [6])] mx (.ldA ty26 rfl (.cA (.call .none (ref_gridLines_ok hv1) (.cons (.s rfl) .nil)) (.mvA rfl (.exA rfl rfl (.exA rfl rfl (.al zo61 rfl (.al zo61 rfl (.st ty61 rfl rfl rfl (.st ty61 rfl rfl rfl (.nil (.freeze (t := 5) rfl rfl (.k 6 rfl .nil) rfl (.freeze (t := 6) rfl rfl SubB.nil rfl (.sr [oo, oo, oo, oo, oo, ([], [7]), ([], [8]), ([7], [7]), ([8], [8])] mx (.ldA ty26 rfl (.cA (.call .none (ref_Ends_ok hv2) (.cons (.s rfl) .nil)) (.mvA rfl (.exA rfl rfl (.exA rfl rfl (.al zo23 rfl (.al zo23 rfl (.st ty23 rfl rfl rfl (.st ty23 rfl rfl rfl (.nil (.freeze (t := 7) rfl rfl (.k 8 rfl .nil) rfl (.freeze (t := 8) rfl rfl SubB.nil rfl (.sn mx (.c (.makeFunc (ι := Ref_state × Point) (pre := fun i => (fun x0 => ref_CheapestWay_1 x0 r1.1 r1.2) i.1 = some i.2) (Ss := fun i => [rep i.1]) (S := fun i => rep i.2) .none fnok52 (fun i h => ref_CheapestWay_1_ok h) (.cons (.s rfl) (.cons (.s rfl) .nil))) (.asn rfl (.nil (.sn mx (.c (.makeFunc (ι := Point × Int × Ref_state) (pre := fun i => (fun x0 x1 => ref_CheapestWay_2 x0 x1 r1.1 r1.2) i.1 i.2.1 = some i.2.2) (Ss := fun i => [rep i.1, rep i.2.1]) (S := fun i => rep i.2.2) .none fnok53 (fun i h => ref_CheapestWay_2_ok h) (.cons (.s rfl) (.cons (.s rfl) .nil))) ?_)))))))))))))))))))))))))))))))))))))))
 obtain ⟨r3, hv3, h⟩ := bind_some h
 obtain ⟨r4, hv4, h⟩ := bind_some h
 refine .asn rfl (.nil (.seq (.sn mx (.ld ty26 rfl (.ld ty23 rfl (.ld ty23 rfl (.c (.call .none (ref_blocked_ok hv3) (.cons (.s rfl) (.cons (.s rfl) (.cons (.s rfl) .nil)))) (.mv rfl (.c (.load (.at rfl rfl) ty26 (.s rfl)) (.c (.load (.at rfl rfl) ty23 (.s rfl)) (.c (.load (.at rfl rfl) ty23 (.s rfl)) (.c (.callIf (.at rfl rfl) fnok51 (fun hg => ref_blocked_ok ((fun hg => gd_some hv4 ((notT hg.2))) hg)) (.cons (.tmp rfl id) (.cons (.tmp rfl id) (.cons (.tmp rfl id) .nil))) (fun h => h)) (.po rfl rfl (.nil (.cb rfl h (fun _ h => ?_) fun _ h => ?_)))))))))))))))
 ·
  refine .sn mx (.asi (.asi (.asb (.nil (.ret (.thenRet ?_))))))
  obtain rfl := some_eq h
  exact Ends.ret3 (.inl rfl) Try.results15 (ResOK.tmp rfl trivial Imp.refl) (ResOK.tmp rfl trivial Imp.refl) (ResOK.tmp rfl trivial Imp.refl)
 ·
  obtain ⟨r5, hv6, h⟩ := bind_some h
  obtain ⟨cost1, hv7, h⟩ := bnd_some h
  obtain ⟨queue1, hv8, h⟩ := bnd_some h
  refine .skip (.then (.sr [oo, oo, oo, oo, oo, ([], [11]), ([11], [11])] mx (.mvA rfl (.ldA ty23 rfl (.faA fd26_1 hfd26_1 rfl (.ldA ty3 rfl (.cA (.callV (r2.1, t1.FromSide, r5) .none (.s rfl) (fun _ => hv6) (.cons (.s rfl) (.cons (.s rfl) .nil))) (.al zo88 rfl (.st ty88 rfl rfl rfl (.nil (.freeze (t := 11) rfl rfl SubB.nil rfl (.sr [([], [52]), oo, ([52], [52]), ([52], [54, 52]), ([54], [12, 54])] mx (.cW (.makeMap (K := Ref_state) (V := Int) rfl) (.ldA ty88 rfl (.cN (.mapInsert (q := 52) mo91 rfl (.s rfl) .i) (.cW (.passRowM rfl (.tmp rfl)) (.cW (.passRow rfl (.tmp rfl)) (.nil (.reB (t := 12) rfl (congrArg mapV hv7) (.nameMap (t := 12) (g := 5001) rfl rfl rfl (fun s5001 => (.sr [oo, ([], [56]), ([56], [13, 56])] mx (.ldA ty88 rfl (.cW (.buildSliceO (xs := [_]) rfl sl92 ty88 hz88 (.cons (.s rfl) .nil) rfl (by decide)) (.cW (.passRow rfl (.tmp rfl)) (.nil (.reB (t := 13) rfl (congrArg (rowV 88) hv8) (.nameRow (t := 13) (g := 5002) rfl rfl rfl (fun s5002 => (.seq ?_))))))))))))))))))))))))))))))
  obtain ⟨j_9, h, hK9⟩ := bind_some h
  refine .thenJ (ι := (GMap Ref_state Int)) (fun j_9 => []) (fun j_9 => [(5001, some (CPred.at s5001 (mapV j_9)))]) (fun s => j_9 = s) (.k4 1 5 6 8 rfl rfl rfl rfl (.k2 10 12 rfl rfl .nil)) SubB.nil ?_ (fun j_9' hj9 => ?_)
  ·
   refine .block (.anon (t := 13) (g := 5002) rfl rfl trivial rfl (.loopL h (fun s10_ => []) (fun s10_ => [(13, some (rowV 88 s10_.1)), (5001, some (CPred.at s5001 (mapV s10_.2)))]) Sub.nil (.k2 13 5001 rfl rfl .nil) (.k4 1 5 6 8 rfl rfl rfl rfl (.k2 9 10 rfl rfl (.k 12 rfl .nil))) SubB.nil (fun s10_ o_10 h hD10 => ?_)))
   unfold ref_CheapestWay_L1 at h
   refine .nameRow (t := 13) (g := 5003) rfl rfl rfl (fun s5003 => (.seq (.sr [oo, ([5003], []), oo] mx (.mvA rfl (.cA (.lenO (k := 5003) sl92 (.told (.s rfl) rfl)) (.cA (.gt .none (.s rfl) .i) (.nil (.cb rfl h (fun _ h => ?_) fun _ h => ?_))))))))
   ·
    obtain ⟨hn12, h⟩ := need_some h
    obtain ⟨v1, hv13, h⟩ := bnd_some h
    obtain ⟨hn14, h⟩ := need_some h
    obtain ⟨queue2, hv15, h⟩ := bnd_some h
    refine .skip (.then (.block (.sr [oo, ([5003], []), ([5003], []), ([], [14]), ([14], [14])] mx (.mvA rfl (.cA (.indexAddrO (k := 5003) .none sl92 ty88 (.s rfl) rfl .i (fun _ => hn12)) (.cA (.re hv13 (.loadElem0 (k := 5003) .none ty88 (.s rfl) rfl (fun _ => hn12))) (.al zo88 rfl (.st ty88 rfl rfl rfl (.nil (.freeze (t := 14) rfl rfl (.k2 5001 5003 rfl rfl .nil) rfl (.sr [oo, ([5003], [64, 5003]), ([64], [13, 64])] mx (.mvA rfl (.cW (.sliceRow (k := 5003) sl92 ty88 rfl (.s rfl) rfl .i rfl hn14) (.cW (.passRow rfl (.tmp rfl)) (.nil (.reB (t := 13) rfl (congrArg (rowV 88) hv15) (.nameRow (t := 13) (g := 5004) rfl rfl rfl (fun s5004 => (.sn mx (.asi (.nil (.block (.anon (t := 13) (g := 5004) rfl rfl trivial rfl (.loopL h (fun s16_ => [(15, ⟨True, rep s16_.2.1⟩)]) (fun s16_ => [(13, some (rowV 88 s16_.1)), (5001, some (CPred.at s5001 (mapV s16_.2.2)))]) (.k 15 rfl .nil) (.k2 13 5001 rfl rfl .nil) (.k4 1 5 6 8 rfl rfl rfl rfl (.k4 9 10 12 14 rfl rfl rfl rfl .nil)) SubB.nil (fun s16_ o_16 h hD16 => ?_)))))))))))))))))))))))))
    unfold ref_CheapestWay_L2 at h
    refine .nameRow (t := 13) (g := 5005) rfl rfl rfl (fun s5005 => (.seq (.sn mx (.mv rfl (.c (.le .none (.s rfl) .i) (.nil (.cb rfl h (fun _ h => ?_) fun _ h => ?_)))))))
    ·
     refine .skip (.then (.seq ?_))
     obtain ⟨j_18, h, hK18⟩ := bind_some h
     refine .thenJ (ι := ((List Ref_state) × (GMap Ref_state Int))) (fun j_18 => []) (fun j_18 => [(13, some (rowV 88 j_18.1)), (5001, some (CPred.at s5001 (mapV j_18.2)))]) (fun s => j_18 = s) (.k4 1 5 6 8 rfl rfl rfl rfl (.k4 9 10 12 14 rfl rfl rfl rfl (.k 15 rfl .nil))) SubB.nil ?_ (fun j_18' hj18 => ?_)
     ·
      obtain ⟨r6, hv19, h⟩ := bind_some h
      refine .block (.sr [oo, oo, ([], [16]), ([16], [16])] mx (.mvA rfl (.cA (.call .none (ref_toward_ok hv19) (.cons (.s rfl) .nil)) (.al zo23 rfl (.st ty23 rfl rfl rfl (.nil (.freeze (t := 16) rfl rfl (.k2 5001 5005 rfl rfl .nil) rfl (.sn mx (.mv rfl (.fa fd88_2 hfd88_2 rfl (.ld ty3 rfl (.c (.rem .none (.s rfl) .i (fun _ => by decide)) (.adi rfl (.c (.eqI .none (.s rfl) (.s rfl)) (.mv rfl (.mg rfl rfl rfl (.fg fd88_2 hfd88_2 rfl rfl rfl (.lg ty3 rfl rfl rfl (.c (.addW (.at rfl rfl) (.tmp rfl id) .i) (.c (.rem (.at rfl rfl) (.tmp rfl id) .i (fun _ => by decide)) (.c (.addW (.at rfl rfl) (.tmp rfl id) .i) (.c (.eqI (.at rfl rfl) (.tmp rfl id) (.tmp rfl id)) (.po rfl rfl (.mv rfl (.mg rfl rfl rfl (.fg fd88_2 hfd88_2 rfl rfl rfl (.lg ty3 rfl rfl rfl (.c (.eqI (.at rfl rfl) (.tmp rfl id) (.tmp rfl id)) (.po rfl rfl (.nil (.cb rfl h (fun _ h => ?_) fun _ h => ?_)))))))))))))))))))))))))))))))
      ·
       obtain ⟨v2, hv21, h⟩ := bnd_some h
       obtain ⟨r7, hv22, h⟩ := bind_some h
       obtain ⟨r8, hv23, h⟩ := bind_some h
       refine .sr [oo, oo, oo, oo, oo, oo, oo, oo, oo, oo, oo, oo, ([], [17]), ([17], [17])] mx (.faA fd88_0 hfd88_0 rfl (.ldA ty3 rfl (.faA fd23_0 hfd23_0 rfl (.ldA ty3 rfl (.addA rfl rfl (.faA fd88_1 hfd88_1 rfl (.ldA ty3 rfl (.faA fd23_1 hfd23_1 rfl (.ldA ty3 rfl (.addA rfl rfl (.mvA rfl (.cA (.re hv21 (.buildF (y := (⟨W (v1.x + r6.X), W (v1.y + r6.Y), s16_.2.1⟩ : Ref_state)) .none bu88 zc88 rfl (.cons (.s rfl) (.cons (.s rfl) (.cons (.s rfl) .nil))) (.cons rfl sf88_0 (.cons rfl sf88_1 (.cons rfl sf88_2 .nil))))) (.al zo88 rfl (.st ty88 rfl rfl rfl (.nil (.freeze (t := 17) rfl rfl (.k2 5001 5005 rfl rfl .nil) rfl (.seq (.sn mx (.fa fd88_0 hfd88_0 rfl (.ld ty3 rfl (.ld ty61 rfl (.ln sl61 rfl (.c (.subW .none (.s rfl) .i) (.c (.call .none (ref_In_ok hv22) (.cons (.s rfl) (.cons .i (.cons (.s rfl) .nil)))) (.c (.not .none (.s rfl)) (.mv rfl (.fg fd88_1 hfd88_1 rfl rfl rfl (.lg ty3 rfl rfl rfl (.c (.load (.at rfl rfl) ty61 (.s rfl)) (.c (.len (.at rfl rfl) sl61 (.tmp rfl id)) (.c (.subW (.at rfl rfl) (.tmp rfl id) .i) (.c (.callIf (.at rfl rfl) fnok41 (fun hg => ref_In_ok ((fun hg => gd_some hv23 ((notT hg.2))) hg)) (.cons (.tmp rfl id) (.cons .i (.cons (.tmp rfl id) .nil))) (fun h => h)) ?_))))))))))))))))))))))))))))))))
       obtain ⟨r9, hv24, h⟩ := bind_some h
       obtain ⟨r10, hv25, h⟩ := bind_some h
       obtain ⟨r11, hv26, h⟩ := bind_some h
       refine .c (.not (.at rfl rfl) (.tmp rfl id)) (.po rfl rfl (.mv rfl (.c (.load (.at rfl rfl) ty26 (.s rfl)) (.mg rfl rfl rfl (.c (.load (.at rfl rfl) ty88 (.s rfl)) (.c (.callV (v1, r9) (.at rfl rfl) (.tmp rfl id) (fun hg => gd_some hv24 ((notT hg.2))) (.cons (.tmp rfl id) .nil)) (.mg rfl rfl rfl (.c (.load (.at rfl rfl) ty88 (.s rfl)) (.c (.callV (v2, r10) (.at rfl rfl) (.tmp rfl id) (fun hg => gd_some hv25 ((notT hg.2))) (.cons (.tmp rfl id) .nil)) (.c (.callIf (.at rfl rfl) fnok51 (fun hg => ref_blocked_ok ((fun hg => gd_some hv26 ((notT hg.2))) hg)) (.cons (.tmp rfl id) (.cons (.tmp rfl id) (.cons (.tmp rfl id) .nil))) (fun h => h)) (.po rfl rfl (.nil (.cb rfl h (fun _ h => ?_) fun _ h => ?_)))))))))))))
       ·
        exact .exit (.thenExit (.blkExit (.anon (t := 13) (g := 5005) rfl rfl trivial rfl (Ends.j _ (some_eq h)))))
       ·
        obtain ⟨r12, hv28, h⟩ := bind_some h
        obtain ⟨r13, hv29, h⟩ := bind_some h
        obtain ⟨r14, hv30, h⟩ := bind_some h
        obtain ⟨c1, hv31, h⟩ := bnd_some h
        refine .skip (.then (.sr [oo, oo, ([5001], []), oo, oo, oo, oo, oo, oo, oo, oo, oo] mx (.mvA rfl (.ldA ty88 rfl (.cA (.lookupO (q := 5001) .none mo91 zo3 ownMap_self (.told (.s rfl) rfl) (.s rfl)) (.mvA rfl (.ldA ty88 rfl (.cA (.callV (v1, r12) .none (.s rfl) (fun _ => hv28) (.cons (.s rfl) .nil)) (.mvA rfl (.ldA ty88 rfl (.cA (.callV (v2, r13) .none (.s rfl) (fun _ => hv29) (.cons (.s rfl) .nil)) (.cA (.call .none (ref_Far_ok hv30) (.cons (.s rfl) (.cons (.s rfl) .nil))) (.addA rfl rfl (.cA (.re hv31 (.assign .none (.s rfl))) (.nil (.seq (.sn mx (.mv rfl (.fa fd88_2 hfd88_2 rfl (.ld ty3 rfl (.c (.neI .none (.s rfl) (.s rfl)) (.nil ?_))))))))))))))))))))))
        obtain ⟨j_32, h, hK32⟩ := bind_some h
        refine .thenJ (ι := Int) (fun j_32 => [(18, ⟨True, rep j_32⟩)]) (fun j_32 => []) (fun s => j_32 = s) (.k4 1 5 6 8 rfl rfl rfl rfl (.k4 9 10 12 13 rfl rfl rfl rfl (.k2 14 15 rfl rfl (.k 17 rfl .nil)))) (.k2 5001 5005 rfl rfl .nil) ?_ (fun j_32' hj32 => ?_)
        ·
         refine .cb rfl h (fun _ h => ?_) fun _ h => ?_
         ·
          obtain ⟨c2, hv34, h⟩ := bnd_some h
          exact .rn mx (.mv rfl (.adi rfl (.ra hv34 rfl (.nil (Ends.j _ (some_eq h))))))
         ·
          exact .skip (Ends.j _ (some_eq h))
        ·
         subst hj32; have h := hK32; clear hK32
         refine .sr [oo, oo, ([5001], []), oo, oo, oo, oo, oo] mx (.mvA rfl (.ldA ty88 rfl (.cA (.lookupOkO (q := 5001) .none mo91 zo3 ownMap_self (.told (.s rfl) rfl) (.s rfl)) (.mvA rfl (.exA rfl rfl (.exA rfl rfl (.asnA rfl (.asnA rfl (.nil (.sn mx (.mv rfl (.c (.not .none (.s rfl)) (.mv rfl (.mg rfl rfl rfl (.mg rfl rfl rfl (.c (.lt (.at rfl rfl) (.tmp rfl id) (.tmp rfl id)) (.po rfl rfl (.nil (.cb rfl h (fun _ h => ?_) fun _ h => ?_)))))))))))))))))))
         ·
          obtain ⟨cost2, hv36, h⟩ := bnd_some h
          obtain ⟨hn37, h⟩ := need_some h
          exact .sr [oo, oo, oo, ([5001], [5001])] mx (.mvA rfl (.ldA ty88 rfl (.mvA rfl (.cN (.mapUpdate (q := 5001) mo91 (.s rfl) rfl (.s rfl) (.s rfl)) (.nil (.reB (t := 5001) rfl (congrArg (fun y => CPred.at s5001 (mapV y)) hv36) (.rg [oo, oo, oo, ([5005], [166, 5005]), ([166], [13, 166])] mx (.mvA rfl (.ldA ty88 rfl (.cA (.buildSlice (xs := [_]) .none sl92 ty88 hz88 (.cons (.s rfl) .nil) rfl (by decide)) (.cW (.append (k := 5005) rk92 rfl (.told (.s rfl) rfl) (.s rfl) hn37) (.cW (.passRow rfl (.tmp rfl)) (.nil (.blkNormal (Ends.j _ (some_eq h))))))))))))))))
         ·
          exact .skip (.blkNormal (.anon (t := 13) (g := 5005) rfl rfl trivial rfl (Ends.j _ (some_eq h))))
      ·
       exact .skip (.blkNormal (.anon (t := 13) (g := 5005) rfl rfl trivial rfl (Ends.j _ (some_eq h))))
     ·
      subst hj18; have h := hK18; clear hK18
      obtain ⟨side1, hv38, h⟩ := bnd_some h
      exact .nameRow (t := 13) (g := 5006) rfl rfl rfl (fun s5006 => (.rn mx (.mv rfl (.adi rfl (.ra hv38 rfl (.nil (.anon (t := 13) (g := 5006) rfl rfl trivial rfl (Ends.ag (some_eq h)))))))))
    ·
     refine .exit (.thenExit (.thenExit (.blkExit (.blkNormal (.anon (t := 13) (g := 5005) rfl rfl trivial rfl ?_)))))
     replace h := hD16 _ (some_eq h)
     exact Ends.ag (some_eq h)
   ·
    refine .exit (.thenExit (.thenExit (.blkExit ?_)))
    replace h := hD10 _ (some_eq h)
    exact Ends.j _ (some_eq h)
  ·
   subst hj9; have h := hK9; clear hK9
   refine .freezeAt (g := 5001) (S := rep j_9) (ts := [12]) rfl (.cons (t := 12) rfl trivial .nil) SubB.nil rfl (fun M D w h hms => mapV_rep h hms) (.sn mx (.asi (.nil (.seq (.sn mx (.asi (.nil ?_)))))))
   obtain ⟨j_39, h, hK39⟩ := bind_some h
   refine .thenJ (ι := Int) (fun j_39 => [(21, ⟨True, rep j_39⟩)]) (fun j_39 => []) (fun s => j_39 = s) (.k 1 rfl .nil) SubB.nil ?_ (fun j_39' hj39 => ?_)
   ·
    refine .block (.loopL h (fun s40_ => [(21, ⟨True, rep s40_.1⟩), (22, ⟨True, rep s40_.2⟩)]) (fun s40_ => []) (.k2 21 22 rfl rfl .nil) SubB.nil (.k4 1 5 6 8 rfl rfl rfl rfl (.k2 10 12 rfl rfl .nil)) SubB.nil (fun s40_ o_40 h hD40 => ?_))
    unfold ref_CheapestWay_L3 at h
    refine .seq (.sn mx (.mv rfl (.c (.le .none (.s rfl) .i) (.nil (.cb rfl h (fun _ h => ?_) fun _ h => ?_)))))
    ·
     refine .skip (.then (.seq ?_))
     obtain ⟨j_42, h, hK42⟩ := bind_some h
     refine .thenJ (ι := Int) (fun j_42 => [(21, ⟨True, rep j_42⟩)]) (fun j_42 => []) (fun s => j_42 = s) (.k4 1 5 6 8 rfl rfl rfl rfl (.k2 10 12 rfl rfl (.k 22 rfl .nil))) SubB.nil ?_ (fun j_42' hj42 => ?_)
     ·
      obtain ⟨r15, hv43, h⟩ := bind_some h
      obtain ⟨c3, hv44, h⟩ := bnd_some h
      refine .block (.sn mx (.mv rfl (.mv rfl (.ld ty23 rfl (.mv rfl (.c (.callV (r2.2, s40_.2, r15) .none (.s rfl) (fun _ => hv43) (.cons (.s rfl) (.cons (.s rfl) .nil))) (.c (.lookupOk .none mo91 zo3 (.s rfl) (.s rfl)) (.mv rfl (.ex rfl rfl (.ex rfl rfl (.ra hv44 rfl (.asn rfl (.nil (.seq (.sn mx (.mv rfl (.c (.not .none (.s rfl)) (.mv rfl (.mg rfl rfl rfl (.fg fd26_3 hfd26_3 rfl rfl rfl (.lg ty3 rfl rfl rfl (.c (.eqI (.at rfl rfl) (.tmp rfl id) (.tmp rfl id)) (.po rfl rfl (.nil (.cb rfl h (fun _ h => ?_) fun _ h => ?_)))))))))))))))))))))))))
      ·
       exact .exit (.thenExit (.blkExit (Ends.j _ (some_eq h))))
      ·
       obtain ⟨r16, hv46, h⟩ := bind_some h
       obtain ⟨r17, hv47, h⟩ := bind_some h
       obtain ⟨r18, hv48, h⟩ := bind_some h
       refine .skip (.then (.seq (.sn mx (.mv rfl (.c (.call .none (ref_toward_ok hv46) (.cons (.s rfl) .nil)) (.c (.buildF (y := (⟨(0 : Int), (0 : Int)⟩ : Point)) .none bu23 zc23 rfl .nil .nil) (.fa fd26_3 hfd26_3 rfl (.ld ty3 rfl (.c (.call .none (ref_toward_ok hv47) (.cons (.s rfl) .nil)) (.c (.call .none (ref_step_ok hv48) (.cons (.s rfl) (.cons (.s rfl) (.cons .i .nil)))) (.c (.neS .none eq23 (.s rfl) (.s rfl)) (.nil ?_))))))))))))
       obtain ⟨j_49, h, hK49⟩ := bind_some h
       refine .thenJ (ι := Int) (fun j_49 => [(23, ⟨True, rep j_49⟩)]) (fun j_49 => []) (fun s => j_49 = s) (.k4 1 5 6 8 rfl rfl rfl rfl (.k4 10 12 21 22 rfl rfl rfl rfl .nil)) SubB.nil ?_ (fun j_49' hj49 => ?_)
       ·
        refine .cb rfl h (fun _ h => ?_) fun _ h => ?_
        ·
         obtain ⟨c4, hv51, h⟩ := bnd_some h
         exact .rn mx (.mv rfl (.adi rfl (.ra hv51 rfl (.nil (Ends.j _ (some_eq h))))))
        ·
         exact .skip (Ends.j _ (some_eq h))
       ·
        subst hj49; have h := hK49; clear hK49
        refine .sn mx (.mv rfl (.c (.lt .none (.s rfl) .i) (.mv rfl (.mg rfl rfl rfl (.mg rfl rfl rfl (.c (.lt (.at rfl rfl) (.tmp rfl id) (.tmp rfl id)) (.po rfl rfl (.nil (.cb rfl h (fun _ h => ?_) fun _ h => ?_)))))))))
        ·
         exact .rn mx (.mv rfl (.asn rfl (.nil (.blkNormal (Ends.j _ (some_eq h))))))
        ·
         exact .skip (.blkNormal (Ends.j _ (some_eq h)))
     ·
      subst hj42; have h := hK42; clear hK42
      obtain ⟨side2, hv53, h⟩ := bnd_some h
      exact .rn mx (.mv rfl (.adi rfl (.ra hv53 rfl (.nil (Ends.ag (some_eq h))))))
    ·
     refine .exit (.thenExit (.thenExit (.blkExit ?_)))
     replace h := hD40 _ (some_eq h)
     exact Ends.j _ (some_eq h)
   ·
    subst hj39; have h := hK39; clear hK39
    refine .seq (.sn mx (.mv rfl (.c (.lt .none (.s rfl) .i) (.nil (.cb rfl h (fun _ h => ?_) fun _ h => ?_)))))
    ·
     refine .sn mx (.asi (.asi (.asb (.nil (.ret (.thenRet ?_))))))
     obtain rfl := some_eq h
     exact Ends.ret3 (.inl rfl) Try.results15 (ResOK.tmp rfl trivial Imp.refl) (ResOK.tmp rfl trivial Imp.refl) (ResOK.tmp rfl trivial Imp.refl)
    ·
     refine .skip (.then (.sn mx (.mv rfl (.c (.quo .none (.s rfl) .i (fun _ => by decide)) (.mv rfl (.c (.rem .none (.s rfl) .i (fun _ => by decide)) (.fa fd26_5 hfd26_5 rfl (.ld ty3 rfl (.c (.mulW .none .i (.s rfl)) (.add rfl rfl (.asn rfl (.asn rfl (.asb (.nil (.ret ?_)))))))))))))))
     obtain rfl := some_eq h
     exact Ends.ret3 (.inl rfl) Try.results15 (ResOK.tmp rfl trivial Imp.refl) (ResOK.tmp rfl trivial Imp.refl) (ResOK.tmp rfl trivial Imp.refl)

theorem ref_BendsOf_ok {l1 : (List Point)} {r : Int}  (h : ref_BendsOf l1 = some r) : FSpec Try.prog 16 [rep l1] (rep r) := by
 unfold ref_BendsOf at h
 refine FSpec.i Try.func16 rfl Try.ntmps16 rfl (fun F => (.sn mx (.asi (.nil (.sn mx (.asi (.nil (.seq (.sn mx (.asi (.nil ?_)))))))))))
 obtain ⟨j_1, h, hK1⟩ := bind_some h
 refine .thenJ (ι := Int) (fun j_1 => [(3, ⟨True, rep j_1⟩)]) (fun j_1 => []) (fun s => j_1 = s) Sub.nil SubB.nil ?_ (fun j_1' hj1 => ?_)
 ·
  refine .block (.loopL h (fun s2_ => [(3, ⟨True, rep s2_.1⟩), (4, ⟨True, rep s2_.2⟩)]) (fun s2_ => []) (.k2 3 4 rfl rfl .nil) SubB.nil (.k 0 rfl .nil) SubB.nil (fun s2_ o_2 h hD2 => ?_))
  unfold ref_BendsOf_L1 at h
  refine .seq (.sn mx (.mv rfl (.adi rfl (.mv rfl (.ln sl27 rfl (.lt rfl rfl (.nil (.cb rfl h (fun _ h => ?_) fun _ h => ?_))))))))
  ·
   refine .skip (.then (.seq ?_))
   obtain ⟨j_4, h, hK4⟩ := bind_some h
   refine .thenJ (ι := Int) (fun j_4 => [(3, ⟨True, rep j_4⟩)]) (fun j_4 => []) (fun s => j_4 = s) (.k2 0 4 rfl rfl .nil) SubB.nil ?_ (fun j_4' hj4 => ?_)
   ·
    obtain ⟨hn5, h⟩ := need_some h
    obtain ⟨hn6, h⟩ := need_some h
    obtain ⟨hn7, h⟩ := need_some h
    obtain ⟨hn8, h⟩ := need_some h
    refine .block (.sn mx (.mv rfl (.mv rfl (.c (.subW .none (.s rfl) .i) (.ix sl27 ty23 rfl rfl hn5 (.fa fd23_0 hfd23_0 rfl (.ld ty3 rfl (.mv rfl (.mv rfl (.ix sl27 ty23 rfl rfl hn6 (.fa fd23_0 hfd23_0 rfl (.ld ty3 rfl (.c (.eqI .none (.s rfl) (.s rfl)) (.mv rfl (.mv rfl (.ix sl27 ty23 rfl rfl hn7 (.fa fd23_0 hfd23_0 rfl (.ld ty3 rfl (.mv rfl (.mv rfl (.adi rfl (.ix sl27 ty23 rfl rfl hn8 (.fa fd23_0 hfd23_0 rfl (.ld ty3 rfl (.c (.eqI .none (.s rfl) (.s rfl)) (.c (.neS .none (eqAt_bool Try.underlying4) (.s rfl) (.s rfl)) (.nil (.cb rfl h (fun _ h => ?_) fun _ h => ?_))))))))))))))))))))))))))))
    ·
     obtain ⟨n1, hv10, h⟩ := bnd_some h
     exact .rn mx (.mv rfl (.adi rfl (.ra hv10 rfl (.nil (.blkNormal (Ends.j _ (some_eq h)))))))
    ·
     exact .skip (.blkNormal (Ends.j _ (some_eq h)))
   ·
    subst hj4; have h := hK4; clear hK4
    obtain ⟨i1, hv11, h⟩ := bnd_some h
    exact .rn mx (.mv rfl (.adi rfl (.ra hv11 rfl (.nil (Ends.ag (some_eq h))))))
  ·
   refine .exit (.thenExit (.thenExit (.blkExit ?_)))
   replace h := hD2 _ (some_eq h)
   exact Ends.j _ (some_eq h)
 ·
  subst hj1; have h := hK1; clear hK1
  refine .sn mx (.mv rfl (.asn rfl (.nil (.ret ?_))))
  obtain rfl := some_eq h
  exact Ends.rt Try.results16 rfl

theorem ref_LengthOf_ok {l1 : (List Point)} {r : Int}  (h : ref_LengthOf l1 = some r) : FSpec Try.prog 17 [rep l1] (rep r) := by
 unfold ref_LengthOf at h
 refine FSpec.i Try.func17 rfl Try.ntmps17 rfl (fun F => (.sn mx (.asi (.nil (.sn mx (.asi (.nil (.seq (.sn mx (.asi (.nil ?_)))))))))))
 obtain ⟨j_1, h, hK1⟩ := bind_some h
 refine .thenJ (ι := Int) (fun j_1 => [(3, ⟨True, rep j_1⟩)]) (fun j_1 => []) (fun s => j_1 = s) Sub.nil SubB.nil ?_ (fun j_1' hj1 => ?_)
 ·
  refine .block (.loopL h (fun s2_ => [(3, ⟨True, rep s2_.1⟩), (4, ⟨True, rep s2_.2⟩)]) (fun s2_ => []) (.k2 3 4 rfl rfl .nil) SubB.nil (.k 0 rfl .nil) SubB.nil (fun s2_ o_2 h hD2 => ?_))
  unfold ref_LengthOf_L1 at h
  refine .seq (.sn mx (.mv rfl (.mv rfl (.ln sl27 rfl (.lt rfl rfl (.nil (.cb rfl h (fun _ h => ?_) fun _ h => ?_)))))))
  ·
   obtain ⟨hn4, h⟩ := need_some h
   obtain ⟨hn5, h⟩ := need_some h
   obtain ⟨r1, hv6, h⟩ := bind_some h
   obtain ⟨n1, hv7, h⟩ := bnd_some h
   obtain ⟨i1, hv8, h⟩ := bnd_some h
   exact .skip (.then (.seq (.block (.rn mx (.mv rfl (.mv rfl (.mv rfl (.c (.subW .none (.s rfl) .i) (.ix sl27 ty23 rfl rfl hn4 (.ld ty23 rfl (.mv rfl (.mv rfl (.ix sl27 ty23 rfl rfl hn5 (.ld ty23 rfl (.c (.call .none (ref_Far_ok hv6) (.cons (.s rfl) (.cons (.s rfl) .nil))) (.add rfl rfl (.ra hv7 rfl (.nil (.blkNormal (.then (.rn mx (.mv rfl (.adi rfl (.ra hv8 rfl (.nil (Ends.ag (some_eq h)))))))))))))))))))))))))))
  ·
   refine .exit (.thenExit (.thenExit (.blkExit ?_)))
   replace h := hD2 _ (some_eq h)
   exact Ends.j _ (some_eq h)
 ·
  subst hj1; have h := hK1; clear hK1
  refine .sn mx (.mv rfl (.asn rfl (.nil (.ret ?_))))
  obtain rfl := some_eq h
  exact Ends.rt Try.results17 rfl

theorem ref_PointsError_ok {l1 : (List Point)} {r : Int}  (h : ref_PointsError l1 = some r) : FSpec Try.prog 18 [rep l1] (rep r) := by
 unfold ref_PointsError at h
 refine FSpec.i Try.func18 rfl Try.ntmps18 rfl (fun F => (.sn mx (.asi (.nil (.seq (.sn mx (.mv rfl (.ln sl27 rfl (.c (.gt .none (.s rfl) .i) (.nil (.cb rfl h (fun _ h => ?_) fun _ h => ?_)))))))))))
 ·
  refine .sn mx (.asi (.nil (.ret (.thenRet ?_))))
  obtain rfl := some_eq h
  exact Ends.rt Try.results18 rfl
 ·
  refine .skip (.then (.seq (.sn mx (.mv rfl (.ln sl27 rfl (.mvi (.nil ?_)))))))
  obtain ⟨o_2, h, hK2⟩ := bindR_some h
  refine .tJ (fun s => o_2 = Res.nx s) Sub.nil SubB.nil ?_ (fun j_2 hj2 => ?_)
  ·
   refine .block (.rforEL h (fun p3_ => [(11, ⟨True, rep p3_.1⟩)]) (fun p3_ => []) (.k 11 rfl .nil) SubB.nil (.k2 9 10 rfl rfl .nil) SubB.nil (fun p3_ o_3 h hD3 => (.sn mx (.lt rfl rfl (.nil (.seq (.cb rfl h (fun _ h => ?_) fun _ h => ?_)))))))
   ·
    refine .skip (.then (.seq ?_))
    obtain ⟨o_5, h, hK5⟩ := bindD_some h
    unfold ref_PointsError_L1 at h
    refine .tJ (fun s => o_5 = Res.nx s) (.k2 9 10 rfl rfl (.k 11 rfl .nil)) SubB.nil ?_ (fun j_5 hj5 => ?_)
    ·
     obtain ⟨hn6, h⟩ := need_some h
     obtain ⟨v1, hv7, h⟩ := bnd_some h
     obtain ⟨e1, hv8, h⟩ := bind_some h
     refine .block (.sr [oo, oo, ([], [4]), ([4], [4])] mx (.ixA sl27 ty23 rfl rfl hn6 (.rlA hv7 ty23 rfl (.al zo23 rfl (.st ty23 rfl rfl rfl (.nil (.freeze (t := 4) rfl rfl SubB.nil rfl (.sn mx (.ld ty23 rfl (.c (.call .none (ref_PointError_ok hv8) (.cons (.s rfl) .nil)) (.asn rfl (.nil (.sn mx (.mv rfl (.nei rfl (.nil (.cb rfl h (fun _ h => ?_) fun _ h => ?_)))))))))))))))))
     ·
      refine .sn mx (.mv rfl (.asn rfl (.nil (.ret (.blkRet (.thenRet (.thenRet (.blkRet (.thenRet ?_)))))))))
      replace h := resd_ab hK5 (some_eq h)
      replace h := hD3 _ (some_eq h)
      replace h := resb_ab hK2 (some_eq h)
      obtain rfl := some_eq h
      exact Ends.rt Try.results18 rfl
     ·
      exact .skip (.blkNormal (Ends.j _ (some_eq h)))
    ·
     have h := resd_nx hK5 hj5
     exact .rn mx (.adi rfl (.mv rfl (.nil (Ends.ag (some_eq h)))))
   ·
    refine .exit (.thenExit (.thenExit (.blkExit ?_)))
    replace h := hD3 _ (some_eq h)
    exact Ends.j _ (some_eq h)
  ·
   have h := resb_nx hK2 hj2
   refine .sn mx (.asi (.nil (.ret ?_)))
   obtain rfl := some_eq h
   exact Ends.rt Try.results18 rfl

theorem law_RoutesAreBest_ok {t1 : Task} {other1 : (List Point)} {r : Bool}  (h : law_RoutesAreBest t1 other1 = some r) : FSpec Try.prog 4 [rep t1, rep other1] (rep r) := by
 unfold law_RoutesAreBest at h
 obtain ⟨r1, hv1, h⟩ := bind_some h
 obtain ⟨own1, hv2, h⟩ := bind_some h
 obtain ⟨r2, hv3, h⟩ := bind_some h
 refine FSpec.i Try.func4 rfl Try.ntmps4 rfl (fun F => (.sn mx (.c (.box .none (.s rfl)) (.asb (.nil (.sn mx (.ld ty26 rfl (.c (.call .none (route_Route_ok hv1) (.cons (.s rfl) .nil)) (.mv rfl (.ex rfl rfl (.ex rfl rfl (.asn rfl (.asn rfl (.nil (.sn mx (.ld ty26 rfl (.c (.call .none (ref_TaskError_ok hv2) (.cons (.s rfl) .nil)) (.asn rfl (.nil (.seq (.sn mx (.c (.call .none (law_routes_ok hv3) .nil) (.c (.not .none (.s rfl)) (.mv rfl (.mg rfl rfl rfl (.c (.neI (.at rfl rfl) (.tmp rfl id) .i) (.po rfl rfl (.nil (.cb rfl h (fun _ h => ?_) fun _ h => ?_)))))))))))))))))))))))))))))
 ·
  obtain ⟨r3, hv5, h⟩ := bind_some h
  refine .sn mx (.c (.call .none (law_routes_ok hv5) .nil) (.mv rfl (.mg rfl rfl rfl (.c (.len (.at rfl rfl) sl27 (.tmp rfl id)) (.c (.eqI (.at rfl rfl) (.tmp rfl id) .i) (.pa rfl rfl (.mv rfl (.mg rfl rfl rfl (.mg rfl rfl rfl (.c (.eqI (.at rfl rfl) (.tmp rfl id) (.tmp rfl id)) (.pa rfl rfl (.asn rfl (.nil (.ret (.thenRet ?_)))))))))))))))
  obtain rfl := some_eq h
  exact Ends.rt Try.results4 rfl
 ·
  obtain ⟨r4, hv6, h⟩ := bind_some h
  refine .skip (.then (.seq (.sn mx (.ld ty26 rfl (.c (.call .none (law_few_ok hv6) (.cons (.s rfl) .nil)) (.c (.not .none (.s rfl)) (.nil (.cb rfl h (fun _ h => ?_) fun _ h => ?_))))))))
  ·
   obtain ⟨r5, hv8, h⟩ := bind_some h
   refine .sn mx (.mv rfl (.eqi rfl (.mv rfl (.c (.load (.at rfl rfl) ty26 (.s rfl)) (.mg rfl rfl rfl (.c (.callIf (.at rfl rfl) fnok14 (fun hg => ref_IsWay_ok ((fun hg => gd_some hv8 ((notT hg.2))) hg)) (.cons (.tmp rfl id) (.cons (.tmp rfl id) .nil)) (fun h => h)) (.po rfl rfl (.asn rfl (.nil (.ret (.thenRet ?_)))))))))))
   obtain rfl := some_eq h
   exact Ends.rt Try.results4 rfl
  ·
   obtain ⟨r6, hv9, h⟩ := bind_some h
   refine .skip (.then (.sn mx (.ld ty26 rfl (.c (.call .none (ref_CheapestWay_ok hv9) (.cons (.s rfl) .nil)) (.mv rfl (.ex rfl rfl (.ex rfl rfl (.ex rfl rfl (.asn rfl (.asn rfl (.asn rfl (.nil (.seq (.sn mx (.mv rfl (.c (.not .none (.s rfl)) (.nil (.cb rfl h (fun _ h => ?_) fun _ h => ?_))))))))))))))))))
   ·
    refine .sn mx (.mv rfl (.ln sl27 rfl (.eqi rfl (.mv rfl (.mg rfl rfl rfl (.c (.eqI (.at rfl rfl) (.tmp rfl id) .i) (.pa rfl rfl (.asn rfl (.nil (.ret (.thenRet ?_)))))))))))
    obtain rfl := some_eq h
    exact Ends.rt Try.results4 rfl
   ·
    obtain ⟨r7, hv11, h⟩ := bind_some h
    refine .skip (.then (.seq (.sn mx (.mv rfl (.nei rfl (.mv rfl (.c (.load (.at rfl rfl) ty26 (.s rfl)) (.mg rfl rfl rfl (.c (.callIf (.at rfl rfl) fnok14 (fun hg => ref_IsWay_ok ((fun hg => gd_some hv11 ((notT hg.2))) hg)) (.cons (.tmp rfl id) (.cons (.tmp rfl id) .nil)) (fun h => h)) ?_)))))))))
    obtain ⟨r8, hv12, h⟩ := bind_some h
    refine .c (.not (.at rfl rfl) (.tmp rfl id)) (.po rfl rfl (.mv rfl (.mg rfl rfl rfl (.c (.callIf (.at rfl rfl) fnok16 (fun hg => ref_BendsOf_ok ((fun hg => gd_some hv12 ((notT hg.2))) hg)) (.cons (.tmp rfl id) .nil) (fun h => h)) ?_))))
    obtain ⟨r9, hv13, h⟩ := bind_some h
    refine .mg rfl rfl rfl (.c (.neI (.at rfl rfl) (.tmp rfl id) (.tmp rfl id)) (.po rfl rfl (.mv rfl (.mg rfl rfl rfl (.c (.callIf (.at rfl rfl) fnok17 (fun hg => ref_LengthOf_ok ((fun hg => gd_some hv13 ((notT hg.2))) hg)) (.cons (.tmp rfl id) .nil) (fun h => h)) (.mg rfl rfl rfl (.c (.neI (.at rfl rfl) (.tmp rfl id) (.tmp rfl id)) (.po rfl rfl (.nil (.cb rfl h (fun _ h => ?_) fun _ h => ?_))))))))))
    ·
     refine .sn mx (.asb (.nil (.ret (.thenRet ?_))))
     obtain rfl := some_eq h
     exact Ends.rt Try.results4 rfl
    ·
     obtain ⟨r10, hv15, h⟩ := bind_some h
     obtain ⟨r11, hv16, h⟩ := bind_some h
     refine .skip (.then (.seq (.sn mx (.mv rfl (.c (.call .none (ref_PointsError_ok hv15) (.cons (.s rfl) .nil)) (.nei rfl (.mv rfl (.c (.load (.at rfl rfl) ty26 (.s rfl)) (.mg rfl rfl rfl (.c (.callIf (.at rfl rfl) fnok14 (fun hg => ref_IsWay_ok ((fun hg => gd_some hv16 ((notT hg.2))) hg)) (.cons (.tmp rfl id) (.cons (.tmp rfl id) .nil)) (fun h => h)) (.c (.not (.at rfl rfl) (.tmp rfl id)) (.po rfl rfl (.nil (.cb rfl h (fun _ h => ?_) fun _ h => ?_))))))))))))))
     ·
      refine .sn mx (.asb (.nil (.ret (.thenRet ?_))))
      obtain rfl := some_eq h
      exact Ends.rt Try.results4 rfl
     ·
      obtain ⟨b1, hv18, h⟩ := bind_some h
      obtain ⟨n1, hv19, h⟩ := bind_some h
      refine .skip (.then (.sn mx (.mv rfl (.c (.call .none (ref_BendsOf_ok hv18) (.cons (.s rfl) .nil)) (.mv rfl (.c (.call .none (ref_LengthOf_ok hv19) (.cons (.s rfl) .nil)) (.asn rfl (.asn rfl (.nil (.sn mx (.mv rfl (.mv rfl (.c (.gt .none (.s rfl) (.s rfl)) (.mv rfl (.mg rfl rfl rfl (.mg rfl rfl rfl (.c (.eqI (.at rfl rfl) (.tmp rfl id) (.tmp rfl id)) (.c (.move (.at rfl rfl) (.tmp rfl id)) (.mg rfl rfl rfl (.mg rfl rfl rfl (.c (.ge (.at rfl rfl) (.tmp rfl id) (.tmp rfl id)) (.c (.pickAnd (.at rfl rfl) (.tmp rfl id) (.tmp rfl id)) (.po rfl rfl (.asn rfl (.nil (.ret ?_))))))))))))))))))))))))))
      obtain rfl := some_eq h
      exact Ends.rt Try.results4 rfl


end Go.Proofs.Ytjkfpjpepjjhlaa
