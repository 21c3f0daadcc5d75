/-
  The walks: what a function computes is what its plain function says (printed by a program of one's own).
-/
import Derived.Test.YtchnjieebkkhnaaGreatDoorDifFa
set_option maxRecDepth 100000
set_option linter.unusedSimpArgs false
set_option linter.unusedVariables false
namespace Go.Proofs.YtchnjieebkkhnaaGreatDoor
open Go Go.DB Go.RowKit

theorem utf8_ValidString_ok {s : Str} {r : Bool} (h : utf8_ValidString s = some r) : FSpec Tryz.prog 41 [rep s] (rep r) := by
 obtain rfl := some_eq h
 exact validS_spec validStr_lay rfl rfl rfl fnok41

theorem strings_Trim_ok {s cs : Str} {r : Str} (h : strings_Trim s cs = some r) : FSpec Tryz.prog 48 [rep s, rep cs] (rep r) := by
 obtain ⟨hn, h⟩ := need_some h
 obtain rfl := some_eq h
 exact trimS_spec trimStr_lay (by kernel_rfl) rfl fnok48 hn

theorem strings_Compare_ok {s sep : Str} {r : Int} (h : strings_Compare s sep = some r) : FSpec Tryz.prog 26 [rep s, rep sep] (rep r) := by
 obtain rfl := some_eq h
 exact compareS_spec compareStr_lay rfl fnok26

theorem slices_Sort_string_ok {l : List Str} {r : List Str} {s : Value} (h : slices_Sort_string l = some r) : FSpecO Tryz.prog 22 [isV s] [(s, rowV 9 l)] (anyV) [some (rowV 9 r)] := by
 obtain ⟨hl, h⟩ := need_some h
 obtain rfl := some_eq h
 exact sortS_spec sortSM_lay rfl fnok22 hl

theorem slices_Grow_Thing_ok {n : Int} {r : List Thing} (h : slices_Grow_Thing n = some r) : FSpecO Tryz.prog 42 [isV (.slice none 0 0), rep n] [] (anyV) [some (rowV 45 r)] := by
 obtain ⟨hn, h⟩ := need_some h
 obtain rfl := some_eq h
 exact growNil_spec growNil45_lay rk22 rfl rfl fnok42 hn

theorem ref_NameOf_ok {s1 : Str} {r : Bool}  (h : ref_NameOf s1 = some r) : FSpec Tryz.prog 18 [rep s1] (rep r) := by
 unfold ref_NameOf at h
 refine FSpec.i Tryz.func18 rfl Tryz.ntmps18 rfl (fun F => (.sn mx (.asb (.nil (.seq (.sn mx (.mv rfl (.c (.lenStr .none Tryz.underlying9 (.s rfl)) (.mvi (.nil ?_))))))))))
 obtain ⟨o_1, h, hK1⟩ := bindR_some h
 refine .tJ (fun s => o_1 = Res.nx s) (.k 0 rfl .nil) SubB.nil ?_ (fun j_1 hj1 => ?_)
 ·
  refine .block (.rforEL h (fun p2_ => [(7, ⟨True, rep p2_.1⟩)]) (fun p2_ => []) (.k 7 rfl .nil) SubB.nil (.k2 0 6 rfl rfl .nil) SubB.nil (fun p2_ o_2 h hD2 => (.sn mx (.lt rfl rfl (.nil (.seq (.cb rfl h (fun _ h => ?_) fun _ h => ?_)))))))
  ·
   refine .skip (.then (.seq ?_))
   obtain ⟨o_4, h, hK4⟩ := bindD_some h
   unfold ref_NameOf_L1 at h
   refine .tJ (fun s => o_4 = Res.nx s) (.k2 0 6 rfl rfl (.k 7 rfl .nil)) SubB.nil ?_ (fun j_4 hj4 => ?_)
   ·
    obtain ⟨hn5, h⟩ := need_some h
    obtain ⟨c1, hv6, h⟩ := bnd_some h
    refine .block (.sn mx (.mv rfl (.asn rfl (.nil (.sn mx (.mv rfl (.mv rfl (.c (.indexStr .none Tryz.underlying9 (.s rfl) (.s rfl) (fun _ => hn5)) (.ra hv6 rfl (.nil (.sn mx (.mv rfl (.c (.kgeq .none (.s rfl) .ki) (.mv rfl (.mg rfl rfl rfl (.c (.kleq (.at rfl rfl) (.tmp rfl id) .ki) (.pa rfl rfl (.c (.not .none (.s rfl)) (.mv rfl (.mg rfl rfl rfl (.c (.eqI (.at rfl rfl) (.tmp rfl id) .i) (.c (.move (.at rfl rfl) (.tmp rfl id)) (.mg rfl rfl rfl (.c (.kgeq (.at rfl rfl) (.tmp rfl id) .ki) (.c (.move (.at rfl rfl) (.tmp rfl id)) (.mg rfl rfl rfl (.c (.kleq (.at rfl rfl) (.tmp rfl id) .ki) (.c (.pickAnd (.at rfl rfl) (.tmp rfl id) (.tmp rfl id)) (.c (.not (.at rfl rfl) (.tmp rfl id)) (.c (.move (.at rfl rfl) (.tmp rfl id)) (.mg rfl rfl rfl (.c (.kneq (.at rfl rfl) (.tmp rfl id) .ki) (.c (.pickAnd (.at rfl rfl) (.tmp rfl id) (.tmp rfl id)) (.c (.pickOr (.at rfl rfl) (.tmp rfl id) (.tmp rfl id)) (.pa rfl rfl (.nil (.cb rfl h (fun _ h => ?_) fun _ h => ?_)))))))))))))))))))))))))))))))))))))
    ·
     refine .sn mx (.asb (.nil (.ret (.blkRet (.thenRet (.thenRet (.blkRet (.thenRet ?_))))))))
     replace h := resd_ab hK4 (some_eq h)
     replace h := hD2 _ (some_eq h)
     replace h := resb_ab hK1 (some_eq h)
     obtain rfl := some_eq h
     exact Ends.rt Tryz.results18 rfl
    ·
     exact .skip (.blkNormal (Ends.j _ (some_eq h)))
   ·
    have h := resd_nx hK4 hj4
    exact .rn mx (.adi rfl (.mv rfl (.nil (Ends.ag (some_eq h)))))
  ·
   refine .exit (.thenExit (.thenExit (.blkExit ?_)))
   replace h := hD2 _ (some_eq h)
   exact Ends.j _ (some_eq h)
 ·
  have h := resb_nx hK1 hj1
  refine .sn mx (.mv rfl (.c (.neS .none (eqAt_str Tryz.underlying9) (.s rfl) (.str (l := []) (by decide))) (.mv rfl (.mg rfl rfl rfl (.c (.lenStr (.at rfl rfl) Tryz.underlying9 (.tmp rfl id)) (.c (.le (.at rfl rfl) (.tmp rfl id) .i) (.pa rfl rfl (.asn rfl (.nil (.ret ?_))))))))))
  obtain rfl := some_eq h
  exact Ends.rt Tryz.results18 rfl

theorem ref_When_ok {is1 : Bool} {e1 : Int} {r : Int}  (h : ref_When is1 e1 = some r) : FSpec Tryz.prog 17 [rep is1, rep e1] (rep r) := by
 unfold ref_When at h
 refine FSpec.i Tryz.func17 rfl Tryz.ntmps17 rfl (fun F => (.sn mx (.asi (.nil (.seq (.sn mx (.mv rfl (.nil (.cb rfl h (fun _ h => ?_) fun _ h => ?_)))))))))
 ·
  refine .sn mx (.mv rfl (.asn rfl (.nil (.ret (.thenRet ?_)))))
  obtain rfl := some_eq h
  exact Ends.rt Tryz.results17 rfl
 ·
  refine .skip (.then (.sn mx (.asi (.nil (.ret ?_)))))
  obtain rfl := some_eq h
  exact Ends.rt Tryz.results17 rfl

theorem ref_First_ok {l1 : (List Int)} {r : Int}  (h : ref_First l1 = some r) : FSpec Tryz.prog 5 [rep l1] (rep r) := by
 unfold ref_First at h
 refine FSpec.i Tryz.func5 rfl Tryz.ntmps5 rfl (fun F => (.sn mx (.asi (.nil (.seq (.sn mx (.mv rfl (.ln sl51 rfl (.mvi (.nil ?_))))))))))
 obtain ⟨o_1, h, hK1⟩ := bindR_some h
 refine .tJ (fun s => o_1 = Res.nx s) Sub.nil SubB.nil ?_ (fun j_1 hj1 => ?_)
 ·
  refine .block (.rforEL h (fun p2_ => [(7, ⟨True, rep p2_.1⟩)]) (fun p2_ => []) (.k 7 rfl .nil) SubB.nil (.k2 5 6 rfl rfl .nil) SubB.nil (fun p2_ o_2 h hD2 => (.sn mx (.lt rfl rfl (.nil (.seq (.cb rfl h (fun _ h => ?_) fun _ h => ?_)))))))
  ·
   refine .skip (.then (.seq ?_))
   obtain ⟨o_4, h, hK4⟩ := bindD_some h
   unfold ref_First_L1 at h
   refine .tJ (fun s => o_4 = Res.nx s) (.k2 5 6 rfl rfl (.k 7 rfl .nil)) SubB.nil ?_ (fun j_4 hj4 => ?_)
   ·
    obtain ⟨hn5, h⟩ := need_some h
    obtain ⟨e1, hv6, h⟩ := bnd_some h
    refine .block (.sn mx (.ix sl51 ty24 rfl rfl hn5 (.ld ty24 rfl (.ra hv6 rfl (.nil (.sn mx (.mv rfl (.nei rfl (.nil (.cb rfl h (fun _ h => ?_) fun _ h => ?_))))))))))
    ·
     refine .sn mx (.mv rfl (.asn rfl (.nil (.ret (.blkRet (.thenRet (.thenRet (.blkRet (.thenRet ?_)))))))))
     replace h := resd_ab hK4 (some_eq h)
     replace h := hD2 _ (some_eq h)
     replace h := resb_ab hK1 (some_eq h)
     obtain rfl := some_eq h
     exact Ends.rt Tryz.results5 rfl
    ·
     exact .skip (.blkNormal (Ends.j _ (some_eq h)))
   ·
    have h := resd_nx hK4 hj4
    exact .rn mx (.adi rfl (.mv rfl (.nil (Ends.ag (some_eq h)))))
  ·
   refine .exit (.thenExit (.thenExit (.blkExit ?_)))
   replace h := hD2 _ (some_eq h)
   exact Ends.j _ (some_eq h)
 ·
  have h := resb_nx hK1 hj1
  refine .sn mx (.asi (.nil (.ret ?_)))
  obtain rfl := some_eq h
  exact Ends.rt Tryz.results5 rfl

theorem ref_TextError_ok {s1 : Str} {r : Int}  (h : ref_TextError s1 = some r) : FSpec Tryz.prog 19 [rep s1] (rep r) := by
 unfold ref_TextError at h
 obtain ⟨r1, hv1, h⟩ := bind_some h
 obtain ⟨bad1, hv2, h⟩ := bnd_some h
 refine FSpec.i Tryz.func19 rfl Tryz.ntmps19 rfl (fun F => (.sn mx (.asi (.nil (.sn mx (.mv rfl (.c (.call .none (utf8_ValidString_ok hv1) (.cons (.s rfl) .nil)) (.c (.not .none (.s rfl)) (.ra hv2 rfl (.nil (.seq (.sn mx (.mv rfl (.c (.lenStr .none Tryz.underlying9 (.s rfl)) (.mvi (.nil ?_))))))))))))))))
 obtain ⟨j_3, h, hK3⟩ := bind_some h
 refine .thenJ (ι := Bool) (fun j_3 => [(3, ⟨True, rep j_3⟩)]) (fun j_3 => []) (fun s => j_3 = s) (.k 0 rfl .nil) SubB.nil ?_ (fun j_3' hj3 => ?_)
 ·
  refine .block (.rforL h (fun p4_ => [(10, ⟨True, rep p4_.1⟩), (3, ⟨True, rep p4_.2⟩)]) (fun p4_ => []) (.k2 10 3 rfl rfl .nil) SubB.nil (.k2 0 9 rfl rfl .nil) SubB.nil (fun p4_ o_4 h hD4 => (.sn mx (.lt rfl rfl (.nil (.seq (.cb rfl h (fun _ h => ?_) fun _ h => ?_)))))))
  ·
   refine .skip (.then (.seq ?_))
   obtain ⟨j_6, h, hK6⟩ := bind_some h
   unfold ref_TextError_L1 at h
   refine .thenJ (ι := Bool) (fun j_6 => [(3, ⟨True, rep j_6⟩)]) (fun j_6 => []) (fun s => j_6 = s) (.k2 0 9 rfl rfl (.k 10 rfl .nil)) SubB.nil ?_ (fun j_6' hj6 => ?_)
   ·
    obtain ⟨hn7, h⟩ := need_some h
    obtain ⟨hn8, h⟩ := need_some h
    obtain ⟨hn9, h⟩ := need_some h
    obtain ⟨bad2, hv10, h⟩ := bnd_some h
    exact .block (.sn mx (.mv rfl (.asn rfl (.nil (.rn mx (.mv rfl (.mv rfl (.mg rfl rfl rfl (.mg rfl rfl rfl (.c (.indexStr (.at rfl rfl) Tryz.underlying9 (.tmp rfl id) (.tmp rfl id) (fun hg => hn7 hg.2)) (.c (.klss (.at rfl rfl) (.tmp rfl id) .ki) (.c (.move (.at rfl rfl) (.tmp rfl id)) (.mg rfl rfl rfl (.mg rfl rfl rfl (.c (.indexStr (.at rfl rfl) Tryz.underlying9 (.tmp rfl id) (.tmp rfl id) (fun hg => hn8 hg.1.2 hg.2)) (.c (.kneq (.at rfl rfl) (.tmp rfl id) .ki) (.c (.pickAnd (.at rfl rfl) (.tmp rfl id) (.tmp rfl id)) (.po rfl rfl (.mv rfl (.mg rfl rfl rfl (.mg rfl rfl rfl (.c (.indexStr (.at rfl rfl) Tryz.underlying9 (.tmp rfl id) (.tmp rfl id) (fun hg => hn9 hg.2)) (.c (.keql (.at rfl rfl) (.tmp rfl id) .ki) (.po rfl rfl (.ra hv10 rfl (.nil (.blkNormal (Ends.j _ (some_eq h)))))))))))))))))))))))))))))
   ·
    subst hj6; have h := hK6; clear hK6
    exact .rn mx (.adi rfl (.mv rfl (.nil (Ends.ag (some_eq h)))))
  ·
   refine .exit (.thenExit (.thenExit (.blkExit ?_)))
   replace h := hD4 _ (some_eq h)
   exact Ends.j _ (some_eq h)
 ·
  subst hj3; have h := hK3; clear hK3
  obtain ⟨r2, hv11, h⟩ := bind_some h
  obtain ⟨r3, hv12, h⟩ := bind_some h
  obtain ⟨r4, hv13, h⟩ := bind_some h
  refine .sn mx (.mv rfl (.c (.lenStr .none Tryz.underlying9 (.s rfl)) (.c (.gt .none (.s rfl) .i) (.c (.call .none (ref_When_ok hv11) (.cons (.s rfl) (.cons .i .nil))) (.mv rfl (.c (.call .none (ref_When_ok hv12) (.cons (.s rfl) (.cons .i .nil))) (.c (.buildSlice (xs := [_, _]) .none sl51 ty24 hz24 (.cons (.s rfl) (.cons (.s rfl) .nil)) rfl (by decide)) (.c (.call .none (ref_First_ok hv13) (.cons (.s rfl) .nil)) (.asn rfl (.nil (.ret ?_)))))))))))
  obtain rfl := some_eq h
  exact Ends.rt Tryz.results19 rfl

theorem ref_ThingsError_ok {l1 : (List Thing)} {r : Int}  (h : ref_ThingsError l1 = some r) : FSpec Tryz.prog 4 [rep l1] (rep r) := by
 unfold ref_ThingsError at h
 refine FSpec.i Tryz.func4 rfl Tryz.ntmps4 rfl (fun F => (.sn mx (.asi (.nil (.seq (.sn mx (.mv rfl (.ln sl22 rfl (.c (.gt .none (.s rfl) .i) (.nil (.cb rfl h (fun _ h => ?_) fun _ h => ?_)))))))))))
 ·
  refine .sn mx (.asi (.nil (.ret (.thenRet ?_))))
  obtain rfl := some_eq h
  exact Ends.rt Tryz.results4 rfl
 ·
  refine .skip (.then (.seq (.sn mx (.mv rfl (.ln sl22 rfl (.mvi (.nil ?_)))))))
  obtain ⟨o_2, h, hK2⟩ := bindR_some h
  refine .tJ (fun s => o_2 = Res.nx s) Sub.nil SubB.nil ?_ (fun j_2 hj2 => ?_)
  ·
   refine .block (.rforEL h (fun p3_ => [(14, ⟨True, rep p3_.1⟩)]) (fun p3_ => []) (.k 14 rfl .nil) SubB.nil (.k2 0 12 rfl rfl (.k 13 rfl .nil)) SubB.nil (fun p3_ o_3 h hD3 => (.sn mx (.lt rfl rfl (.nil (.seq (.cb rfl h (fun _ h => ?_) fun _ h => ?_)))))))
   ·
    refine .skip (.then (.seq ?_))
    obtain ⟨o_5, h, hK5⟩ := bindD_some h
    unfold ref_ThingsError_L1 at h
    refine .tJ (fun s => o_5 = Res.nx s) (.k4 0 12 13 14 rfl rfl rfl rfl .nil) SubB.nil ?_ (fun j_5 hj5 => ?_)
    ·
     obtain ⟨hn6, h⟩ := need_some h
     obtain ⟨v1, hv7, h⟩ := bnd_some h
     obtain ⟨r1, hv8, h⟩ := bind_some h
     obtain ⟨r2, hv9, h⟩ := bind_some h
     obtain ⟨hn10, h⟩ := need_some h
     obtain ⟨r3, hv11, h⟩ := bind_some h
     obtain ⟨r4, hv12, h⟩ := bind_some h
     obtain ⟨r5, hv13, h⟩ := bind_some h
     obtain ⟨e1, hv14, h⟩ := bind_some h
     refine .block (.sr [oo, oo, oo, ([], [4]), oo, ([4], [4])] mx (.mvA rfl (.ixA sl22 ty45 rfl rfl hn6 (.rlA hv7 ty45 rfl (.al zo45 rfl (.asnA rfl (.st ty45 rfl rfl rfl (.nil (.freeze (t := 4) rfl rfl SubB.nil rfl (.seq (.sn mx (.fa fd45_0 hfd45_0 rfl (.ld ty9 rfl (.c (.call .none (ref_NameOf_ok hv8) (.cons (.s rfl) .nil)) (.c (.not .none (.s rfl)) (.c (.call .none (ref_When_ok hv9) (.cons (.s rfl) (.cons .i .nil))) (.mv rfl (.c (.gt .none (.s rfl) .i) (.mv rfl (.fg fd45_0 hfd45_0 rfl rfl rfl (.lg ty9 rfl rfl rfl (.mg rfl rfl rfl (.mg rfl rfl rfl (.c (.max2 (.at rfl rfl) (.tmp rfl id) .i) (.c (.subW (.at rfl rfl) (.tmp rfl id) .i) (.c (.indexAddr (.at rfl rfl) sl22 ty45 (.tmp rfl id) (.tmp rfl id) (fun hg => hn10 hg.2)) (.c (.fieldAddr (.at rfl rfl) fd45_0 hfd45_0 (.tmp rfl id)) (.lg ty9 rfl rfl rfl (.c (.leStr (.at rfl rfl) (.tmp rfl id) (.tmp rfl id)) (.pa rfl rfl (.c (.call .none (ref_When_ok hv11) (.cons (.s rfl) (.cons .i .nil))) (.fa fd45_1 hfd45_1 rfl (.ld ty43 rfl (.ln sl43 rfl (.eqi rfl (.c (.call .none (ref_When_ok hv12) (.cons (.s rfl) (.cons .i .nil))) (.fa fd45_1 hfd45_1 rfl (.ld ty43 rfl (.ln sl43 rfl (.c (.gt .none (.s rfl) .i) (.c (.call .none (ref_When_ok hv13) (.cons (.s rfl) (.cons .i .nil))) (.c (.buildSlice (xs := [_, _, _, _]) .none sl51 ty24 hz24 (.cons (.s rfl) (.cons (.s rfl) (.cons (.s rfl) (.cons (.s rfl) .nil)))) rfl (by decide)) (.c (.call .none (ref_First_ok hv14) (.cons (.s rfl) .nil)) (.asn rfl (.nil (.sn mx (.mv rfl (.nei rfl (.nil (.cb rfl h (fun _ h => ?_) fun _ h => ?_))))))))))))))))))))))))))))))))))))))))))))))))))
     ·
      refine .sn mx (.mv rfl (.asn rfl (.nil (.ret (.thenRet (.blkRet (.thenRet (.thenRet (.blkRet (.thenRet ?_))))))))))
      replace h := resd_ab hK5 (some_eq h)
      replace h := hD3 _ (some_eq h)
      replace h := resb_ab hK2 (some_eq h)
      obtain rfl := some_eq h
      exact Ends.rt Tryz.results4 rfl
     ·
      refine .skip (.then (.sn mx (.fa fd45_1 hfd45_1 rfl (.ld ty43 rfl (.ln sl43 rfl (.mvi (.nil (.block (.rforEL h (fun p16_ => [(57, ⟨True, rep p16_.1⟩)]) (fun p16_ => []) (.k 57 rfl .nil) SubB.nil (.k4 0 4 12 13 rfl rfl rfl rfl (.k2 14 55 rfl rfl (.k 56 rfl .nil))) SubB.nil (fun p16_ o_16 h hD16 => (.sn mx (.lt rfl rfl (.nil (.seq (.cb rfl h (fun _ h => ?_) fun _ h => ?_)))))))))))))))
      ·
       refine .skip (.then (.seq ?_))
       obtain ⟨o_18, h, hK18⟩ := bindD_some h
       unfold ref_ThingsError_L2 at h
       refine .tJ (fun s => o_18 = Res.nx s) (.k4 0 4 12 13 rfl rfl rfl rfl (.k4 14 55 56 57 rfl rfl rfl rfl .nil)) SubB.nil ?_ (fun j_18 hj18 => ?_)
       ·
        obtain ⟨hn19, h⟩ := need_some h
        obtain ⟨v2, hv20, h⟩ := bnd_some h
        obtain ⟨r6, hv21, h⟩ := bind_some h
        obtain ⟨r7, hv22, h⟩ := bind_some h
        obtain ⟨hn23, h⟩ := need_some h
        obtain ⟨r8, hv24, h⟩ := bind_some h
        obtain ⟨r9, hv25, h⟩ := bind_some h
        obtain ⟨e2, hv26, h⟩ := bind_some h
        refine .block (.sr [oo, oo, oo, ([], [7]), oo, ([7], [7])] mx (.mvA rfl (.ixA sl43 ty49 rfl rfl hn19 (.rlA hv20 ty49 rfl (.al zo49 rfl (.asnA rfl (.st ty49 rfl rfl rfl (.nil (.freeze (t := 7) rfl rfl SubB.nil rfl (.sn mx (.fa fd49_0 hfd49_0 rfl (.ld ty9 rfl (.c (.call .none (ref_NameOf_ok hv21) (.cons (.s rfl) .nil)) (.c (.not .none (.s rfl)) (.c (.call .none (ref_When_ok hv22) (.cons (.s rfl) (.cons .i .nil))) (.mv rfl (.c (.gt .none (.s rfl) .i) (.mv rfl (.fg fd49_0 hfd49_0 rfl rfl rfl (.lg ty9 rfl rfl rfl (.fg fd45_1 hfd45_1 rfl rfl rfl (.lg ty43 rfl rfl rfl (.mg rfl rfl rfl (.c (.max2 (.at rfl rfl) (.tmp rfl id) .i) (.c (.subW (.at rfl rfl) (.tmp rfl id) .i) (.c (.indexAddr (.at rfl rfl) sl43 ty49 (.tmp rfl id) (.tmp rfl id) (fun hg => hn23 hg.2)) (.c (.fieldAddr (.at rfl rfl) fd49_0 hfd49_0 (.tmp rfl id)) (.lg ty9 rfl rfl rfl (.c (.leStr (.at rfl rfl) (.tmp rfl id) (.tmp rfl id)) (.pa rfl rfl (.c (.call .none (ref_When_ok hv24) (.cons (.s rfl) (.cons .i .nil))) (.fa fd49_1 hfd49_1 rfl (.ld ty9 rfl (.c (.call .none (ref_TextError_ok hv25) (.cons (.s rfl) .nil)) (.c (.buildSlice (xs := [_, _, _]) .none sl51 ty24 hz24 (.cons (.s rfl) (.cons (.s rfl) (.cons (.s rfl) .nil))) rfl (by decide)) (.c (.call .none (ref_First_ok hv26) (.cons (.s rfl) .nil)) (.asn rfl (.nil (.sn mx (.mv rfl (.nei rfl (.nil (.cb rfl h (fun _ h => ?_) fun _ h => ?_)))))))))))))))))))))))))))))))))))))))))))
        ·
         refine .sn mx (.mv rfl (.asn rfl (.nil (.ret (.blkRet (.thenRet (.thenRet (.blkRet (.blkRet (.thenRet (.thenRet (.blkRet (.thenRet ?_)))))))))))))
         replace h := resd_ab hK18 (some_eq h)
         replace h := hD16 _ (some_eq h)
         replace h := resd_ab hK5 (some_eq h)
         replace h := hD3 _ (some_eq h)
         replace h := resb_ab hK2 (some_eq h)
         obtain rfl := some_eq h
         exact Ends.rt Tryz.results4 rfl
        ·
         exact .skip (.blkNormal (Ends.j _ (some_eq h)))
       ·
        have h := resd_nx hK18 hj18
        exact .rn mx (.adi rfl (.mv rfl (.nil (Ends.ag (some_eq h)))))
      ·
       refine .exit (.thenExit (.thenExit (.blkExit (.blkNormal ?_))))
       replace h := hD16 _ (some_eq h)
       exact Ends.j _ (some_eq h)
    ·
     have h := resd_nx hK5 hj5
     exact .rn mx (.adi rfl (.mv rfl (.nil (Ends.ag (some_eq h)))))
   ·
    refine .exit (.thenExit (.thenExit (.blkExit ?_)))
    replace h := hD3 _ (some_eq h)
    exact Ends.j _ (some_eq h)
  ·
   have h := resb_nx hK2 hj2
   refine .sn mx (.asi (.nil (.ret ?_)))
   obtain rfl := some_eq h
   exact Ends.rt Tryz.results4 rfl

theorem edit_isName_ok {s1 : Str} {r : Bool}  (h : edit_isName s1 = some r) : FSpec Tryz.prog 28 [rep s1] (rep r) := by
 unfold edit_isName at h
 obtain ⟨hn1, h⟩ := need_some h
 obtain ⟨hn2, h⟩ := need_some h
 obtain ⟨r1, hv3, h⟩ := bind_some h
 refine FSpec.i Tryz.func28 rfl Tryz.ntmps28 rfl (fun F => (.sn mx (.asb (.nil (.sn mx (.mv rfl (.c (.neS .none (eqAt_str Tryz.underlying9) (.s rfl) (.str (l := []) (by decide))) (.mv rfl (.mg rfl rfl rfl (.c (.lenStr (.at rfl rfl) Tryz.underlying9 (.tmp rfl id)) (.c (.le (.at rfl rfl) (.tmp rfl id) .i) (.pa rfl rfl (.mv rfl (.mg rfl rfl rfl (.c (.indexStr (.at rfl rfl) Tryz.underlying9 (.tmp rfl id) .i (fun hg => hn1 hg.2)) (.c (.kgeq (.at rfl rfl) (.tmp rfl id) .ki) (.pa rfl rfl (.mv rfl (.mg rfl rfl rfl (.c (.indexStr (.at rfl rfl) Tryz.underlying9 (.tmp rfl id) .i (fun hg => hn2 hg.2)) (.c (.kleq (.at rfl rfl) (.tmp rfl id) .ki) (.pa rfl rfl (.mv rfl (.mg rfl rfl rfl (.c (.callIf (.at rfl rfl) fnok48 (fun hg => strings_Trim_ok ((fun hg => gd_some hv3 (hg.2)) hg)) (.cons (.tmp rfl id) (.cons (.str (l := [97, 98, 99, 100, 101, 102, 103, 104, 105, 106, 107, 108, 109, 110, 111, 112, 113, 114, 115, 116, 117, 118, 119, 120, 121, 122, 48, 49, 50, 51, 52, 53, 54, 55, 56, 57, 45]) (by decide)) .nil)) (fun h => h)) (.c (.eqS (.at rfl rfl) (eqAt_str Tryz.underlying9) (.tmp rfl id) (.str (l := []) (by decide))) (.pa rfl rfl (.asn rfl (.nil (.ret ?_))))))))))))))))))))))))))))))
 obtain rfl := some_eq h
 exact Ends.rt Tryz.results28 rfl

theorem shape_CheckText_ok {s1 : Str} {r : Int}  (h : shape_CheckText s1 = some r) : FSpec Tryz.prog 29 [rep s1] (rep r) := by
 unfold shape_CheckText at h
 refine FSpec.i Tryz.func29 rfl Tryz.ntmps29 rfl (fun F => (.sn mx (.asi (.nil (.seq (.sn mx (.mv rfl (.c (.lenStr .none Tryz.underlying9 (.s rfl)) (.c (.gt .none (.s rfl) .i) (.nil (.cb rfl h (fun _ h => ?_) fun _ h => ?_)))))))))))
 ·
  refine .sn mx (.asi (.nil (.ret (.thenRet ?_))))
  obtain rfl := some_eq h
  exact Ends.rt Tryz.results29 rfl
 ·
  obtain ⟨r1, hv2, h⟩ := bind_some h
  refine .skip (.then (.seq (.sn mx (.mv rfl (.c (.call .none (utf8_ValidString_ok hv2) (.cons (.s rfl) .nil)) (.c (.not .none (.s rfl)) (.nil (.cb rfl h (fun _ h => ?_) fun _ h => ?_))))))))
  ·
   refine .sn mx (.asi (.nil (.ret (.thenRet ?_))))
   obtain rfl := some_eq h
   exact Ends.rt Tryz.results29 rfl
  ·
   refine .skip (.then (.seq (.sn mx (.mv rfl (.c (.lenStr .none Tryz.underlying9 (.s rfl)) (.mvi (.nil ?_)))))))
   obtain ⟨o_4, h, hK4⟩ := bindR_some h
   refine .tJ (fun s => o_4 = Res.nx s) Sub.nil SubB.nil ?_ (fun j_4 hj4 => ?_)
   ·
    refine .block (.rforEL h (fun p5_ => [(12, ⟨True, rep p5_.1⟩)]) (fun p5_ => []) (.k 12 rfl .nil) SubB.nil (.k2 0 11 rfl rfl .nil) SubB.nil (fun p5_ o_5 h hD5 => (.sn mx (.lt rfl rfl (.nil (.seq (.cb rfl h (fun _ h => ?_) fun _ h => ?_)))))))
    ·
     refine .skip (.then (.seq ?_))
     obtain ⟨o_7, h, hK7⟩ := bindD_some h
     unfold shape_CheckText_L1 at h
     refine .tJ (fun s => o_7 = Res.nx s) (.k2 0 11 rfl rfl (.k 12 rfl .nil)) SubB.nil ?_ (fun j_7 hj7 => ?_)
     ·
      obtain ⟨hn8, h⟩ := need_some h
      obtain ⟨hn9, h⟩ := need_some h
      obtain ⟨hn10, h⟩ := need_some h
      refine .block (.sn mx (.mv rfl (.asn rfl (.nil (.sn mx (.mv rfl (.mv rfl (.c (.indexStr .none Tryz.underlying9 (.s rfl) (.s rfl) (fun _ => hn8)) (.c (.klss .none (.s rfl) .ki) (.mv rfl (.mg rfl rfl rfl (.mg rfl rfl rfl (.c (.indexStr (.at rfl rfl) Tryz.underlying9 (.tmp rfl id) (.tmp rfl id) (fun hg => hn9 hg.2)) (.c (.kneq (.at rfl rfl) (.tmp rfl id) .ki) (.pa rfl rfl (.mv rfl (.mg rfl rfl rfl (.mg rfl rfl rfl (.c (.indexStr (.at rfl rfl) Tryz.underlying9 (.tmp rfl id) (.tmp rfl id) (fun hg => hn10 hg.2)) (.c (.keql (.at rfl rfl) (.tmp rfl id) .ki) (.po rfl rfl (.nil (.cb rfl h (fun _ h => ?_) fun _ h => ?_)))))))))))))))))))))))
      ·
       refine .sn mx (.asi (.nil (.ret (.blkRet (.thenRet (.thenRet (.blkRet (.thenRet ?_))))))))
       replace h := resd_ab hK7 (some_eq h)
       replace h := hD5 _ (some_eq h)
       replace h := resb_ab hK4 (some_eq h)
       obtain rfl := some_eq h
       exact Ends.rt Tryz.results29 rfl
      ·
       exact .skip (.blkNormal (Ends.j _ (some_eq h)))
     ·
      have h := resd_nx hK7 hj7
      exact .rn mx (.adi rfl (.mv rfl (.nil (Ends.ag (some_eq h)))))
    ·
     refine .exit (.thenExit (.thenExit (.blkExit ?_)))
     replace h := hD5 _ (some_eq h)
     exact Ends.j _ (some_eq h)
   ·
    have h := resb_nx hK4 hj4
    refine .sn mx (.asi (.nil (.ret ?_)))
    obtain rfl := some_eq h
    exact Ends.rt Tryz.results29 rfl

theorem edit_CheckThings_ok {l1 : (List Thing)} {r : Int}  (h : edit_CheckThings l1 = some r) : FSpec Tryz.prog 8 [rep l1] (rep r) := by
 unfold edit_CheckThings at h
 refine FSpec.i Tryz.func8 rfl Tryz.ntmps8 rfl (fun F => (.sn mx (.asi (.nil (.seq (.sn mx (.mv rfl (.ln sl22 rfl (.c (.gt .none (.s rfl) .i) (.nil (.cb rfl h (fun _ h => ?_) fun _ h => ?_)))))))))))
 ·
  refine .sn mx (.asi (.nil (.ret (.thenRet ?_))))
  obtain rfl := some_eq h
  exact Ends.rt Tryz.results8 rfl
 ·
  refine .skip (.then (.seq (.sn mx (.mv rfl (.ln sl22 rfl (.mvi (.nil ?_)))))))
  obtain ⟨o_2, h, hK2⟩ := bindR_some h
  refine .tJ (fun s => o_2 = Res.nx s) Sub.nil SubB.nil ?_ (fun j_2 hj2 => ?_)
  ·
   refine .block (.rforEL h (fun p3_ => [(13, ⟨True, rep p3_.1⟩)]) (fun p3_ => []) (.k 13 rfl .nil) SubB.nil (.k2 0 11 rfl rfl (.k 12 rfl .nil)) SubB.nil (fun p3_ o_3 h hD3 => (.sn mx (.lt rfl rfl (.nil (.seq (.cb rfl h (fun _ h => ?_) fun _ h => ?_)))))))
   ·
    refine .skip (.then (.seq ?_))
    obtain ⟨o_5, h, hK5⟩ := bindD_some h
    unfold edit_CheckThings_L1 at h
    refine .tJ (fun s => o_5 = Res.nx s) (.k4 0 11 12 13 rfl rfl rfl rfl .nil) SubB.nil ?_ (fun j_5 hj5 => ?_)
    ·
     obtain ⟨hn6, h⟩ := need_some h
     obtain ⟨v1, hv7, h⟩ := bnd_some h
     obtain ⟨r1, hv8, h⟩ := bind_some h
     refine .block (.sr [oo, oo, oo, ([], [4]), oo, ([4], [4])] mx (.mvA rfl (.ixA sl22 ty45 rfl rfl hn6 (.rlA hv7 ty45 rfl (.al zo45 rfl (.asnA rfl (.st ty45 rfl rfl rfl (.nil (.freeze (t := 4) rfl rfl SubB.nil rfl (.seq (.block (.sn mx (.fa fd45_0 hfd45_0 rfl (.ld ty9 rfl (.c (.call .none (edit_isName_ok hv8) (.cons (.s rfl) .nil)) (.c (.not .none (.s rfl)) (.asn rfl (.nil (.cb rfl h (fun _ h => ?_) fun _ h => ?_)))))))))))))))))))
     ·
      refine .sn mx (.asi (.nil (.ret (.blkRet (.thenRet (.blkRet (.thenRet (.thenRet (.blkRet (.thenRet ?_))))))))))
      replace h := resd_ab hK5 (some_eq h)
      replace h := hD3 _ (some_eq h)
      replace h := resb_ab hK2 (some_eq h)
      obtain rfl := some_eq h
      exact Ends.rt Tryz.results8 rfl
     ·
      obtain ⟨hn10, h⟩ := need_some h
      refine .sn mx (.mv rfl (.c (.gt .none (.s rfl) .i) (.mv rfl (.fg fd45_0 hfd45_0 rfl rfl rfl (.lg ty9 rfl rfl rfl (.mg rfl rfl rfl (.mg rfl rfl rfl (.c (.subW (.at rfl rfl) (.tmp rfl id) .i) (.c (.indexAddr (.at rfl rfl) sl22 ty45 (.tmp rfl id) (.tmp rfl id) (fun hg => hn10 hg.2)) (.c (.fieldAddr (.at rfl rfl) fd45_0 hfd45_0 (.tmp rfl id)) (.lg ty9 rfl rfl rfl (.c (.leStr (.at rfl rfl) (.tmp rfl id) (.tmp rfl id)) (.pa rfl rfl (.asn rfl (.nil (.cb rfl h (fun _ h => ?_) fun _ h => ?_))))))))))))))))
      ·
       refine .sn mx (.asi (.nil (.ret (.blkRet (.thenRet (.blkRet (.thenRet (.thenRet (.blkRet (.thenRet ?_))))))))))
       replace h := resd_ab hK5 (some_eq h)
       replace h := hD3 _ (some_eq h)
       replace h := resb_ab hK2 (some_eq h)
       obtain rfl := some_eq h
       exact Ends.rt Tryz.results8 rfl
      ·
       refine .sn mx (.fa fd45_1 hfd45_1 rfl (.ld ty43 rfl (.ln sl43 rfl (.eqi rfl (.asn rfl (.nil (.cb rfl h (fun _ h => ?_) fun _ h => ?_)))))))
       ·
        refine .sn mx (.asi (.nil (.ret (.blkRet (.thenRet (.blkRet (.thenRet (.thenRet (.blkRet (.thenRet ?_))))))))))
        replace h := resd_ab hK5 (some_eq h)
        replace h := hD3 _ (some_eq h)
        replace h := resb_ab hK2 (some_eq h)
        obtain rfl := some_eq h
        exact Ends.rt Tryz.results8 rfl
       ·
        refine .sn mx (.fa fd45_1 hfd45_1 rfl (.ld ty43 rfl (.ln sl43 rfl (.c (.gt .none (.s rfl) .i) (.asn rfl (.nil (.cb rfl h (fun _ h => ?_) fun _ h => ?_)))))))
        ·
         refine .sn mx (.asi (.nil (.ret (.blkRet (.thenRet (.blkRet (.thenRet (.thenRet (.blkRet (.thenRet ?_))))))))))
         replace h := resd_ab hK5 (some_eq h)
         replace h := hD3 _ (some_eq h)
         replace h := resb_ab hK2 (some_eq h)
         obtain rfl := some_eq h
         exact Ends.rt Tryz.results8 rfl
        ·
         refine .skip (.blkNormal (.then (.sn mx (.fa fd45_1 hfd45_1 rfl (.ld ty43 rfl (.ln sl43 rfl (.mvi (.nil (.block (.rforEL h (fun p14_ => [(50, ⟨True, rep p14_.1⟩)]) (fun p14_ => []) (.k 50 rfl .nil) SubB.nil (.k4 0 4 11 12 rfl rfl rfl rfl (.k2 13 48 rfl rfl (.k 49 rfl .nil))) SubB.nil (fun p14_ o_14 h hD14 => (.sn mx (.lt rfl rfl (.nil (.seq (.cb rfl h (fun _ h => ?_) fun _ h => ?_))))))))))))))))
         ·
          refine .skip (.then (.seq ?_))
          obtain ⟨o_16, h, hK16⟩ := bindD_some h
          unfold edit_CheckThings_L2 at h
          refine .tJ (fun s => o_16 = Res.nx s) (.k4 0 4 11 12 rfl rfl rfl rfl (.k4 13 48 49 50 rfl rfl rfl rfl .nil)) SubB.nil ?_ (fun j_16 hj16 => ?_)
          ·
           obtain ⟨hn17, h⟩ := need_some h
           obtain ⟨v2, hv18, h⟩ := bnd_some h
           obtain ⟨r2, hv19, h⟩ := bind_some h
           refine .block (.sr [oo, oo, oo, ([], [6]), oo, ([6], [6])] mx (.mvA rfl (.ixA sl43 ty49 rfl rfl hn17 (.rlA hv18 ty49 rfl (.al zo49 rfl (.asnA rfl (.st ty49 rfl rfl rfl (.nil (.freeze (t := 6) rfl rfl SubB.nil rfl (.seq (.block (.sn mx (.fa fd49_0 hfd49_0 rfl (.ld ty9 rfl (.c (.call .none (edit_isName_ok hv19) (.cons (.s rfl) .nil)) (.c (.not .none (.s rfl)) (.asn rfl (.nil (.cb rfl h (fun _ h => ?_) fun _ h => ?_)))))))))))))))))))
           ·
            refine .sn mx (.asi (.nil (.ret (.blkRet (.thenRet (.blkRet (.thenRet (.thenRet (.blkRet (.blkRet (.thenRet (.thenRet (.blkRet (.thenRet ?_))))))))))))))
            replace h := resd_ab hK16 (some_eq h)
            replace h := hD14 _ (some_eq h)
            replace h := resd_ab hK5 (some_eq h)
            replace h := hD3 _ (some_eq h)
            replace h := resb_ab hK2 (some_eq h)
            obtain rfl := some_eq h
            exact Ends.rt Tryz.results8 rfl
           ·
            obtain ⟨hn21, h⟩ := need_some h
            refine .sn mx (.mv rfl (.c (.gt .none (.s rfl) .i) (.mv rfl (.fg fd49_0 hfd49_0 rfl rfl rfl (.lg ty9 rfl rfl rfl (.fg fd45_1 hfd45_1 rfl rfl rfl (.lg ty43 rfl rfl rfl (.mg rfl rfl rfl (.c (.subW (.at rfl rfl) (.tmp rfl id) .i) (.c (.indexAddr (.at rfl rfl) sl43 ty49 (.tmp rfl id) (.tmp rfl id) (fun hg => hn21 hg.2)) (.c (.fieldAddr (.at rfl rfl) fd49_0 hfd49_0 (.tmp rfl id)) (.lg ty9 rfl rfl rfl (.c (.leStr (.at rfl rfl) (.tmp rfl id) (.tmp rfl id)) (.pa rfl rfl (.asn rfl (.nil (.cb rfl h (fun _ h => ?_) fun _ h => ?_)))))))))))))))))
            ·
             refine .sn mx (.asi (.nil (.ret (.blkRet (.thenRet (.blkRet (.thenRet (.thenRet (.blkRet (.blkRet (.thenRet (.thenRet (.blkRet (.thenRet ?_))))))))))))))
             replace h := resd_ab hK16 (some_eq h)
             replace h := hD14 _ (some_eq h)
             replace h := resd_ab hK5 (some_eq h)
             replace h := hD3 _ (some_eq h)
             replace h := resb_ab hK2 (some_eq h)
             obtain rfl := some_eq h
             exact Ends.rt Tryz.results8 rfl
            ·
             obtain ⟨e1, hv23, h⟩ := bind_some h
             refine .skip (.blkNormal (.then (.sn mx (.fa fd49_1 hfd49_1 rfl (.ld ty9 rfl (.c (.call .none (shape_CheckText_ok hv23) (.cons (.s rfl) .nil)) (.asn rfl (.nil (.sn mx (.mv rfl (.nei rfl (.nil (.cb rfl h (fun _ h => ?_) fun _ h => ?_)))))))))))))
             ·
              refine .sn mx (.mv rfl (.asn rfl (.nil (.ret (.blkRet (.thenRet (.thenRet (.blkRet (.blkRet (.thenRet (.thenRet (.blkRet (.thenRet ?_)))))))))))))
              replace h := resd_ab hK16 (some_eq h)
              replace h := hD14 _ (some_eq h)
              replace h := resd_ab hK5 (some_eq h)
              replace h := hD3 _ (some_eq h)
              replace h := resb_ab hK2 (some_eq h)
              obtain rfl := some_eq h
              exact Ends.rt Tryz.results8 rfl
             ·
              exact .skip (.blkNormal (Ends.j _ (some_eq h)))
          ·
           have h := resd_nx hK16 hj16
           exact .rn mx (.adi rfl (.mv rfl (.nil (Ends.ag (some_eq h)))))
         ·
          refine .exit (.thenExit (.thenExit (.blkExit (.blkNormal ?_))))
          replace h := hD14 _ (some_eq h)
          exact Ends.j _ (some_eq h)
    ·
     have h := resd_nx hK5 hj5
     exact .rn mx (.adi rfl (.mv rfl (.nil (Ends.ag (some_eq h)))))
   ·
    refine .exit (.thenExit (.thenExit (.blkExit ?_)))
    replace h := hD3 _ (some_eq h)
    exact Ends.j _ (some_eq h)
  ·
   have h := resb_nx hK2 hj2
   refine .sn mx (.asi (.nil (.ret ?_)))
   obtain rfl := some_eq h
   exact Ends.rt Tryz.results8 rfl

theorem edit_thingsOf_ok {l1 : (List Thing)} {r : (GMap Str (GMap Str Str))}  (h : edit_thingsOf l1 = some r) : FSpecO Tryz.prog 20 [rep l1] [] (anyV) [some (mapD none r)] := by
 unfold edit_thingsOf at h
 obtain ⟨t1, hv1, h⟩ := bnd_some h
 refine FSpecO.i Tryz.func20 rfl Tryz.ntmps20 rfl (fun F => (.sn mx (.c (.assign .none (.const (x := (GMap.nil : (GMap Str (GMap Str Str)))) (fun M w => ⟨_, map_zero, rfl⟩))) (.nil (.sr [([], [8]), ([8], [3, 8])] mx (.cW (.makeMapD (K := Str) (K2 := Str) (V := Str) rfl) (.cW (.passRow rfl (.tmp rfl)) (.nil (.reB (t := 3) rfl (congrArg (mapD none) hv1) (.nameC (t := 3) (g := 5001) oneMapD rfl rfl rfl (fun s5001 => (.seq (.sn mx (.mv rfl (.ln sl22 rfl (.mvi (.nil ?_)))))))))))))))))
 obtain ⟨j_2, h, hK2⟩ := bind_some h
 refine .thenJ (ι := (GMap Str (GMap Str Str))) (fun j_2 => []) (fun j_2 => [(5001, some (CPred.at s5001 (mapD none j_2)))]) (fun s => j_2 = s) (.k 3 rfl .nil) SubB.nil ?_ (fun j_2' hj2 => ?_)
 ·
  refine .block (.rforL h (fun p3_ => [(11, ⟨True, rep p3_.1⟩)]) (fun p3_ => [(5001, some (CPred.at s5001 (mapD none p3_.2)))]) (.k 11 rfl .nil) (.k 5001 rfl .nil) (.k2 3 9 rfl rfl (.k 10 rfl .nil)) SubB.nil (fun p3_ o_3 h hD3 => (.sn mx (.lt rfl rfl (.nil (.seq (.cb rfl h (fun _ h => ?_) fun _ h => ?_)))))))
  ·
   refine .skip (.then (.seq ?_))
   obtain ⟨j_5, h, hK5⟩ := bind_some h
   unfold edit_thingsOf_L1 at h
   refine .thenJ (ι := (GMap Str (GMap Str Str))) (fun j_5 => []) (fun j_5 => [(5001, some (CPred.at s5001 (mapD none j_5)))]) (fun s => j_5 = s) (.k4 3 9 10 11 rfl rfl rfl rfl .nil) SubB.nil ?_ (fun j_5' hj5 => ?_)
   ·
    obtain ⟨hn6, h⟩ := need_some h
    obtain ⟨v1, hv7, h⟩ := bnd_some h
    obtain ⟨t2, hv8, h⟩ := bnd_some h
    refine .block (.sr [oo, oo, ([], [5]), ([5], [5])] mx (.ixA sl22 ty45 rfl rfl hn6 (.rlA hv7 ty45 rfl (.al zo45 rfl (.st ty45 rfl rfl rfl (.nil (.freeze (t := 5) rfl rfl (.k 5001 rfl .nil) rfl (.sr [oo, oo, oo, ([], [18]), ([5001, 18], [5001, 18])] mx (.mvA rfl (.faA fd45_0 hfd45_0 rfl (.ldA ty9 rfl (.cW (.makeMap (K := Str) (V := Str) rfl) (.cN (.mapPutD (q := 5001) (t := 18) mo54 rfl (.s rfl) rfl rfl rfl (.s rfl)) (.nil (.reB (t := 5001) rfl (congrArg (fun y => CPred.at s5001 (mapD none y)) hv8) (.sn mx (.fa fd45_1 hfd45_1 rfl (.ld ty43 rfl (.ln sl43 rfl (.mvi (.nil (.block (.rforL h (fun p9_ => [(22, ⟨True, rep p9_.1⟩)]) (fun p9_ => [(5001, some (CPred.at s5001 (mapD none p9_.2)))]) (.k 22 rfl .nil) (.k 5001 rfl .nil) (.k4 3 5 9 10 rfl rfl rfl rfl (.k2 11 20 rfl rfl (.k 21 rfl .nil))) SubB.nil (fun p9_ o_9 h hD9 => (.sn mx (.lt rfl rfl (.nil (.seq (.cb rfl h (fun _ h => ?_) fun _ h => ?_)))))))))))))))))))))))))))))
    ·
     refine .skip (.then (.seq ?_))
     obtain ⟨j_11, h, hK11⟩ := bind_some h
     unfold edit_thingsOf_L2 at h
     refine .thenJ (ι := (GMap Str (GMap Str Str))) (fun j_11 => []) (fun j_11 => [(5001, some (CPred.at s5001 (mapD none j_11)))]) (fun s => j_11 = s) (.k4 3 5 9 10 rfl rfl rfl rfl (.k4 11 20 21 22 rfl rfl rfl rfl .nil)) SubB.nil ?_ (fun j_11' hj11 => ?_)
     ·
      obtain ⟨hn12, h⟩ := need_some h
      obtain ⟨v2, hv13, h⟩ := bnd_some h
      obtain ⟨hn14, h⟩ := need_some h
      exact .block (.sr [oo, oo, ([], [7]), ([7], [7])] mx (.ixA sl43 ty49 rfl rfl hn12 (.rlA hv13 ty49 rfl (.al zo49 rfl (.st ty49 rfl rfl rfl (.nil (.freeze (t := 7) rfl rfl (.k 5001 rfl .nil) rfl (.openM (q := 5001) (r := 5002) (k := v1.Id) rfl rfl hn14 (fun s5002 => (.rg [oo, oo, oo, ([5001], []), oo, oo, oo, oo, ([5002], [5002])] mx (.mvA rfl (.faA fd45_0 hfd45_0 rfl (.ldA ty9 rfl (.cA (.lookPin (q := 5001) (z := s5002) .none mo54 zrawm60 (.s rfl) rfl (.s rfl)) (.faA fd49_0 hfd49_0 rfl (.ldA ty9 rfl (.faA fd49_1 hfd49_1 rfl (.ldA ty9 rfl (.cN (.mapUpdate (q := 5002) mo60 (.s rfl) rfl (.s rfl) (.s rfl)) (.nil (.blkNormal (.closeM (q := 5001) (r := 5002) rfl rfl rfl (Ends.j _ (some_eq h))))))))))))))))))))))))
     ·
      subst hj11; have h := hK11; clear hK11
      exact .rn mx (.adi rfl (.mv rfl (.nil (Ends.ag (some_eq h)))))
    ·
     refine .exit (.thenExit (.thenExit (.blkExit (.blkNormal ?_))))
     replace h := hD9 _ (some_eq h)
     exact Ends.j _ (some_eq h)
   ·
    subst hj5; have h := hK5; clear hK5
    exact .rn mx (.adi rfl (.mv rfl (.nil (Ends.ag (some_eq h)))))
  ·
   refine .exit (.thenExit (.thenExit (.blkExit ?_)))
   replace h := hD3 _ (some_eq h)
   exact Ends.j _ (some_eq h)
 ·
  subst hj2; have h := hK2; clear hK2
  refine .sn mx (.mv rfl (.asn rfl (.nil (.ret (.anon (t := 2) (g := 5001) rfl rfl trivial rfl ?_)))))
  obtain rfl := some_eq h
  exact Ends.ret1O (.inl rfl) [2] Tryz.results20 (by decide) (.res rfl rfl) (ResOK.tmp rfl trivial (fun _ _ _ _ => trivial))

theorem slices_Concat_Thing_ok {slices1 : (List (List Thing))} {r : (List Thing)}  (h : slices_Concat_Thing slices1 = some r) : FSpecO Tryz.prog 21 [rep slices1] [] (anyV) [some (rowV 45 r)] := by
 unfold slices_Concat_Thing at h
 refine FSpecO.i Tryz.func21 rfl Tryz.ntmps21 rfl (fun F => (.sn mx (.c (.assign .none (.const (x := ([] : (List Thing))) (fun M w => ⟨_, ⟨none, 0, rfl, Nat.le_refl _, by decide, rfl⟩, rfl⟩))) (.nil (.sn mx (.asi (.nil (.seq (.sn mx (.mv rfl (.ln sl52 rfl (.mvi (.nil ?_)))))))))))))
 obtain ⟨j_1, h, hK1⟩ := bind_some h
 refine .thenJ (ι := Int) (fun j_1 => [(3, ⟨True, rep j_1⟩)]) (fun j_1 => []) (fun s => j_1 = s) (.k 0 rfl .nil) SubB.nil ?_ (fun j_1' hj1 => ?_)
 ·
  refine .block (.rforL h (fun p2_ => [(11, ⟨True, rep p2_.1⟩), (3, ⟨True, rep p2_.2⟩)]) (fun p2_ => []) (.k2 11 3 rfl rfl .nil) SubB.nil (.k2 0 9 rfl rfl (.k 10 rfl .nil)) SubB.nil (fun p2_ o_2 h hD2 => (.sn mx (.lt rfl rfl (.nil (.seq (.cb rfl h (fun _ h => ?_) fun _ h => ?_)))))))
  ·
   refine .skip (.then (.seq ?_))
   obtain ⟨j_4, h, hK4⟩ := bind_some h
   unfold slices_Concat_Thing_L1 at h
   refine .thenJ (ι := Int) (fun j_4 => [(3, ⟨True, rep j_4⟩)]) (fun j_4 => []) (fun s => j_4 = s) (.k4 0 9 10 11 rfl rfl rfl rfl .nil) SubB.nil ?_ (fun j_4' hj4 => ?_)
   ·
    obtain ⟨hn5, h⟩ := need_some h
    obtain ⟨size1, hv6, h⟩ := bnd_some h
    refine .block (.sn mx (.ix sl52 ty22 rfl rfl hn5 (.ld ty22 rfl (.asn rfl (.nil (.sn mx (.mv rfl (.mv rfl (.ln sl22 rfl (.add rfl rfl (.ra hv6 rfl (.nil (.sn mx (.mv rfl (.c (.lt .none (.s rfl) .i) (.nil (.cb rfl h (fun _ h => ?_) fun _ h => ?_)))))))))))))))))
    ·
     cases h
    ·
     exact .skip (.blkNormal (Ends.j _ (some_eq h)))
   ·
    subst hj4; have h := hK4; clear hK4
    exact .rn mx (.adi rfl (.mv rfl (.nil (Ends.ag (some_eq h)))))
  ·
   refine .exit (.thenExit (.thenExit (.blkExit ?_)))
   replace h := hD2 _ (some_eq h)
   exact Ends.j _ (some_eq h)
 ·
  subst hj1; have h := hK1; clear hK1
  obtain ⟨newslice1, hv8, h⟩ := bind_some h
  refine .sr [oo, ([], [24]), ([24], [6, 24])] mx (.mvA rfl (.cW (.cO [] (slices_Grow_Thing_ok hv8) (.cons (.const (fun _ _ => rep_raw.2 ⟨rfl, rfl, rfl⟩)) (.cons (.s rfl) .nil)) .nil rfl) (.cW (.passRow rfl (.tmp rfl)) (.nil (.nameRow (t := 6) (g := 5001) rfl rfl rfl (fun s5001 => (.seq (.sn mx (.mv rfl (.ln sl52 rfl (.mvi (.nil ?_))))))))))))
  obtain ⟨j_9, h, hK9⟩ := bind_some h
  refine .thenJ (ι := (List Thing)) (fun j_9 => []) (fun j_9 => [(6, some (rowV 45 j_9))]) (fun s => j_9 = s) Sub.nil SubB.nil ?_ (fun j_9' hj9 => ?_)
  ·
   refine .block (.anon (t := 6) (g := 5001) rfl rfl trivial rfl (.rforL h (fun p10_ => [(27, ⟨True, rep p10_.1⟩)]) (fun p10_ => [(6, some (rowV 45 p10_.2))]) (.k 27 rfl .nil) (.k 6 rfl .nil) (.k2 25 26 rfl rfl .nil) SubB.nil (fun p10_ o_10 h hD10 => (.nameRow (t := 6) (g := 5002) rfl rfl rfl (fun s5002 => (.sn mx (.lt rfl rfl (.nil (.seq (.cb rfl h (fun _ h => ?_) fun _ h => ?_))))))))))
   ·
    refine .skip (.then (.seq ?_))
    obtain ⟨j_12, h, hK12⟩ := bind_some h
    unfold slices_Concat_Thing_L2 at h
    refine .thenJ (ι := (List Thing)) (fun j_12 => []) (fun j_12 => [(6, some (rowV 45 j_12))]) (fun s => j_12 = s) (.k2 25 26 rfl rfl (.k 27 rfl .nil)) SubB.nil ?_ (fun j_12' hj12 => ?_)
    ·
     obtain ⟨hn13, h⟩ := need_some h
     obtain ⟨hn14, h⟩ := need_some h
     exact .block (.sn mx (.ix sl52 ty22 rfl rfl hn13 (.ld ty22 rfl (.asn rfl (.nil (.rg [oo, oo, ([5002], [33, 5002]), ([33], [6, 33])] mx (.mvA rfl (.mvA rfl (.cW (.append (k := 5002) rk22 rfl (.told (.s rfl) rfl) (.s rfl) hn14) (.consWD (.passRow rfl (.tmp rfl)) rfl rfl (.nil (.blkNormal (Ends.j _ (some_eq h))))))))))))))
    ·
     subst hj12; have h := hK12; clear hK12
     exact .nameRow (t := 6) (g := 5003) rfl rfl rfl (fun s5003 => (.rn mx (.adi rfl (.mv rfl (.nil (.anon (t := 6) (g := 5003) rfl rfl trivial rfl (Ends.ag (some_eq h))))))))
   ·
    refine .exit (.thenExit (.thenExit (.blkExit (.anon (t := 6) (g := 5002) rfl rfl trivial rfl ?_))))
    replace h := hD10 _ (some_eq h)
    exact Ends.j _ (some_eq h)
  ·
   subst hj9; have h := hK9; clear hK9
   refine .nameRow (t := 6) (g := 5004) rfl rfl rfl (fun s5004 => (.sn mx (.mv rfl (.asn rfl (.nil (.ret (.anon (t := 2) (g := 5004) rfl rfl trivial rfl ?_)))))))
   obtain rfl := some_eq h
   exact Ends.ret1O (.inl rfl) [2] Tryz.results21 (by decide) (.res rfl rfl) (ResOK.tmp rfl trivial (fun _ _ _ _ => trivial))

theorem slices_Compact_string_ok {s1 : (List Str)} {r : (List Str)} {s61 : Value} (h : slices_Compact_string s1 = some r) : FSpecO Tryz.prog 23 [isV s61] [(s61, rowV 9 s1)] (anyV) [none, some (rowV 9 r)] := by
 unfold slices_Compact_string at h
 refine FSpecO.i Tryz.func23 rfl Tryz.ntmps23 rfl (fun F => (.sn mx (.c (.assign .none (.const (x := ([] : (List Str))) (fun M w => ⟨_, ⟨none, 0, rfl, Nat.le_refl _, by decide, rfl⟩, rfl⟩))) (.nil (.seq (.sr [oo, ([61], []), oo] mx (.mvA rfl (.cA (.lenO (k := 61) sl56 (.told (.s rfl) rfl)) (.cA (.lt .none (.s rfl) .i) (.nil (.cb rfl h (fun _ h => ?_) fun _ h => ?_)))))))))))
 ·
  refine .sn mx (.mv rfl (.asn rfl (.nil (.ret (.thenRet (.anon (t := 2) (g := 61) rfl rfl trivial rfl ?_))))))
  obtain rfl := some_eq h
  exact Ends.ret1O (.inl rfl) [61, 2] Tryz.results23 (by decide) (.skip (.res rfl rfl)) (ResOK.tmp rfl trivial (fun _ _ _ _ => trivial))
 ·
  refine .skip (.then (.seq (.sn mx (.asi (.nil ?_)))))
  obtain ⟨o_2, h, hK2⟩ := bindR_some h
  refine .tJ (fun s => o_2 = Res.nx s) (.k 0 rfl .nil) (.k 61 rfl .nil) ?_ (fun j_2 hj2 => ?_)
  ·
   refine .block (.loopL h (fun s3_ => [(3, ⟨True, rep s3_⟩)]) (fun s3_ => []) (.k 3 rfl .nil) SubB.nil (.k 0 rfl .nil) (.k 61 rfl .nil) (fun s3_ o_3 h hD3 => ?_))
   unfold slices_Compact_string_L1 at h
   refine .seq (.sr [oo, oo, ([61], []), oo] mx (.mvA rfl (.mvA rfl (.cA (.lenO (k := 61) sl56 (.told (.s rfl) rfl)) (.cA (.lt .none (.s rfl) (.s rfl)) (.nil (.cb rfl h (fun _ h => ?_) fun _ h => ?_)))))))
   ·
    refine .skip (.then (.seq ?_))
    obtain ⟨o_5, h, hK5⟩ := bindR_some h
    refine .tJ (fun s => o_5 = Res.nx s) (.k2 0 3 rfl rfl .nil) (.k 61 rfl .nil) ?_ (fun j_5 hj5 => ?_)
    ·
     obtain ⟨hn6, h⟩ := need_some h
     obtain ⟨hn7, h⟩ := need_some h
     refine .block (.sr [oo, oo, ([61], []), ([61], []), oo, oo, oo, ([61], []), ([61], []), oo] mx (.mvA rfl (.mvA rfl (.ixO 61 sl56 ty9 rfl rfl rfl hn6 (.cA (.loadElem0 (k := 61) .none ty9 (.s rfl) rfl (fun _ => hn6)) (.mvA rfl (.mvA rfl (.cA (.subW .none (.s rfl) .i) (.ixO 61 sl56 ty9 rfl rfl rfl hn7 (.cA (.loadElem0 (k := 61) .none ty9 (.s rfl) rfl (fun _ => hn7)) (.cA (.eqS .none (eqAt_str Tryz.underlying9) (.s rfl) (.s rfl)) (.nil (.cb rfl h (fun _ h => ?_) fun _ h => ?_)))))))))))))
     ·
      obtain ⟨hn9, h⟩ := need_some h
      refine .sr [oo, oo, ([61], []), oo] mx (.mvA rfl (.mvA rfl (.cA (.sliceLend (k := 61) sl56 ty9 (.s rfl) rfl (.s rfl) rfl hn9) (.asnA rfl (.nil (.seq (.sn mx (.asi (.nil ?_)))))))))
      obtain ⟨j_10, h, hK10⟩ := bind_some h
      refine .thenJ (ι := (Int × (List Str))) (fun j_10 => [(3, ⟨True, rep j_10.1⟩)]) (fun j_10 => [(61, some (CPred.at s61 (rowV 9 j_10.2)))]) (fun s => j_10 = s) (.k 0 rfl .nil) SubB.nil ?_ (fun j_10' hj10 => ?_)
      ·
       refine .block (.loopL h (fun s11_ => [(3, ⟨True, rep s11_.1⟩), (5, ⟨True, rep s11_.2.1⟩)]) (fun s11_ => [(61, some (CPred.at s61 (rowV 9 s11_.2.2)))]) (.k2 3 5 rfl rfl .nil) (.k 61 rfl .nil) (.k2 0 4 rfl rfl .nil) SubB.nil (fun s11_ o_11 h hD11 => ?_))
       unfold slices_Compact_string_L2 at h
       obtain ⟨hn12, h⟩ := need_some h
       refine .seq (.sr [oo, oo, ([61], []), oo] mx (.mvA rfl (.mvA rfl (.cA (.lenPart (k := 61) sl56 (.s rfl) rfl hn12) (.cA (.lt .none (.s rfl) (.s rfl)) (.nil (.cb rfl h (fun _ h => ?_) fun _ h => ?_)))))))
       ·
        refine .skip (.then (.seq ?_))
        obtain ⟨j_14, h, hK14⟩ := bind_some h
        refine .thenJ (ι := (Int × (List Str))) (fun j_14 => [(3, ⟨True, rep j_14.1⟩)]) (fun j_14 => [(61, some (CPred.at s61 (rowV 9 j_14.2)))]) (fun s => j_14 = s) (.k2 0 4 rfl rfl (.k 5 rfl .nil)) SubB.nil ?_ (fun j_14' hj14 => ?_)
        ·
         obtain ⟨hn15, h⟩ := need_some h
         obtain ⟨hn16, h⟩ := need_some h
         obtain ⟨hn17, h⟩ := need_some h
         obtain ⟨hn18, h⟩ := need_some h
         obtain ⟨hn19, h⟩ := need_some h
         obtain ⟨hn20, h⟩ := need_some h
         refine .block (.sr [oo, oo, ([61], []), ([61], []), oo, oo, oo, ([61], []), ([61], []), oo] mx (.mvA rfl (.mvA rfl (.cA (.indexPart (k := 61) .none sl56 ty9 (.s rfl) rfl (.s rfl) (fun _ => hn15) (fun _ => hn16)) (.cA (.loadElem0 (k := 61) .none ty9 (.s rfl) rfl (fun _ => hn17)) (.mvA rfl (.mvA rfl (.cA (.subW .none (.s rfl) .i) (.cA (.indexPart (k := 61) .none sl56 ty9 (.s rfl) rfl (.s rfl) (fun _ => hn18) (fun _ => hn19)) (.cA (.loadElem0 (k := 61) .none ty9 (.s rfl) rfl (fun _ => hn20)) (.cA (.neS .none (eqAt_str Tryz.underlying9) (.s rfl) (.s rfl)) (.nil (.cb rfl h (fun _ h => ?_) fun _ h => ?_)))))))))))))
         ·
          obtain ⟨hn22, h⟩ := need_some h
          obtain ⟨hn23, h⟩ := need_some h
          obtain ⟨hn24, h⟩ := need_some h
          obtain ⟨v1, hv25, h⟩ := bnd_some h
          obtain ⟨hn26, h⟩ := need_some h
          obtain ⟨s2, hv27, h⟩ := bnd_some h
          obtain ⟨k1, hv28, h⟩ := bnd_some h
          exact .sr [oo, oo, oo, oo, ([61], []), ([61], []), ([61], []), ([61], [61])] mx (.mvA rfl (.mvA rfl (.mvA rfl (.mvA rfl (.cA (.indexPart (k := 61) .none sl56 ty9 (.s rfl) rfl (.s rfl) (fun _ => hn22) (fun _ => hn23)) (.cA (.re hv25 (.loadElem0 (k := 61) .none ty9 (.s rfl) rfl (fun _ => hn24))) (.ixO 61 sl56 ty9 rfl rfl rfl hn26 (.cN (.storeElem0 (k := 61) ty9 (.s rfl) rfl (.s rfl) hn26) (.nil (.reB (t := 61) rfl (congrArg (fun y => CPred.at s61 (rowV 9 y)) hv27) (.rn mx (.mv rfl (.adi rfl (.ra hv28 rfl (.nil (.blkNormal (Ends.j _ (some_eq h))))))))))))))))))
         ·
          exact .skip (.blkNormal (Ends.j _ (some_eq h)))
        ·
         subst hj14; have h := hK14; clear hK14
         obtain ⟨k2_1, hv29, h⟩ := bnd_some h
         exact .rn mx (.mv rfl (.adi rfl (.ra hv29 rfl (.nil (Ends.ag (some_eq h))))))
       ·
        refine .exit (.thenExit (.thenExit (.blkExit ?_)))
        replace h := hD11 _ (some_eq h)
        exact Ends.j _ (some_eq h)
      ·
       subst hj10; have h := hK10; clear hK10
       obtain ⟨hn30, h⟩ := need_some h
       obtain ⟨s3, hv31, h⟩ := bnd_some h
       obtain ⟨hn32, h⟩ := need_some h
       obtain ⟨v2, hv33, h⟩ := bnd_some h
       refine .sr [oo, oo, ([61], []), ([61], [61])] mx (.mvA rfl (.mvA rfl (.cA (.sliceLend (k := 61) sl56 ty9 (.s rfl) rfl (.s rfl) rfl hn30) (.cN (.clearPart (k := 61) sl56 zo9 (.s rfl) rfl hn30) (.nil (.reB (t := 61) rfl (congrArg (fun y => CPred.at s61 (rowV 9 y)) hv31) (.sr [oo, oo, ([61], [59, 61]), ([59], [2, 59])] mx (.mvA rfl (.mvA rfl (.cW (.sliceRow (k := 61) sl56 ty9 rfl (.s rfl) rfl rfl (.s rfl) hn32) (.cW (.passRow rfl (.tmp rfl)) (.nil (.reB (t := 2) rfl (congrArg (rowV 9) hv33) (.nameRow (t := 2) (g := 5001) rfl rfl rfl (fun s5001 => (.ret (.blkRet (.thenRet (.thenRet (.blkRet (.thenRet (.anon (t := 2) (g := 5001) rfl rfl trivial rfl ?_))))))))))))))))))))))
       replace h := resb_ab hK5 (some_eq h)
       replace h := hD3 _ (some_eq h)
       replace h := resb_ab hK2 (some_eq h)
       obtain rfl := some_eq h
       exact Ends.ret1O (.inl rfl) [61, 2] Tryz.results23 (by decide) (.skip (.res rfl rfl)) (ResOK.tmp rfl trivial (fun _ _ _ _ => trivial))
     ·
      exact .skip (.blkNormal (Ends.j _ (some_eq h)))
    ·
     have h := resb_nx hK5 hj5
     obtain ⟨k2, hv34, h⟩ := bnd_some h
     exact .rn mx (.mv rfl (.adi rfl (.ra hv34 rfl (.nil (Ends.ag (some_eq h))))))
   ·
    refine .exit (.thenExit (.thenExit (.blkExit ?_)))
    replace h := hD3 _ (some_eq h)
    exact Ends.j _ (some_eq h)
  ·
   have h := resb_nx hK2 hj2
   refine .sn mx (.mv rfl (.asn rfl (.nil (.ret (.anon (t := 2) (g := 61) rfl rfl trivial rfl ?_)))))
   obtain rfl := some_eq h
   exact Ends.ret1O (.inl rfl) [61, 2] Tryz.results23 (by decide) (.skip (.res rfl rfl)) (ResOK.tmp rfl trivial (fun _ _ _ _ => trivial))

theorem slices_BinarySearchFunc_string_ok {x1 : (List Thing)} {target1 : Str} {cmp1 : (Thing → Str → Option Int)} {r : (Int × Bool)}  (h : slices_BinarySearchFunc_string x1 target1 cmp1 = some r) : FSpec Tryz.prog 24 [rep x1, rep target1, fn2 Tryz.prog (rep (α := Int)) cmp1] (tup [rep r.1, rep r.2]) := by
 unfold slices_BinarySearchFunc_string at h
 obtain ⟨n1, hv1, h⟩ := bnd_some h
 refine FSpec.i Tryz.func24 rfl Tryz.ntmps24 rfl (fun F => (.sn mx (.asi (.asb (.nil (.sn mx (.mv rfl (.ln sl22 rfl (.ra hv1 rfl (.nil (.sn mx (.mv rfl (.asi (.asn rfl (.nil (.seq ?_))))))))))))))))
 obtain ⟨j_2, h, hK2⟩ := bind_some h
 refine .thenJ (ι := Int) (fun j_2 => [(9, ⟨True, rep j_2⟩)]) (fun j_2 => []) (fun s => j_2 = s) (.k4 0 1 2 8 rfl rfl rfl rfl .nil) SubB.nil ?_ (fun j_2' hj2 => ?_)
 ·
  refine .block (.loopL h (fun s3_ => [(9, ⟨True, rep s3_.1⟩), (10, ⟨True, rep s3_.2⟩)]) (fun s3_ => []) (.k2 9 10 rfl rfl .nil) SubB.nil (.k4 0 1 2 8 rfl rfl rfl rfl .nil) SubB.nil (fun s3_ o_3 h hD3 => ?_))
  unfold slices_BinarySearchFunc_string_L1 at h
  refine .seq (.sn mx (.mv rfl (.mv rfl (.lt rfl rfl (.nil (.cb rfl h (fun _ h => ?_) fun _ h => ?_))))))
  ·
   obtain ⟨h1, hv5, h⟩ := bnd_some h
   obtain ⟨hn6, h⟩ := need_some h
   obtain ⟨r1, hv7, h⟩ := bind_some h
   refine .skip (.then (.block (.sn mx (.mv rfl (.mv rfl (.add rfl rfl (.c (.toK .none (by kernel_rfl) Tryz.underlying84 (.s rfl)) (.c (.kshr .none (.s rfl) .ki (fun _ => by decide)) (.c (.toInt .none (by kernel_rfl) Tryz.underlying3 (.s rfl)) (.ra hv5 rfl (.nil (.sn mx (.mv rfl (.mv rfl (.mv rfl (.ix sl22 ty45 rfl rfl hn6 (.ld ty45 rfl (.mv rfl (.c (.callV (gx x1 h1, target1, r1) .none (.s rfl) (fun _ => hv7) (.cons (.s rfl) (.cons (.s rfl) .nil))) (.c (.lt .none (.s rfl) .i) (.nil (.cb rfl h (fun _ h => ?_) fun _ h => ?_))))))))))))))))))))))
   ·
    obtain ⟨i1, hv9, h⟩ := bnd_some h
    exact .rn mx (.mv rfl (.adi rfl (.ra hv9 rfl (.nil (.blkNormal (Ends.ag (some_eq h)))))))
   ·
    exact .rn mx (.mv rfl (.asn rfl (.nil (.blkNormal (Ends.ag (some_eq h))))))
  ·
   refine .exit (.thenExit (.thenExit (.blkExit ?_)))
   replace h := hD3 _ (some_eq h)
   exact Ends.j _ (some_eq h)
 ·
  subst hj2; have h := hK2; clear hK2
  obtain ⟨hn10, h⟩ := need_some h
  obtain ⟨r2, hv11, h⟩ := bind_some h
  refine .sn mx (.mv rfl (.mv rfl (.mv rfl (.lt rfl rfl (.mv rfl (.mg rfl rfl rfl (.mg rfl rfl rfl (.mg rfl rfl rfl (.c (.indexAddr (.at rfl rfl) sl22 ty45 (.tmp rfl id) (.tmp rfl id) (fun hg => hn10 hg.2)) (.lg ty45 rfl rfl rfl (.mg rfl rfl rfl (.c (.callV (gx x1 j_2, target1, r2) (.at rfl rfl) (.tmp rfl id) (fun hg => gd_some hv11 (hg.2)) (.cons (.tmp rfl id) (.cons (.tmp rfl id) .nil))) (.c (.eqI (.at rfl rfl) (.tmp rfl id) .i) (.pa rfl rfl (.asn rfl (.asn rfl (.nil (.ret ?_))))))))))))))))))
  obtain rfl := some_eq h
  exact Ends.ret2 (.inl rfl) Tryz.results24 (ResOK.tmp rfl trivial Imp.refl) (ResOK.tmp rfl trivial Imp.refl)

theorem edit_Diff_1_ok {x1 : Thing} {id1 : Str} {r : Int}  (h : edit_Diff_1 x1 id1 = some r) : FSpec Tryz.prog 25 [rep x1, rep id1] (rep r) := by
 unfold edit_Diff_1 at h
 obtain ⟨r1, hv1, h⟩ := bind_some h
 refine FSpec.i Tryz.func25 rfl Tryz.ntmps25 rfl (fun F => (.sn mx (.c (.box .none (.s rfl)) (.asi (.nil (.sn mx (.fa fd45_0 hfd45_0 rfl (.ld ty9 rfl (.mv rfl (.c (.call .none (strings_Compare_ok hv1) (.cons (.s rfl) (.cons (.s rfl) .nil))) (.asn rfl (.nil (.ret ?_)))))))))))))
 obtain rfl := some_eq h
 exact Ends.rt Tryz.results25 rfl

set_option maxHeartbeats 4000000 in
theorem edit_Diff_ok {a1 : (List Thing)} {b1 : (List Thing)} {r : ((List DOp) × Int)}  (h : edit_Diff a1 b1 = some r) : FSpec Tryz.prog 6 [rep a1, rep b1] (tup [rep r.1, rep r.2]) := by
 unfold edit_Diff at h
 obtain ⟨v1, hv1, h⟩ := bnd_some h
 refine FSpec.i Tryz.func6 rfl Tryz.ntmps6 rfl (fun F => (.sn mx (.c (.assign .none (.const (x := ([] : (List DOp))) (fun M w => ⟨_, ⟨none, 0, rfl, Nat.le_refl _, by decide, rfl⟩, rfl⟩))) (.asi (.nil (.seq (.sn mx (.mv rfl (.mv rfl (.c (.re hv1 (.buildSlice (xs := [_, _]) .none sl52 ty22 hz22 (.cons (.s rfl) (.cons (.s rfl) .nil)) rfl (by decide))) (.ln sl52 rfl (.mvi (.nil ?_)))))))))))))
 obtain ⟨o_2, h, hK2⟩ := bindR_some h
 refine .tJ (fun s => o_2 = Res.nx s) (.k2 0 1 rfl rfl .nil) SubB.nil ?_ (fun j_2 hj2 => ?_)
 ·
  refine .block (.rforEL h (fun p3_ => [(33, ⟨True, rep p3_.1⟩)]) (fun p3_ => []) (.k 33 rfl .nil) SubB.nil (.k4 0 1 31 32 rfl rfl rfl rfl .nil) SubB.nil (fun p3_ o_3 h hD3 => (.sn mx (.lt rfl rfl (.nil (.seq (.cb rfl h (fun _ h => ?_) fun _ h => ?_)))))))
  ·
   refine .skip (.then (.seq ?_))
   obtain ⟨o_5, h, hK5⟩ := bindD_some h
   unfold edit_Diff_L1 at h
   refine .tJ (fun s => o_5 = Res.nx s) (.k4 0 1 31 32 rfl rfl rfl rfl (.k 33 rfl .nil)) SubB.nil ?_ (fun j_5 hj5 => ?_)
   ·
    obtain ⟨hn6, h⟩ := need_some h
    obtain ⟨e1, hv7, h⟩ := bind_some h
    refine .block (.sn mx (.ix sl52 ty22 rfl rfl hn6 (.ld ty22 rfl (.asn rfl (.nil (.sn mx (.mv rfl (.c (.call .none (edit_CheckThings_ok hv7) (.cons (.s rfl) .nil)) (.asn rfl (.nil (.sn mx (.mv rfl (.nei rfl (.nil (.cb rfl h (fun _ h => ?_) fun _ h => ?_)))))))))))))))
    ·
     refine .sn mx (.mv rfl (.c (.assign .none (.const (x := ([] : (List DOp))) (fun M w => ⟨_, ⟨none, 0, rfl, Nat.le_refl _, by decide, rfl⟩, rfl⟩))) (.asn rfl (.nil (.ret (.blkRet (.thenRet (.thenRet (.blkRet (.thenRet ?_))))))))))
     replace h := resd_ab hK5 (some_eq h)
     replace h := hD3 _ (some_eq h)
     replace h := resb_ab hK2 (some_eq h)
     obtain rfl := some_eq h
     exact Ends.ret2 (.inl rfl) Tryz.results6 (ResOK.tmp rfl trivial Imp.refl) (ResOK.tmp rfl trivial Imp.refl)
    ·
     exact .skip (.blkNormal (Ends.j _ (some_eq h)))
   ·
    have h := resd_nx hK5 hj5
    exact .rn mx (.adi rfl (.mv rfl (.nil (Ends.ag (some_eq h)))))
  ·
   refine .exit (.thenExit (.thenExit (.blkExit ?_)))
   replace h := hD3 _ (some_eq h)
   exact Ends.j _ (some_eq h)
 ·
  have h := resb_nx hK2 hj2
  obtain ⟨old1, hv9, h⟩ := bind_some h
  obtain ⟨now1, hv10, h⟩ := bind_some h
  obtain ⟨r1, hv11, h⟩ := bind_some h
  refine .sn mx (.mv rfl (.c (.call .none (edit_thingsOf_ok hv9).frzD (.cons (.s rfl) .nil)) (.mv rfl (.c (.call .none (edit_thingsOf_ok hv10).frzD (.cons (.s rfl) .nil)) (.asn rfl (.asn rfl (.nil (.sr [([], [11])] mx (.cW (.nilRow (T := 9) (α := Str) rfl) (.nil (.nameRow (t := 11) (g := 5001) rfl rfl rfl (fun s5001 => (.seq (.sn mx (.mv rfl (.mv rfl (.c (.buildSlice (xs := [_, _]) .none sl52 ty22 hz22 (.cons (.s rfl) (.cons (.s rfl) .nil)) rfl (by decide)) (.c (.call .none (slices_Concat_Thing_ok hv11).frz (.cons (.s rfl) .nil)) (.ln sl22 rfl (.mvi (.nil ?_)))))))))))))))))))))
  obtain ⟨j_12, h, hK12⟩ := bind_some h
  refine .thenJ (ι := (List Str)) (fun j_12 => []) (fun j_12 => [(11, some (rowV 9 j_12))]) (fun s => j_12 = s) (.k2 1 9 rfl rfl (.k 10 rfl .nil)) SubB.nil ?_ (fun j_12' hj12 => ?_)
  ·
   refine .block (.anon (t := 11) (g := 5001) rfl rfl trivial rfl (.rforL h (fun p13_ => [(52, ⟨True, rep p13_.1⟩)]) (fun p13_ => [(11, some (rowV 9 p13_.2))]) (.k 52 rfl .nil) (.k 11 rfl .nil) (.k4 1 9 10 50 rfl rfl rfl rfl (.k 51 rfl .nil)) SubB.nil (fun p13_ o_13 h hD13 => (.nameRow (t := 11) (g := 5002) rfl rfl rfl (fun s5002 => (.sn mx (.lt rfl rfl (.nil (.seq (.cb rfl h (fun _ h => ?_) fun _ h => ?_))))))))))
   ·
    refine .skip (.then (.seq ?_))
    obtain ⟨j_15, h, hK15⟩ := bind_some h
    unfold edit_Diff_L2 at h
    refine .thenJ (ι := (List Str)) (fun j_15 => []) (fun j_15 => [(11, some (rowV 9 j_15))]) (fun s => j_15 = s) (.k4 1 9 10 50 rfl rfl rfl rfl (.k2 51 52 rfl rfl .nil)) SubB.nil ?_ (fun j_15' hj15 => ?_)
    ·
     obtain ⟨hn16, h⟩ := need_some h
     obtain ⟨v2, hv17, h⟩ := bnd_some h
     obtain ⟨hn18, h⟩ := need_some h
     exact .block (.sr [oo, oo, ([], [13]), ([13], [13])] mx (.ixA sl22 ty45 rfl rfl hn16 (.rlA hv17 ty45 rfl (.al zo45 rfl (.st ty45 rfl rfl rfl (.nil (.freeze (t := 13) rfl rfl (.k 5002 rfl .nil) rfl (.rg [oo, oo, oo, oo, ([5002], [60, 5002]), ([60], [11, 60])] mx (.mvA rfl (.faA fd45_0 hfd45_0 rfl (.ldA ty9 rfl (.cA (.buildSlice (xs := [_]) .none sl56 ty9 hz9 (.cons (.s rfl) .nil) rfl (by decide)) (.cW (.append (k := 5002) rk56 rfl (.told (.s rfl) rfl) (.s rfl) hn18) (.cW (.passRow rfl (.tmp rfl)) (.nil (.blkNormal (Ends.j _ (some_eq h))))))))))))))))))
    ·
     subst hj15; have h := hK15; clear hK15
     exact .nameRow (t := 11) (g := 5003) rfl rfl rfl (fun s5003 => (.rn mx (.adi rfl (.mv rfl (.nil (.anon (t := 11) (g := 5003) rfl rfl trivial rfl (Ends.ag (some_eq h))))))))
   ·
    refine .exit (.thenExit (.thenExit (.blkExit (.anon (t := 11) (g := 5002) rfl rfl trivial rfl ?_))))
    replace h := hD13 _ (some_eq h)
    exact Ends.j _ (some_eq h)
  ·
   subst hj12; have h := hK12; clear hK12
   obtain ⟨r2, hv19, h⟩ := bind_some h
   obtain ⟨r3, hv20, h⟩ := bind_some h
   refine .nameRow (t := 11) (g := 5004) rfl rfl rfl (fun s5004 => (.sr [oo, ([5004], [5004])] mx (.mvA rfl (.cW (.cO [5004] (slices_Sort_string_ok hv19) (.cons (.s rfl) .nil) (.cons (k := 5004) rfl .nil) rfl) (.nil (.sr [([], [14])] mx (.cW (.nilRow (T := 34) (α := DOp) rfl) (.nil (.nameRow (t := 14) (g := 5005) rfl rfl rfl (fun s5005 => (.seq (.sr [oo, ([5004], [5004]), oo, oo] mx (.mvA rfl (.cW (.cO [5004] ((slices_Compact_string_ok hv20).frzO1) (.cons (.s rfl) .nil) (.cons (k := 5004) rfl .nil) rfl) (.cA (.len .none sl56 (.s rfl)) (.cA (.move .none .i) (.nil ?_)))))))))))))))))
   obtain ⟨j_21, h, hK21⟩ := bind_some h
   refine .thenJ (ι := (List DOp)) (fun j_21 => []) (fun j_21 => [(14, some (rowV 34 j_21))]) (fun s => j_21 = s) Sub.nil SubB.nil ?_ (fun j_21' hj21 => ?_)
   ·
    refine .block (.anon (t := 14) (g := 5005) rfl rfl trivial rfl (.rforL h (fun p22_ => [(67, ⟨True, rep p22_.1⟩)]) (fun p22_ => [(14, some (rowV 34 p22_.2))]) (.k 67 rfl .nil) (.k 14 rfl .nil) (.k4 1 9 10 65 rfl rfl rfl rfl (.k 66 rfl .nil)) SubB.nil (fun p22_ o_22 h hD22 => (.nameRow (t := 14) (g := 5006) rfl rfl rfl (fun s5006 => (.sn mx (.lt rfl rfl (.nil (.seq (.cb rfl h (fun _ h => ?_) fun _ h => ?_))))))))))
    ·
     refine .skip (.then (.seq ?_))
     obtain ⟨j_24, h, hK24⟩ := bind_some h
     unfold edit_Diff_L3 at h
     refine .thenJ (ι := (List DOp)) (fun j_24 => []) (fun j_24 => [(14, some (rowV 34 j_24))]) (fun s => j_24 = s) (.k4 1 9 10 65 rfl rfl rfl rfl (.k2 66 67 rfl rfl .nil)) SubB.nil ?_ (fun j_24' hj24 => ?_)
     ·
      obtain ⟨hn25, h⟩ := need_some h
      obtain ⟨id1, hv26, h⟩ := bnd_some h
      obtain ⟨was1, hv27, h⟩ := bnd_some h
      refine .block (.sn mx (.ix sl56 ty9 rfl rfl hn25 (.ld ty9 rfl (.ra hv26 rfl (.nil (.sn mx (.mv rfl (.mv rfl (.c (.lookup .none mo54 zo60 (.s rfl) (.s rfl)) (.mv rfl (.mv rfl (.c (.lookup .none mo54 zo60 (.s rfl) (.s rfl)) (.ra hv27 rfl (.asn rfl (.nil (.sn mx (.asb (.nil (.seq (.sr [oo, ([], [78])] mx (.mvA rfl (.cW (.rangeMap Tryz.underlying60 rfl (.s rfl)) (.nil (.nameAt (t := 78) (g := 5007) rfl rfl isBox_iterF rfl (fun m5007 => ?_)))))))))))))))))))))))))
      obtain ⟨j_28, h, hK28⟩ := bind_some h
      refine .thenJ (ι := Bool) (fun j_28 => [(19, ⟨True, rep j_28⟩)]) (fun j_28 => []) (fun s => j_28 = s) (.k4 1 9 10 14 rfl rfl rfl rfl (.k4 16 17 65 66 rfl rfl rfl rfl (.k2 67 78 rfl rfl .nil))) (.k 5006 rfl .nil) ?_ (fun j_28' hj28 => ?_)
      ·
       refine .block (.listsF (q := 5007) rfl (fun hf29 => (.mrangeL h hf29 (fun p29_ => [(19, ⟨True, rep p29_.2⟩)]) (fun p29_ => [(5007, some (CPred.at (ptr m5007 0) (iterF was1 p29_.1)))]) (.k 19 rfl .nil) (.k 5007 rfl .nil) (.k4 1 9 10 14 rfl rfl rfl rfl (.k4 16 17 18 65 rfl rfl rfl rfl (.k2 66 67 rfl rfl (.k 78 rfl .nil)))) (.k 5006 rfl .nil) (fun p29_ H29 => (.sr [([5007], [79, 5007]), ([79], [80, 79])] mx (.cW (.nextF (k := 5007) rfl rfl (.s rfl)) (.cW (.nextedOk (d := 79) rfl rfl) (.nil (.openNext (t := 80) (k := 5007) rfl rfl rfl (fun o29_ ho29 => ?_))))))))))
       obtain ⟨out29_, h, hD29⟩ := H29 o29_ ho29
       refine .againM (fun s' hs' => ⟨o29_, ho29, h.trans (congrArg some hs')⟩) (.seq ?_)
       cases o29_ with
       | some x29_ =>
        replace h := mstep_some h
        refine .condT (t := 80) rfl trivial rfl (.skip (.then ?_))
        obtain ⟨j_30, h, hK30⟩ := bind_some h
        unfold edit_Diff_L4 at h
        refine .tailJ (ι := Bool) (fun j_30 => [(19, ⟨True, rep j_30⟩)]) (fun j_30 => []) (fun s => j_30 = s) (.k4 1 9 10 14 rfl rfl rfl rfl (.k4 16 17 18 65 rfl rfl rfl rfl (.k2 66 67 rfl rfl (.k 78 rfl .nil)))) (.k2 5006 5007 rfl rfl .nil) ?_ (fun j_30' hj30 => ?_)
        ·
         refine .block (.sr [([5007], []), oo, oo] mx (.cA (.entryF (k := 5007) (p := p29_.1) (y := x29_) rfl (.s rfl)) (.exA rfl rfl (.asnA rfl (.nil (.sn mx (.mv rfl (.mv rfl (.c (.lookupOk .none mo60 zo9 (.s rfl) (.s rfl)) (.mv rfl (.ex rfl rfl (.ex rfl rfl (.asn rfl (.asn rfl (.nil (.sn mx (.mv rfl (.c (.not .none (.s rfl)) (.nil (.cb rfl h (fun _ h => ?_) fun _ h => ?_))))))))))))))))))))
         ·
          exact .rn mx (.asb (.nil (.blkNormal (Ends.j _ (some_eq h)))))
         ·
          exact .skip (.blkNormal (Ends.j _ (some_eq h)))
        ·
         subst hj30; have h := hK30; clear hK30
         exact Ends.ag (some_eq h)
       | none =>
        replace h := mstep_none h
        refine .condF (t := 80) rfl trivial rfl (.exit (.thenExit (.thenExit (.blkExit ?_))))
        replace h := hD29 _ (some_eq h)
        exact Ends.j _ (some_eq h)
      ·
       subst hj28; have h := hK28; clear hK28
       refine .seq (.sn mx (.mv rfl (.nil ?_)))
       obtain ⟨j_32, h, hK32⟩ := bind_some h
       refine .thenJ (ι := ((List DOp) × (GMap Str Str))) (fun j_32 => [(17, ⟨True, rep j_32.2⟩)]) (fun j_32 => [(14, some (rowV 34 j_32.1))]) (fun s => j_32 = s) (.k4 1 9 10 16 rfl rfl rfl rfl (.k2 65 66 rfl rfl (.k 67 rfl .nil))) SubB.nil ?_ (fun j_32' hj32 => ?_)
       ·
        refine .cb rfl h (fun _ h => ?_) fun _ h => ?_
        ·
         obtain ⟨hn34, h⟩ := need_some h
         obtain ⟨out1, hv35, h⟩ := bnd_some h
         obtain ⟨was2, hv36, h⟩ := bnd_some h
         exact .sr [oo, oo, oo, oo, ([5006], [96, 5006]), ([96], [14, 96])] mx (.mvA rfl (.mvA rfl (.cA (.buildF (y := (⟨(⟨(0 : Int), Str.nil, (0 : Int)⟩ : Stamp), 2, id1, Str.nil, Str.nil, (0 : Int)⟩ : DOp)) .none bu34 zc34 rfl (.cons .i (.cons (.s rfl) .nil)) (.cons rfl sf34_1 (.cons rfl sf34_2 .nil))) (.cA (.buildSlice (xs := [_]) .none sl23 ty34 hz34 (.cons (.s rfl) .nil) rfl (by decide)) (.cW (.append (k := 5006) rk23 rfl (.told (.s rfl) rfl) (.s rfl) hn34) (.cW (.passRow rfl (.tmp rfl)) (.nil (.reB (t := 14) rfl (congrArg (rowV 34) hv35) (.nameRow (t := 14) (g := 5008) rfl rfl rfl (fun s5008 => (.rn mx (.c (.re hv36 (.assign .none (.const (x := (GMap.nil : (GMap Str Str))) (fun M w => ⟨_, map_zero, rfl⟩)))) (.nil (.anon (t := 14) (g := 5008) rfl rfl trivial rfl (Ends.j _ (some_eq h))))))))))))))))
        ·
         exact .skip (.anon (t := 14) (g := 5006) rfl rfl trivial rfl (Ends.j _ (some_eq h)))
       ·
        subst hj32; have h := hK32; clear hK32
        obtain ⟨r4, hv37, h⟩ := bind_some h
        refine .nameRow (t := 14) (g := 5009) rfl rfl rfl (fun s5009 => (.sn mx (.mv rfl (.mv rfl (.c (.call .none (slices_BinarySearchFunc_string_ok hv37) (.cons (.s rfl) (.cons (.s rfl) (.cons (Opd.func (ι := Thing × Str × Int) (pre := fun i => edit_Diff_1 i.1 i.2.1 = some i.2.2) (Ss := fun i => [rep i.1, rep i.2.1]) (S := fun i => rep i.2.2) fnok25 (fun i h => edit_Diff_1_ok h)) .nil)))) (.mv rfl (.ex rfl rfl (.ex rfl rfl (.asn rfl (.asn rfl (.nil (.seq (.sn mx (.mv rfl (.c (.not .none (.s rfl)) (.nil (.cb rfl h (fun _ h => ?_) fun _ h => ?_)))))))))))))))))
        ·
         exact .exit (.thenExit (.blkExit (.anon (t := 14) (g := 5009) rfl rfl trivial rfl (Ends.j _ (some_eq h)))))
        ·
         obtain ⟨hn39, h⟩ := need_some h
         obtain ⟨v3, hv40, h⟩ := bnd_some h
         refine .skip (.then (.sn mx (.mv rfl (.mv rfl (.ix sl22 ty45 rfl rfl hn39 (.fa fd45_1 hfd45_1 rfl (.c (.re hv40 (.load .none ty43 (.s rfl))) (.ln sl43 rfl (.mvi (.nil (.block (.anon (t := 14) (g := 5009) rfl rfl trivial rfl (.rforL h (fun p41_ => [(111, ⟨True, rep p41_.1⟩)]) (fun p41_ => [(14, some (rowV 34 p41_.2))]) (.k 111 rfl .nil) (.k 14 rfl .nil) (.k4 1 9 10 16 rfl rfl rfl rfl (.k4 17 65 66 67 rfl rfl rfl rfl (.k2 109 110 rfl rfl .nil))) SubB.nil (fun p41_ o_41 h hD41 => (.nameRow (t := 14) (g := 5010) rfl rfl rfl (fun s5010 => (.sn mx (.lt rfl rfl (.nil (.seq (.cb rfl h (fun _ h => ?_) fun _ h => ?_)))))))))))))))))))))
         ·
          refine .skip (.then (.seq ?_))
          obtain ⟨j_43, h, hK43⟩ := bind_some h
          unfold edit_Diff_L5 at h
          refine .thenJ (ι := (List DOp)) (fun j_43 => []) (fun j_43 => [(14, some (rowV 34 j_43))]) (fun s => j_43 = s) (.k4 1 9 10 16 rfl rfl rfl rfl (.k4 17 65 66 67 rfl rfl rfl rfl (.k2 109 110 rfl rfl (.k 111 rfl .nil)))) SubB.nil ?_ (fun j_43' hj43 => ?_)
          ·
           obtain ⟨hn44, h⟩ := need_some h
           obtain ⟨v4, hv45, h⟩ := bnd_some h
           refine .block (.sr [oo, oo, ([], [26]), ([26], [26])] mx (.ixA sl43 ty49 rfl rfl hn44 (.rlA hv45 ty49 rfl (.al zo49 rfl (.st ty49 rfl rfl rfl (.nil (.freeze (t := 26) rfl rfl (.k 5010 rfl .nil) rfl (.sn mx (.mv rfl (.fa fd49_0 hfd49_0 rfl (.ld ty9 rfl (.c (.lookupOk .none mo60 zo9 (.s rfl) (.s rfl)) (.mv rfl (.ex rfl rfl (.ex rfl rfl (.asn rfl (.asn rfl (.nil (.sn mx (.mv rfl (.c (.not .none (.s rfl)) (.mv rfl (.mg rfl rfl rfl (.fg fd49_1 hfd49_1 rfl rfl rfl (.lg ty9 rfl rfl rfl (.c (.neS (.at rfl rfl) (eqAt_str Tryz.underlying9) (.tmp rfl id) (.tmp rfl id)) (.po rfl rfl (.nil (.cb rfl h (fun _ h => ?_) fun _ h => ?_)))))))))))))))))))))))))))))
           ·
            obtain ⟨hn47, h⟩ := need_some h
            exact .rg [oo, oo, oo, oo, oo, oo, oo, oo, ([5010], [138, 5010]), ([138], [14, 138])] mx (.mvA rfl (.mvA rfl (.faA fd49_0 hfd49_0 rfl (.ldA ty9 rfl (.faA fd49_1 hfd49_1 rfl (.ldA ty9 rfl (.cA (.buildF (y := (⟨(⟨(0 : Int), Str.nil, (0 : Int)⟩ : Stamp), 1, id1, v4.Field, v4.Value, (0 : Int)⟩ : DOp)) .none bu34 zc34 rfl (.cons .i (.cons (.s rfl) (.cons (.s rfl) (.cons (.s rfl) .nil)))) (.cons rfl sf34_1 (.cons rfl sf34_2 (.cons rfl sf34_3 (.cons rfl sf34_4 .nil))))) (.cA (.buildSlice (xs := [_]) .none sl23 ty34 hz34 (.cons (.s rfl) .nil) rfl (by decide)) (.cW (.append (k := 5010) rk23 rfl (.told (.s rfl) rfl) (.s rfl) hn47) (.cW (.passRow rfl (.tmp rfl)) (.nil (.blkNormal (Ends.j _ (some_eq h))))))))))))))
           ·
            exact .skip (.blkNormal (.anon (t := 14) (g := 5010) rfl rfl trivial rfl (Ends.j _ (some_eq h))))
          ·
           subst hj43; have h := hK43; clear hK43
           exact .nameRow (t := 14) (g := 5011) rfl rfl rfl (fun s5011 => (.rn mx (.adi rfl (.mv rfl (.nil (.anon (t := 14) (g := 5011) rfl rfl trivial rfl (Ends.ag (some_eq h))))))))
         ·
          refine .exit (.thenExit (.thenExit (.blkExit (.blkNormal (.anon (t := 14) (g := 5010) rfl rfl trivial rfl ?_)))))
          replace h := hD41 _ (some_eq h)
          exact Ends.j _ (some_eq h)
     ·
      subst hj24; have h := hK24; clear hK24
      exact .nameRow (t := 14) (g := 5012) rfl rfl rfl (fun s5012 => (.rn mx (.adi rfl (.mv rfl (.nil (.anon (t := 14) (g := 5012) rfl rfl trivial rfl (Ends.ag (some_eq h))))))))
    ·
     refine .exit (.thenExit (.thenExit (.blkExit (.anon (t := 14) (g := 5006) rfl rfl trivial rfl ?_))))
     replace h := hD22 _ (some_eq h)
     exact Ends.j _ (some_eq h)
   ·
    subst hj21; have h := hK21; clear hK21
    refine .freezeRowA (t := 14) rfl rfl SubB.nil rfl (.sn mx (.mv rfl (.asn rfl (.asi (.nil (.ret ?_))))))
    obtain rfl := some_eq h
    exact Ends.ret2 (.inl rfl) Tryz.results6 (ResOK.tmp rfl trivial Imp.refl) (ResOK.tmp rfl trivial Imp.refl)

theorem cmp_isNaN_int_ok {x1 : Int} {r : Bool}  (h : cmp_isNaN_int x1 = some r) : FSpec Tryz.prog 89 [rep x1] (rep r) := by
 unfold cmp_isNaN_int at h
 refine FSpec.i Tryz.func89 rfl Tryz.ntmps89 rfl (fun F => (.sn mx (.asb (.nil (.sn mx (.mv rfl (.mv rfl (.c (.neI .none (.s rfl) (.s rfl)) (.asn rfl (.nil (.ret ?_)))))))))))
 obtain rfl := some_eq h
 exact Ends.rt Tryz.results89 rfl

theorem cmp_Compare_int_ok {x1 : Int} {y1 : Int} {r : Int}  (h : cmp_Compare_int x1 y1 = some r) : FSpec Tryz.prog 71 [rep x1, rep y1] (rep r) := by
 unfold cmp_Compare_int at h
 obtain ⟨xNaN1, hv1, h⟩ := bind_some h
 obtain ⟨yNaN1, hv2, h⟩ := bind_some h
 refine FSpec.i Tryz.func71 rfl Tryz.ntmps71 rfl (fun F => (.sn mx (.asi (.nil (.sn mx (.mv rfl (.c (.call .none (cmp_isNaN_int_ok hv1) (.cons (.s rfl) .nil)) (.asn rfl (.nil (.sn mx (.mv rfl (.c (.call .none (cmp_isNaN_int_ok hv2) (.cons (.s rfl) .nil)) (.asn rfl (.nil (.seq (.sn mx (.mv rfl (.nil (.cb rfl h (fun _ h => ?_) fun _ h => ?_)))))))))))))))))))
 ·
  refine .seq (.sn mx (.mv rfl (.nil (.cb rfl h (fun _ h => ?_) fun _ h => ?_))))
  ·
   refine .sn mx (.asi (.nil (.ret (.thenRet (.thenRet ?_)))))
   obtain rfl := some_eq h
   exact Ends.rt Tryz.results71 rfl
  ·
   refine .skip (.then (.sn mx (.asi (.nil (.ret (.thenRet ?_))))))
   obtain rfl := some_eq h
   exact Ends.rt Tryz.results71 rfl
 ·
  refine .skip (.then (.seq (.sn mx (.mv rfl (.nil (.cb rfl h (fun _ h => ?_) fun _ h => ?_))))))
  ·
   refine .sn mx (.asi (.nil (.ret (.thenRet ?_))))
   obtain rfl := some_eq h
   exact Ends.rt Tryz.results71 rfl
  ·
   refine .skip (.then (.seq (.sn mx (.mv rfl (.mv rfl (.lt rfl rfl (.nil (.cb rfl h (fun _ h => ?_) fun _ h => ?_))))))))
   ·
    refine .sn mx (.asi (.nil (.ret (.thenRet ?_))))
    obtain rfl := some_eq h
    exact Ends.rt Tryz.results71 rfl
   ·
    refine .skip (.then (.seq (.sn mx (.mv rfl (.mv rfl (.c (.gt .none (.s rfl) (.s rfl)) (.nil (.cb rfl h (fun _ h => ?_) fun _ h => ?_))))))))
    ·
     refine .sn mx (.asi (.nil (.ret (.thenRet ?_))))
     obtain rfl := some_eq h
     exact Ends.rt Tryz.results71 rfl
    ·
     refine .skip (.then (.sn mx (.asi (.nil (.ret ?_)))))
     obtain rfl := some_eq h
     exact Ends.rt Tryz.results71 rfl

theorem cmp_Or_int_ok {vals1 : (List Int)} {r : Int}  (h : cmp_Or_int vals1 = some r) : FSpec Tryz.prog 70 [rep vals1] (rep r) := by
 unfold cmp_Or_int at h
 refine FSpec.i Tryz.func70 rfl Tryz.ntmps70 rfl (fun F => (.sn mx (.asi (.nil (.sn mx (.asi (.nil (.seq (.sn mx (.mv rfl (.ln sl128 rfl (.mvi (.nil ?_)))))))))))))
 obtain ⟨o_1, h, hK1⟩ := bindR_some h
 refine .tJ (fun s => o_1 = Res.nx s) (.k 3 rfl .nil) SubB.nil ?_ (fun j_1 hj1 => ?_)
 ·
  refine .block (.rforEL h (fun p2_ => [(8, ⟨True, rep p2_.1⟩)]) (fun p2_ => []) (.k 8 rfl .nil) SubB.nil (.k2 3 6 rfl rfl (.k 7 rfl .nil)) SubB.nil (fun p2_ o_2 h hD2 => (.sn mx (.lt rfl rfl (.nil (.seq (.cb rfl h (fun _ h => ?_) fun _ h => ?_)))))))
  ·
   refine .skip (.then (.seq ?_))
   obtain ⟨o_4, h, hK4⟩ := bindD_some h
   unfold cmp_Or_int_L1 at h
   refine .tJ (fun s => o_4 = Res.nx s) (.k4 3 6 7 8 rfl rfl rfl rfl .nil) SubB.nil ?_ (fun j_4 hj4 => ?_)
   ·
    obtain ⟨hn5, h⟩ := need_some h
    obtain ⟨val1, hv6, h⟩ := bnd_some h
    refine .block (.sn mx (.ix sl128 ty3 rfl rfl hn5 (.ld ty3 rfl (.ra hv6 rfl (.nil (.sn mx (.mv rfl (.mv rfl (.c (.neI .none (.s rfl) (.s rfl)) (.nil (.cb rfl h (fun _ h => ?_) fun _ h => ?_)))))))))))
    ·
     refine .sn mx (.mv rfl (.asn rfl (.nil (.ret (.blkRet (.thenRet (.thenRet (.blkRet (.thenRet ?_)))))))))
     replace h := resd_ab hK4 (some_eq h)
     replace h := hD2 _ (some_eq h)
     replace h := resb_ab hK1 (some_eq h)
     obtain rfl := some_eq h
     exact Ends.rt Tryz.results70 rfl
    ·
     exact .skip (.blkNormal (Ends.j _ (some_eq h)))
   ·
    have h := resd_nx hK4 hj4
    exact .rn mx (.adi rfl (.mv rfl (.nil (Ends.ag (some_eq h)))))
  ·
   refine .exit (.thenExit (.thenExit (.blkExit ?_)))
   replace h := hD2 _ (some_eq h)
   exact Ends.j _ (some_eq h)
 ·
  have h := resb_nx hK1 hj1
  refine .sn mx (.mv rfl (.asn rfl (.nil (.ret ?_))))
  obtain rfl := some_eq h
  exact Ends.rt Tryz.results70 rfl

theorem edit_order_ok {a1 : DOp} {b1 : DOp} {r : Int}  (h : edit_order a1 b1 = some r) : FSpec Tryz.prog 46 [rep a1, rep b1] (rep r) := by
 unfold edit_order at h
 obtain ⟨r1, hv1, h⟩ := bind_some h
 obtain ⟨r2, hv2, h⟩ := bind_some h
 obtain ⟨r3, hv3, h⟩ := bind_some h
 refine FSpec.i Tryz.func46 rfl Tryz.ntmps46 rfl (fun F => (.sn mx (.c (.box .none (.s rfl)) (.c (.box .none (.s rfl)) (.asi (.nil (.sn mx (.fa fd34_0 hfd34_0 rfl (.fa fd32_1 hfd32_1 rfl (.ld ty9 rfl (.fa fd34_0 hfd34_0 rfl (.fa fd32_1 hfd32_1 rfl (.ld ty9 rfl (.c (.call .none (strings_Compare_ok hv1) (.cons (.s rfl) (.cons (.s rfl) .nil))) (.fa fd34_0 hfd34_0 rfl (.fa fd32_2 hfd32_2 rfl (.ld ty3 rfl (.fa fd34_0 hfd34_0 rfl (.fa fd32_2 hfd32_2 rfl (.ld ty3 rfl (.c (.call .none (cmp_Compare_int_ok hv2) (.cons (.s rfl) (.cons (.s rfl) .nil))) (.c (.buildSlice (xs := [_, _]) .none sl128 ty3 hz3 (.cons (.s rfl) (.cons (.s rfl) .nil)) rfl (by decide)) (.c (.call .none (cmp_Or_int_ok hv3) (.cons (.s rfl) .nil)) (.asn rfl (.nil (.ret ?_))))))))))))))))))))))))))
 obtain rfl := some_eq h
 exact Ends.rt Tryz.results46 rfl

theorem edit_checkBody_ok {x1 : DOp} {r : Int}  (h : edit_checkBody x1 = some r) : FSpec Tryz.prog 47 [rep x1] (rep r) := by
 unfold edit_checkBody at h
 refine FSpec.i Tryz.func47 rfl Tryz.ntmps47 rfl (fun F => (.sn mx (.c (.box .none (.s rfl)) (.asi (.nil (.seq (.sn mx (.fa fd34_1 hfd34_1 rfl (.ld ty3 rfl (.c (.lt .none (.s rfl) .i) (.mv rfl (.fg fd34_1 hfd34_1 rfl rfl rfl (.lg ty3 rfl rfl rfl (.c (.gt (.at rfl rfl) (.tmp rfl id) .i) (.po rfl rfl (.nil (.cb rfl h (fun _ h => ?_) fun _ h => ?_)))))))))))))))))
 ·
  refine .sn mx (.asi (.nil (.ret (.thenRet ?_))))
  obtain rfl := some_eq h
  exact Ends.rt Tryz.results47 rfl
 ·
  obtain ⟨set1, hv2, h⟩ := bnd_some h
  obtain ⟨undo1, hv3, h⟩ := bnd_some h
  obtain ⟨v1, hv4, h⟩ := bnd_some h
  refine .skip (.then (.sn mx (.fa fd34_1 hfd34_1 rfl (.ld ty3 rfl (.eqi rfl (.fa fd34_1 hfd34_1 rfl (.ld ty3 rfl (.eqi rfl (.ra hv2 rfl (.ra hv3 rfl (.nil (.seq (.block (.seq (.sn mx (.fa fd34_5 hfd34_5 rfl (.ld ty3 rfl (.nei rfl (.mv rfl (.mg rfl rfl rfl (.c (.not (.at rfl rfl) (.tmp rfl id)) (.pa rfl rfl (.ra hv4 rfl (.nil ?_))))))))))))))))))))))))
  obtain ⟨j_5, h, hK5⟩ := bind_some h
  refine .thenJ (ι := Bool) (fun j_5 => [(20, ⟨True, rep j_5⟩)]) (fun j_5 => []) (fun s => j_5 = s) (.k2 1 3 rfl rfl (.k 4 rfl .nil)) SubB.nil ?_ (fun j_5' hj5 => ?_)
  ·
   refine .cb rfl h (fun _ h => ?_) fun _ h => ?_
   ·
    exact .skip (Ends.j _ (some_eq h))
   ·
    obtain ⟨v2, hv7, h⟩ := bnd_some h
    refine .sn mx (.fa fd34_2 hfd34_2 rfl (.ld ty9 rfl (.c (.neS .none (eqAt_str Tryz.underlying9) (.s rfl) (.str (l := []) (by decide))) (.mv rfl (.mg rfl rfl rfl (.pa rfl rfl (.ra hv7 rfl (.nil (.cb rfl h (fun _ h => ?_) fun _ h => ?_)))))))))
    ·
     exact .skip (Ends.j _ (some_eq h))
    ·
     obtain ⟨v3, hv9, h⟩ := bnd_some h
     exact .rn mx (.fa fd34_3 hfd34_3 rfl (.ld ty9 rfl (.c (.neS .none (eqAt_str Tryz.underlying9) (.s rfl) (.str (l := []) (by decide))) (.mv rfl (.fg fd34_4 hfd34_4 rfl rfl rfl (.lg ty9 rfl rfl rfl (.c (.neS (.at rfl rfl) (eqAt_str Tryz.underlying9) (.tmp rfl id) (.str (l := []) (by decide))) (.po rfl rfl (.mv rfl (.mg rfl rfl rfl (.c (.not (.at rfl rfl) (.tmp rfl id)) (.pa rfl rfl (.ra hv9 rfl (.nil (Ends.j _ (some_eq h))))))))))))))))
  ·
   subst hj5; have h := hK5; clear hK5
   refine .cb rfl h (fun _ h => ?_) fun _ h => ?_
   ·
    refine .sn mx (.asi (.nil (.ret (.blkRet (.thenRet ?_)))))
    obtain rfl := some_eq h
    exact Ends.rt Tryz.results47 rfl
   ·
    obtain ⟨r1, hv11, h⟩ := bind_some h
    refine .seq (.sn mx (.mv rfl (.c (.not .none (.s rfl)) (.mv rfl (.fg fd34_2 hfd34_2 rfl rfl rfl (.lg ty9 rfl rfl rfl (.c (.callIf (.at rfl rfl) fnok28 (fun hg => edit_isName_ok ((fun hg => gd_some hv11 (hg.2)) hg)) (.cons (.tmp rfl id) .nil) (fun h => h)) ?_)))))))
    obtain ⟨v4, hv12, h⟩ := bnd_some h
    refine .c (.not (.at rfl rfl) (.tmp rfl id)) (.pa rfl rfl (.ra hv12 rfl (.nil ?_)))
    obtain ⟨j_13, h, hK13⟩ := bind_some h
    refine .thenJ (ι := Bool) (fun j_13 => [(46, ⟨True, rep j_13⟩)]) (fun j_13 => []) (fun s => j_13 = s) (.k2 1 3 rfl rfl (.k 4 rfl .nil)) SubB.nil ?_ (fun j_13' hj13 => ?_)
    ·
     refine .cb rfl h (fun _ h => ?_) fun _ h => ?_
     ·
      exact .skip (Ends.j _ (some_eq h))
     ·
      obtain ⟨r2, hv15, h⟩ := bind_some h
      refine .rn mx (.mv rfl (.mv rfl (.fg fd34_3 hfd34_3 rfl rfl rfl (.lg ty9 rfl rfl rfl (.c (.callIf (.at rfl rfl) fnok28 (fun hg => edit_isName_ok ((fun hg => gd_some hv15 (hg.2)) hg)) (.cons (.tmp rfl id) .nil) (fun h => h)) ?_)))))
      obtain ⟨v5, hv16, h⟩ := bnd_some h
      exact .c (.not (.at rfl rfl) (.tmp rfl id)) (.pa rfl rfl (.ra hv16 rfl (.nil (Ends.j _ (some_eq h)))))
    ·
     subst hj13; have h := hK13; clear hK13
     refine .cb rfl h (fun _ h => ?_) fun _ h => ?_
     ·
      refine .sn mx (.asi (.nil (.ret (.blkRet (.thenRet ?_)))))
      obtain rfl := some_eq h
      exact Ends.rt Tryz.results47 rfl
     ·
      refine .skip (.blkNormal (.then (.seq (.sn mx (.mv rfl (.nil ?_))))))
      obtain ⟨o_18, h, hK18⟩ := bindR_some h
      refine .tJ (fun s => o_18 = Res.nx s) (.k2 1 4 rfl rfl .nil) SubB.nil ?_ (fun j_18 hj18 => ?_)
      ·
       refine .cb rfl h (fun _ h => ?_) fun _ h => ?_
       ·
        obtain ⟨e1, hv20, h⟩ := bind_some h
        refine .sn mx (.fa fd34_4 hfd34_4 rfl (.ld ty9 rfl (.c (.call .none (shape_CheckText_ok hv20) (.cons (.s rfl) .nil)) (.asn rfl (.nil (.sn mx (.mv rfl (.nei rfl (.nil (.cb rfl h (fun _ h => ?_) fun _ h => ?_))))))))))
        ·
         refine .sn mx (.mv rfl (.asn rfl (.nil (.ret (.thenRet ?_)))))
         replace h := resb_ab hK18 (some_eq h)
         obtain rfl := some_eq h
         exact Ends.rt Tryz.results47 rfl
        ·
         exact .skip (Ends.j _ (some_eq h))
       ·
        exact .skip (Ends.j _ (some_eq h))
      ·
       have h := resb_nx hK18 hj18
       refine .seq (.sn mx (.mv rfl (.mv rfl (.fg fd34_5 hfd34_5 rfl rfl rfl (.lg ty3 rfl rfl rfl (.c (.lt (.at rfl rfl) (.tmp rfl id) .i) (.c (.move (.at rfl rfl) (.tmp rfl id)) (.fg fd34_5 hfd34_5 rfl rfl rfl (.lg ty3 rfl rfl rfl (.fg fd34_0 hfd34_0 rfl rfl rfl (.c (.fieldAddr (.at rfl rfl) fd32_2 hfd32_2 (.tmp rfl id)) (.lg ty3 rfl rfl rfl (.c (.subW (.at rfl rfl) (.tmp rfl id) .i) (.c (.gt (.at rfl rfl) (.tmp rfl id) (.tmp rfl id)) (.c (.pickOr (.at rfl rfl) (.tmp rfl id) (.tmp rfl id)) (.pa rfl rfl (.nil (.cb rfl h (fun _ h => ?_) fun _ h => ?_))))))))))))))))))
       ·
        refine .sn mx (.asi (.nil (.ret (.thenRet ?_))))
        obtain rfl := some_eq h
        exact Ends.rt Tryz.results47 rfl
       ·
        refine .skip (.then (.sn mx (.asi (.nil (.ret ?_)))))
        obtain rfl := some_eq h
        exact Ends.rt Tryz.results47 rfl

theorem edit_Check_ok {l1 : (List DOp)} {r : Int}  (h : edit_Check l1 = some r) : FSpec Tryz.prog 27 [rep l1] (rep r) := by
 unfold edit_Check at h
 refine FSpec.i Tryz.func27 rfl Tryz.ntmps27 rfl (fun F => (.sn mx (.asi (.nil (.seq (.sn mx (.mv rfl (.ln sl23 rfl (.c (.gt .none (.s rfl) .i) (.nil (.cb rfl h (fun _ h => ?_) fun _ h => ?_)))))))))))
 ·
  refine .sn mx (.asi (.nil (.ret (.thenRet ?_))))
  obtain rfl := some_eq h
  exact Ends.rt Tryz.results27 rfl
 ·
  refine .skip (.then (.seq (.sn mx (.mv rfl (.ln sl23 rfl (.mvi (.nil ?_)))))))
  obtain ⟨o_2, h, hK2⟩ := bindR_some h
  refine .tJ (fun s => o_2 = Res.nx s) Sub.nil SubB.nil ?_ (fun j_2 hj2 => ?_)
  ·
   refine .block (.rforEL h (fun p3_ => [(12, ⟨True, rep p3_.1⟩)]) (fun p3_ => []) (.k 12 rfl .nil) SubB.nil (.k2 0 10 rfl rfl (.k 11 rfl .nil)) SubB.nil (fun p3_ o_3 h hD3 => (.sn mx (.lt rfl rfl (.nil (.seq (.cb rfl h (fun _ h => ?_) fun _ h => ?_)))))))
   ·
    refine .skip (.then (.seq ?_))
    obtain ⟨o_5, h, hK5⟩ := bindD_some h
    unfold edit_Check_L1 at h
    refine .tJ (fun s => o_5 = Res.nx s) (.k4 0 10 11 12 rfl rfl rfl rfl .nil) SubB.nil ?_ (fun j_5 hj5 => ?_)
    ·
     obtain ⟨hn6, h⟩ := need_some h
     obtain ⟨v1, hv7, h⟩ := bnd_some h
     obtain ⟨v2, hv8, h⟩ := bnd_some h
     obtain ⟨hn9, h⟩ := need_some h
     refine .block (.sr [oo, oo, oo, ([], [4]), oo, ([4], [4])] mx (.mvA rfl (.ixA sl23 ty34 rfl rfl hn6 (.rlA hv7 ty34 rfl (.al zo34 rfl (.asnA rfl (.st ty34 rfl rfl rfl (.nil (.freeze (t := 4) rfl rfl SubB.nil rfl (.sr [oo, ([], [5]), ([5], [5])] mx (.cA (.re hv8 (.buildF (y := (⟨(⟨(0 : Int), Str.nil, (0 : Int)⟩ : Stamp), (0 : Int), Str.nil, Str.nil, Str.nil, (0 : Int)⟩ : DOp)) .none bu34 zc34 rfl .nil .nil)) (.al zo34 rfl (.st ty34 rfl rfl rfl (.nil (.nameBox (t := 5) (g := 5001) rfl rfl (fun m5001 => (.seq (.sn mx (.mv rfl (.c (.gt .none (.s rfl) .i) (.mv rfl (.mg rfl rfl rfl (.mg rfl rfl rfl (.c (.subW (.at rfl rfl) (.tmp rfl id) .i) (.c (.indexAddr (.at rfl rfl) sl23 ty34 (.tmp rfl id) (.tmp rfl id) (fun hg => hn9 hg.2)) (.c (.fieldAddr (.at rfl rfl) fd34_0 hfd34_0 (.tmp rfl id)) (.c (.fieldAddr (.at rfl rfl) fd32_1 hfd32_1 (.tmp rfl id)) (.lg ty9 rfl rfl rfl (.fg fd34_0 hfd34_0 rfl rfl rfl (.c (.fieldAddr (.at rfl rfl) fd32_1 hfd32_1 (.tmp rfl id)) (.lg ty9 rfl rfl rfl (.c (.eqS (.at rfl rfl) (eqAt_str Tryz.underlying9) (.tmp rfl id) (.tmp rfl id)) (.pa rfl rfl (.nil ?_))))))))))))))))))))))))))))))))))
     obtain ⟨j_10, h, hK10⟩ := bind_some h
     refine .thenJ (ι := DOp) (fun j_10 => []) (fun j_10 => [(5001, some (boxAt m5001 34 j_10))]) (fun s => j_10 = s) (.k4 0 3 4 5 rfl rfl rfl rfl (.k2 10 11 rfl rfl (.k 12 rfl .nil))) SubB.nil ?_ (fun j_10' hj10 => ?_)
     ·
      refine .cb rfl h (fun _ h => ?_) fun _ h => ?_
      ·
       obtain ⟨hn12, h⟩ := need_some h
       obtain ⟨v3, hv13, h⟩ := bnd_some h
       exact .rg [oo, oo, oo, oo, oo, ([5001], [5001])] mx (.mvA rfl (.mvA rfl (.cA (.subW .none (.s rfl) .i) (.ixA sl23 ty34 rfl rfl hn12 (.rlA hv13 ty34 rfl (.s0 5001 ty34 rfl rfl rfl (.nil (Ends.j _ (some_eq h)))))))))
      ·
       exact .skip (Ends.j _ (some_eq h))
     ·
      subst hj10; have h := hK10; clear hK10
      obtain ⟨r1, hv14, h⟩ := bind_some h
      refine .fb 5001 [5] rfl (.cons (t := 5) rfl trivial .nil) (.seq (.block (.sn mx (.fa fd34_0 hfd34_0 rfl (.fa fd32_1 hfd32_1 rfl (.ld ty9 rfl (.c (.call .none (edit_isName_ok hv14) (.cons (.s rfl) .nil)) (.c (.not .none (.s rfl)) (.asn rfl (.nil (.cb rfl h (fun _ h => ?_) fun _ h => ?_)))))))))))
      ·
       refine .sn mx (.asi (.nil (.ret (.blkRet (.thenRet (.blkRet (.thenRet (.thenRet (.blkRet (.thenRet ?_))))))))))
       replace h := resd_ab hK5 (some_eq h)
       replace h := hD3 _ (some_eq h)
       replace h := resb_ab hK2 (some_eq h)
       obtain rfl := some_eq h
       exact Ends.rt Tryz.results27 rfl
      ·
       obtain ⟨hn16, h⟩ := need_some h
       obtain ⟨r2, hv17, h⟩ := bind_some h
       refine .sn mx (.mv rfl (.c (.gt .none (.s rfl) .i) (.mv rfl (.mg rfl rfl rfl (.mg rfl rfl rfl (.c (.subW (.at rfl rfl) (.tmp rfl id) .i) (.c (.indexAddr (.at rfl rfl) sl23 ty34 (.tmp rfl id) (.tmp rfl id) (fun hg => hn16 hg.2)) (.lg ty34 rfl rfl rfl (.c (.load (.at rfl rfl) ty34 (.s rfl)) (.c (.callIf (.at rfl rfl) fnok46 (fun hg => edit_order_ok ((fun hg => gd_some hv17 (hg.2)) hg)) (.cons (.tmp rfl id) (.cons (.tmp rfl id) .nil)) (fun h => h)) (.c (.ge (.at rfl rfl) (.tmp rfl id) .i) (.pa rfl rfl (.asn rfl (.nil (.cb rfl h (fun _ h => ?_) fun _ h => ?_)))))))))))))))
       ·
        refine .sn mx (.asi (.nil (.ret (.blkRet (.thenRet (.blkRet (.thenRet (.thenRet (.blkRet (.thenRet ?_))))))))))
        replace h := resd_ab hK5 (some_eq h)
        replace h := hD3 _ (some_eq h)
        replace h := resb_ab hK2 (some_eq h)
        obtain rfl := some_eq h
        exact Ends.rt Tryz.results27 rfl
       ·
        obtain ⟨v4, hv19, h⟩ := bnd_some h
        refine .seq (.sn mx (.fa fd34_0 hfd34_0 rfl (.fa fd32_2 hfd32_2 rfl (.ld ty3 rfl (.fa fd34_0 hfd34_0 rfl (.fa fd32_2 hfd32_2 rfl (.ld ty3 rfl (.adi rfl (.c (.neI .none (.s rfl) (.s rfl)) (.ra hv19 rfl (.nil ?_)))))))))))
        obtain ⟨j_20, h, hK20⟩ := bind_some h
        refine .thenJ (ι := Bool) (fun j_20 => [(57, ⟨True, rep j_20⟩)]) (fun j_20 => []) (fun s => j_20 = s) (.k4 0 4 5 10 rfl rfl rfl rfl (.k2 11 12 rfl rfl .nil)) SubB.nil ?_ (fun j_20' hj20 => ?_)
        ·
         refine .cb rfl h (fun _ h => ?_) fun _ h => ?_
         ·
          exact .skip (Ends.j _ (some_eq h))
         ·
          obtain ⟨v5, hv22, h⟩ := bnd_some h
          exact .rn mx (.fa fd34_0 hfd34_0 rfl (.fa fd32_0 hfd32_0 rfl (.ld ty3 rfl (.c (.lt .none (.s rfl) .i) (.mv rfl (.fg fd34_0 hfd34_0 rfl rfl rfl (.c (.fieldAddr (.at rfl rfl) fd32_0 hfd32_0 (.tmp rfl id)) (.lg ty3 rfl rfl rfl (.c (.gt (.at rfl rfl) (.tmp rfl id) .i) (.po rfl rfl (.ra hv22 rfl (.nil (Ends.j _ (some_eq h))))))))))))))
        ·
         subst hj20; have h := hK20; clear hK20
         refine .cb rfl h (fun _ h => ?_) fun _ h => ?_
         ·
          refine .sn mx (.asi (.nil (.ret (.blkRet (.thenRet (.blkRet (.thenRet (.thenRet (.blkRet (.thenRet ?_))))))))))
          replace h := resd_ab hK5 (some_eq h)
          replace h := hD3 _ (some_eq h)
          replace h := resb_ab hK2 (some_eq h)
          obtain rfl := some_eq h
          exact Ends.rt Tryz.results27 rfl
         ·
          refine .sn mx (.fa fd34_0 hfd34_0 rfl (.fa fd32_0 hfd32_0 rfl (.ld ty3 rfl (.fa fd34_0 hfd34_0 rfl (.fa fd32_0 hfd32_0 rfl (.ld ty3 rfl (.c (.le .none (.s rfl) (.s rfl)) (.asn rfl (.nil (.cb rfl h (fun _ h => ?_) fun _ h => ?_))))))))))
          ·
           refine .sn mx (.asi (.nil (.ret (.blkRet (.thenRet (.blkRet (.thenRet (.thenRet (.blkRet (.thenRet ?_))))))))))
           replace h := resd_ab hK5 (some_eq h)
           replace h := hD3 _ (some_eq h)
           replace h := resb_ab hK2 (some_eq h)
           obtain rfl := some_eq h
           exact Ends.rt Tryz.results27 rfl
          ·
           obtain ⟨e1, hv25, h⟩ := bind_some h
           refine .skip (.blkNormal (.then (.sn mx (.ld ty34 rfl (.c (.call .none (edit_checkBody_ok hv25) (.cons (.s rfl) .nil)) (.asn rfl (.nil (.sn mx (.mv rfl (.nei rfl (.nil (.cb rfl h (fun _ h => ?_) fun _ h => ?_))))))))))))
           ·
            refine .sn mx (.mv rfl (.asn rfl (.nil (.ret (.blkRet (.thenRet (.thenRet (.blkRet (.thenRet ?_)))))))))
            replace h := resd_ab hK5 (some_eq h)
            replace h := hD3 _ (some_eq h)
            replace h := resb_ab hK2 (some_eq h)
            obtain rfl := some_eq h
            exact Ends.rt Tryz.results27 rfl
           ·
            exact .skip (.blkNormal (Ends.j _ (some_eq h)))
    ·
     have h := resd_nx hK5 hj5
     exact .rn mx (.adi rfl (.mv rfl (.nil (Ends.ag (some_eq h)))))
   ·
    refine .exit (.thenExit (.thenExit (.blkExit ?_)))
    replace h := hD3 _ (some_eq h)
    exact Ends.j _ (some_eq h)
  ·
   have h := resb_nx hK2 hj2
   refine .sn mx (.asi (.nil (.ret ?_)))
   obtain rfl := some_eq h
   exact Ends.rt Tryz.results27 rfl

theorem law_edits_ok  {r : Bool}  (h : law_edits  = some r) : FSpec Tryz.prog 7 [] (rep r) := by
 unfold law_edits at h
 obtain ⟨r1, hv1, h⟩ := bind_some h
 obtain ⟨r2, hv2, h⟩ := bind_some h
 refine FSpec.i Tryz.func7 rfl Tryz.ntmps7 rfl (fun F => (.sn mx (.asb (.nil (.sn mx (.c (.call .none (edit_Check_ok hv1) (.cons (.const (x := ([] : (List DOp))) (fun M w => ⟨_, ⟨none, 0, rfl, Nat.le_refl _, by decide, rfl⟩, rfl⟩)) .nil)) (.eqi rfl (.mv rfl (.c (.buildF (y := (⟨(⟨(0 : Int), Str.nil, (0 : Int)⟩ : Stamp), (0 : Int), Str.nil, Str.nil, Str.nil, (0 : Int)⟩ : DOp)) (.at rfl rfl) bu34 zc34 rfl .nil .nil) (.c (.buildSlice (xs := [_]) (.at rfl rfl) sl23 ty34 hz34 (.cons (.tmp rfl id) .nil) rfl (by decide)) (.c (.callIf (.at rfl rfl) fnok27 (fun hg => edit_Check_ok ((fun hg => gd_some hv2 (hg.2)) hg)) (.cons (.tmp rfl id) .nil) (fun h => h)) (.c (.eqI (.at rfl rfl) (.tmp rfl id) .i) (.pa rfl rfl (.asn rfl (.nil (.ret ?_))))))))))))))))
 obtain rfl := some_eq h
 exact Ends.rt Tryz.results7 rfl

theorem ref_MapOf_ok {l1 : (List Thing)} {r : (GMap Str (GMap Str Str))}  (h : ref_MapOf l1 = some r) : FSpecO Tryz.prog 31 [rep l1] [] (anyV) [some (mapD none r)] := by
 unfold ref_MapOf at h
 obtain ⟨m1, hv1, h⟩ := bnd_some h
 refine FSpecO.i Tryz.func31 rfl Tryz.ntmps31 rfl (fun F => (.sn mx (.c (.assign .none (.const (x := (GMap.nil : (GMap Str (GMap Str Str)))) (fun M w => ⟨_, map_zero, rfl⟩))) (.nil (.sr [([], [8]), ([8], [3, 8])] mx (.cW (.makeMapD (K := Str) (K2 := Str) (V := Str) rfl) (.cW (.passRow rfl (.tmp rfl)) (.nil (.reB (t := 3) rfl (congrArg (mapD none) hv1) (.nameC (t := 3) (g := 5001) oneMapD rfl rfl rfl (fun s5001 => (.seq (.sn mx (.mv rfl (.ln sl22 rfl (.mvi (.nil ?_)))))))))))))))))
 obtain ⟨j_2, h, hK2⟩ := bind_some h
 refine .thenJ (ι := (GMap Str (GMap Str Str))) (fun j_2 => []) (fun j_2 => [(5001, some (CPred.at s5001 (mapD none j_2)))]) (fun s => j_2 = s) (.k 3 rfl .nil) SubB.nil ?_ (fun j_2' hj2 => ?_)
 ·
  refine .block (.rforL h (fun p3_ => [(11, ⟨True, rep p3_.1⟩)]) (fun p3_ => [(5001, some (CPred.at s5001 (mapD none p3_.2)))]) (.k 11 rfl .nil) (.k 5001 rfl .nil) (.k2 3 9 rfl rfl (.k 10 rfl .nil)) SubB.nil (fun p3_ o_3 h hD3 => (.sn mx (.lt rfl rfl (.nil (.seq (.cb rfl h (fun _ h => ?_) fun _ h => ?_)))))))
  ·
   refine .skip (.then (.seq ?_))
   obtain ⟨j_5, h, hK5⟩ := bind_some h
   unfold ref_MapOf_L1 at h
   refine .thenJ (ι := (GMap Str (GMap Str Str))) (fun j_5 => []) (fun j_5 => [(5001, some (CPred.at s5001 (mapD none j_5)))]) (fun s => j_5 = s) (.k4 3 9 10 11 rfl rfl rfl rfl .nil) SubB.nil ?_ (fun j_5' hj5 => ?_)
   ·
    obtain ⟨hn6, h⟩ := need_some h
    obtain ⟨v1, hv7, h⟩ := bnd_some h
    obtain ⟨m2, hv8, h⟩ := bnd_some h
    refine .block (.sr [oo, oo, ([], [5]), ([5], [5])] mx (.ixA sl22 ty45 rfl rfl hn6 (.rlA hv7 ty45 rfl (.al zo45 rfl (.st ty45 rfl rfl rfl (.nil (.freeze (t := 5) rfl rfl (.k 5001 rfl .nil) rfl (.sr [oo, oo, oo, ([], [18]), ([5001, 18], [5001, 18])] mx (.mvA rfl (.faA fd45_0 hfd45_0 rfl (.ldA ty9 rfl (.cW (.makeMap (K := Str) (V := Str) rfl) (.cN (.mapPutD (q := 5001) (t := 18) mo53 rfl (.s rfl) rfl rfl rfl (.s rfl)) (.nil (.reB (t := 5001) rfl (congrArg (fun y => CPred.at s5001 (mapD none y)) hv8) (.sn mx (.fa fd45_1 hfd45_1 rfl (.ld ty43 rfl (.ln sl43 rfl (.mvi (.nil (.block (.rforL h (fun p9_ => [(22, ⟨True, rep p9_.1⟩)]) (fun p9_ => [(5001, some (CPred.at s5001 (mapD none p9_.2)))]) (.k 22 rfl .nil) (.k 5001 rfl .nil) (.k4 3 5 9 10 rfl rfl rfl rfl (.k2 11 20 rfl rfl (.k 21 rfl .nil))) SubB.nil (fun p9_ o_9 h hD9 => (.sn mx (.lt rfl rfl (.nil (.seq (.cb rfl h (fun _ h => ?_) fun _ h => ?_)))))))))))))))))))))))))))))
    ·
     refine .skip (.then (.seq ?_))
     obtain ⟨j_11, h, hK11⟩ := bind_some h
     unfold ref_MapOf_L2 at h
     refine .thenJ (ι := (GMap Str (GMap Str Str))) (fun j_11 => []) (fun j_11 => [(5001, some (CPred.at s5001 (mapD none j_11)))]) (fun s => j_11 = s) (.k4 3 5 9 10 rfl rfl rfl rfl (.k4 11 20 21 22 rfl rfl rfl rfl .nil)) SubB.nil ?_ (fun j_11' hj11 => ?_)
     ·
      obtain ⟨hn12, h⟩ := need_some h
      obtain ⟨v2, hv13, h⟩ := bnd_some h
      obtain ⟨hn14, h⟩ := need_some h
      exact .block (.sr [oo, oo, ([], [7]), ([7], [7])] mx (.ixA sl43 ty49 rfl rfl hn12 (.rlA hv13 ty49 rfl (.al zo49 rfl (.st ty49 rfl rfl rfl (.nil (.freeze (t := 7) rfl rfl (.k 5001 rfl .nil) rfl (.openM (q := 5001) (r := 5002) (k := v1.Id) rfl rfl hn14 (fun s5002 => (.rg [oo, oo, oo, ([5001], []), oo, oo, oo, oo, ([5002], [5002])] mx (.mvA rfl (.faA fd45_0 hfd45_0 rfl (.ldA ty9 rfl (.cA (.lookPin (q := 5001) (z := s5002) .none mo53 zrawm60 (.s rfl) rfl (.s rfl)) (.faA fd49_0 hfd49_0 rfl (.ldA ty9 rfl (.faA fd49_1 hfd49_1 rfl (.ldA ty9 rfl (.cN (.mapUpdate (q := 5002) mo60 (.s rfl) rfl (.s rfl) (.s rfl)) (.nil (.blkNormal (.closeM (q := 5001) (r := 5002) rfl rfl rfl (Ends.j _ (some_eq h))))))))))))))))))))))))
     ·
      subst hj11; have h := hK11; clear hK11
      exact .rn mx (.adi rfl (.mv rfl (.nil (Ends.ag (some_eq h)))))
    ·
     refine .exit (.thenExit (.thenExit (.blkExit (.blkNormal ?_))))
     replace h := hD9 _ (some_eq h)
     exact Ends.j _ (some_eq h)
   ·
    subst hj5; have h := hK5; clear hK5
    exact .rn mx (.adi rfl (.mv rfl (.nil (Ends.ag (some_eq h)))))
  ·
   refine .exit (.thenExit (.thenExit (.blkExit ?_)))
   replace h := hD3 _ (some_eq h)
   exact Ends.j _ (some_eq h)
 ·
  subst hj2; have h := hK2; clear hK2
  refine .sn mx (.mv rfl (.asn rfl (.nil (.ret (.anon (t := 2) (g := 5001) rfl rfl trivial rfl ?_)))))
  obtain rfl := some_eq h
  exact Ends.ret1O (.inl rfl) [2] Tryz.results31 (by decide) (.res rfl rfl) (ResOK.tmp rfl trivial (fun _ _ _ _ => trivial))

theorem keysK_33_ok {m : (GMap Str Bool)} : FSpec Tryz.prog 33 [rep m] (keysP 50 m) := keys_spec keysZ33_lay rfl rfl fnok33
theorem sortedK_33_ok {m : (GMap Str Bool)} (hn : m.size ≤ 8796093022208) (hl : ∃ l, Lists m l) : FSpecO Tryz.prog 32 [keysP 50 m] [] anyV [some (rowV 9 (keysS m))] := sortedK_spec keysZ33_lay sortedZ_lay sortSM_lay rfl rfl rfl rfl rfl Tryz.underlying9 fnok32 fnok50 fnok22 hn hl

theorem keysK_34_ok {m : (GMap Str Str)} : FSpec Tryz.prog 34 [rep m] (keysP 51 m) := keys_spec keysZ34_lay rfl rfl fnok34
theorem sortedK_34_ok {m : (GMap Str Str)} (hn : m.size ≤ 8796093022208) (hl : ∃ l, Lists m l) : FSpecO Tryz.prog 32 [keysP 51 m] [] anyV [some (rowV 9 (keysS m))] := sortedK_spec keysZ34_lay sortedZ_lay sortSM_lay rfl rfl rfl rfl rfl Tryz.underlying9 fnok32 fnok51 fnok22 hn hl

theorem ref_DiffOf_ok {a1 : (List Thing)} {b1 : (List Thing)} {r : (List DOp)}  (h : ref_DiffOf a1 b1 = some r) : FSpec Tryz.prog 11 [rep a1, rep b1] (rep r) := by
 unfold ref_DiffOf at h
 obtain ⟨x1, hv1, h⟩ := bind_some h
 obtain ⟨y1, hv2, h⟩ := bind_some h
 obtain ⟨ids1, hv3, h⟩ := bnd_some h
 refine FSpec.i Tryz.func11 rfl Tryz.ntmps11 rfl (fun F => (.sn mx (.c (.assign .none (.const (x := ([] : (List DOp))) (fun M w => ⟨_, ⟨none, 0, rfl, Nat.le_refl _, by decide, rfl⟩, rfl⟩))) (.nil (.sn mx (.mv rfl (.c (.call .none (ref_MapOf_ok hv1).frzD (.cons (.s rfl) .nil)) (.mv rfl (.c (.call .none (ref_MapOf_ok hv2).frzD (.cons (.s rfl) .nil)) (.asn rfl (.asn rfl (.nil (.sr [([], [28]), ([28], [7, 28])] mx (.cW (.makeMap (K := Str) (V := Bool) rfl) (.cW (.passRow rfl (.tmp rfl)) (.nil (.reB (t := 7) rfl (congrArg mapV hv3) (.nameMap (t := 7) (g := 5001) rfl rfl rfl (fun s5001 => (.seq (.sr [oo, ([], [30])] mx (.mvA rfl (.cW (.rangeMap Tryz.underlying53 rfl (.s rfl)) (.nil (.nameAt (t := 30) (g := 5002) rfl rfl isBox_iterF rfl (fun m5002 => ?_))))))))))))))))))))))))))
 obtain ⟨j_4, h, hK4⟩ := bind_some h
 refine .thenJ (ι := (GMap Str Bool)) (fun j_4 => []) (fun j_4 => [(5001, some (CPred.at s5001 (mapV j_4)))]) (fun s => j_4 = s) (.k4 5 6 7 30 rfl rfl rfl rfl .nil) SubB.nil ?_ (fun j_4' hj4 => ?_)
 ·
  refine .block (.listsF (q := 5002) rfl (fun hf5 => (.mrangeL h hf5 (fun p5_ => []) (fun p5_ => [(5002, some (CPred.at (ptr m5002 0) (iterF x1 p5_.1))), (5001, some (CPred.at s5001 (mapV p5_.2)))]) Sub.nil (.k2 5002 5001 rfl rfl .nil) (.k4 5 6 7 30 rfl rfl rfl rfl .nil) SubB.nil (fun p5_ H5 => (.sr [([5002], [31, 5002]), ([31], [32, 31])] mx (.cW (.nextF (k := 5002) rfl rfl (.s rfl)) (.cW (.nextedOk (d := 31) rfl rfl) (.nil (.openNext (t := 32) (k := 5002) rfl rfl rfl (fun o5_ ho5 => ?_))))))))))
  obtain ⟨out5_, h, hD5⟩ := H5 o5_ ho5
  refine .againM (fun s' hs' => ⟨o5_, ho5, h.trans (congrArg some hs')⟩) (.seq ?_)
  cases o5_ with
  | some x5_ =>
   replace h := mstep_some h
   refine .condT (t := 32) rfl trivial rfl (.skip (.then ?_))
   obtain ⟨j_6, h, hK6⟩ := bind_some h
   unfold ref_DiffOf_L1 at h
   refine .tailJ (ι := (GMap Str Bool)) (fun j_6 => []) (fun j_6 => [(5001, some (CPred.at s5001 (mapV j_6)))]) (fun s => j_6 = s) (.k4 5 6 7 30 rfl rfl rfl rfl .nil) (.k 5002 rfl .nil) ?_ (fun j_6' hj6 => ?_)
   ·
    exact .block (.sr [([5002], []), oo, oo] mx (.cA (.entryF (k := 5002) (p := p5_.1) (y := x5_) rfl (.s rfl)) (.exA rfl rfl (.asnA rfl (.nil (.rg [oo, oo, ([5001], [5001])] mx (.mvA rfl (.mvA rfl (.cN (.mapUpdate (q := 5001) mo69 (.s rfl) rfl (.s rfl) .bool) (.nil (.blkNormal (Ends.j _ (some_eq h)))))))))))))
   ·
    subst hj6; have h := hK6; clear hK6
    exact Ends.ag (some_eq h)
  | none =>
   replace h := mstep_none h
   refine .condF (t := 32) rfl trivial rfl (.exit (.thenExit (.thenExit (.blkExit ?_))))
   replace h := hD5 _ (some_eq h)
   exact Ends.j _ (some_eq h)
 ·
  subst hj4; have h := hK4; clear hK4
  refine .seq (.sr [oo, ([], [38])] mx (.mvA rfl (.cW (.rangeMap Tryz.underlying53 rfl (.s rfl)) (.nil (.nameAt (t := 38) (g := 5003) rfl rfl isBox_iterF rfl (fun m5003 => ?_))))))
  obtain ⟨j_7, h, hK7⟩ := bind_some h
  refine .thenJ (ι := (GMap Str Bool)) (fun j_7 => []) (fun j_7 => [(5001, some (CPred.at s5001 (mapV j_7)))]) (fun s => j_7 = s) (.k4 5 6 7 38 rfl rfl rfl rfl .nil) SubB.nil ?_ (fun j_7' hj7 => ?_)
  ·
   refine .block (.listsF (q := 5003) rfl (fun hf8 => (.mrangeL h hf8 (fun p8_ => []) (fun p8_ => [(5003, some (CPred.at (ptr m5003 0) (iterF y1 p8_.1))), (5001, some (CPred.at s5001 (mapV p8_.2)))]) Sub.nil (.k2 5003 5001 rfl rfl .nil) (.k4 5 6 7 38 rfl rfl rfl rfl .nil) SubB.nil (fun p8_ H8 => (.sr [([5003], [39, 5003]), ([39], [40, 39])] mx (.cW (.nextF (k := 5003) rfl rfl (.s rfl)) (.cW (.nextedOk (d := 39) rfl rfl) (.nil (.openNext (t := 40) (k := 5003) rfl rfl rfl (fun o8_ ho8 => ?_))))))))))
   obtain ⟨out8_, h, hD8⟩ := H8 o8_ ho8
   refine .againM (fun s' hs' => ⟨o8_, ho8, h.trans (congrArg some hs')⟩) (.seq ?_)
   cases o8_ with
   | some x8_ =>
    replace h := mstep_some h
    refine .condT (t := 40) rfl trivial rfl (.skip (.then ?_))
    obtain ⟨j_9, h, hK9⟩ := bind_some h
    unfold ref_DiffOf_L2 at h
    refine .tailJ (ι := (GMap Str Bool)) (fun j_9 => []) (fun j_9 => [(5001, some (CPred.at s5001 (mapV j_9)))]) (fun s => j_9 = s) (.k4 5 6 7 38 rfl rfl rfl rfl .nil) (.k 5003 rfl .nil) ?_ (fun j_9' hj9 => ?_)
    ·
     exact .block (.sr [([5003], []), oo, oo] mx (.cA (.entryF (k := 5003) (p := p8_.1) (y := x8_) rfl (.s rfl)) (.exA rfl rfl (.asnA rfl (.nil (.rg [oo, oo, ([5001], [5001])] mx (.mvA rfl (.mvA rfl (.cN (.mapUpdate (q := 5001) mo69 (.s rfl) rfl (.s rfl) .bool) (.nil (.blkNormal (Ends.j _ (some_eq h)))))))))))))
    ·
     subst hj9; have h := hK9; clear hK9
     exact Ends.ag (some_eq h)
   | none =>
    replace h := mstep_none h
    refine .condF (t := 40) rfl trivial rfl (.exit (.thenExit (.thenExit (.blkExit ?_))))
    replace h := hD8 _ (some_eq h)
    exact Ends.j _ (some_eq h)
  ·
   subst hj7; have h := hK7; clear hK7
   refine .freezeAt (g := 5001) (S := rep j_7) (ts := [7]) rfl (.cons (t := 7) rfl trivial .nil) SubB.nil rfl (fun M D w h hms => mapV_rep h hms) ?_
   obtain ⟨hn10, h⟩ := need_some h
   obtain ⟨v1, hv11, h⟩ := bnd_some h
   refine .sr [([], [10])] mx (.cW (.nilRow (T := 34) (α := DOp) rfl) (.nil (.nameRow (t := 10) (g := 5004) rfl rfl rfl (fun s5004 => (.seq (.sn mx (.mv rfl (.c (.call .none keysK_33_ok (.cons (.s rfl) .nil)) (.c (.re hv11 (.call .none (sortedK_33_ok hn10.1 hn10.2).frz (.cons (.s rfl) .nil))) (.ln sl56 rfl (.mvi (.nil ?_))))))))))))
   obtain ⟨j_12, h, hK12⟩ := bind_some h
   refine .thenJ (ι := (List DOp)) (fun j_12 => []) (fun j_12 => [(10, some (rowV 34 j_12))]) (fun s => j_12 = s) Sub.nil SubB.nil ?_ (fun j_12' hj12 => ?_)
   ·
    refine .block (.anon (t := 10) (g := 5004) rfl rfl trivial rfl (.rforL h (fun p13_ => [(49, ⟨True, rep p13_.1⟩)]) (fun p13_ => [(10, some (rowV 34 p13_.2))]) (.k 49 rfl .nil) (.k 10 rfl .nil) (.k4 5 6 47 48 rfl rfl rfl rfl .nil) SubB.nil (fun p13_ o_13 h hD13 => (.nameRow (t := 10) (g := 5005) rfl rfl rfl (fun s5005 => (.sn mx (.lt rfl rfl (.nil (.seq (.cb rfl h (fun _ h => ?_) fun _ h => ?_))))))))))
    ·
     refine .skip (.then (.seq ?_))
     obtain ⟨j_15, h, hK15⟩ := bind_some h
     unfold ref_DiffOf_L3 at h
     refine .thenJ (ι := (List DOp)) (fun j_15 => []) (fun j_15 => [(10, some (rowV 34 j_15))]) (fun s => j_15 = s) (.k4 5 6 47 48 rfl rfl rfl rfl (.k 49 rfl .nil)) SubB.nil ?_ (fun j_15' hj15 => ?_)
     ·
      obtain ⟨hn16, h⟩ := need_some h
      obtain ⟨id1, hv17, h⟩ := bnd_some h
      obtain ⟨old1, hv18, h⟩ := bnd_some h
      refine .block (.sn mx (.ix sl56 ty9 rfl rfl hn16 (.ld ty9 rfl (.ra hv17 rfl (.nil (.sn mx (.mv rfl (.mv rfl (.c (.lookup .none mo53 zo60 (.s rfl) (.s rfl)) (.ra hv18 rfl (.nil (.sn mx (.mv rfl (.mv rfl (.c (.lookupOk .none mo53 zo60 (.s rfl) (.s rfl)) (.mv rfl (.ex rfl rfl (.ex rfl rfl (.asn rfl (.asn rfl (.nil (.sn mx (.asb (.nil (.seq (.sr [oo, ([], [63])] mx (.mvA rfl (.cW (.rangeMap Tryz.underlying60 rfl (.s rfl)) (.nil (.nameAt (t := 63) (g := 5006) rfl rfl isBox_iterF rfl (fun m5006 => ?_)))))))))))))))))))))))))))))))
      obtain ⟨j_19, h, hK19⟩ := bind_some h
      refine .thenJ (ι := Bool) (fun j_19 => [(16, ⟨True, rep j_19⟩)]) (fun j_19 => []) (fun s => j_19 = s) (.k4 5 6 10 12 rfl rfl rfl rfl (.k4 13 15 47 48 rfl rfl rfl rfl (.k2 49 63 rfl rfl .nil))) (.k 5005 rfl .nil) ?_ (fun j_19' hj19 => ?_)
      ·
       refine .block (.listsF (q := 5006) rfl (fun hf20 => (.mrangeL h hf20 (fun p20_ => [(16, ⟨True, rep p20_.2⟩)]) (fun p20_ => [(5006, some (CPred.at (ptr m5006 0) (iterF old1 p20_.1)))]) (.k 16 rfl .nil) (.k 5006 rfl .nil) (.k4 5 6 10 12 rfl rfl rfl rfl (.k4 13 15 47 48 rfl rfl rfl rfl (.k2 49 63 rfl rfl .nil))) (.k 5005 rfl .nil) (fun p20_ H20 => (.sr [([5006], [64, 5006]), ([64], [65, 64])] mx (.cW (.nextF (k := 5006) rfl rfl (.s rfl)) (.cW (.nextedOk (d := 64) rfl rfl) (.nil (.openNext (t := 65) (k := 5006) rfl rfl rfl (fun o20_ ho20 => ?_))))))))))
       obtain ⟨out20_, h, hD20⟩ := H20 o20_ ho20
       refine .againM (fun s' hs' => ⟨o20_, ho20, h.trans (congrArg some hs')⟩) (.seq ?_)
       cases o20_ with
       | some x20_ =>
        replace h := mstep_some h
        refine .condT (t := 65) rfl trivial rfl (.skip (.then ?_))
        obtain ⟨j_21, h, hK21⟩ := bind_some h
        unfold ref_DiffOf_L4 at h
        refine .tailJ (ι := Bool) (fun j_21 => [(16, ⟨True, rep j_21⟩)]) (fun j_21 => []) (fun s => j_21 = s) (.k4 5 6 10 12 rfl rfl rfl rfl (.k4 13 15 47 48 rfl rfl rfl rfl (.k2 49 63 rfl rfl .nil))) (.k2 5005 5006 rfl rfl .nil) ?_ (fun j_21' hj21 => ?_)
        ·
         obtain ⟨lost1, hv22, h⟩ := bnd_some h
         exact .block (.sr [([5006], []), oo, oo] mx (.cA (.entryF (k := 5006) (p := p20_.1) (y := x20_) rfl (.s rfl)) (.exA rfl rfl (.asnA rfl (.nil (.sn mx (.mv rfl (.mv rfl (.c (.lookup .none mo53 zo60 (.s rfl) (.s rfl)) (.mv rfl (.c (.lookupOk .none mo60 zo9 (.s rfl) (.s rfl)) (.mv rfl (.ex rfl rfl (.ex rfl rfl (.asn rfl (.asn rfl (.nil (.rn mx (.mv rfl (.mv rfl (.mg rfl rfl rfl (.c (.not (.at rfl rfl) (.tmp rfl id)) (.po rfl rfl (.ra hv22 rfl (.nil (.blkNormal (Ends.j _ (some_eq h))))))))))))))))))))))))))))
        ·
         subst hj21; have h := hK21; clear hK21
         exact Ends.ag (some_eq h)
       | none =>
        replace h := mstep_none h
        refine .condF (t := 65) rfl trivial rfl (.exit (.thenExit (.thenExit (.blkExit ?_))))
        replace h := hD20 _ (some_eq h)
        exact Ends.j _ (some_eq h)
      ·
       subst hj19; have h := hK19; clear hK19
       refine .seq (.sn mx (.mv rfl (.c (.not .none (.s rfl)) (.mv rfl (.mg rfl rfl rfl (.po rfl rfl (.nil ?_)))))))
       obtain ⟨j_23, h, hK23⟩ := bind_some h
       refine .thenJ (ι := ((List DOp) × (GMap Str Str))) (fun j_23 => [(13, ⟨True, rep j_23.2⟩)]) (fun j_23 => [(10, some (rowV 34 j_23.1))]) (fun s => j_23 = s) (.k4 5 6 12 47 rfl rfl rfl rfl (.k2 48 49 rfl rfl .nil)) SubB.nil ?_ (fun j_23' hj23 => ?_)
       ·
        refine .cb rfl h (fun _ h => ?_) fun _ h => ?_
        ·
         obtain ⟨hn25, h⟩ := need_some h
         obtain ⟨out1, hv26, h⟩ := bnd_some h
         obtain ⟨old2, hv27, h⟩ := bnd_some h
         exact .sr [oo, oo, oo, oo, ([5005], [90, 5005]), ([90], [10, 90])] mx (.mvA rfl (.mvA rfl (.cA (.buildF (y := (⟨(⟨(0 : Int), Str.nil, (0 : Int)⟩ : Stamp), 2, id1, Str.nil, Str.nil, (0 : Int)⟩ : DOp)) .none bu34 zc34 rfl (.cons .i (.cons (.s rfl) .nil)) (.cons rfl sf34_1 (.cons rfl sf34_2 .nil))) (.cA (.buildSlice (xs := [_]) .none sl23 ty34 hz34 (.cons (.s rfl) .nil) rfl (by decide)) (.cW (.append (k := 5005) rk23 rfl (.told (.s rfl) rfl) (.s rfl) hn25) (.cW (.passRow rfl (.tmp rfl)) (.nil (.reB (t := 10) rfl (congrArg (rowV 34) hv26) (.nameRow (t := 10) (g := 5007) rfl rfl rfl (fun s5007 => (.rn mx (.c (.re hv27 (.assign .none (.const (x := (GMap.nil : (GMap Str Str))) (fun M w => ⟨_, map_zero, rfl⟩)))) (.nil (.anon (t := 10) (g := 5007) rfl rfl trivial rfl (Ends.j _ (some_eq h))))))))))))))))
        ·
         exact .skip (.anon (t := 10) (g := 5005) rfl rfl trivial rfl (Ends.j _ (some_eq h)))
       ·
        subst hj23; have h := hK23; clear hK23
        obtain ⟨hn28, h⟩ := need_some h
        obtain ⟨v2, hv29, h⟩ := bnd_some h
        refine .nameRow (t := 10) (g := 5008) rfl rfl rfl (fun s5008 => (.sn mx (.mv rfl (.mv rfl (.c (.lookup .none mo53 zo60 (.s rfl) (.s rfl)) (.c (.call .none keysK_34_ok (.cons (.s rfl) .nil)) (.c (.re hv29 (.call .none (sortedK_34_ok hn28.1 hn28.2).frz (.cons (.s rfl) .nil))) (.ln sl56 rfl (.mvi (.nil (.block (.anon (t := 10) (g := 5008) rfl rfl trivial rfl (.rforL h (fun p30_ => [(97, ⟨True, rep p30_.1⟩)]) (fun p30_ => [(10, some (rowV 34 p30_.2))]) (.k 97 rfl .nil) (.k 10 rfl .nil) (.k4 5 6 12 13 rfl rfl rfl rfl (.k4 47 48 49 95 rfl rfl rfl rfl (.k 96 rfl .nil))) SubB.nil (fun p30_ o_30 h hD30 => (.nameRow (t := 10) (g := 5009) rfl rfl rfl (fun s5009 => (.sn mx (.lt rfl rfl (.nil (.seq (.cb rfl h (fun _ h => ?_) fun _ h => ?_)))))))))))))))))))))
        ·
         refine .skip (.then (.seq ?_))
         obtain ⟨j_32, h, hK32⟩ := bind_some h
         unfold ref_DiffOf_L5 at h
         refine .thenJ (ι := (List DOp)) (fun j_32 => []) (fun j_32 => [(10, some (rowV 34 j_32))]) (fun s => j_32 = s) (.k4 5 6 12 13 rfl rfl rfl rfl (.k4 47 48 49 95 rfl rfl rfl rfl (.k2 96 97 rfl rfl .nil))) SubB.nil ?_ (fun j_32' hj32 => ?_)
         ·
          obtain ⟨hn33, h⟩ := need_some h
          obtain ⟨f1, hv34, h⟩ := bnd_some h
          refine .block (.sn mx (.ix sl56 ty9 rfl rfl hn33 (.ld ty9 rfl (.ra hv34 rfl (.nil (.sn mx (.mv rfl (.mv rfl (.c (.lookupOk .none mo60 zo9 (.s rfl) (.s rfl)) (.mv rfl (.ex rfl rfl (.ex rfl rfl (.asn rfl (.asn rfl (.nil (.sn mx (.mv rfl (.c (.not .none (.s rfl)) (.mv rfl (.mg rfl rfl rfl (.mg rfl rfl rfl (.mg rfl rfl rfl (.c (.lookup (.at rfl rfl) mo53 zo60 (.tmp rfl id) (.tmp rfl id)) (.mg rfl rfl rfl (.c (.lookup (.at rfl rfl) mo60 zo9 (.tmp rfl id) (.tmp rfl id)) (.c (.neS (.at rfl rfl) (eqAt_str Tryz.underlying9) (.tmp rfl id) (.tmp rfl id)) (.po rfl rfl (.nil (.cb rfl h (fun _ h => ?_) fun _ h => ?_)))))))))))))))))))))))))))))
          ·
           obtain ⟨hn36, h⟩ := need_some h
           exact .rg [oo, oo, oo, oo, oo, oo, oo, oo, oo, oo, ([5009], [128, 5009]), ([128], [10, 128])] mx (.mvA rfl (.mvA rfl (.mvA rfl (.mvA rfl (.mvA rfl (.cA (.lookup .none mo53 zo60 (.s rfl) (.s rfl)) (.mvA rfl (.cA (.lookup .none mo60 zo9 (.s rfl) (.s rfl)) (.cA (.buildF (y := (⟨(⟨(0 : Int), Str.nil, (0 : Int)⟩ : Stamp), 1, id1, f1, (y1.getD id1 (GMap.nil : (GMap Str Str))).getD f1 Str.nil, (0 : Int)⟩ : DOp)) .none bu34 zc34 rfl (.cons .i (.cons (.s rfl) (.cons (.s rfl) (.cons (.s rfl) .nil)))) (.cons rfl sf34_1 (.cons rfl sf34_2 (.cons rfl sf34_3 (.cons rfl sf34_4 .nil))))) (.cA (.buildSlice (xs := [_]) .none sl23 ty34 hz34 (.cons (.s rfl) .nil) rfl (by decide)) (.cW (.append (k := 5009) rk23 rfl (.told (.s rfl) rfl) (.s rfl) hn36) (.consWD (.passRow rfl (.tmp rfl)) rfl rfl (.nil (.blkNormal (Ends.j _ (some_eq h))))))))))))))))
          ·
           exact .skip (.blkNormal (.anon (t := 10) (g := 5009) rfl rfl trivial rfl (Ends.j _ (some_eq h))))
         ·
          subst hj32; have h := hK32; clear hK32
          exact .nameRow (t := 10) (g := 5010) rfl rfl rfl (fun s5010 => (.rn mx (.adi rfl (.mv rfl (.nil (.anon (t := 10) (g := 5010) rfl rfl trivial rfl (Ends.ag (some_eq h))))))))
        ·
         refine .exit (.thenExit (.thenExit (.blkExit (.blkNormal (.anon (t := 10) (g := 5009) rfl rfl trivial rfl ?_)))))
         replace h := hD30 _ (some_eq h)
         exact Ends.j _ (some_eq h)
     ·
      subst hj15; have h := hK15; clear hK15
      exact .nameRow (t := 10) (g := 5011) rfl rfl rfl (fun s5011 => (.rn mx (.adi rfl (.mv rfl (.nil (.anon (t := 10) (g := 5011) rfl rfl trivial rfl (Ends.ag (some_eq h))))))))
    ·
     refine .exit (.thenExit (.thenExit (.blkExit (.anon (t := 10) (g := 5005) rfl rfl trivial rfl ?_))))
     replace h := hD13 _ (some_eq h)
     exact Ends.j _ (some_eq h)
   ·
    subst hj12; have h := hK12; clear hK12
    refine .freezeRowA (t := 10) rfl rfl SubB.nil rfl (.sn mx (.mv rfl (.asn rfl (.nil (.ret ?_)))))
    obtain rfl := some_eq h
    exact Ends.rt Tryz.results11 rfl

theorem law_DiffsMatch_1_ok {c0_1 : (List Thing)} {c1_1 : (List Thing)} {r : (List DOp)}  (h : law_DiffsMatch_1 c0_1 c1_1 = some r) : FSpec Tryz.prog 10 [ref c0_1, ref c1_1] (rep r) := by
 unfold law_DiffsMatch_1 at h
 obtain ⟨r1, hv1, h⟩ := bind_some h
 refine FSpec.i Tryz.func10 rfl Tryz.ntmps10 rfl (fun F => (.sn mx (.c (.assign .none (.const (x := ([] : (List DOp))) (fun M w => ⟨_, ⟨none, 0, rfl, Nat.le_refl _, by decide, rfl⟩, rfl⟩))) (.nil (.sn mx (.ld ty22 rfl (.ld ty22 rfl (.c (.call .none (ref_DiffOf_ok hv1) (.cons (.s rfl) (.cons (.s rfl) .nil))) (.asn rfl (.nil (.ret ?_)))))))))))
 obtain rfl := some_eq h
 exact Ends.rt Tryz.results10 rfl

theorem slices_Equal_Op_ok {s1_1 : (List DOp)} {s2_1 : (List DOp)} {r : Bool}  (h : slices_Equal_Op s1_1 s2_1 = some r) : FSpec Tryz.prog 30 [rep s1_1, rep s2_1] (rep r) := by
 unfold slices_Equal_Op at h
 refine FSpec.i Tryz.func30 rfl Tryz.ntmps30 rfl (fun F => (.sn mx (.asb (.nil (.seq (.sn mx (.mv rfl (.ln sl23 rfl (.mv rfl (.ln sl23 rfl (.c (.neI .none (.s rfl) (.s rfl)) (.nil (.cb rfl h (fun _ h => ?_) fun _ h => ?_)))))))))))))
 ·
  refine .sn mx (.asb (.nil (.ret (.thenRet ?_))))
  obtain rfl := some_eq h
  exact Ends.rt Tryz.results30 rfl
 ·
  refine .skip (.then (.seq (.sn mx (.mv rfl (.ln sl23 rfl (.mvi (.nil ?_)))))))
  obtain ⟨o_2, h, hK2⟩ := bindR_some h
  refine .tJ (fun s => o_2 = Res.nx s) Sub.nil SubB.nil ?_ (fun j_2 hj2 => ?_)
  ·
   refine .block (.rforEL h (fun p3_ => [(13, ⟨True, rep p3_.1⟩)]) (fun p3_ => []) (.k 13 rfl .nil) SubB.nil (.k2 0 1 rfl rfl (.k 12 rfl .nil)) SubB.nil (fun p3_ o_3 h hD3 => (.sn mx (.lt rfl rfl (.nil (.seq (.cb rfl h (fun _ h => ?_) fun _ h => ?_)))))))
   ·
    refine .skip (.then (.seq ?_))
    obtain ⟨o_5, h, hK5⟩ := bindD_some h
    unfold slices_Equal_Op_L1 at h
    refine .tJ (fun s => o_5 = Res.nx s) (.k4 0 1 12 13 rfl rfl rfl rfl .nil) SubB.nil ?_ (fun j_5 hj5 => ?_)
    ·
     obtain ⟨hn6, h⟩ := need_some h
     obtain ⟨hn7, h⟩ := need_some h
     refine .block (.sn mx (.mv rfl (.asn rfl (.nil (.sn mx (.mv rfl (.mv rfl (.ix sl23 ty34 rfl rfl hn6 (.ld ty34 rfl (.mv rfl (.mv rfl (.ix sl23 ty34 rfl rfl hn7 (.ld ty34 rfl (.c (.neS .none eqa34 (.s rfl) (.s rfl)) (.nil (.cb rfl h (fun _ h => ?_) fun _ h => ?_))))))))))))))))
     ·
      refine .sn mx (.asb (.nil (.ret (.blkRet (.thenRet (.thenRet (.blkRet (.thenRet ?_))))))))
      replace h := resd_ab hK5 (some_eq h)
      replace h := hD3 _ (some_eq h)
      replace h := resb_ab hK2 (some_eq h)
      obtain rfl := some_eq h
      exact Ends.rt Tryz.results30 rfl
     ·
      exact .skip (.blkNormal (Ends.j _ (some_eq h)))
    ·
     have h := resd_nx hK5 hj5
     exact .rn mx (.adi rfl (.mv rfl (.nil (Ends.ag (some_eq h)))))
   ·
    refine .exit (.thenExit (.thenExit (.blkExit ?_)))
    replace h := hD3 _ (some_eq h)
    exact Ends.j _ (some_eq h)
  ·
   have h := resb_nx hK2 hj2
   refine .sn mx (.asb (.nil (.ret ?_)))
   obtain rfl := some_eq h
   exact Ends.rt Tryz.results30 rfl

theorem law_lists_Op_ok {got1 : (List DOp)} {e1 : Int} {want1 : Int} {right1 : (Option (List DOp))} {r : Bool}  (h : law_lists_Op got1 e1 want1 right1 = some r) : FSpec Tryz.prog 9 [rep got1, rep e1, rep want1, fn0 Tryz.prog (rep (α := (List DOp))) right1] (rep r) := by
 unfold law_lists_Op at h
 refine FSpec.i Tryz.func9 rfl Tryz.ntmps9 rfl (fun F => (.sn mx (.asb (.nil (.seq (.sn mx (.mv rfl (.nei rfl (.nil (.cb rfl h (fun _ h => ?_) fun _ h => ?_))))))))))
 ·
  refine .sn mx (.mv rfl (.ln sl23 rfl (.eqi rfl (.mv rfl (.mg rfl rfl rfl (.mg rfl rfl rfl (.c (.eqI (.at rfl rfl) (.tmp rfl id) (.tmp rfl id)) (.pa rfl rfl (.asn rfl (.nil (.ret (.thenRet ?_))))))))))))
  obtain rfl := some_eq h
  exact Ends.rt Tryz.results9 rfl
 ·
  obtain ⟨r1, hv2, h⟩ := bind_some h
  obtain ⟨r2, hv3, h⟩ := bind_some h
  refine .skip (.then (.sn mx (.mv rfl (.eqi rfl (.mv rfl (.mg rfl rfl rfl (.mg rfl rfl rfl (.c (.callV _ (.at rfl rfl) (.tmp rfl id) (fun hg => gd_some hv2 (hg.2)) .nil) (.c (.callIf (.at rfl rfl) fnok30 (fun hg => slices_Equal_Op_ok ((fun hg => gd_some hv3 (hg.2)) hg)) (.cons (.tmp rfl id) (.cons (.tmp rfl id) .nil)) (fun h => h)) (.pa rfl rfl (.asn rfl (.nil (.ret ?_)))))))))))))
  obtain rfl := some_eq h
  exact Ends.rt Tryz.results9 rfl

theorem edit_things_do_ok {t1 : (GMap Str (GMap Str Str))} {x1 : DOp} {r : (GMap Str (GMap Str Str))} {s27 : Value} (h : edit_things_do t1 x1 = some r) : FSpecO Tryz.prog 35 [isV s27, rep x1] [(s27, mapD none t1)] (anyV) [some (mapD none r)] := by
 unfold edit_things_do at h
 refine FSpecO.i Tryz.func35 rfl Tryz.ntmps35 rfl (fun F => (.sn mx (.c (.box .none (.s rfl)) (.nil (.seq (.sn mx (.fa fd34_1 hfd34_1 rfl (.ld ty3 rfl (.eqi rfl (.nil (.cb rfl h (fun _ h => ?_) fun _ h => ?_)))))))))))
 ·
  obtain ⟨c1, hv2, h⟩ := bnd_some h
  refine .sr [oo, oo, oo, ([27], [27])] mx (.mvA rfl (.faA fd34_2 hfd34_2 rfl (.ldA ty9 rfl (.cN (.mapDelD (q := 27) mo54 (.s rfl) rfl (.s rfl)) (.nil (.reB (t := 27) rfl (congrArg (fun y => CPred.at s27 (mapD none y)) hv2) (.ret (.thenRet ?_))))))))
  obtain rfl := some_eq h
  exact Ends.ret0O (.inl rfl) [27] Tryz.results35 (by decide) (.held rfl .nil)
 ·
  refine .skip (.then (.seq (.sr [oo, oo, oo, ([27], []), oo] mx (.mvA rfl (.faA fd34_2 hfd34_2 rfl (.ldA ty9 rfl (.cA (.lookNilM (q := 27) .none mo54 zrawm60 (.s rfl) rfl (.s rfl)) (.cA (.eqNilM .none Tryz.underlying60 (.s rfl)) (.nil ?_)))))))))
  obtain ⟨j_3, h, hK3⟩ := bind_some h
  refine .thenJ (ι := (GMap Str (GMap Str Str))) (fun j_3 => []) (fun j_3 => [(27, some (CPred.at s27 (mapD none j_3)))]) (fun s => j_3 = s) (.k2 0 3 rfl rfl .nil) SubB.nil ?_ (fun j_3' hj3 => ?_)
  ·
   refine .cb rfl h (fun _ h => ?_) fun _ h => ?_
   ·
    exact .rg [oo, oo, oo, ([], [18]), ([27, 18], [27, 18])] mx (.mvA rfl (.faA fd34_2 hfd34_2 rfl (.ldA ty9 rfl (.cW (.makeMap (K := Str) (V := Str) rfl) (.cN (.mapPutD (q := 27) (t := 18) mo54 rfl (.s rfl) rfl rfl rfl (.s rfl)) (.nil (Ends.j _ (some_eq h))))))))
   ·
    exact .skip (Ends.j _ (some_eq h))
  ·
   subst hj3; have h := hK3; clear hK3
   obtain ⟨hn5, h⟩ := need_some h
   refine .openM (q := 27) (r := 5001) (k := x1.Id) rfl rfl hn5 (fun s5001 => (.rg [oo, oo, oo, ([27], []), oo, oo, oo, oo, ([5001], [5001])] mx (.mvA rfl (.faA fd34_2 hfd34_2 rfl (.ldA ty9 rfl (.cA (.lookPin (q := 27) (z := s5001) .none mo54 zrawm60 (.s rfl) rfl (.s rfl)) (.faA fd34_3 hfd34_3 rfl (.ldA ty9 rfl (.faA fd34_4 hfd34_4 rfl (.ldA ty9 rfl (.cN (.mapUpdate (q := 5001) mo60 (.s rfl) rfl (.s rfl) (.s rfl)) (.nil (.closeM (q := 27) (r := 5001) rfl rfl rfl ?_)))))))))))))
   obtain rfl := some_eq h
   exact Ends.ret0O (.inr rfl) [27] Tryz.results35 (by decide) (.held rfl .nil)

instance : Enc Attr := Enc.via (fun x : Attr => (x.Field, x.Value))

theorem sortO_Attr : Sort.SWO (Proofs.ltOf sortC_Attr) := by
 have h : ∀ x y, Proofs.ltOf sortC_Attr x y = decide (cmpB x.1.Field.b y.1.Field.b < 0) := fun x y => rfl
 constructor
 ·
  intro x; rw [h, cmpB_self]; rfl
 ·
  intro x y z h1 h2
  rw [h] at *
  simp only [decide_eq_true_eq] at *
  exact (cmpB_trans (by omega) (by omega)).2 (.inl h1)
 ·
  intro x y z h1 h2
  rw [h] at *
  simp only [decide_eq_false_iff_not, Int.not_lt] at *
  have e1 := cmpB_swap x.1.Field.b y.1.Field.b
  have e2 := cmpB_swap y.1.Field.b z.1.Field.b
  have e3 := cmpB_swap x.1.Field.b z.1.Field.b
  have := (cmpB_trans (a := z.1.Field.b) (b := y.1.Field.b) (c := x.1.Field.b) (by omega) (by omega)).1
  omega

theorem sortX_Attr (x y : { x : Attr // sortQ_Attr x }) (w0 : World) : Calls Tryz.prog 53 #[.agg (Enc.enc x.1).toArray, .agg (Enc.enc y.1).toArray] w0 fun e w' => e = .returned (.int .i64 (sortC_Attr x y)) ∧ ∃ q os', w' = Go.Sort.grow (w0.drewN q) os' := by
 obtain ⟨⟨a1, a2⟩, hx⟩ := x
 obtain ⟨⟨b1, b2⟩, hy⟩ := y
 show Calls Tryz.prog 53 #[.agg #[.string ⟨a1.b.toArray⟩, .string ⟨a2.b.toArray⟩], .agg #[.string ⟨b1.b.toArray⟩, .string ⟨b2.b.toArray⟩]] w0 fun e w' => e = .returned (.int .i64 (cmpB a1.b b1.b)) ∧ ∃ q os', w' = Go.Sort.grow (w0.drewN q) os'
 clear hx hy
 rw [← compareBytes_eq]
 go_enter Tryz.func53, Tryz.ntmps53
 go_wp2_with (go_at_call 26; refine (Proofs.Any.strings_Compare compareStr_lay _ _ _).mono ?_; rintro e w' ⟨rfl, rfl⟩)
 go_ret
 exact ⟨by simp, 0, _, by rw [Go.Sort.alloc_eq_grow, Go.Sort.alloc_eq_grow, Go.Sort.grow_grow]; rfl⟩

theorem slices_SortFunc_Attr_ok {l r : List Attr} {s : Value} (h : slices_SortFunc_Attr l = some r) : FSpecO Tryz.prog 52 [isV s, cloV 53 []] [(s, rowV 49 l)] (anyV) [some (rowV 49 r)] := by
 obtain ⟨hl, h⟩ := need_some h
 obtain rfl := some_eq h
 exact sortF_spec sortF49_lay rfl rfl fnok52 fnok53 Tryz.underlying49 ty49 sortO_Attr sortX_Attr hl.1 hl.2

theorem sortX_Thing (x y : Str × SlV) (w0 : World) : Calls Tryz.prog 55 #[.agg (Enc.enc x).toArray, .agg (Enc.enc y).toArray] w0 fun e w' => e = .returned (.int .i64 (cmpB x.1.b y.1.b)) ∧ ∃ q os', w' = Go.Sort.grow (w0.drewN q) os' := by
 obtain ⟨a1, a2, a3, a4⟩ := x
 obtain ⟨b1, b2, b3, b4⟩ := y
 show Calls Tryz.prog 55 #[.agg #[.string ⟨a1.b.toArray⟩, .slice a2 a3 a4], .agg #[.string ⟨b1.b.toArray⟩, .slice b2 b3 b4]] w0 fun e w' => e = .returned (.int .i64 (cmpB a1.b b1.b)) ∧ ∃ q os', w' = Go.Sort.grow (w0.drewN q) os'
 rw [← compareBytes_eq]
 go_enter Tryz.func55, Tryz.ntmps55
 go_wp2_with (go_at_call 26; refine (Proofs.Any.strings_Compare compareStr_lay _ _ _).mono ?_; rintro e w' ⟨rfl, rfl⟩)
 go_ret
 exact ⟨by simp, 0, _, by rw [Go.Sort.alloc_eq_grow, Go.Sort.alloc_eq_grow, Go.Sort.grow_grow]; rfl⟩

theorem slices_SortFunc_Thing_ok {l r : List Thing} {s : Value} (h : slices_SortFunc_Thing l = some r) : FSpecO Tryz.prog 54 [isV s, cloV 55 []] [(s, rowV 45 l)] (anyV) [some (rowV 45 r)] := by
 obtain ⟨hl, h⟩ := need_some h
 obtain rfl := some_eq h
 exact sortU_spec sortF45_lay (fun x : Thing => (x.Id, x.Attrs)) rfl rfl fnok54 fnok55 Tryz.underlying45 tyU45 sortX_Thing hl.1 hl.2

theorem edit_things_listed_ok {t1 : (GMap Str (GMap Str Str))} {r : (List Thing)}  (h : edit_things_listed t1 = some r) : FSpec Tryz.prog 36 [rep t1] (rep r) := by
 unfold edit_things_listed at h
 refine FSpec.i Tryz.func36 rfl Tryz.ntmps36 rfl (fun F => (.sn mx (.c (.assign .none (.const (x := ([] : (List Thing))) (fun M w => ⟨_, ⟨none, 0, rfl, Nat.le_refl _, by decide, rfl⟩, rfl⟩))) (.nil (.sr [([], [3])] mx (.cW (.nilRow (T := 45) (α := Thing) rfl) (.nil (.nameRow (t := 3) (g := 5001) rfl rfl rfl (fun s5001 => (.seq (.sr [oo, ([], [10])] mx (.mvA rfl (.cW (.rangeMap Tryz.underlying54 rfl (.s rfl)) (.nil (.nameAt (t := 10) (g := 5002) rfl rfl isBox_iterF rfl (fun m5002 => ?_))))))))))))))))
 obtain ⟨P1, h, hK1⟩ := mrangeK_some h
 refine .thenJ (ι := (List Thing)) (fun j_1 => []) (fun j_1 => [(3, some (rowV 45 j_1))]) (fun s => P1 s) (.k 10 rfl .nil) SubB.nil ?_ (fun j_1 hj1 => ?_)
 ·
  refine .block (.anon (t := 3) (g := 5001) rfl rfl trivial rfl (.listsF (q := 5002) rfl (fun hf2 => (.mrangeKL h hf2 (fun p2_ => []) (fun p2_ => [(5002, some (CPred.at (ptr m5002 0) (iterF t1 p2_.1))), (3, some (rowV 45 p2_.2))]) Sub.nil (.k2 5002 3 rfl rfl .nil) (.k 10 rfl .nil) SubB.nil (fun p2_ H2 => (.nameRow (t := 3) (g := 5003) rfl rfl rfl (fun s5003 => (.sr [([5002], [11, 5002]), ([11], [12, 11])] mx (.cW (.nextF (k := 5002) rfl rfl (.s rfl)) (.cW (.nextedOk (d := 11) rfl rfl) (.nil (.openNext (t := 12) (k := 5002) rfl rfl rfl (fun o2_ ho2 => ?_)))))))))))))
  obtain ⟨out2_, h, hD2⟩ := H2 o2_ ho2
  refine .againM (fun s' hs' => ⟨o2_, ho2, h.trans (congrArg some hs')⟩) (.seq ?_)
  cases o2_ with
  | some x2_ =>
   replace h := mstep_some h
   refine .condT (t := 12) rfl trivial rfl (.skip (.then ?_))
   obtain ⟨j_3, h, hK3⟩ := bind_some h
   unfold edit_things_listed_L1 at h
   refine .tailJ (ι := (List Thing)) (fun j_3 => []) (fun j_3 => [(3, some (rowV 45 j_3))]) (fun s => j_3 = s) (.k 10 rfl .nil) (.k 5002 rfl .nil) ?_ (fun j_3' hj3 => ?_)
   ·
    refine .block (.sr [([5002], []), oo, oo, oo, oo] mx (.cA (.entryF (k := 5002) (p := p2_.1) (y := x2_) rfl (.s rfl)) (.exA rfl rfl (.exA rfl rfl (.asnA rfl (.asnA rfl (.nil (.sr [oo, oo, ([], [6]), ([6], [6])] mx (.mvA rfl (.cA (.buildF (y := (⟨x2_.1, ⟨.slice none 0 0⟩⟩ : Thing_o1)) .none bu45 zvc_Thing_o1 rfl (.cons (.s rfl) .nil) (.cons rfl sv_Thing_o1_0 .nil)) (.al zo45 rfl (.cN (.storeH tyv_Thing_o1 rfl (by rfl) rfl (.s rfl)) (.nil (.nameAt (t := 6) (g := 5004) rfl rfl isBox_cont rfl (fun m5004 => (.nilKey (g := 5005) (T := 49) (α := Attr) rfl (.seq (.sr [oo, ([], [19])] mx (.mvA rfl (.cW (.rangeMap Tryz.underlying60 rfl (.s rfl)) (.nil (.nameAt (t := 19) (g := 5006) rfl rfl isBox_iterF rfl (fun m5006 => ?_)))))))))))))))))))))))
    obtain ⟨P4, h, hK4⟩ := mrangeK_some h
    refine .thenJ (ι := Thing) (fun j_4 => []) (fun j_4 => [(5004, some (CPred.at (ptr m5004 0) (deep (fun z0 => cont 45 (⟨j_4.Id, ⟨z0⟩⟩ : Thing_o1)) (rowV 49 j_4.Attrs))))]) (fun s => P4 s) (.k4 3 6 10 19 rfl rfl rfl rfl .nil) (.k2 5002 5003 rfl rfl .nil) ?_ (fun j_4 hj4 => ?_)
    ·
     refine .block (.close (k := 5004) (g := 5005) (fun z => cont 45 (⟨x2_.1, ⟨z⟩⟩ : Thing_o1)) rfl rfl rfl (.listsF (q := 5006) rfl (fun hf5 => (.mrangeKL h hf5 (fun p5_ => []) (fun p5_ => [(5006, some (CPred.at (ptr m5006 0) (iterF x2_.2 p5_.1))), (5004, some (CPred.at (ptr m5004 0) (deep (fun z0 => cont 45 (⟨p5_.2.Id, ⟨z0⟩⟩ : Thing_o1)) (rowV 49 p5_.2.Attrs))))]) Sub.nil (.k2 5006 5004 rfl rfl .nil) (.k4 3 6 10 19 rfl rfl rfl rfl .nil) (.k2 5002 5003 rfl rfl .nil) (fun p5_ H5 => (.open (k := 5004) (g := 5007) rfl rfl (fun s5007 => (.sr [([5006], [20, 5006]), ([20], [21, 20])] mx (.cW (.nextF (k := 5006) rfl rfl (.s rfl)) (.cW (.nextedOk (d := 20) rfl rfl) (.nil (.openNext (t := 21) (k := 5006) rfl rfl rfl (fun o5_ ho5 => ?_)))))))))))))
     obtain ⟨out5_, h, hD5⟩ := H5 o5_ ho5
     refine .againM (fun s' hs' => ⟨o5_, ho5, h.trans (congrArg some hs')⟩) (.seq ?_)
     cases o5_ with
     | some x5_ =>
      replace h := mstep_some h
      refine .condT (t := 21) rfl trivial rfl (.skip (.then ?_))
      obtain ⟨j_6, h, hK6⟩ := bind_some h
      unfold edit_things_listed_L2 at h
      refine .tailJ (ι := Thing) (fun j_6 => []) (fun j_6 => [(5004, some (CPred.at (ptr m5004 0) (deep (fun z0 => cont 45 (⟨j_6.Id, ⟨z0⟩⟩ : Thing_o1)) (rowV 49 j_6.Attrs))))]) (fun s => j_6 = s) (.k4 3 6 10 19 rfl rfl rfl rfl .nil) (.k2 5002 5003 rfl rfl (.k 5006 rfl .nil)) ?_ (fun j_6' hj6 => ?_)
      ·
       obtain ⟨hn7, h⟩ := need_some h
       exact .block (.sr [([5006], []), oo, oo, oo, oo] mx (.cA (.entryF (k := 5006) (p := p5_.1) (y := x5_) rfl (.s rfl)) (.exA rfl rfl (.exA rfl rfl (.asnA rfl (.asnA rfl (.nil (.rg [oo, ([5004], []), oo, oo, oo, oo, ([5007], [31, 5007]), oo, ([5004, 31], [5004, 31])] mx (.cA (.fieldPtr .none fd45_1 (.s rfl)) (.cA (.loadAt (k := 5004) .none tr43 rfl (.s rfl) hv_Thing_o1_1) (.mvA rfl (.mvA rfl (.cA (.buildF (y := (⟨x5_.1, x5_.2⟩ : Attr)) .none bu49 zc49 rfl (.cons (.s rfl) (.cons (.s rfl) .nil)) (.cons rfl sf49_0 (.cons rfl sf49_1 .nil))) (.cA (.buildSlice (xs := [_]) .none sl43 ty49 hz49 (.cons (.s rfl) .nil) rfl (by decide)) (.cW (.appendW (k := 5007) rkw43 rfl (.told (.s rfl) rfl) (.s rfl) hn7) (.cA (.fieldPtr .none fd45_1 (.s rfl)) (.cN (.storeRow (k := 5004) (t := 31) ty43 rfl (.s rfl) sv_Thing_o1_1 rfl rfl) (.nil (.blkNormal (Ends.j _ (some_eq h)))))))))))))))))))))
      ·
       subst hj6; have h := hK6; clear hK6
       exact Ends.ag (some_eq h)
     | none =>
      replace h := mstep_none h
      refine .condF (t := 21) rfl trivial rfl (.exit (.thenExit (.thenExit (.blkExit (.close (k := 5004) (g := 5007) (fun z => cont 45 (⟨p5_.2.Id, ⟨z⟩⟩ : Thing_o1)) rfl rfl rfl ?_)))))
      replace h := hD5 _ (some_eq h)
      exact Ends.join _ h (.k4 3 6 10 19 rfl rfl rfl rfl .nil) (.k2 5004 5002 rfl rfl (.k 5003 rfl .nil))
    ·
     have h := hK4 _ hj4; clear hK4
     obtain ⟨r1, hv8, h⟩ := bind_some h
     refine .open (k := 5004) (g := 5008) rfl rfl (fun s5008 => (.sr [oo, ([5004], []), ([5008], [5008])] mx (.cA (.fieldPtr .none fd45_1 (.s rfl)) (.cA (.loadAt (k := 5004) .none tr43 rfl (.s rfl) hv_Thing_o1_1) (.cW (.cO [5008] (slices_SortFunc_Attr_ok hv8) (.cons (.s rfl) (.cons .funcC .nil)) (.cons (k := 5008) rfl .nil) rfl) (.nil (.close (k := 5004) (g := 5008) (fun z => cont 45 (⟨j_4.Id, ⟨z⟩⟩ : Thing_o1)) rfl rfl rfl (.freezeAt (g := 5004) (S := ref ({ j_4 with Attrs := r1 } : Thing)) (ts := [6]) rfl (.cons (t := 6) rfl trivial .nil) (.k2 5002 5003 rfl rfl .nil) rfl (fun M D w h hms => deep_ref1 (mk := (fun s1_ => (⟨j_4.Id, ⟨s1_⟩⟩ : Thing_o1))) (y := ({ j_4 with Attrs := r1 } : Thing)) frzRow rfl (fun M s1_ cs w hc g1 => by obtain ⟨c0, q0, e0, h0, h1⟩ := hc; exact ⟨c0, q0, e0, h0, raw_cells rfl rfl h1 g1⟩) M D w h hms) ?_))))))))
     obtain ⟨hn9, h⟩ := need_some h
     exact .rg [oo, oo, oo, ([5003], [39, 5003]), ([39], [3, 39])] mx (.mvA rfl (.ldA ty45 rfl (.cA (.buildSlice (xs := [_]) .none sl22 ty45 hz45 (.cons (.s rfl) .nil) rfl (by decide)) (.cW (.appendW (k := 5003) rkw22 rfl (.told (.s rfl) rfl) (.s rfl) hn9) (.cW (.passRow rfl (.tmp rfl)) (.nil (.blkNormal (Ends.j _ (some_eq h)))))))))
   ·
    subst hj3; have h := hK3; clear hK3
    exact Ends.ag (some_eq h)
  | none =>
   replace h := mstep_none h
   refine .condF (t := 12) rfl trivial rfl (.exit (.thenExit (.thenExit (.blkExit (.anon (t := 3) (g := 5003) rfl rfl trivial rfl ?_)))))
   replace h := hD2 _ (some_eq h)
   exact Ends.join _ h (.k 10 rfl .nil) (.k 3 rfl .nil)
 ·
  have h := hK1 _ hj1; clear hK1
  obtain ⟨r2, hv10, h⟩ := bind_some h
  refine .nameRow (t := 3) (g := 5009) rfl rfl rfl (fun s5009 => (.sr [oo, ([5009], [5009])] mx (.mvA rfl (.cW (.cO [5009] (slices_SortFunc_Thing_ok hv10) (.cons (.s rfl) (.cons .funcC .nil)) (.cons (k := 5009) rfl .nil) rfl) (.nil (.freezeRow (g := 5009) (ts := [3]) rfl (.cons (t := 3) rfl trivial .nil) SubB.nil rfl (.sn mx (.mv rfl (.asn rfl (.nil (.ret ?_)))))))))))
  obtain rfl := some_eq h
  exact Ends.rt Tryz.results36 rfl

theorem edit_Apply_ok {l1 : (List Thing)} {ops1 : (List DOp)} {r : ((List Thing) × Int)}  (h : edit_Apply l1 ops1 = some r) : FSpec Tryz.prog 12 [rep l1, rep ops1] (tup [rep r.1, rep r.2]) := by
 unfold edit_Apply at h
 obtain ⟨e1, hv1, h⟩ := bind_some h
 refine FSpec.i Tryz.func12 rfl Tryz.ntmps12 rfl (fun F => (.sn mx (.c (.assign .none (.const (x := ([] : (List Thing))) (fun M w => ⟨_, ⟨none, 0, rfl, Nat.le_refl _, by decide, rfl⟩, rfl⟩))) (.asi (.nil (.seq (.sn mx (.mv rfl (.c (.call .none (edit_CheckThings_ok hv1) (.cons (.s rfl) .nil)) (.asn rfl (.nil (.sn mx (.mv rfl (.nei rfl (.nil (.cb rfl h (fun _ h => ?_) fun _ h => ?_))))))))))))))))
 ·
  refine .sn mx (.mv rfl (.c (.assign .none (.const (x := ([] : (List Thing))) (fun M w => ⟨_, ⟨none, 0, rfl, Nat.le_refl _, by decide, rfl⟩, rfl⟩))) (.asn rfl (.nil (.ret (.thenRet ?_))))))
  obtain rfl := some_eq h
  exact Ends.ret2 (.inl rfl) Tryz.results12 (ResOK.tmp rfl trivial Imp.refl) (ResOK.tmp rfl trivial Imp.refl)
 ·
  obtain ⟨t1, hv3, h⟩ := bind_some h
  refine .skip (.then (.sr [oo, ([], [20]), ([20], [7, 20])] mx (.mvA rfl (.cW (.cO [] (edit_thingsOf_ok hv3) (.cons (.s rfl) .nil) .nil rfl) (.cW (.passRow rfl (.tmp rfl)) (.nil (.nameC (t := 7) (g := 5001) oneMapD rfl rfl rfl (fun s5001 => (.seq (.sn mx (.mv rfl (.ln sl23 rfl (.mvi (.nil ?_))))))))))))))
  obtain ⟨o_4, h, hK4⟩ := bindR_some h
  refine .thenJ (ι := (GMap Str (GMap Str Str))) (fun j_4 => []) (fun j_4 => [(5001, some (CPred.at s5001 (mapD none j_4)))]) (fun s => o_4 = Res.nx s) (.k 7 rfl .nil) SubB.nil ?_ (fun j_4 hj4 => ?_)
  ·
   refine .block (.rforEL h (fun p5_ => [(23, ⟨True, rep p5_.1⟩)]) (fun p5_ => [(5001, some (CPred.at s5001 (mapD none p5_.2)))]) (.k 23 rfl .nil) (.k 5001 rfl .nil) (.k2 7 21 rfl rfl (.k 22 rfl .nil)) SubB.nil (fun p5_ o_5 h hD5 => (.sn mx (.lt rfl rfl (.nil (.seq (.cb rfl h (fun _ h => ?_) fun _ h => ?_)))))))
   ·
    refine .skip (.then (.seq ?_))
    obtain ⟨o_7, h, hK7⟩ := bindD_some h
    unfold edit_Apply_L1 at h
    refine .thenJ (ι := (GMap Str (GMap Str Str))) (fun j_7 => []) (fun j_7 => [(5001, some (CPred.at s5001 (mapD none j_7)))]) (fun s => o_7 = Res.nx s) (.k4 7 21 22 23 rfl rfl rfl rfl .nil) SubB.nil ?_ (fun j_7 hj7 => ?_)
    ·
     obtain ⟨hn8, h⟩ := need_some h
     obtain ⟨v1, hv9, h⟩ := bnd_some h
     obtain ⟨set1, hv10, h⟩ := bnd_some h
     refine .block (.sr [oo, oo, ([], [9]), ([9], [9])] mx (.ixA sl23 ty34 rfl rfl hn8 (.rlA hv9 ty34 rfl (.al zo34 rfl (.st ty34 rfl rfl rfl (.nil (.freeze (t := 9) rfl rfl (.k 5001 rfl .nil) rfl (.sn mx (.fa fd34_1 hfd34_1 rfl (.ld ty3 rfl (.eqi rfl (.ra hv10 rfl (.nil (.seq (.block (.sn mx (.mv rfl (.c (.not .none (.s rfl)) (.mv rfl (.fg fd34_1 hfd34_1 rfl rfl rfl (.lg ty3 rfl rfl rfl (.c (.neI (.at rfl rfl) (.tmp rfl id) .i) (.pa rfl rfl (.asn rfl (.nil (.cb rfl h (fun _ h => ?_) fun _ h => ?_))))))))))))))))))))))))))
     ·
      refine .sn mx (.c (.assign .none (.const (x := ([] : (List Thing))) (fun M w => ⟨_, ⟨none, 0, rfl, Nat.le_refl _, by decide, rfl⟩, rfl⟩))) (.asi (.nil (.ret (.blkRet (.thenRet (.blkRet (.thenRet (.thenRet (.blkRet (.thenRet ?_)))))))))))
      replace h := resd_ab hK7 (some_eq h)
      replace h := hD5 _ (some_eq h)
      replace h := resb_ab hK4 (some_eq h)
      obtain rfl := some_eq h
      exact Ends.ret2 (.inl rfl) Tryz.results12 (ResOK.tmp rfl trivial Imp.refl) (ResOK.tmp rfl trivial Imp.refl)
     ·
      obtain ⟨r1, hv12, h⟩ := bind_some h
      obtain ⟨v2, hv13, h⟩ := bnd_some h
      refine .seq (.sn mx (.fa fd34_2 hfd34_2 rfl (.ld ty9 rfl (.c (.call .none (edit_isName_ok hv12) (.cons (.s rfl) .nil)) (.c (.not .none (.s rfl)) (.ra hv13 rfl (.nil ?_)))))))
      obtain ⟨j_14, h, hK14⟩ := bind_some h
      refine .thenJ (ι := Bool) (fun j_14 => [(38, ⟨True, rep j_14⟩)]) (fun j_14 => []) (fun s => j_14 = s) (.k4 7 9 10 21 rfl rfl rfl rfl (.k2 22 23 rfl rfl .nil)) (.k 5001 rfl .nil) ?_ (fun j_14' hj14 => ?_)
      ·
       refine .cb rfl h (fun _ h => ?_) fun _ h => ?_
       ·
        exact .skip (Ends.j _ (some_eq h))
       ·
        obtain ⟨r2, hv16, h⟩ := bind_some h
        refine .rn mx (.mv rfl (.mv rfl (.fg fd34_3 hfd34_3 rfl rfl rfl (.lg ty9 rfl rfl rfl (.c (.callIf (.at rfl rfl) fnok28 (fun hg => edit_isName_ok ((fun hg => gd_some hv16 (hg.2)) hg)) (.cons (.tmp rfl id) .nil) (fun h => h)) ?_)))))
        obtain ⟨v3, hv17, h⟩ := bnd_some h
        exact .c (.not (.at rfl rfl) (.tmp rfl id)) (.pa rfl rfl (.ra hv17 rfl (.nil (Ends.j _ (some_eq h)))))
      ·
       subst hj14; have h := hK14; clear hK14
       refine .cb rfl h (fun _ h => ?_) fun _ h => ?_
       ·
        refine .sn mx (.c (.assign .none (.const (x := ([] : (List Thing))) (fun M w => ⟨_, ⟨none, 0, rfl, Nat.le_refl _, by decide, rfl⟩, rfl⟩))) (.asi (.nil (.ret (.blkRet (.thenRet (.blkRet (.thenRet (.thenRet (.blkRet (.thenRet ?_)))))))))))
        replace h := resd_ab hK7 (some_eq h)
        replace h := hD5 _ (some_eq h)
        replace h := resb_ab hK4 (some_eq h)
        obtain rfl := some_eq h
        exact Ends.ret2 (.inl rfl) Tryz.results12 (ResOK.tmp rfl trivial Imp.refl) (ResOK.tmp rfl trivial Imp.refl)
       ·
        refine .skip (.blkNormal (.then (.seq (.sn mx (.mv rfl (.nil ?_))))))
        obtain ⟨o_19, h, hK19⟩ := bindR_some h
        refine .tJ (fun s => o_19 = Res.nx s) (.k4 7 9 21 22 rfl rfl rfl rfl (.k 23 rfl .nil)) (.k 5001 rfl .nil) ?_ (fun j_19 hj19 => ?_)
        ·
         refine .cb rfl h (fun _ h => ?_) fun _ h => ?_
         ·
          obtain ⟨e2, hv21, h⟩ := bind_some h
          refine .sn mx (.fa fd34_4 hfd34_4 rfl (.ld ty9 rfl (.c (.call .none (shape_CheckText_ok hv21) (.cons (.s rfl) .nil)) (.asn rfl (.nil (.sn mx (.mv rfl (.nei rfl (.nil (.cb rfl h (fun _ h => ?_) fun _ h => ?_))))))))))
          ·
           refine .sn mx (.mv rfl (.c (.assign .none (.const (x := ([] : (List Thing))) (fun M w => ⟨_, ⟨none, 0, rfl, Nat.le_refl _, by decide, rfl⟩, rfl⟩))) (.asn rfl (.nil (.ret (.thenRet (.blkRet (.thenRet (.thenRet (.blkRet (.thenRet ?_)))))))))))
           replace h := resb_ab hK19 (some_eq h)
           replace h := resd_ab hK7 (some_eq h)
           replace h := hD5 _ (some_eq h)
           replace h := resb_ab hK4 (some_eq h)
           obtain rfl := some_eq h
           exact Ends.ret2 (.inl rfl) Tryz.results12 (ResOK.tmp rfl trivial Imp.refl) (ResOK.tmp rfl trivial Imp.refl)
          ·
           exact .skip (Ends.j _ (some_eq h))
         ·
          refine .sr [oo, oo, oo, ([5001], []), oo] mx (.mvA rfl (.faA fd34_2 hfd34_2 rfl (.ldA ty9 rfl (.cA (.lookNilM (q := 5001) .none mo54 zrawm60 (.s rfl) rfl (.s rfl)) (.cA (.eqNilM .none Tryz.underlying60 (.s rfl)) (.nil (.cb rfl h (fun _ h => ?_) fun _ h => ?_)))))))
          ·
           refine .sn mx (.c (.assign .none (.const (x := ([] : (List Thing))) (fun M w => ⟨_, ⟨none, 0, rfl, Nat.le_refl _, by decide, rfl⟩, rfl⟩))) (.asi (.nil (.ret (.thenRet (.blkRet (.thenRet (.thenRet (.blkRet (.thenRet ?_))))))))))
           replace h := resb_ab hK19 (some_eq h)
           replace h := resd_ab hK7 (some_eq h)
           replace h := hD5 _ (some_eq h)
           replace h := resb_ab hK4 (some_eq h)
           obtain rfl := some_eq h
           exact Ends.ret2 (.inl rfl) Tryz.results12 (ResOK.tmp rfl trivial Imp.refl) (ResOK.tmp rfl trivial Imp.refl)
          ·
           exact .skip (Ends.j _ (some_eq h))
        ·
         have h := resb_nx hK19 hj19
         obtain ⟨r3, hv24, h⟩ := bind_some h
         exact .rg [oo, oo, ([5001], [5001])] mx (.mvA rfl (.ldA ty34 rfl (.cW (.cO [5001] (edit_things_do_ok hv24) (.cons (.s rfl) (.cons (.s rfl) .nil)) (.cons (k := 5001) rfl .nil) rfl) (.nil (.blkNormal (Ends.j _ (some_eq h)))))))
    ·
     have h := resd_nx hK7 hj7
     exact .rn mx (.adi rfl (.mv rfl (.nil (Ends.ag (some_eq h)))))
   ·
    refine .exit (.thenExit (.thenExit (.blkExit ?_)))
    replace h := hD5 _ (some_eq h)
    exact Ends.j _ (some_eq h)
  ·
   have h := resb_nx hK4 hj4
   refine .freezeAt (g := 5001) (S := rep j_4) (ts := [7]) rfl (.cons (t := 7) rfl trivial .nil) SubB.nil rfl (fun M D w h hms => mapD_rep h hms) ?_
   obtain ⟨out1, hv25, h⟩ := bind_some h
   obtain ⟨e3, hv26, h⟩ := bind_some h
   refine .sn mx (.mv rfl (.c (.call .none (edit_things_listed_ok hv25) (.cons (.s rfl) .nil)) (.asn rfl (.nil (.seq (.sn mx (.mv rfl (.c (.call .none (edit_CheckThings_ok hv26) (.cons (.s rfl) .nil)) (.asn rfl (.nil (.sn mx (.mv rfl (.nei rfl (.nil (.cb rfl h (fun _ h => ?_) fun _ h => ?_)))))))))))))))
   ·
    refine .sn mx (.mv rfl (.c (.assign .none (.const (x := ([] : (List Thing))) (fun M w => ⟨_, ⟨none, 0, rfl, Nat.le_refl _, by decide, rfl⟩, rfl⟩))) (.asn rfl (.nil (.ret (.thenRet ?_))))))
    obtain rfl := some_eq h
    exact Ends.ret2 (.inl rfl) Tryz.results12 (ResOK.tmp rfl trivial Imp.refl) (ResOK.tmp rfl trivial Imp.refl)
   ·
    refine .skip (.then (.sn mx (.mv rfl (.asn rfl (.asi (.nil (.ret ?_)))))))
    obtain rfl := some_eq h
    exact Ends.ret2 (.inl rfl) Tryz.results12 (ResOK.tmp rfl trivial Imp.refl) (ResOK.tmp rfl trivial Imp.refl)

theorem slices_EqualFunc_Thing_ok {s1_1 : (List Thing)} {s2_1 : (List Thing)} {eq1 : (Thing → Thing → Option Bool)} {r : Bool}  (h : slices_EqualFunc_Thing s1_1 s2_1 eq1 = some r) : FSpec Tryz.prog 37 [rep s1_1, rep s2_1, fn2 Tryz.prog (rep (α := Bool)) eq1] (rep r) := by
 unfold slices_EqualFunc_Thing at h
 refine FSpec.i Tryz.func37 rfl Tryz.ntmps37 rfl (fun F => (.sn mx (.asb (.nil (.seq (.sn mx (.mv rfl (.ln sl22 rfl (.mv rfl (.ln sl22 rfl (.c (.neI .none (.s rfl) (.s rfl)) (.nil (.cb rfl h (fun _ h => ?_) fun _ h => ?_)))))))))))))
 ·
  refine .sn mx (.asb (.nil (.ret (.thenRet ?_))))
  obtain rfl := some_eq h
  exact Ends.rt Tryz.results37 rfl
 ·
  refine .skip (.then (.seq (.sn mx (.mv rfl (.ln sl22 rfl (.mvi (.nil ?_)))))))
  obtain ⟨o_2, h, hK2⟩ := bindR_some h
  refine .tJ (fun s => o_2 = Res.nx s) Sub.nil SubB.nil ?_ (fun j_2 hj2 => ?_)
  ·
   refine .block (.rforEL h (fun p3_ => [(17, ⟨True, rep p3_.1⟩)]) (fun p3_ => []) (.k 17 rfl .nil) SubB.nil (.k4 1 2 15 16 rfl rfl rfl rfl .nil) SubB.nil (fun p3_ o_3 h hD3 => (.sn mx (.lt rfl rfl (.nil (.seq (.cb rfl h (fun _ h => ?_) fun _ h => ?_)))))))
   ·
    refine .skip (.then (.seq ?_))
    obtain ⟨o_5, h, hK5⟩ := bindD_some h
    unfold slices_EqualFunc_Thing_L1 at h
    refine .tJ (fun s => o_5 = Res.nx s) (.k4 1 2 15 16 rfl rfl rfl rfl (.k 17 rfl .nil)) SubB.nil ?_ (fun j_5 hj5 => ?_)
    ·
     obtain ⟨hn6, h⟩ := need_some h
     obtain ⟨v1, hv7, h⟩ := bnd_some h
     obtain ⟨hn8, h⟩ := need_some h
     obtain ⟨v2, hv9, h⟩ := bnd_some h
     obtain ⟨r1, hv10, h⟩ := bind_some h
     refine .block (.sr [oo, oo, oo, ([], [8]), oo, ([8], [8])] mx (.mvA rfl (.ixA sl22 ty45 rfl rfl hn6 (.rlA hv7 ty45 rfl (.al zo45 rfl (.asnA rfl (.st ty45 rfl rfl rfl (.nil (.freeze (t := 8) rfl rfl SubB.nil rfl (.sr [oo, oo, oo, oo, ([], [9]), ([9], [9])] mx (.mvA rfl (.mvA rfl (.ixA sl22 ty45 rfl rfl hn8 (.rlA hv9 ty45 rfl (.al zo45 rfl (.st ty45 rfl rfl rfl (.nil (.freeze (t := 9) rfl rfl SubB.nil rfl (.sn mx (.mv rfl (.ld ty45 rfl (.ld ty45 rfl (.c (.callV (v1, v2, r1) .none (.s rfl) (fun _ => hv10) (.cons (.s rfl) (.cons (.s rfl) .nil))) (.c (.not .none (.s rfl)) (.nil (.cb rfl h (fun _ h => ?_) fun _ h => ?_))))))))))))))))))))))))))
     ·
      refine .sn mx (.asb (.nil (.ret (.blkRet (.thenRet (.thenRet (.blkRet (.thenRet ?_))))))))
      replace h := resd_ab hK5 (some_eq h)
      replace h := hD3 _ (some_eq h)
      replace h := resb_ab hK2 (some_eq h)
      obtain rfl := some_eq h
      exact Ends.rt Tryz.results37 rfl
     ·
      exact .skip (.blkNormal (Ends.j _ (some_eq h)))
    ·
     have h := resd_nx hK5 hj5
     exact .rn mx (.adi rfl (.mv rfl (.nil (Ends.ag (some_eq h)))))
   ·
    refine .exit (.thenExit (.thenExit (.blkExit ?_)))
    replace h := hD3 _ (some_eq h)
    exact Ends.j _ (some_eq h)
  ·
   have h := resb_nx hK2 hj2
   refine .sn mx (.asb (.nil (.ret ?_)))
   obtain rfl := some_eq h
   exact Ends.rt Tryz.results37 rfl

theorem slices_Equal_Attr_ok {s1_1 : (List Attr)} {s2_1 : (List Attr)} {r : Bool}  (h : slices_Equal_Attr s1_1 s2_1 = some r) : FSpec Tryz.prog 39 [rep s1_1, rep s2_1] (rep r) := by
 unfold slices_Equal_Attr at h
 refine FSpec.i Tryz.func39 rfl Tryz.ntmps39 rfl (fun F => (.sn mx (.asb (.nil (.seq (.sn mx (.mv rfl (.ln sl43 rfl (.mv rfl (.ln sl43 rfl (.c (.neI .none (.s rfl) (.s rfl)) (.nil (.cb rfl h (fun _ h => ?_) fun _ h => ?_)))))))))))))
 ·
  refine .sn mx (.asb (.nil (.ret (.thenRet ?_))))
  obtain rfl := some_eq h
  exact Ends.rt Tryz.results39 rfl
 ·
  refine .skip (.then (.seq (.sn mx (.mv rfl (.ln sl43 rfl (.mvi (.nil ?_)))))))
  obtain ⟨o_2, h, hK2⟩ := bindR_some h
  refine .tJ (fun s => o_2 = Res.nx s) Sub.nil SubB.nil ?_ (fun j_2 hj2 => ?_)
  ·
   refine .block (.rforEL h (fun p3_ => [(13, ⟨True, rep p3_.1⟩)]) (fun p3_ => []) (.k 13 rfl .nil) SubB.nil (.k2 0 1 rfl rfl (.k 12 rfl .nil)) SubB.nil (fun p3_ o_3 h hD3 => (.sn mx (.lt rfl rfl (.nil (.seq (.cb rfl h (fun _ h => ?_) fun _ h => ?_)))))))
   ·
    refine .skip (.then (.seq ?_))
    obtain ⟨o_5, h, hK5⟩ := bindD_some h
    unfold slices_Equal_Attr_L1 at h
    refine .tJ (fun s => o_5 = Res.nx s) (.k4 0 1 12 13 rfl rfl rfl rfl .nil) SubB.nil ?_ (fun j_5 hj5 => ?_)
    ·
     obtain ⟨hn6, h⟩ := need_some h
     obtain ⟨hn7, h⟩ := need_some h
     refine .block (.sn mx (.mv rfl (.asn rfl (.nil (.sn mx (.mv rfl (.mv rfl (.ix sl43 ty49 rfl rfl hn6 (.ld ty49 rfl (.mv rfl (.mv rfl (.ix sl43 ty49 rfl rfl hn7 (.ld ty49 rfl (.c (.neS .none eqa49 (.s rfl) (.s rfl)) (.nil (.cb rfl h (fun _ h => ?_) fun _ h => ?_))))))))))))))))
     ·
      refine .sn mx (.asb (.nil (.ret (.blkRet (.thenRet (.thenRet (.blkRet (.thenRet ?_))))))))
      replace h := resd_ab hK5 (some_eq h)
      replace h := hD3 _ (some_eq h)
      replace h := resb_ab hK2 (some_eq h)
      obtain rfl := some_eq h
      exact Ends.rt Tryz.results39 rfl
     ·
      exact .skip (.blkNormal (Ends.j _ (some_eq h)))
    ·
     have h := resd_nx hK5 hj5
     exact .rn mx (.adi rfl (.mv rfl (.nil (Ends.ag (some_eq h)))))
   ·
    refine .exit (.thenExit (.thenExit (.blkExit ?_)))
    replace h := hD3 _ (some_eq h)
    exact Ends.j _ (some_eq h)
  ·
   have h := resb_nx hK2 hj2
   refine .sn mx (.asb (.nil (.ret ?_)))
   obtain rfl := some_eq h
   exact Ends.rt Tryz.results39 rfl

theorem ref_SameThings_1_ok {x1 : Thing} {y1 : Thing} {r : Bool}  (h : ref_SameThings_1 x1 y1 = some r) : FSpec Tryz.prog 38 [rep x1, rep y1] (rep r) := by
 unfold ref_SameThings_1 at h
 obtain ⟨r1, hv1, h⟩ := bind_some h
 refine FSpec.i Tryz.func38 rfl Tryz.ntmps38 rfl (fun F => (.sn mx (.c (.box .none (.s rfl)) (.c (.box .none (.s rfl)) (.asb (.nil (.sn mx (.fa fd45_0 hfd45_0 rfl (.ld ty9 rfl (.fa fd45_0 hfd45_0 rfl (.ld ty9 rfl (.c (.eqS .none (eqAt_str Tryz.underlying9) (.s rfl) (.s rfl)) (.mv rfl (.fg fd45_1 hfd45_1 rfl rfl rfl (.lg ty43 rfl rfl rfl (.fg fd45_1 hfd45_1 rfl rfl rfl (.lg ty43 rfl rfl rfl (.c (.callIf (.at rfl rfl) fnok39 (fun hg => slices_Equal_Attr_ok ((fun hg => gd_some hv1 (hg.2)) hg)) (.cons (.tmp rfl id) (.cons (.tmp rfl id) .nil)) (fun h => h)) (.pa rfl rfl (.asn rfl (.nil (.ret ?_))))))))))))))))))))))
 obtain rfl := some_eq h
 exact Ends.rt Tryz.results38 rfl

theorem ref_SameThings_ok {a1 : (List Thing)} {b1 : (List Thing)} {r : Bool}  (h : ref_SameThings a1 b1 = some r) : FSpec Tryz.prog 13 [rep a1, rep b1] (rep r) := by
 unfold ref_SameThings at h
 obtain ⟨r1, hv1, h⟩ := bind_some h
 refine FSpec.i Tryz.func13 rfl Tryz.ntmps13 rfl (fun F => (.sn mx (.asb (.nil (.sn mx (.mv rfl (.mv rfl (.c (.call .none (slices_EqualFunc_Thing_ok hv1) (.cons (.s rfl) (.cons (.s rfl) (.cons (Opd.func (ι := Thing × Thing × Bool) (pre := fun i => ref_SameThings_1 i.1 i.2.1 = some i.2.2) (Ss := fun i => [rep i.1, rep i.2.1]) (S := fun i => rep i.2.2) fnok38 (fun i h => ref_SameThings_1_ok h)) .nil)))) (.asn rfl (.nil (.ret ?_)))))))))))
 obtain rfl := some_eq h
 exact Ends.rt Tryz.results13 rfl

theorem keysK_56_ok {m : (GMap Str (GMap Str Str))} : FSpec Tryz.prog 56 [rep m] (keysP 82 m) := keys_spec keysZ56_lay rfl rfl fnok56
theorem sortedK_56_ok {m : (GMap Str (GMap Str Str))} (hn : m.size ≤ 8796093022208) (hl : ∃ l, Lists m l) : FSpecO Tryz.prog 32 [keysP 82 m] [] anyV [some (rowV 9 (keysS m))] := sortedK_spec keysZ56_lay sortedZ_lay sortSM_lay rfl rfl rfl rfl rfl Tryz.underlying9 fnok32 fnok82 fnok22 hn hl

theorem ref_ThingsOf_ok {m1 : (GMap Str (GMap Str Str))} {r : (List Thing)}  (h : ref_ThingsOf m1 = some r) : FSpec Tryz.prog 40 [rep m1] (rep r) := by
 unfold ref_ThingsOf at h
 obtain ⟨hn1, h⟩ := need_some h
 obtain ⟨v1, hv2, h⟩ := bnd_some h
 refine FSpec.i Tryz.func40 rfl Tryz.ntmps40 rfl (fun F => (.sn mx (.c (.assign .none (.const (x := ([] : (List Thing))) (fun M w => ⟨_, ⟨none, 0, rfl, Nat.le_refl _, by decide, rfl⟩, rfl⟩))) (.nil (.sr [([], [3])] mx (.cW (.nilRow (T := 45) (α := Thing) rfl) (.nil (.nameRow (t := 3) (g := 5001) rfl rfl rfl (fun s5001 => (.seq (.sn mx (.mv rfl (.c (.call .none keysK_56_ok (.cons (.s rfl) .nil)) (.c (.re hv2 (.call .none (sortedK_56_ok hn1.1 hn1.2).frz (.cons (.s rfl) .nil))) (.ln sl56 rfl (.mvi (.nil ?_)))))))))))))))))
 obtain ⟨j_3, h, hK3⟩ := bind_some h
 refine .thenJ (ι := (List Thing)) (fun j_3 => []) (fun j_3 => [(3, some (rowV 45 j_3))]) (fun s => j_3 = s) Sub.nil SubB.nil ?_ (fun j_3' hj3 => ?_)
 ·
  refine .block (.anon (t := 3) (g := 5001) rfl rfl trivial rfl (.rforL h (fun p4_ => [(13, ⟨True, rep p4_.1⟩)]) (fun p4_ => [(3, some (rowV 45 p4_.2))]) (.k 13 rfl .nil) (.k 3 rfl .nil) (.k2 0 11 rfl rfl (.k 12 rfl .nil)) SubB.nil (fun p4_ o_4 h hD4 => (.nameRow (t := 3) (g := 5002) rfl rfl rfl (fun s5002 => (.sn mx (.lt rfl rfl (.nil (.seq (.cb rfl h (fun _ h => ?_) fun _ h => ?_))))))))))
  ·
   refine .skip (.then (.seq ?_))
   obtain ⟨j_6, h, hK6⟩ := bind_some h
   unfold ref_ThingsOf_L1 at h
   refine .thenJ (ι := (List Thing)) (fun j_6 => []) (fun j_6 => [(3, some (rowV 45 j_6))]) (fun s => j_6 = s) (.k4 0 11 12 13 rfl rfl rfl rfl .nil) SubB.nil ?_ (fun j_6' hj6 => ?_)
   ·
    obtain ⟨hn7, h⟩ := need_some h
    obtain ⟨id1, hv8, h⟩ := bnd_some h
    obtain ⟨hn9, h⟩ := need_some h
    obtain ⟨v2, hv10, h⟩ := bnd_some h
    refine .block (.sn mx (.ix sl56 ty9 rfl rfl hn7 (.ld ty9 rfl (.ra hv8 rfl (.nil (.sr [oo, oo, ([], [6]), ([6], [6])] mx (.mvA rfl (.cA (.buildF (y := (⟨id1, ⟨.slice none 0 0⟩⟩ : Thing_o1)) .none bu45 zvc_Thing_o1 rfl (.cons (.s rfl) .nil) (.cons rfl sv_Thing_o1_0 .nil)) (.al zo45 rfl (.cN (.storeH tyv_Thing_o1 rfl (by rfl) rfl (.s rfl)) (.nil (.nameAt (t := 6) (g := 5003) rfl rfl isBox_cont rfl (fun m5003 => (.nilKey (g := 5004) (T := 49) (α := Attr) rfl (.seq (.sn mx (.mv rfl (.mv rfl (.c (.lookup .none mo53 zo60 (.s rfl) (.s rfl)) (.c (.call .none keysK_34_ok (.cons (.s rfl) .nil)) (.c (.re hv10 (.call .none (sortedK_34_ok hn9.1 hn9.2).frz (.cons (.s rfl) .nil))) (.ln sl56 rfl (.mvi (.nil ?_))))))))))))))))))))))))
    obtain ⟨j_11, h, hK11⟩ := bind_some h
    refine .thenJ (ι := Thing) (fun j_11 => []) (fun j_11 => [(5003, some (CPred.at (ptr m5003 0) (deep (fun z0 => cont 45 (⟨j_11.Id, ⟨z0⟩⟩ : Thing_o1)) (rowV 49 j_11.Attrs))))]) (fun s => j_11 = s) (.k4 0 3 6 11 rfl rfl rfl rfl (.k2 12 13 rfl rfl .nil)) (.k 5002 rfl .nil) ?_ (fun j_11' hj11 => ?_)
    ·
     refine .block (.close (k := 5003) (g := 5004) (fun z => cont 45 (⟨id1, ⟨z⟩⟩ : Thing_o1)) rfl rfl rfl (.rforL h (fun p12_ => [(25, ⟨True, rep p12_.1⟩)]) (fun p12_ => [(5003, some (CPred.at (ptr m5003 0) (deep (fun z0 => cont 45 (⟨p12_.2.Id, ⟨z0⟩⟩ : Thing_o1)) (rowV 49 p12_.2.Attrs))))]) (.k 25 rfl .nil) (.k 5003 rfl .nil) (.k4 0 3 5 6 rfl rfl rfl rfl (.k4 11 12 13 23 rfl rfl rfl rfl (.k 24 rfl .nil))) (.k 5002 rfl .nil) (fun p12_ o_12 h hD12 => (.open (k := 5003) (g := 5005) rfl rfl (fun s5005 => (.sn mx (.lt rfl rfl (.nil (.seq (.cb rfl h (fun _ h => ?_) fun _ h => ?_))))))))))
     ·
      refine .skip (.then (.seq ?_))
      obtain ⟨j_14, h, hK14⟩ := bind_some h
      unfold ref_ThingsOf_L2 at h
      refine .thenJ (ι := Thing) (fun j_14 => []) (fun j_14 => [(5003, some (CPred.at (ptr m5003 0) (deep (fun z0 => cont 45 (⟨j_14.Id, ⟨z0⟩⟩ : Thing_o1)) (rowV 49 j_14.Attrs))))]) (fun s => j_14 = s) (.k4 0 3 5 6 rfl rfl rfl rfl (.k4 11 12 13 23 rfl rfl rfl rfl (.k2 24 25 rfl rfl .nil))) (.k 5002 rfl .nil) ?_ (fun j_14' hj14 => ?_)
      ·
       obtain ⟨hn15, h⟩ := need_some h
       obtain ⟨f1, hv16, h⟩ := bnd_some h
       obtain ⟨hn17, h⟩ := need_some h
       exact .block (.sn mx (.ix sl56 ty9 rfl rfl hn15 (.ld ty9 rfl (.ra hv16 rfl (.nil (.rg [oo, ([5003], []), oo, oo, oo, oo, oo, oo, oo, oo, ([5005], [39, 5005]), oo, ([5003, 39], [5003, 39])] mx (.cA (.fieldPtr .none fd45_1 (.s rfl)) (.cA (.loadAt (k := 5003) .none tr43 rfl (.s rfl) hv_Thing_o1_1) (.mvA rfl (.mvA rfl (.mvA rfl (.cA (.lookup .none mo53 zo60 (.s rfl) (.s rfl)) (.mvA rfl (.cA (.lookup .none mo60 zo9 (.s rfl) (.s rfl)) (.cA (.buildF (y := (⟨f1, (m1.getD id1 (GMap.nil : (GMap Str Str))).getD f1 Str.nil⟩ : Attr)) .none bu49 zc49 rfl (.cons (.s rfl) (.cons (.s rfl) .nil)) (.cons rfl sf49_0 (.cons rfl sf49_1 .nil))) (.cA (.buildSlice (xs := [_]) .none sl43 ty49 hz49 (.cons (.s rfl) .nil) rfl (by decide)) (.cW (.appendW (k := 5005) rkw43 rfl (.told (.s rfl) rfl) (.s rfl) hn17) (.cA (.fieldPtr .none fd45_1 (.s rfl)) (.cN (.storeRow (k := 5003) (t := 39) ty43 rfl (.s rfl) sv_Thing_o1_1 rfl rfl) (.nil (.blkNormal (Ends.j _ (some_eq h)))))))))))))))))))))))
      ·
       subst hj14; have h := hK14; clear hK14
       exact .open (k := 5003) (g := 5006) rfl rfl (fun s5006 => (.rn mx (.adi rfl (.mv rfl (.nil (.close (k := 5003) (g := 5006) (fun z => cont 45 (⟨j_14.Id, ⟨z⟩⟩ : Thing_o1)) rfl rfl rfl (Ends.ag (some_eq h))))))))
     ·
      refine .exit (.thenExit (.thenExit (.blkExit (.close (k := 5003) (g := 5005) (fun z => cont 45 (⟨p12_.2.Id, ⟨z⟩⟩ : Thing_o1)) rfl rfl rfl ?_))))
      replace h := hD12 _ (some_eq h)
      exact Ends.j _ (some_eq h)
    ·
     subst hj11; have h := hK11; clear hK11
     refine .freezeAt (g := 5003) (S := ref ({ j_11 with Attrs := j_11.Attrs } : Thing)) (ts := [6]) rfl (.cons (t := 6) rfl trivial .nil) (.k 5002 rfl .nil) rfl (fun M D w h hms => deep_ref1 (mk := (fun s1_ => (⟨j_11.Id, ⟨s1_⟩⟩ : Thing_o1))) (y := ({ j_11 with Attrs := j_11.Attrs } : Thing)) frzRow rfl (fun M s1_ cs w hc g1 => by obtain ⟨c0, q0, e0, h0, h1⟩ := hc; exact ⟨c0, q0, e0, h0, raw_cells rfl rfl h1 g1⟩) M D w h hms) ?_
     obtain ⟨hn18, h⟩ := need_some h
     exact .rg [oo, oo, oo, ([5002], [45, 5002]), ([45], [3, 45])] mx (.mvA rfl (.ldA ty45 rfl (.cA (.buildSlice (xs := [_]) .none sl22 ty45 hz45 (.cons (.s rfl) .nil) rfl (by decide)) (.cW (.appendW (k := 5002) rkw22 rfl (.told (.s rfl) rfl) (.s rfl) hn18) (.cW (.passRow rfl (.tmp rfl)) (.nil (.blkNormal (Ends.j _ (some_eq h)))))))))
   ·
    subst hj6; have h := hK6; clear hK6
    exact .nameRow (t := 3) (g := 5007) rfl rfl rfl (fun s5007 => (.rn mx (.adi rfl (.mv rfl (.nil (.anon (t := 3) (g := 5007) rfl rfl trivial rfl (Ends.ag (some_eq h))))))))
  ·
   refine .exit (.thenExit (.thenExit (.blkExit (.anon (t := 3) (g := 5002) rfl rfl trivial rfl ?_))))
   replace h := hD4 _ (some_eq h)
   exact Ends.j _ (some_eq h)
 ·
  subst hj3; have h := hK3; clear hK3
  refine .freezeRowA (t := 3) rfl rfl SubB.nil rfl (.sn mx (.mv rfl (.asn rfl (.nil (.ret ?_)))))
  obtain rfl := some_eq h
  exact Ends.rt Tryz.results40 rfl

theorem ref_ApplyOps_ok {l1 : (List Thing)} {ops1 : (List DOp)} {r : ((List Thing) × Int)}  (h : ref_ApplyOps l1 ops1 = some r) : FSpec Tryz.prog 14 [rep l1, rep ops1] (tup [rep r.1, rep r.2]) := by
 unfold ref_ApplyOps at h
 obtain ⟨m1, hv1, h⟩ := bind_some h
 refine FSpec.i Tryz.func14 rfl Tryz.ntmps14 rfl (fun F => (.sn mx (.c (.assign .none (.const (x := ([] : (List Thing))) (fun M w => ⟨_, ⟨none, 0, rfl, Nat.le_refl _, by decide, rfl⟩, rfl⟩))) (.asi (.nil (.sr [oo, ([], [14]), ([14], [6, 14])] mx (.mvA rfl (.cW (.cO [] (ref_MapOf_ok hv1) (.cons (.s rfl) .nil) .nil rfl) (.cW (.passRow rfl (.tmp rfl)) (.nil (.nameC (t := 6) (g := 5001) oneMapD rfl rfl rfl (fun s5001 => (.seq (.sn mx (.mv rfl (.ln sl23 rfl (.mvi (.nil ?_))))))))))))))))))
 obtain ⟨o_2, h, hK2⟩ := bindR_some h
 refine .thenJ (ι := (GMap Str (GMap Str Str))) (fun j_2 => []) (fun j_2 => [(5001, some (CPred.at s5001 (mapD none j_2)))]) (fun s => o_2 = Res.nx s) (.k 6 rfl .nil) SubB.nil ?_ (fun j_2 hj2 => ?_)
 ·
  refine .block (.rforEL h (fun p3_ => [(17, ⟨True, rep p3_.1⟩)]) (fun p3_ => [(5001, some (CPred.at s5001 (mapD none p3_.2)))]) (.k 17 rfl .nil) (.k 5001 rfl .nil) (.k2 6 15 rfl rfl (.k 16 rfl .nil)) SubB.nil (fun p3_ o_3 h hD3 => (.sn mx (.lt rfl rfl (.nil (.seq (.cb rfl h (fun _ h => ?_) fun _ h => ?_)))))))
  ·
   refine .skip (.then (.seq ?_))
   obtain ⟨o_5, h, hK5⟩ := bindD_some h
   unfold ref_ApplyOps_L1 at h
   refine .thenJ (ι := (GMap Str (GMap Str Str))) (fun j_5 => []) (fun j_5 => [(5001, some (CPred.at s5001 (mapD none j_5)))]) (fun s => o_5 = Res.nx s) (.k4 6 15 16 17 rfl rfl rfl rfl .nil) SubB.nil ?_ (fun j_5 hj5 => ?_)
   ·
    obtain ⟨hn6, h⟩ := need_some h
    obtain ⟨v1, hv7, h⟩ := bnd_some h
    refine .block (.sr [oo, oo, ([], [8]), ([8], [8])] mx (.ixA sl23 ty34 rfl rfl hn6 (.rlA hv7 ty34 rfl (.al zo34 rfl (.st ty34 rfl rfl rfl (.nil (.freeze (t := 8) rfl rfl (.k 5001 rfl .nil) rfl (.seq (.sn mx (.fa fd34_1 hfd34_1 rfl (.ld ty3 rfl (.nei rfl (.mv rfl (.fg fd34_1 hfd34_1 rfl rfl rfl (.lg ty3 rfl rfl rfl (.c (.neI (.at rfl rfl) (.tmp rfl id) .i) (.pa rfl rfl (.nil (.cb rfl h (fun _ h => ?_) fun _ h => ?_)))))))))))))))))))
    ·
     refine .sn mx (.c (.assign .none (.const (x := ([] : (List Thing))) (fun M w => ⟨_, ⟨none, 0, rfl, Nat.le_refl _, by decide, rfl⟩, rfl⟩))) (.asi (.nil (.ret (.thenRet (.blkRet (.thenRet (.thenRet (.blkRet (.thenRet ?_))))))))))
     replace h := resd_ab hK5 (some_eq h)
     replace h := hD3 _ (some_eq h)
     replace h := resb_ab hK2 (some_eq h)
     obtain rfl := some_eq h
     exact Ends.ret2 (.inl rfl) Tryz.results14 (ResOK.tmp rfl trivial Imp.refl) (ResOK.tmp rfl trivial Imp.refl)
    ·
     obtain ⟨r1, hv9, h⟩ := bind_some h
     obtain ⟨r2, hv10, h⟩ := bind_some h
     refine .skip (.then (.seq (.sr [oo, oo, oo, oo, oo, oo, oo, oo, oo, oo, oo, oo, oo, oo, oo, oo, oo, oo, oo, oo, oo, oo, oo, ([5001], []), oo, oo, oo, oo, oo, oo] mx (.faA fd34_2 hfd34_2 rfl (.ldA ty9 rfl (.cA (.call .none (ref_NameOf_ok hv9) (.cons (.s rfl) .nil)) (.cA (.not .none (.s rfl)) (.mvA rfl (.cA (.fieldAddr (.at rfl rfl) fd34_1 hfd34_1 (.s rfl)) (.cA (.load (.at rfl rfl) ty3 (.tmp rfl id)) (.cA (.eqI (.at rfl rfl) (.tmp rfl id) .i) (.cA (.move (.at rfl rfl) (.tmp rfl id)) (.cA (.fieldAddr (.at rfl rfl) fd34_3 hfd34_3 (.s rfl)) (.cA (.load (.at rfl rfl) ty9 (.tmp rfl id)) (.cA (.callIf (.at rfl rfl) fnok18 (fun hg => ref_NameOf_ok ((fun hg => gd_some hv10 ((andT (notT hg.1.2) hg.2))) hg)) (.cons (.tmp rfl id) .nil) (fun h => h)) ?_)))))))))))))))
     obtain ⟨r3, hv11, h⟩ := bind_some h
     obtain ⟨r4, hv12, h⟩ := bind_some h
     obtain ⟨e1, hv13, h⟩ := bind_some h
     refine .cA (.not (.at rfl rfl) (.tmp rfl id)) (.cA (.pickAnd (.at rfl rfl) (.tmp rfl id) (.tmp rfl id)) (.cA (.pickOr .none (.s rfl) (.tmp rfl id)) (.cA (.call .none (ref_When_ok hv11) (.cons (.s rfl) (.cons .i .nil))) (.faA fd34_1 hfd34_1 rfl (.ldA ty3 rfl (.cA (.eqI .none (.s rfl) .i) (.mvA rfl (.cA (.move (.at rfl rfl) (.s rfl)) (.cA (.fieldAddr (.at rfl rfl) fd34_2 hfd34_2 (.s rfl)) (.cA (.load (.at rfl rfl) ty9 (.tmp rfl id)) (.cA (.lookNilM (q := 5001) (.at rfl rfl) mo53 zrawm60 (.tmp rfl id) rfl (.tmp rfl id)) (.cA (.eqNilM (.at rfl rfl) Tryz.underlying60 (.tmp rfl id)) (.cA (.pickAnd .none (.s rfl) (.tmp rfl id)) (.cA (.call .none (ref_When_ok hv12) (.cons (.s rfl) (.cons .i .nil))) (.cA (.buildSlice (xs := [_, _]) .none sl51 ty24 hz24 (.cons (.s rfl) (.cons (.s rfl) .nil)) rfl (by decide)) (.cA (.call .none (ref_First_ok hv13) (.cons (.s rfl) .nil)) (.asnA rfl (.nil (.sn mx (.mv rfl (.nei rfl (.nil (.cb rfl h (fun _ h => ?_) fun _ h => ?_)))))))))))))))))))))))
     ·
      refine .sn mx (.mv rfl (.c (.assign .none (.const (x := ([] : (List Thing))) (fun M w => ⟨_, ⟨none, 0, rfl, Nat.le_refl _, by decide, rfl⟩, rfl⟩))) (.asn rfl (.nil (.ret (.thenRet (.blkRet (.thenRet (.thenRet (.blkRet (.thenRet ?_)))))))))))
      replace h := resd_ab hK5 (some_eq h)
      replace h := hD3 _ (some_eq h)
      replace h := resb_ab hK2 (some_eq h)
      obtain rfl := some_eq h
      exact Ends.ret2 (.inl rfl) Tryz.results14 (ResOK.tmp rfl trivial Imp.refl) (ResOK.tmp rfl trivial Imp.refl)
     ·
      obtain ⟨e2, hv15, h⟩ := bind_some h
      refine .skip (.then (.seq (.sn mx (.fa fd34_4 hfd34_4 rfl (.ld ty9 rfl (.c (.call .none (ref_TextError_ok hv15) (.cons (.s rfl) .nil)) (.asn rfl (.nil (.sn mx (.fa fd34_1 hfd34_1 rfl (.ld ty3 rfl (.eqi rfl (.mv rfl (.mg rfl rfl rfl (.c (.neI (.at rfl rfl) (.tmp rfl id) .i) (.pa rfl rfl (.nil (.cb rfl h (fun _ h => ?_) fun _ h => ?_))))))))))))))))))
      ·
       refine .sn mx (.mv rfl (.c (.assign .none (.const (x := ([] : (List Thing))) (fun M w => ⟨_, ⟨none, 0, rfl, Nat.le_refl _, by decide, rfl⟩, rfl⟩))) (.asn rfl (.nil (.ret (.thenRet (.blkRet (.thenRet (.thenRet (.blkRet (.thenRet ?_)))))))))))
       replace h := resd_ab hK5 (some_eq h)
       replace h := hD3 _ (some_eq h)
       replace h := resb_ab hK2 (some_eq h)
       obtain rfl := some_eq h
       exact Ends.ret2 (.inl rfl) Tryz.results14 (ResOK.tmp rfl trivial Imp.refl) (ResOK.tmp rfl trivial Imp.refl)
      ·
       refine .skip (.then (.seq (.sn mx (.fa fd34_1 hfd34_1 rfl (.ld ty3 rfl (.eqi rfl (.nil (.cb rfl h (fun _ h => ?_) fun _ h => ?_))))))))
       ·
        obtain ⟨m2, hv18, h⟩ := bnd_some h
        exact .sr [oo, oo, oo, ([5001], [5001])] mx (.mvA rfl (.faA fd34_2 hfd34_2 rfl (.ldA ty9 rfl (.cN (.mapDelD (q := 5001) mo53 (.s rfl) rfl (.s rfl)) (.nil (.reB (t := 5001) rfl (congrArg (fun y => CPred.at s5001 (mapD none y)) hv18) (.exit (.thenExit (.blkExit (Ends.j _ (some_eq h)))))))))))
       ·
        refine .skip (.then (.seq (.sr [oo, oo, oo, ([5001], []), oo] mx (.mvA rfl (.faA fd34_2 hfd34_2 rfl (.ldA ty9 rfl (.cA (.lookNilM (q := 5001) .none mo53 zrawm60 (.s rfl) rfl (.s rfl)) (.cA (.eqNilM .none Tryz.underlying60 (.s rfl)) (.nil ?_)))))))))
        obtain ⟨j_19, h, hK19⟩ := bind_some h
        refine .thenJ (ι := (GMap Str (GMap Str Str))) (fun j_19 => []) (fun j_19 => [(5001, some (CPred.at s5001 (mapD none j_19)))]) (fun s => j_19 = s) (.k4 6 8 15 16 rfl rfl rfl rfl (.k 17 rfl .nil)) SubB.nil ?_ (fun j_19' hj19 => ?_)
        ·
         refine .cb rfl h (fun _ h => ?_) fun _ h => ?_
         ·
          exact .rg [oo, oo, oo, ([], [86]), ([5001, 86], [5001, 86])] mx (.mvA rfl (.faA fd34_2 hfd34_2 rfl (.ldA ty9 rfl (.cW (.makeMap (K := Str) (V := Str) rfl) (.cN (.mapPutD (q := 5001) (t := 86) mo53 rfl (.s rfl) rfl rfl rfl (.s rfl)) (.nil (Ends.j _ (some_eq h))))))))
         ·
          exact .skip (Ends.j _ (some_eq h))
        ·
         subst hj19; have h := hK19; clear hK19
         obtain ⟨hn21, h⟩ := need_some h
         exact .openM (q := 5001) (r := 5002) (k := v1.Id) rfl rfl hn21 (fun s5002 => (.rg [oo, oo, oo, ([5001], []), oo, oo, oo, oo, ([5002], [5002])] mx (.mvA rfl (.faA fd34_2 hfd34_2 rfl (.ldA ty9 rfl (.cA (.lookPin (q := 5001) (z := s5002) .none mo53 zrawm60 (.s rfl) rfl (.s rfl)) (.faA fd34_3 hfd34_3 rfl (.ldA ty9 rfl (.faA fd34_4 hfd34_4 rfl (.ldA ty9 rfl (.cN (.mapUpdate (q := 5002) mo60 (.s rfl) rfl (.s rfl) (.s rfl)) (.nil (.blkNormal (.closeM (q := 5001) (r := 5002) rfl rfl rfl (Ends.j _ (some_eq h))))))))))))))))
   ·
    have h := resd_nx hK5 hj5
    exact .rn mx (.adi rfl (.mv rfl (.nil (Ends.ag (some_eq h)))))
  ·
   refine .exit (.thenExit (.thenExit (.blkExit ?_)))
   replace h := hD3 _ (some_eq h)
   exact Ends.j _ (some_eq h)
 ·
  have h := resb_nx hK2 hj2
  refine .freezeAt (g := 5001) (S := rep j_2) (ts := [6]) rfl (.cons (t := 6) rfl trivial .nil) SubB.nil rfl (fun M D w h hms => mapD_rep h hms) ?_
  obtain ⟨out1, hv22, h⟩ := bind_some h
  obtain ⟨e3, hv23, h⟩ := bind_some h
  refine .sn mx (.mv rfl (.c (.call .none (ref_ThingsOf_ok hv22) (.cons (.s rfl) .nil)) (.asn rfl (.nil (.seq (.sn mx (.mv rfl (.c (.call .none (ref_ThingsError_ok hv23) (.cons (.s rfl) .nil)) (.asn rfl (.nil (.sn mx (.mv rfl (.nei rfl (.nil (.cb rfl h (fun _ h => ?_) fun _ h => ?_)))))))))))))))
  ·
   refine .sn mx (.mv rfl (.c (.assign .none (.const (x := ([] : (List Thing))) (fun M w => ⟨_, ⟨none, 0, rfl, Nat.le_refl _, by decide, rfl⟩, rfl⟩))) (.asn rfl (.nil (.ret (.thenRet ?_))))))
   obtain rfl := some_eq h
   exact Ends.ret2 (.inl rfl) Tryz.results14 (ResOK.tmp rfl trivial Imp.refl) (ResOK.tmp rfl trivial Imp.refl)
  ·
   refine .skip (.then (.sn mx (.mv rfl (.asn rfl (.asi (.nil (.ret ?_)))))))
   obtain rfl := some_eq h
   exact Ends.ret2 (.inl rfl) Tryz.results14 (ResOK.tmp rfl trivial Imp.refl) (ResOK.tmp rfl trivial Imp.refl)

theorem law_DiffsMatch_2_ok {c0_1 : (List Thing)} {r : (List Thing)}  (h : law_DiffsMatch_2 c0_1 = some r) : FSpec Tryz.prog 16 [ref c0_1] (rep r) := by
 unfold law_DiffsMatch_2 at h
 refine FSpec.i Tryz.func16 rfl Tryz.ntmps16 rfl (fun F => (.sn mx (.c (.assign .none (.const (x := ([] : (List Thing))) (fun M w => ⟨_, ⟨none, 0, rfl, Nat.le_refl _, by decide, rfl⟩, rfl⟩))) (.nil (.sn mx (.ld ty22 rfl (.asn rfl (.nil (.ret ?_)))))))))
 obtain rfl := some_eq h
 exact Ends.rt Tryz.results16 rfl

theorem law_things_ok {l1 : (List Thing)} {e1 : Int} {want1 : Int} {right1 : (Option (List Thing))} {r : Bool}  (h : law_things l1 e1 want1 right1 = some r) : FSpec Tryz.prog 15 [rep l1, rep e1, rep want1, fn0 Tryz.prog (rep (α := (List Thing))) right1] (rep r) := by
 unfold law_things at h
 refine FSpec.i Tryz.func15 rfl Tryz.ntmps15 rfl (fun F => (.sn mx (.asb (.nil (.seq (.sn mx (.mv rfl (.nei rfl (.nil (.cb rfl h (fun _ h => ?_) fun _ h => ?_))))))))))
 ·
  refine .sn mx (.mv rfl (.ln sl22 rfl (.eqi rfl (.mv rfl (.mg rfl rfl rfl (.mg rfl rfl rfl (.c (.eqI (.at rfl rfl) (.tmp rfl id) (.tmp rfl id)) (.pa rfl rfl (.asn rfl (.nil (.ret (.thenRet ?_))))))))))))
  obtain rfl := some_eq h
  exact Ends.rt Tryz.results15 rfl
 ·
  obtain ⟨r1, hv2, h⟩ := bind_some h
  obtain ⟨r2, hv3, h⟩ := bind_some h
  refine .skip (.then (.sn mx (.mv rfl (.eqi rfl (.mv rfl (.mg rfl rfl rfl (.mg rfl rfl rfl (.c (.callV _ (.at rfl rfl) (.tmp rfl id) (fun hg => gd_some hv2 (hg.2)) .nil) (.c (.callIf (.at rfl rfl) fnok13 (fun hg => ref_SameThings_ok ((fun hg => gd_some hv3 (hg.2)) hg)) (.cons (.tmp rfl id) (.cons (.tmp rfl id) .nil)) (fun h => h)) (.pa rfl rfl (.asn rfl (.nil (.ret ?_)))))))))))))
  obtain rfl := some_eq h
  exact Ends.rt Tryz.results15 rfl

theorem law_DiffsMatch_ok {a1 : (List Thing)} {b1 : (List Thing)} {ops1 : (List DOp)} {r : Bool}  (h : law_DiffsMatch a1 b1 ops1 = some r) : FSpec Tryz.prog 3 [rep a1, rep b1, rep ops1] (rep r) := by
 unfold law_DiffsMatch at h
 obtain ⟨own1, hv1, h⟩ := bind_some h
 obtain ⟨r1, hv2, h⟩ := bind_some h
 obtain ⟨r2, hv3, h⟩ := bind_some h
 obtain ⟨both1, hv4, h⟩ := bind_some h
 obtain ⟨r3, hv5, h⟩ := bind_some h
 obtain ⟨r4, hv6, h⟩ := bind_some h
 obtain ⟨r5, hv7, h⟩ := bind_some h
 refine FSpec.i Tryz.func3 rfl Tryz.ntmps3 rfl (fun F => (.sn mx (.c (.box .none (.s rfl)) (.c (.box .none (.s rfl)) (.asb (.nil (.sn mx (.ld ty22 rfl (.c (.call .none (ref_ThingsError_ok hv1) (.cons (.s rfl) .nil)) (.ld ty22 rfl (.c (.call .none (ref_ThingsError_ok hv2) (.cons (.s rfl) .nil)) (.ld ty22 rfl (.c (.call .none (ref_ThingsError_ok hv3) (.cons (.s rfl) .nil)) (.c (.buildSlice (xs := [_, _]) .none sl51 ty24 hz24 (.cons (.s rfl) (.cons (.s rfl) .nil)) rfl (by decide)) (.c (.call .none (ref_First_ok hv4) (.cons (.s rfl) .nil)) (.asn rfl (.asn rfl (.nil (.sn mx (.ld ty22 rfl (.ld ty22 rfl (.c (.call .none (edit_Diff_ok hv5) (.cons (.s rfl) (.cons (.s rfl) .nil))) (.mv rfl (.ex rfl rfl (.ex rfl rfl (.asn rfl (.asn rfl (.nil (.seq (.sn mx (.c (.call .none (law_edits_ok hv6) .nil) (.c (.not .none (.s rfl)) (.mv rfl (.c (.load (.at rfl rfl) ty22 (.s rfl)) (.c (.callIf (.at rfl rfl) fnok8 (fun hg => edit_CheckThings_ok ((fun hg => gd_some hv7 ((notT hg.2))) hg)) (.cons (.tmp rfl id) .nil) (fun h => h)) (.mg rfl rfl rfl (.c (.neI (.at rfl rfl) (.tmp rfl id) (.tmp rfl id)) (.po rfl rfl (.mv rfl (.mg rfl rfl rfl (.mg rfl rfl rfl (.mg rfl rfl rfl (.c (.makeFunc (ι := (List DOp)) (pre := fun i => (law_DiffsMatch_1 a1 b1)  = some i) (Ss := fun i => []) (S := fun i => rep i) (.at rfl rfl) fnok10 (fun i h => law_DiffsMatch_1_ok h) (.cons (.s rfl) (.cons (.s rfl) .nil))) ?_)))))))))))))))))))))))))))))))))))))))))))
 obtain ⟨r6, hv8, h⟩ := bind_some h
 refine .c (.callIf (.at rfl rfl) fnok9 (fun hg => law_lists_Op_ok ((fun hg => gd_some hv8 ((notT hg.2))) hg)) (.cons (.tmp rfl id) (.cons (.tmp rfl id) (.cons (.tmp rfl id) (.cons (.tmp rfl id) .nil)))) (fun h => h)) (.c (.not (.at rfl rfl) (.tmp rfl id)) (.po rfl rfl (.nil (.cb rfl h (fun _ h => ?_) fun _ h => ?_))))
 ·
  refine .sn mx (.asb (.nil (.ret (.thenRet ?_))))
  obtain rfl := some_eq h
  exact Ends.rt Tryz.results3 rfl
 ·
  refine .skip (.then (.seq (.sn mx (.mv rfl (.eqi rfl (.nil ?_))))))
  obtain ⟨o_10, h, hK10⟩ := bindR_some h
  refine .tJ (fun s => o_10 = Res.nx s) (.k2 2 3 rfl rfl (.k 7 rfl .nil)) SubB.nil ?_ (fun j_10 hj10 => ?_)
  ·
   refine .cb rfl h (fun _ h => ?_) fun _ h => ?_
   ·
    obtain ⟨r7, hv12, h⟩ := bind_some h
    obtain ⟨r8, hv13, h⟩ := bind_some h
    refine .sn mx (.ld ty22 rfl (.mv rfl (.c (.call .none (edit_Apply_ok hv12) (.cons (.s rfl) (.cons (.s rfl) .nil))) (.mv rfl (.ex rfl rfl (.ex rfl rfl (.asn rfl (.asn rfl (.nil (.sn mx (.mv rfl (.nei rfl (.mv rfl (.mg rfl rfl rfl (.c (.load (.at rfl rfl) ty22 (.s rfl)) (.c (.callIf (.at rfl rfl) fnok13 (fun hg => ref_SameThings_ok ((fun hg => gd_some hv13 ((notT hg.2))) hg)) (.cons (.tmp rfl id) (.cons (.tmp rfl id) .nil)) (fun h => h)) (.c (.not (.at rfl rfl) (.tmp rfl id)) (.po rfl rfl (.nil (.cb rfl h (fun _ h => ?_) fun _ h => ?_))))))))))))))))))))
    ·
     refine .sn mx (.asb (.nil (.ret (.thenRet ?_))))
     replace h := resb_ab hK10 (some_eq h)
     obtain rfl := some_eq h
     exact Ends.rt Tryz.results3 rfl
    ·
     exact .skip (Ends.j _ (some_eq h))
   ·
    exact .skip (Ends.j _ (some_eq h))
  ·
   have h := resb_nx hK10 hj10
   obtain ⟨r9, hv15, h⟩ := bind_some h
   refine .sn mx (.ld ty22 rfl (.mv rfl (.c (.call .none (edit_Apply_ok hv15) (.cons (.s rfl) (.cons (.s rfl) .nil))) (.mv rfl (.ex rfl rfl (.ex rfl rfl (.asn rfl (.asn rfl (.nil (.sn mx (.mv rfl (.asn rfl (.nil (.sr [([], [15])] mx (.al zo22 rfl (.nil (.nameBox (t := 15) (g := 5001) rfl rfl (fun m5001 => (.seq (.sn mx (.mv rfl (.eqi rfl (.nil ?_)))))))))))))))))))))))
   obtain ⟨j_16, h, hK16⟩ := bind_some h
   refine .thenJ (ι := (Int × (List Thing))) (fun j_16 => [(14, ⟨True, rep j_16.1⟩)]) (fun j_16 => [(5001, some (boxAt m5001 22 j_16.2))]) (fun s => j_16 = s) (.k2 10 13 rfl rfl (.k 15 rfl .nil)) SubB.nil ?_ (fun j_16' hj16 => ?_)
   ·
    refine .cb rfl h (fun _ h => ?_) fun _ h => ?_
    ·
     obtain ⟨r10, hv18, h⟩ := bind_some h
     exact .rg [oo, oo, oo, oo, oo, oo, ([5001], [5001]), oo] mx (.ldA ty22 rfl (.mvA rfl (.cA (.call .none (ref_ApplyOps_ok hv18) (.cons (.s rfl) (.cons (.s rfl) .nil))) (.mvA rfl (.exA rfl rfl (.exA rfl rfl (.s0 5001 ty22 rfl rfl rfl (.asnA rfl (.nil (Ends.j _ (some_eq h)))))))))))
    ·
     exact .skip (Ends.j _ (some_eq h))
   ·
    subst hj16; have h := hK16; clear hK16
    refine .fb 5001 [15] rfl (.cons (t := 15) rfl trivial .nil) (.sn mx (.mv rfl (.mv rfl (.mv rfl (.c (.makeFunc (ι := (List Thing)) (pre := fun i => (law_DiffsMatch_2 j_16.2)  = some i) (Ss := fun i => []) (S := fun i => rep i) .none fnok16 (fun i h => law_DiffsMatch_2_ok h) (.cons (.s rfl) .nil)) ?_)))))
    obtain ⟨r11, hv19, h⟩ := bind_some h
    refine .c (.call .none (law_things_ok hv19) (.cons (.s rfl) (.cons (.s rfl) (.cons (.s rfl) (.cons (.s rfl) .nil))))) (.asn rfl (.nil (.ret ?_)))
    obtain rfl := some_eq h
    exact Ends.rt Tryz.results3 rfl


end Go.Proofs.YtchnjieebkkhnaaGreatDoor
