/-
  The walks: what a function computes is what its plain function says (printed by a program of one's own).
-/
import Derived.Test.YtlkebjlooppdlaaGreatDoorStmFa
set_option maxRecDepth 100000
set_option linter.unusedSimpArgs false
set_option linter.unusedVariables false
namespace Go.Proofs.YtlkebjlooppdlaaGreatDoor
open Go Go.DB Go.RowKit

theorem utf8_ValidString_ok {s : Str} {r : Bool} (h : utf8_ValidString s = some r) : FSpec Tryz.prog 74 [rep s] (rep r) := by
 obtain rfl := some_eq h
 exact validS_spec validStr_lay rfl rfl rfl fnok74

theorem strings_Trim_ok {s cs : Str} {r : Str} (h : strings_Trim s cs = some r) : FSpec Tryz.prog 55 [rep s, rep cs] (rep r) := by
 obtain ⟨hn, h⟩ := need_some h
 obtain rfl := some_eq h
 exact trimS_spec trimStr_lay (by kernel_rfl) rfl fnok55 hn

theorem strings_Compare_ok {s sep : Str} {r : Int} (h : strings_Compare s sep = some r) : FSpec Tryz.prog 52 [rep s, rep sep] (rep r) := by
 obtain rfl := some_eq h
 exact compareS_spec compareStr_lay rfl fnok52

theorem cmp_isNaN_int_ok {x1 : Int} {r : Bool}  (h : cmp_isNaN_int x1 = some r) : FSpec Tryz.prog 73 [rep x1] (rep r) := by
 unfold cmp_isNaN_int at h
 refine FSpec.i Tryz.func73 rfl Tryz.ntmps73 rfl (fun F => (.sn mx (.asb (.nil (.sn mx (.mv rfl (.mv rfl (.c (.neI .none (.s rfl) (.s rfl)) (.asn rfl (.nil (.ret ?_)))))))))))
 obtain rfl := some_eq h
 exact Ends.rt Tryz.results73 rfl

theorem cmp_Compare_int_ok {x1 : Int} {y1 : Int} {r : Int}  (h : cmp_Compare_int x1 y1 = some r) : FSpec Tryz.prog 53 [rep x1, rep y1] (rep r) := by
 unfold cmp_Compare_int at h
 obtain ⟨xNaN1, hv1, h⟩ := bind_some h
 obtain ⟨yNaN1, hv2, h⟩ := bind_some h
 refine FSpec.i Tryz.func53 rfl Tryz.ntmps53 rfl (fun F => (.sn mx (.asi (.nil (.sn mx (.mv rfl (.c (.call .none (cmp_isNaN_int_ok hv1) (.cons (.s rfl) .nil)) (.asn rfl (.nil (.sn mx (.mv rfl (.c (.call .none (cmp_isNaN_int_ok hv2) (.cons (.s rfl) .nil)) (.asn rfl (.nil (.seq (.sn mx (.mv rfl (.nil (.cb rfl h (fun _ h => ?_) fun _ h => ?_)))))))))))))))))))
 ·
  refine .seq (.sn mx (.mv rfl (.nil (.cb rfl h (fun _ h => ?_) fun _ h => ?_))))
  ·
   refine .sn mx (.asi (.nil (.ret (.thenRet (.thenRet ?_)))))
   obtain rfl := some_eq h
   exact Ends.rt Tryz.results53 rfl
  ·
   refine .skip (.then (.sn mx (.asi (.nil (.ret (.thenRet ?_))))))
   obtain rfl := some_eq h
   exact Ends.rt Tryz.results53 rfl
 ·
  refine .skip (.then (.seq (.sn mx (.mv rfl (.nil (.cb rfl h (fun _ h => ?_) fun _ h => ?_))))))
  ·
   refine .sn mx (.asi (.nil (.ret (.thenRet ?_))))
   obtain rfl := some_eq h
   exact Ends.rt Tryz.results53 rfl
  ·
   refine .skip (.then (.seq (.sn mx (.mv rfl (.mv rfl (.lt rfl rfl (.nil (.cb rfl h (fun _ h => ?_) fun _ h => ?_))))))))
   ·
    refine .sn mx (.asi (.nil (.ret (.thenRet ?_))))
    obtain rfl := some_eq h
    exact Ends.rt Tryz.results53 rfl
   ·
    refine .skip (.then (.seq (.sn mx (.mv rfl (.mv rfl (.c (.gt .none (.s rfl) (.s rfl)) (.nil (.cb rfl h (fun _ h => ?_) fun _ h => ?_))))))))
    ·
     refine .sn mx (.asi (.nil (.ret (.thenRet ?_))))
     obtain rfl := some_eq h
     exact Ends.rt Tryz.results53 rfl
    ·
     refine .skip (.then (.sn mx (.asi (.nil (.ret ?_)))))
     obtain rfl := some_eq h
     exact Ends.rt Tryz.results53 rfl

theorem cmp_Or_int_ok {vals1 : (List Int)} {r : Int}  (h : cmp_Or_int vals1 = some r) : FSpec Tryz.prog 51 [rep vals1] (rep r) := by
 unfold cmp_Or_int at h
 refine FSpec.i Tryz.func51 rfl Tryz.ntmps51 rfl (fun F => (.sn mx (.asi (.nil (.sn mx (.asi (.nil (.seq (.sn mx (.mv rfl (.ln sl105 rfl (.mvi (.nil ?_)))))))))))))
 obtain ⟨o_1, h, hK1⟩ := bindR_some h
 refine .tJ (fun s => o_1 = Res.nx s) (.k 3 rfl .nil) SubB.nil ?_ (fun j_1 hj1 => ?_)
 ·
  refine .block (.rforEL h (fun p2_ => [(8, ⟨True, rep p2_.1⟩)]) (fun p2_ => []) (.k 8 rfl .nil) SubB.nil (.k2 3 6 rfl rfl (.k 7 rfl .nil)) SubB.nil (fun p2_ o_2 h hD2 => (.sn mx (.lt rfl rfl (.nil (.seq (.cb rfl h (fun _ h => ?_) fun _ h => ?_)))))))
  ·
   refine .skip (.then (.seq ?_))
   obtain ⟨o_4, h, hK4⟩ := bindD_some h
   unfold cmp_Or_int_L1 at h
   refine .tJ (fun s => o_4 = Res.nx s) (.k4 3 6 7 8 rfl rfl rfl rfl .nil) SubB.nil ?_ (fun j_4 hj4 => ?_)
   ·
    obtain ⟨hn5, h⟩ := need_some h
    obtain ⟨val1, hv6, h⟩ := bnd_some h
    refine .block (.sn mx (.ix sl105 ty3 rfl rfl hn5 (.ld ty3 rfl (.ra hv6 rfl (.nil (.sn mx (.mv rfl (.mv rfl (.c (.neI .none (.s rfl) (.s rfl)) (.nil (.cb rfl h (fun _ h => ?_) fun _ h => ?_)))))))))))
    ·
     refine .sn mx (.mv rfl (.asn rfl (.nil (.ret (.blkRet (.thenRet (.thenRet (.blkRet (.thenRet ?_)))))))))
     replace h := resd_ab hK4 (some_eq h)
     replace h := hD2 _ (some_eq h)
     replace h := resb_ab hK1 (some_eq h)
     obtain rfl := some_eq h
     exact Ends.rt Tryz.results51 rfl
    ·
     exact .skip (.blkNormal (Ends.j _ (some_eq h)))
   ·
    have h := resd_nx hK4 hj4
    exact .rn mx (.adi rfl (.mv rfl (.nil (Ends.ag (some_eq h)))))
  ·
   refine .exit (.thenExit (.thenExit (.blkExit ?_)))
   replace h := hD2 _ (some_eq h)
   exact Ends.j _ (some_eq h)
 ·
  have h := resb_nx hK1 hj1
  refine .sn mx (.mv rfl (.asn rfl (.nil (.ret ?_))))
  obtain rfl := some_eq h
  exact Ends.rt Tryz.results51 rfl

theorem ref_byOp_ok {a1 : DOp} {b1 : DOp} {r : Int}  (h : ref_byOp a1 b1 = some r) : FSpec Tryz.prog 23 [rep a1, rep b1] (rep r) := by
 unfold ref_byOp at h
 obtain ⟨r1, hv1, h⟩ := bind_some h
 obtain ⟨r2, hv2, h⟩ := bind_some h
 obtain ⟨r3, hv3, h⟩ := bind_some h
 refine FSpec.i Tryz.func23 rfl Tryz.ntmps23 rfl (fun F => (.sn mx (.c (.box .none (.s rfl)) (.c (.box .none (.s rfl)) (.asi (.nil (.sn mx (.fa fd42_0 hfd42_0 rfl (.fa fd40_1 hfd40_1 rfl (.ld ty9 rfl (.fa fd42_0 hfd42_0 rfl (.fa fd40_1 hfd40_1 rfl (.ld ty9 rfl (.c (.call .none (strings_Compare_ok hv1) (.cons (.s rfl) (.cons (.s rfl) .nil))) (.fa fd42_0 hfd42_0 rfl (.fa fd40_2 hfd40_2 rfl (.ld ty3 rfl (.fa fd42_0 hfd42_0 rfl (.fa fd40_2 hfd40_2 rfl (.ld ty3 rfl (.c (.call .none (cmp_Compare_int_ok hv2) (.cons (.s rfl) (.cons (.s rfl) .nil))) (.c (.buildSlice (xs := [_, _]) .none sl105 ty3 hz3 (.cons (.s rfl) (.cons (.s rfl) .nil)) rfl (by decide)) (.c (.call .none (cmp_Or_int_ok hv3) (.cons (.s rfl) .nil)) (.asn rfl (.nil (.ret ?_))))))))))))))))))))))))))
 obtain rfl := some_eq h
 exact Ends.rt Tryz.results23 rfl

theorem ref_NameOf_ok {s1 : Str} {r : Bool}  (h : ref_NameOf s1 = some r) : FSpec Tryz.prog 26 [rep s1] (rep r) := by
 unfold ref_NameOf at h
 refine FSpec.i Tryz.func26 rfl Tryz.ntmps26 rfl (fun F => (.sn mx (.asb (.nil (.seq (.sn mx (.mv rfl (.c (.lenStr .none Tryz.underlying9 (.s rfl)) (.mvi (.nil ?_))))))))))
 obtain ⟨o_1, h, hK1⟩ := bindR_some h
 refine .tJ (fun s => o_1 = Res.nx s) (.k 0 rfl .nil) SubB.nil ?_ (fun j_1 hj1 => ?_)
 ·
  refine .block (.rforEL h (fun p2_ => [(7, ⟨True, rep p2_.1⟩)]) (fun p2_ => []) (.k 7 rfl .nil) SubB.nil (.k2 0 6 rfl rfl .nil) SubB.nil (fun p2_ o_2 h hD2 => (.sn mx (.lt rfl rfl (.nil (.seq (.cb rfl h (fun _ h => ?_) fun _ h => ?_)))))))
  ·
   refine .skip (.then (.seq ?_))
   obtain ⟨o_4, h, hK4⟩ := bindD_some h
   unfold ref_NameOf_L1 at h
   refine .tJ (fun s => o_4 = Res.nx s) (.k2 0 6 rfl rfl (.k 7 rfl .nil)) SubB.nil ?_ (fun j_4 hj4 => ?_)
   ·
    obtain ⟨hn5, h⟩ := need_some h
    obtain ⟨c1, hv6, h⟩ := bnd_some h
    refine .block (.sn mx (.mv rfl (.asn rfl (.nil (.sn mx (.mv rfl (.mv rfl (.c (.indexStr .none Tryz.underlying9 (.s rfl) (.s rfl) (fun _ => hn5)) (.ra hv6 rfl (.nil (.sn mx (.mv rfl (.c (.kgeq .none (.s rfl) .ki) (.mv rfl (.mg rfl rfl rfl (.c (.kleq (.at rfl rfl) (.tmp rfl id) .ki) (.pa rfl rfl (.c (.not .none (.s rfl)) (.mv rfl (.mg rfl rfl rfl (.c (.eqI (.at rfl rfl) (.tmp rfl id) .i) (.c (.move (.at rfl rfl) (.tmp rfl id)) (.mg rfl rfl rfl (.c (.kgeq (.at rfl rfl) (.tmp rfl id) .ki) (.c (.move (.at rfl rfl) (.tmp rfl id)) (.mg rfl rfl rfl (.c (.kleq (.at rfl rfl) (.tmp rfl id) .ki) (.c (.pickAnd (.at rfl rfl) (.tmp rfl id) (.tmp rfl id)) (.c (.not (.at rfl rfl) (.tmp rfl id)) (.c (.move (.at rfl rfl) (.tmp rfl id)) (.mg rfl rfl rfl (.c (.kneq (.at rfl rfl) (.tmp rfl id) .ki) (.c (.pickAnd (.at rfl rfl) (.tmp rfl id) (.tmp rfl id)) (.c (.pickOr (.at rfl rfl) (.tmp rfl id) (.tmp rfl id)) (.pa rfl rfl (.nil (.cb rfl h (fun _ h => ?_) fun _ h => ?_)))))))))))))))))))))))))))))))))))))
    ·
     refine .sn mx (.asb (.nil (.ret (.blkRet (.thenRet (.thenRet (.blkRet (.thenRet ?_))))))))
     replace h := resd_ab hK4 (some_eq h)
     replace h := hD2 _ (some_eq h)
     replace h := resb_ab hK1 (some_eq h)
     obtain rfl := some_eq h
     exact Ends.rt Tryz.results26 rfl
    ·
     exact .skip (.blkNormal (Ends.j _ (some_eq h)))
   ·
    have h := resd_nx hK4 hj4
    exact .rn mx (.adi rfl (.mv rfl (.nil (Ends.ag (some_eq h)))))
  ·
   refine .exit (.thenExit (.thenExit (.blkExit ?_)))
   replace h := hD2 _ (some_eq h)
   exact Ends.j _ (some_eq h)
 ·
  have h := resb_nx hK1 hj1
  refine .sn mx (.mv rfl (.c (.neS .none (eqAt_str Tryz.underlying9) (.s rfl) (.str (l := []) (by decide))) (.mv rfl (.mg rfl rfl rfl (.c (.lenStr (.at rfl rfl) Tryz.underlying9 (.tmp rfl id)) (.c (.le (.at rfl rfl) (.tmp rfl id) .i) (.pa rfl rfl (.asn rfl (.nil (.ret ?_))))))))))
  obtain rfl := some_eq h
  exact Ends.rt Tryz.results26 rfl

theorem ref_When_ok {is1 : Bool} {e1 : Int} {r : Int}  (h : ref_When is1 e1 = some r) : FSpec Tryz.prog 25 [rep is1, rep e1] (rep r) := by
 unfold ref_When at h
 refine FSpec.i Tryz.func25 rfl Tryz.ntmps25 rfl (fun F => (.sn mx (.asi (.nil (.seq (.sn mx (.mv rfl (.nil (.cb rfl h (fun _ h => ?_) fun _ h => ?_)))))))))
 ·
  refine .sn mx (.mv rfl (.asn rfl (.nil (.ret (.thenRet ?_)))))
  obtain rfl := some_eq h
  exact Ends.rt Tryz.results25 rfl
 ·
  refine .skip (.then (.sn mx (.asi (.nil (.ret ?_)))))
  obtain rfl := some_eq h
  exact Ends.rt Tryz.results25 rfl

theorem ref_In_ok {n1 : Int} {low1 : Int} {high1 : Int} {r : Bool}  (h : ref_In n1 low1 high1 = some r) : FSpec Tryz.prog 27 [rep n1, rep low1, rep high1] (rep r) := by
 unfold ref_In at h
 refine FSpec.i Tryz.func27 rfl Tryz.ntmps27 rfl (fun F => (.sn mx (.asb (.nil (.sn mx (.mv rfl (.mv rfl (.c (.ge .none (.s rfl) (.s rfl)) (.mv rfl (.mg rfl rfl rfl (.mg rfl rfl rfl (.c (.le (.at rfl rfl) (.tmp rfl id) (.tmp rfl id)) (.pa rfl rfl (.asn rfl (.nil (.ret ?_))))))))))))))))
 obtain rfl := some_eq h
 exact Ends.rt Tryz.results27 rfl

theorem ref_First_ok {l1 : (List Int)} {r : Int}  (h : ref_First l1 = some r) : FSpec Tryz.prog 24 [rep l1] (rep r) := by
 unfold ref_First at h
 refine FSpec.i Tryz.func24 rfl Tryz.ntmps24 rfl (fun F => (.sn mx (.asi (.nil (.seq (.sn mx (.mv rfl (.ln sl83 rfl (.mvi (.nil ?_))))))))))
 obtain ⟨o_1, h, hK1⟩ := bindR_some h
 refine .tJ (fun s => o_1 = Res.nx s) Sub.nil SubB.nil ?_ (fun j_1 hj1 => ?_)
 ·
  refine .block (.rforEL h (fun p2_ => [(7, ⟨True, rep p2_.1⟩)]) (fun p2_ => []) (.k 7 rfl .nil) SubB.nil (.k2 5 6 rfl rfl .nil) SubB.nil (fun p2_ o_2 h hD2 => (.sn mx (.lt rfl rfl (.nil (.seq (.cb rfl h (fun _ h => ?_) fun _ h => ?_)))))))
  ·
   refine .skip (.then (.seq ?_))
   obtain ⟨o_4, h, hK4⟩ := bindD_some h
   unfold ref_First_L1 at h
   refine .tJ (fun s => o_4 = Res.nx s) (.k2 5 6 rfl rfl (.k 7 rfl .nil)) SubB.nil ?_ (fun j_4 hj4 => ?_)
   ·
    obtain ⟨hn5, h⟩ := need_some h
    obtain ⟨e1, hv6, h⟩ := bnd_some h
    refine .block (.sn mx (.ix sl83 ty23 rfl rfl hn5 (.ld ty23 rfl (.ra hv6 rfl (.nil (.sn mx (.mv rfl (.nei rfl (.nil (.cb rfl h (fun _ h => ?_) fun _ h => ?_))))))))))
    ·
     refine .sn mx (.mv rfl (.asn rfl (.nil (.ret (.blkRet (.thenRet (.thenRet (.blkRet (.thenRet ?_)))))))))
     replace h := resd_ab hK4 (some_eq h)
     replace h := hD2 _ (some_eq h)
     replace h := resb_ab hK1 (some_eq h)
     obtain rfl := some_eq h
     exact Ends.rt Tryz.results24 rfl
    ·
     exact .skip (.blkNormal (Ends.j _ (some_eq h)))
   ·
    have h := resd_nx hK4 hj4
    exact .rn mx (.adi rfl (.mv rfl (.nil (Ends.ag (some_eq h)))))
  ·
   refine .exit (.thenExit (.thenExit (.blkExit ?_)))
   replace h := hD2 _ (some_eq h)
   exact Ends.j _ (some_eq h)
 ·
  have h := resb_nx hK1 hj1
  refine .sn mx (.asi (.nil (.ret ?_)))
  obtain rfl := some_eq h
  exact Ends.rt Tryz.results24 rfl

theorem ref_TextError_ok {s1 : Str} {r : Int}  (h : ref_TextError s1 = some r) : FSpec Tryz.prog 54 [rep s1] (rep r) := by
 unfold ref_TextError at h
 obtain ⟨r1, hv1, h⟩ := bind_some h
 obtain ⟨bad1, hv2, h⟩ := bnd_some h
 refine FSpec.i Tryz.func54 rfl Tryz.ntmps54 rfl (fun F => (.sn mx (.asi (.nil (.sn mx (.mv rfl (.c (.call .none (utf8_ValidString_ok hv1) (.cons (.s rfl) .nil)) (.c (.not .none (.s rfl)) (.ra hv2 rfl (.nil (.seq (.sn mx (.mv rfl (.c (.lenStr .none Tryz.underlying9 (.s rfl)) (.mvi (.nil ?_))))))))))))))))
 obtain ⟨j_3, h, hK3⟩ := bind_some h
 refine .thenJ (ι := Bool) (fun j_3 => [(3, ⟨True, rep j_3⟩)]) (fun j_3 => []) (fun s => j_3 = s) (.k 0 rfl .nil) SubB.nil ?_ (fun j_3' hj3 => ?_)
 ·
  refine .block (.rforL h (fun p4_ => [(10, ⟨True, rep p4_.1⟩), (3, ⟨True, rep p4_.2⟩)]) (fun p4_ => []) (.k2 10 3 rfl rfl .nil) SubB.nil (.k2 0 9 rfl rfl .nil) SubB.nil (fun p4_ o_4 h hD4 => (.sn mx (.lt rfl rfl (.nil (.seq (.cb rfl h (fun _ h => ?_) fun _ h => ?_)))))))
  ·
   refine .skip (.then (.seq ?_))
   obtain ⟨j_6, h, hK6⟩ := bind_some h
   unfold ref_TextError_L1 at h
   refine .thenJ (ι := Bool) (fun j_6 => [(3, ⟨True, rep j_6⟩)]) (fun j_6 => []) (fun s => j_6 = s) (.k2 0 9 rfl rfl (.k 10 rfl .nil)) SubB.nil ?_ (fun j_6' hj6 => ?_)
   ·
    obtain ⟨hn7, h⟩ := need_some h
    obtain ⟨hn8, h⟩ := need_some h
    obtain ⟨hn9, h⟩ := need_some h
    obtain ⟨bad2, hv10, h⟩ := bnd_some h
    exact .block (.sn mx (.mv rfl (.asn rfl (.nil (.rn mx (.mv rfl (.mv rfl (.mg rfl rfl rfl (.mg rfl rfl rfl (.c (.indexStr (.at rfl rfl) Tryz.underlying9 (.tmp rfl id) (.tmp rfl id) (fun hg => hn7 hg.2)) (.c (.klss (.at rfl rfl) (.tmp rfl id) .ki) (.c (.move (.at rfl rfl) (.tmp rfl id)) (.mg rfl rfl rfl (.mg rfl rfl rfl (.c (.indexStr (.at rfl rfl) Tryz.underlying9 (.tmp rfl id) (.tmp rfl id) (fun hg => hn8 hg.1.2 hg.2)) (.c (.kneq (.at rfl rfl) (.tmp rfl id) .ki) (.c (.pickAnd (.at rfl rfl) (.tmp rfl id) (.tmp rfl id)) (.po rfl rfl (.mv rfl (.mg rfl rfl rfl (.mg rfl rfl rfl (.c (.indexStr (.at rfl rfl) Tryz.underlying9 (.tmp rfl id) (.tmp rfl id) (fun hg => hn9 hg.2)) (.c (.keql (.at rfl rfl) (.tmp rfl id) .ki) (.po rfl rfl (.ra hv10 rfl (.nil (.blkNormal (Ends.j _ (some_eq h)))))))))))))))))))))))))))))
   ·
    subst hj6; have h := hK6; clear hK6
    exact .rn mx (.adi rfl (.mv rfl (.nil (Ends.ag (some_eq h)))))
  ·
   refine .exit (.thenExit (.thenExit (.blkExit ?_)))
   replace h := hD4 _ (some_eq h)
   exact Ends.j _ (some_eq h)
 ·
  subst hj3; have h := hK3; clear hK3
  obtain ⟨r2, hv11, h⟩ := bind_some h
  obtain ⟨r3, hv12, h⟩ := bind_some h
  obtain ⟨r4, hv13, h⟩ := bind_some h
  refine .sn mx (.mv rfl (.c (.lenStr .none Tryz.underlying9 (.s rfl)) (.c (.gt .none (.s rfl) .i) (.c (.call .none (ref_When_ok hv11) (.cons (.s rfl) (.cons .i .nil))) (.mv rfl (.c (.call .none (ref_When_ok hv12) (.cons (.s rfl) (.cons .i .nil))) (.c (.buildSlice (xs := [_, _]) .none sl83 ty23 hz23 (.cons (.s rfl) (.cons (.s rfl) .nil)) rfl (by decide)) (.c (.call .none (ref_First_ok hv13) (.cons (.s rfl) .nil)) (.asn rfl (.nil (.ret ?_)))))))))))
  obtain rfl := some_eq h
  exact Ends.rt Tryz.results54 rfl

theorem ref_opError_ok {x1 : DOp} {r : Int}  (h : ref_opError x1 = some r) : FSpec Tryz.prog 28 [rep x1] (rep r) := by
 unfold ref_opError at h
 obtain ⟨r1, hv1, h⟩ := bind_some h
 refine FSpec.i Tryz.func28 rfl Tryz.ntmps28 rfl (fun F => (.sn mx (.c (.box .none (.s rfl)) (.asi (.nil (.seq (.sn mx (.fa fd42_1 hfd42_1 rfl (.ld ty3 rfl (.c (.call .none (ref_In_ok hv1) (.cons (.s rfl) (.cons .i (.cons .i .nil)))) (.c (.not .none (.s rfl)) (.nil (.cb rfl h (fun _ h => ?_) fun _ h => ?_)))))))))))))
 ·
  refine .sn mx (.asi (.nil (.ret (.thenRet ?_))))
  obtain rfl := some_eq h
  exact Ends.rt Tryz.results28 rfl
 ·
  refine .skip (.then (.sn mx (.fa fd42_1 hfd42_1 rfl (.ld ty3 rfl (.nei rfl (.mv rfl (.fg fd42_3 hfd42_3 rfl rfl rfl (.lg ty9 rfl rfl rfl (.c (.neS (.at rfl rfl) (eqAt_str Tryz.underlying9) (.tmp rfl id) (.str (l := []) (by decide))) (.c (.move (.at rfl rfl) (.tmp rfl id)) (.fg fd42_4 hfd42_4 rfl rfl rfl (.lg ty9 rfl rfl rfl (.c (.neS (.at rfl rfl) (eqAt_str Tryz.underlying9) (.tmp rfl id) (.str (l := []) (by decide))) (.c (.pickOr (.at rfl rfl) (.tmp rfl id) (.tmp rfl id)) (.pa rfl rfl (.mv rfl (.fg fd42_1 hfd42_1 rfl rfl rfl (.lg ty3 rfl rfl rfl (.c (.eqI (.at rfl rfl) (.tmp rfl id) .i) (.c (.move (.at rfl rfl) (.tmp rfl id)) (.fg fd42_2 hfd42_2 rfl rfl rfl (.lg ty9 rfl rfl rfl (.c (.neS (.at rfl rfl) (eqAt_str Tryz.underlying9) (.tmp rfl id) (.str (l := []) (by decide))) (.c (.pickAnd (.at rfl rfl) (.tmp rfl id) (.tmp rfl id)) (.po rfl rfl (.mv rfl (.fg fd42_1 hfd42_1 rfl rfl rfl (.lg ty3 rfl rfl rfl (.c (.neI (.at rfl rfl) (.tmp rfl id) .i) (.c (.move (.at rfl rfl) (.tmp rfl id)) (.fg fd42_5 hfd42_5 rfl rfl rfl (.lg ty3 rfl rfl rfl (.c (.neI (.at rfl rfl) (.tmp rfl id) .i) (.c (.pickAnd (.at rfl rfl) (.tmp rfl id) (.tmp rfl id)) (.po rfl rfl (.asn rfl (.nil (.seq (.sn mx (.mv rfl (.nil (.cb rfl h (fun _ h => ?_) fun _ h => ?_))))))))))))))))))))))))))))))))))))))))))
  ·
   refine .sn mx (.asi (.nil (.ret (.thenRet ?_))))
   obtain rfl := some_eq h
   exact Ends.rt Tryz.results28 rfl
  ·
   refine .skip (.then (.seq (.sn mx (.fa fd42_1 hfd42_1 rfl (.ld ty3 rfl (.eqi rfl (.nil (.cb rfl h (fun _ h => ?_) fun _ h => ?_))))))))
   ·
    obtain ⟨r2, hv5, h⟩ := bind_some h
    obtain ⟨r3, hv6, h⟩ := bind_some h
    refine .sn mx (.fa fd42_5 hfd42_5 rfl (.ld ty3 rfl (.fa fd42_0 hfd42_0 rfl (.fa fd40_2 hfd40_2 rfl (.ld ty3 rfl (.c (.subW .none (.s rfl) .i) (.c (.call .none (ref_In_ok hv5) (.cons (.s rfl) (.cons .i (.cons (.s rfl) .nil)))) (.c (.not .none (.s rfl)) (.c (.call .none (ref_When_ok hv6) (.cons (.s rfl) (.cons .i .nil))) (.asn rfl (.nil (.ret (.thenRet ?_)))))))))))))
    obtain rfl := some_eq h
    exact Ends.rt Tryz.results28 rfl
   ·
    obtain ⟨r4, hv7, h⟩ := bind_some h
    obtain ⟨r5, hv8, h⟩ := bind_some h
    refine .skip (.then (.sn mx (.fa fd42_2 hfd42_2 rfl (.ld ty9 rfl (.c (.call .none (ref_NameOf_ok hv7) (.cons (.s rfl) .nil)) (.c (.not .none (.s rfl)) (.mv rfl (.fg fd42_1 hfd42_1 rfl rfl rfl (.lg ty3 rfl rfl rfl (.c (.eqI (.at rfl rfl) (.tmp rfl id) .i) (.c (.move (.at rfl rfl) (.tmp rfl id)) (.fg fd42_3 hfd42_3 rfl rfl rfl (.lg ty9 rfl rfl rfl (.c (.callIf (.at rfl rfl) fnok26 (fun hg => ref_NameOf_ok ((fun hg => gd_some hv8 ((andT (notT hg.1.2) hg.2))) hg)) (.cons (.tmp rfl id) .nil) (fun h => h)) ?_))))))))))))))
    obtain ⟨r6, hv9, h⟩ := bind_some h
    obtain ⟨r7, hv10, h⟩ := bind_some h
    obtain ⟨r8, hv11, h⟩ := bind_some h
    refine .c (.not (.at rfl rfl) (.tmp rfl id)) (.c (.pickAnd (.at rfl rfl) (.tmp rfl id) (.tmp rfl id)) (.po rfl rfl (.c (.call .none (ref_When_ok hv9) (.cons (.s rfl) (.cons .i .nil))) (.fa fd42_4 hfd42_4 rfl (.ld ty9 rfl (.c (.call .none (ref_TextError_ok hv10) (.cons (.s rfl) .nil)) (.c (.buildSlice (xs := [_, _]) .none sl83 ty23 hz23 (.cons (.s rfl) (.cons (.s rfl) .nil)) rfl (by decide)) (.c (.call .none (ref_First_ok hv11) (.cons (.s rfl) .nil)) (.asn rfl (.nil (.ret ?_)))))))))))
    obtain rfl := some_eq h
    exact Ends.rt Tryz.results28 rfl

theorem ref_OpsError_ok {l1 : (List DOp)} {r : Int}  (h : ref_OpsError l1 = some r) : FSpec Tryz.prog 5 [rep l1] (rep r) := by
 unfold ref_OpsError at h
 refine FSpec.i Tryz.func5 rfl Tryz.ntmps5 rfl (fun F => (.sn mx (.asi (.nil (.seq (.sn mx (.mv rfl (.ln sl22 rfl (.c (.gt .none (.s rfl) .i) (.nil (.cb rfl h (fun _ h => ?_) fun _ h => ?_)))))))))))
 ·
  refine .sn mx (.asi (.nil (.ret (.thenRet ?_))))
  obtain rfl := some_eq h
  exact Ends.rt Tryz.results5 rfl
 ·
  obtain ⟨v1, hv2, h⟩ := bnd_some h
  refine .skip (.then (.sr [oo, ([], [3]), ([3], [3])] mx (.cA (.re hv2 (.buildF (y := (⟨(⟨(0 : Int), Str.nil, (0 : Int)⟩ : Stamp), (0 : Int), Str.nil, Str.nil, Str.nil, (0 : Int)⟩ : DOp)) .none bu42 zc42 rfl .nil .nil)) (.al zo42 rfl (.st ty42 rfl rfl rfl (.nil (.nameBox (t := 3) (g := 5001) rfl rfl (fun m5001 => (.seq (.sn mx (.mv rfl (.ln sl22 rfl (.mvi (.nil ?_))))))))))))))
  obtain ⟨o_3, h, hK3⟩ := bindR_some h
  refine .thenJ (ι := DOp) (fun j_3 => []) (fun j_3 => [(5001, some (boxAt m5001 42 j_3))]) (fun s => o_3 = Res.nx s) (.k 3 rfl .nil) SubB.nil ?_ (fun j_3 hj3 => ?_)
  ·
   refine .block (.rforEL h (fun p4_ => [(14, ⟨True, rep p4_.1⟩)]) (fun p4_ => [(5001, some (boxAt m5001 42 p4_.2))]) (.k 14 rfl .nil) (.k 5001 rfl .nil) (.k4 0 3 12 13 rfl rfl rfl rfl .nil) SubB.nil (fun p4_ o_4 h hD4 => (.sn mx (.lt rfl rfl (.nil (.seq (.cb rfl h (fun _ h => ?_) fun _ h => ?_)))))))
   ·
    refine .skip (.then (.seq ?_))
    obtain ⟨o_6, h, hK6⟩ := bindD_some h
    unfold ref_OpsError_L1 at h
    refine .thenJ (ι := DOp) (fun j_6 => []) (fun j_6 => [(5001, some (boxAt m5001 42 j_6))]) (fun s => o_6 = Res.nx s) (.k4 0 3 12 13 rfl rfl rfl rfl (.k 14 rfl .nil)) SubB.nil ?_ (fun j_6 hj6 => ?_)
    ·
     obtain ⟨hn7, h⟩ := need_some h
     obtain ⟨v2, hv8, h⟩ := bnd_some h
     refine .block (.sr [oo, oo, oo, ([], [5]), oo, ([5], [5])] mx (.mvA rfl (.ixA sl22 ty42 rfl rfl hn7 (.rlA hv8 ty42 rfl (.al zo42 rfl (.asnA rfl (.st ty42 rfl rfl rfl (.nil (.freeze (t := 5) rfl rfl (.k 5001 rfl .nil) rfl (.seq (.sr [oo, oo, oo, oo, oo, ([5001], []), oo] mx (.faA fd42_0 hfd42_0 rfl (.faA fd40_1 hfd40_1 rfl (.ldA ty9 rfl (.cA (.fieldPtr .none fd42_0 (.s rfl)) (.cA (.fieldPtr .none fd40_1 (.s rfl)) (.cA (.loadAt (k := 5001) .none ty9 rfl (.s rfl) (HasField.comp (o2 := 1) hfd42_0 hfd40_1)) (.cA (.neS .none (eqAt_str Tryz.underlying9) (.s rfl) (.s rfl)) (.nil ?_)))))))))))))))))))
     obtain ⟨j_9, h, hK9⟩ := bind_some h
     refine .thenJ (ι := DOp) (fun j_9 => []) (fun j_9 => [(5001, some (boxAt m5001 42 j_9))]) (fun s => j_9 = s) (.k4 0 3 4 5 rfl rfl rfl rfl (.k2 12 13 rfl rfl (.k 14 rfl .nil))) SubB.nil ?_ (fun j_9' hj9 => ?_)
     ·
      refine .cb rfl h (fun _ h => ?_) fun _ h => ?_
      ·
       exact .rg [oo, oo, ([5001], [5001]), oo, oo, ([5001], [5001])] mx (.cA (.fieldPtr .none fd42_0 (.s rfl)) (.cA (.fieldPtr .none fd40_2 (.s rfl)) (.cN (.storeAt (g := 5001) ty3 rfl (.s rfl) (SetField.comp (o2 := 2) hfd42_0 sf42_0 sf40_2) .i) (.cA (.fieldPtr .none fd42_0 (.s rfl)) (.cA (.fieldPtr .none fd40_0 (.s rfl)) (.cN (.storeAt (g := 5001) ty3 rfl (.s rfl) (SetField.comp (o2 := 0) hfd42_0 sf42_0 sf40_0) .i) (.nil (Ends.j _ (some_eq h)))))))))
      ·
       exact .skip (Ends.j _ (some_eq h))
     ·
      subst hj9; have h := hK9; clear hK9
      obtain ⟨r1, hv11, h⟩ := bind_some h
      refine .sr [oo, oo, oo, oo, ([5001], []), oo, oo, oo, oo] mx (.mvA rfl (.cA (.gt .none (.s rfl) .i) (.mvA rfl (.cA (.load (.at rfl rfl) ty42 (.s rfl)) (.cA (.loadAt0 (k := 5001) (.at rfl rfl) ty42 rfl (.s rfl)) (.cA (.callIf (.at rfl rfl) fnok23 (fun hg => ref_byOp_ok ((fun hg => gd_some hv11 (hg.2)) hg)) (.cons (.tmp rfl id) (.cons (.tmp rfl id) .nil)) (fun h => h)) (.cA (.le (.at rfl rfl) (.tmp rfl id) .i) (.cA (.pickAnd .none (.s rfl) (.tmp rfl id)) (.asnA rfl (.nil (.seq (.sr [oo, oo, oo, oo, oo, ([5001], []), oo, oo, oo, oo, oo] mx (.faA fd42_0 hfd42_0 rfl (.faA fd40_1 hfd40_1 rfl (.ldA ty9 rfl (.cA (.fieldPtr .none fd42_0 (.s rfl)) (.cA (.fieldPtr .none fd40_1 (.s rfl)) (.cA (.loadAt (k := 5001) .none ty9 rfl (.s rfl) (HasField.comp (o2 := 1) hfd42_0 hfd40_1)) (.cA (.neS .none (eqAt_str Tryz.underlying9) (.s rfl) (.s rfl)) (.mvA rfl (.cA (.move (.at rfl rfl) (.s rfl)) (.cA (.gt (.at rfl rfl) (.tmp rfl id) .i) (.cA (.pickAnd .none (.s rfl) (.tmp rfl id)) (.nil ?_))))))))))))))))))))))))
      obtain ⟨j_12, h, hK12⟩ := bind_some h
      refine .thenJ (ι := Bool) (fun j_12 => [(6, ⟨True, rep j_12⟩)]) (fun j_12 => []) (fun s => j_12 = s) (.k4 0 3 5 12 rfl rfl rfl rfl (.k2 13 14 rfl rfl .nil)) (.k 5001 rfl .nil) ?_ (fun j_12' hj12 => ?_)
      ·
       refine .cb rfl h (fun _ h => ?_) fun _ h => ?_
       ·
        obtain ⟨hn14, h⟩ := need_some h
        exact .rn mx (.fa fd42_0 hfd42_0 rfl (.fa fd40_1 hfd40_1 rfl (.ld ty9 rfl (.mv rfl (.mv rfl (.c (.subW .none (.s rfl) .i) (.ix sl22 ty42 rfl rfl hn14 (.fa fd42_0 hfd42_0 rfl (.fa fd40_1 hfd40_1 rfl (.ld ty9 rfl (.c (.ltStr .none (.s rfl) (.s rfl)) (.asn rfl (.nil (Ends.j _ (some_eq h)))))))))))))))
       ·
        exact .skip (Ends.j _ (some_eq h))
      ·
       subst hj12; have h := hK12; clear hK12
       obtain ⟨r2, hv15, h⟩ := bind_some h
       obtain ⟨r3, hv16, h⟩ := bind_some h
       obtain ⟨r4, hv17, h⟩ := bind_some h
       obtain ⟨r5, hv18, h⟩ := bind_some h
       refine .sr [oo, oo, oo, oo, oo, oo, oo, oo, oo, oo, oo, oo, oo, ([5001], []), oo, oo, oo, oo, oo, oo, oo, oo, oo, oo, oo, oo, oo, oo, oo, ([5001], []), oo, oo, oo, oo, oo, oo, oo] mx (.faA fd42_0 hfd42_0 rfl (.faA fd40_1 hfd40_1 rfl (.ldA ty9 rfl (.cA (.call .none (ref_NameOf_ok hv15) (.cons (.s rfl) .nil)) (.cA (.not .none (.s rfl)) (.cA (.call .none (ref_When_ok hv16) (.cons (.s rfl) (.cons .i .nil))) (.mvA rfl (.cA (.call .none (ref_When_ok hv17) (.cons (.s rfl) (.cons .i .nil))) (.faA fd42_0 hfd42_0 rfl (.faA fd40_2 hfd40_2 rfl (.ldA ty3 rfl (.cA (.fieldPtr .none fd42_0 (.s rfl)) (.cA (.fieldPtr .none fd40_2 (.s rfl)) (.cA (.loadAt (k := 5001) .none ty3 rfl (.s rfl) (HasField.comp (o2 := 2) hfd42_0 hfd40_2)) (.cA (.addW .none (.s rfl) .i) (.cA (.neI .none (.s rfl) (.s rfl)) (.mvA rfl (.cA (.fieldAddr (.at rfl rfl) fd42_0 hfd42_0 (.s rfl)) (.cA (.fieldAddr (.at rfl rfl) fd40_0 hfd40_0 (.tmp rfl id)) (.cA (.load (.at rfl rfl) ty3 (.tmp rfl id)) (.cA (.callIf (.at rfl rfl) fnok27 (fun hg => ref_In_ok ((fun hg => gd_some hv18 ((notT hg.2))) hg)) (.cons (.tmp rfl id) (.cons .i (.cons .i .nil))) (fun h => h)) ?_)))))))))))))))))))))
       obtain ⟨r6, hv19, h⟩ := bind_some h
       obtain ⟨r7, hv20, h⟩ := bind_some h
       obtain ⟨r8, hv21, h⟩ := bind_some h
       obtain ⟨e1, hv22, h⟩ := bind_some h
       refine .cA (.not (.at rfl rfl) (.tmp rfl id)) (.cA (.pickOr .none (.s rfl) (.tmp rfl id)) (.cA (.call .none (ref_When_ok hv19) (.cons (.s rfl) (.cons .i .nil))) (.faA fd42_0 hfd42_0 rfl (.faA fd40_0 hfd40_0 rfl (.ldA ty3 rfl (.cA (.fieldPtr .none fd42_0 (.s rfl)) (.cA (.fieldPtr .none fd40_0 (.s rfl)) (.cA (.loadAt (k := 5001) .none ty3 rfl (.s rfl) (HasField.comp (o2 := 0) hfd42_0 hfd40_0)) (.cA (.le .none (.s rfl) (.s rfl)) (.cA (.call .none (ref_When_ok hv20) (.cons (.s rfl) (.cons .i .nil))) (.ldA ty42 rfl (.cA (.call .none (ref_opError_ok hv21) (.cons (.s rfl) .nil)) (.cA (.buildSlice (xs := [_, _, _, _, _]) .none sl83 ty23 hz23 (.cons (.s rfl) (.cons (.s rfl) (.cons (.s rfl) (.cons (.s rfl) (.cons (.s rfl) .nil))))) rfl (by decide)) (.cA (.call .none (ref_First_ok hv22) (.cons (.s rfl) .nil)) (.asnA rfl (.nil (.seq (.sn mx (.mv rfl (.nei rfl (.nil (.cb rfl h (fun _ h => ?_) fun _ h => ?_))))))))))))))))))))))
       ·
        refine .sn mx (.mv rfl (.asn rfl (.nil (.ret (.thenRet (.blkRet (.thenRet (.thenRet (.blkRet (.thenRet ?_))))))))))
        replace h := resd_ab hK6 (some_eq h)
        replace h := hD4 _ (some_eq h)
        replace h := resb_ab hK3 (some_eq h)
        obtain rfl := some_eq h
        exact Ends.rt Tryz.results5 rfl
       ·
        exact .skip (.then (.rg [oo, ([5001], [5001])] mx (.ldA ty42 rfl (.s0 5001 ty42 rfl rfl rfl (.nil (.blkNormal (Ends.j _ (some_eq h))))))))
    ·
     have h := resd_nx hK6 hj6
     exact .rn mx (.adi rfl (.mv rfl (.nil (Ends.ag (some_eq h)))))
   ·
    refine .exit (.thenExit (.thenExit (.blkExit ?_)))
    replace h := hD4 _ (some_eq h)
    exact Ends.j _ (some_eq h)
  ·
   have h := resb_nx hK3 hj3
   refine .sn mx (.asi (.nil (.ret ?_)))
   obtain rfl := some_eq h
   exact Ends.rt Tryz.results5 rfl

theorem edit_isName_ok {s1 : Str} {r : Bool}  (h : edit_isName s1 = some r) : FSpec Tryz.prog 29 [rep s1] (rep r) := by
 unfold edit_isName at h
 obtain ⟨hn1, h⟩ := need_some h
 obtain ⟨hn2, h⟩ := need_some h
 obtain ⟨r1, hv3, h⟩ := bind_some h
 refine FSpec.i Tryz.func29 rfl Tryz.ntmps29 rfl (fun F => (.sn mx (.asb (.nil (.sn mx (.mv rfl (.c (.neS .none (eqAt_str Tryz.underlying9) (.s rfl) (.str (l := []) (by decide))) (.mv rfl (.mg rfl rfl rfl (.c (.lenStr (.at rfl rfl) Tryz.underlying9 (.tmp rfl id)) (.c (.le (.at rfl rfl) (.tmp rfl id) .i) (.pa rfl rfl (.mv rfl (.mg rfl rfl rfl (.c (.indexStr (.at rfl rfl) Tryz.underlying9 (.tmp rfl id) .i (fun hg => hn1 hg.2)) (.c (.kgeq (.at rfl rfl) (.tmp rfl id) .ki) (.pa rfl rfl (.mv rfl (.mg rfl rfl rfl (.c (.indexStr (.at rfl rfl) Tryz.underlying9 (.tmp rfl id) .i (fun hg => hn2 hg.2)) (.c (.kleq (.at rfl rfl) (.tmp rfl id) .ki) (.pa rfl rfl (.mv rfl (.mg rfl rfl rfl (.c (.callIf (.at rfl rfl) fnok55 (fun hg => strings_Trim_ok ((fun hg => gd_some hv3 (hg.2)) hg)) (.cons (.tmp rfl id) (.cons (.str (l := [97, 98, 99, 100, 101, 102, 103, 104, 105, 106, 107, 108, 109, 110, 111, 112, 113, 114, 115, 116, 117, 118, 119, 120, 121, 122, 48, 49, 50, 51, 52, 53, 54, 55, 56, 57, 45]) (by decide)) .nil)) (fun h => h)) (.c (.eqS (.at rfl rfl) (eqAt_str Tryz.underlying9) (.tmp rfl id) (.str (l := []) (by decide))) (.pa rfl rfl (.asn rfl (.nil (.ret ?_))))))))))))))))))))))))))))))
 obtain rfl := some_eq h
 exact Ends.rt Tryz.results29 rfl

theorem edit_order_ok {a1 : DOp} {b1 : DOp} {r : Int}  (h : edit_order a1 b1 = some r) : FSpec Tryz.prog 30 [rep a1, rep b1] (rep r) := by
 unfold edit_order at h
 obtain ⟨r1, hv1, h⟩ := bind_some h
 obtain ⟨r2, hv2, h⟩ := bind_some h
 obtain ⟨r3, hv3, h⟩ := bind_some h
 refine FSpec.i Tryz.func30 rfl Tryz.ntmps30 rfl (fun F => (.sn mx (.c (.box .none (.s rfl)) (.c (.box .none (.s rfl)) (.asi (.nil (.sn mx (.fa fd42_0 hfd42_0 rfl (.fa fd40_1 hfd40_1 rfl (.ld ty9 rfl (.fa fd42_0 hfd42_0 rfl (.fa fd40_1 hfd40_1 rfl (.ld ty9 rfl (.c (.call .none (strings_Compare_ok hv1) (.cons (.s rfl) (.cons (.s rfl) .nil))) (.fa fd42_0 hfd42_0 rfl (.fa fd40_2 hfd40_2 rfl (.ld ty3 rfl (.fa fd42_0 hfd42_0 rfl (.fa fd40_2 hfd40_2 rfl (.ld ty3 rfl (.c (.call .none (cmp_Compare_int_ok hv2) (.cons (.s rfl) (.cons (.s rfl) .nil))) (.c (.buildSlice (xs := [_, _]) .none sl105 ty3 hz3 (.cons (.s rfl) (.cons (.s rfl) .nil)) rfl (by decide)) (.c (.call .none (cmp_Or_int_ok hv3) (.cons (.s rfl) .nil)) (.asn rfl (.nil (.ret ?_))))))))))))))))))))))))))
 obtain rfl := some_eq h
 exact Ends.rt Tryz.results30 rfl

theorem shape_CheckText_ok {s1 : Str} {r : Int}  (h : shape_CheckText s1 = some r) : FSpec Tryz.prog 56 [rep s1] (rep r) := by
 unfold shape_CheckText at h
 refine FSpec.i Tryz.func56 rfl Tryz.ntmps56 rfl (fun F => (.sn mx (.asi (.nil (.seq (.sn mx (.mv rfl (.c (.lenStr .none Tryz.underlying9 (.s rfl)) (.c (.gt .none (.s rfl) .i) (.nil (.cb rfl h (fun _ h => ?_) fun _ h => ?_)))))))))))
 ·
  refine .sn mx (.asi (.nil (.ret (.thenRet ?_))))
  obtain rfl := some_eq h
  exact Ends.rt Tryz.results56 rfl
 ·
  obtain ⟨r1, hv2, h⟩ := bind_some h
  refine .skip (.then (.seq (.sn mx (.mv rfl (.c (.call .none (utf8_ValidString_ok hv2) (.cons (.s rfl) .nil)) (.c (.not .none (.s rfl)) (.nil (.cb rfl h (fun _ h => ?_) fun _ h => ?_))))))))
  ·
   refine .sn mx (.asi (.nil (.ret (.thenRet ?_))))
   obtain rfl := some_eq h
   exact Ends.rt Tryz.results56 rfl
  ·
   refine .skip (.then (.seq (.sn mx (.mv rfl (.c (.lenStr .none Tryz.underlying9 (.s rfl)) (.mvi (.nil ?_)))))))
   obtain ⟨o_4, h, hK4⟩ := bindR_some h
   refine .tJ (fun s => o_4 = Res.nx s) Sub.nil SubB.nil ?_ (fun j_4 hj4 => ?_)
   ·
    refine .block (.rforEL h (fun p5_ => [(12, ⟨True, rep p5_.1⟩)]) (fun p5_ => []) (.k 12 rfl .nil) SubB.nil (.k2 0 11 rfl rfl .nil) SubB.nil (fun p5_ o_5 h hD5 => (.sn mx (.lt rfl rfl (.nil (.seq (.cb rfl h (fun _ h => ?_) fun _ h => ?_)))))))
    ·
     refine .skip (.then (.seq ?_))
     obtain ⟨o_7, h, hK7⟩ := bindD_some h
     unfold shape_CheckText_L1 at h
     refine .tJ (fun s => o_7 = Res.nx s) (.k2 0 11 rfl rfl (.k 12 rfl .nil)) SubB.nil ?_ (fun j_7 hj7 => ?_)
     ·
      obtain ⟨hn8, h⟩ := need_some h
      obtain ⟨hn9, h⟩ := need_some h
      obtain ⟨hn10, h⟩ := need_some h
      refine .block (.sn mx (.mv rfl (.asn rfl (.nil (.sn mx (.mv rfl (.mv rfl (.c (.indexStr .none Tryz.underlying9 (.s rfl) (.s rfl) (fun _ => hn8)) (.c (.klss .none (.s rfl) .ki) (.mv rfl (.mg rfl rfl rfl (.mg rfl rfl rfl (.c (.indexStr (.at rfl rfl) Tryz.underlying9 (.tmp rfl id) (.tmp rfl id) (fun hg => hn9 hg.2)) (.c (.kneq (.at rfl rfl) (.tmp rfl id) .ki) (.pa rfl rfl (.mv rfl (.mg rfl rfl rfl (.mg rfl rfl rfl (.c (.indexStr (.at rfl rfl) Tryz.underlying9 (.tmp rfl id) (.tmp rfl id) (fun hg => hn10 hg.2)) (.c (.keql (.at rfl rfl) (.tmp rfl id) .ki) (.po rfl rfl (.nil (.cb rfl h (fun _ h => ?_) fun _ h => ?_)))))))))))))))))))))))
      ·
       refine .sn mx (.asi (.nil (.ret (.blkRet (.thenRet (.thenRet (.blkRet (.thenRet ?_))))))))
       replace h := resd_ab hK7 (some_eq h)
       replace h := hD5 _ (some_eq h)
       replace h := resb_ab hK4 (some_eq h)
       obtain rfl := some_eq h
       exact Ends.rt Tryz.results56 rfl
      ·
       exact .skip (.blkNormal (Ends.j _ (some_eq h)))
     ·
      have h := resd_nx hK7 hj7
      exact .rn mx (.adi rfl (.mv rfl (.nil (Ends.ag (some_eq h)))))
    ·
     refine .exit (.thenExit (.thenExit (.blkExit ?_)))
     replace h := hD5 _ (some_eq h)
     exact Ends.j _ (some_eq h)
   ·
    have h := resb_nx hK4 hj4
    refine .sn mx (.asi (.nil (.ret ?_)))
    obtain rfl := some_eq h
    exact Ends.rt Tryz.results56 rfl

theorem edit_checkBody_ok {x1 : DOp} {r : Int}  (h : edit_checkBody x1 = some r) : FSpec Tryz.prog 31 [rep x1] (rep r) := by
 unfold edit_checkBody at h
 refine FSpec.i Tryz.func31 rfl Tryz.ntmps31 rfl (fun F => (.sn mx (.c (.box .none (.s rfl)) (.asi (.nil (.seq (.sn mx (.fa fd42_1 hfd42_1 rfl (.ld ty3 rfl (.c (.lt .none (.s rfl) .i) (.mv rfl (.fg fd42_1 hfd42_1 rfl rfl rfl (.lg ty3 rfl rfl rfl (.c (.gt (.at rfl rfl) (.tmp rfl id) .i) (.po rfl rfl (.nil (.cb rfl h (fun _ h => ?_) fun _ h => ?_)))))))))))))))))
 ·
  refine .sn mx (.asi (.nil (.ret (.thenRet ?_))))
  obtain rfl := some_eq h
  exact Ends.rt Tryz.results31 rfl
 ·
  obtain ⟨set1, hv2, h⟩ := bnd_some h
  obtain ⟨undo1, hv3, h⟩ := bnd_some h
  obtain ⟨v1, hv4, h⟩ := bnd_some h
  refine .skip (.then (.sn mx (.fa fd42_1 hfd42_1 rfl (.ld ty3 rfl (.eqi rfl (.fa fd42_1 hfd42_1 rfl (.ld ty3 rfl (.eqi rfl (.ra hv2 rfl (.ra hv3 rfl (.nil (.seq (.block (.seq (.sn mx (.fa fd42_5 hfd42_5 rfl (.ld ty3 rfl (.nei rfl (.mv rfl (.mg rfl rfl rfl (.c (.not (.at rfl rfl) (.tmp rfl id)) (.pa rfl rfl (.ra hv4 rfl (.nil ?_))))))))))))))))))))))))
  obtain ⟨j_5, h, hK5⟩ := bind_some h
  refine .thenJ (ι := Bool) (fun j_5 => [(20, ⟨True, rep j_5⟩)]) (fun j_5 => []) (fun s => j_5 = s) (.k2 1 3 rfl rfl (.k 4 rfl .nil)) SubB.nil ?_ (fun j_5' hj5 => ?_)
  ·
   refine .cb rfl h (fun _ h => ?_) fun _ h => ?_
   ·
    exact .skip (Ends.j _ (some_eq h))
   ·
    obtain ⟨v2, hv7, h⟩ := bnd_some h
    refine .sn mx (.fa fd42_2 hfd42_2 rfl (.ld ty9 rfl (.c (.neS .none (eqAt_str Tryz.underlying9) (.s rfl) (.str (l := []) (by decide))) (.mv rfl (.mg rfl rfl rfl (.pa rfl rfl (.ra hv7 rfl (.nil (.cb rfl h (fun _ h => ?_) fun _ h => ?_)))))))))
    ·
     exact .skip (Ends.j _ (some_eq h))
    ·
     obtain ⟨v3, hv9, h⟩ := bnd_some h
     exact .rn mx (.fa fd42_3 hfd42_3 rfl (.ld ty9 rfl (.c (.neS .none (eqAt_str Tryz.underlying9) (.s rfl) (.str (l := []) (by decide))) (.mv rfl (.fg fd42_4 hfd42_4 rfl rfl rfl (.lg ty9 rfl rfl rfl (.c (.neS (.at rfl rfl) (eqAt_str Tryz.underlying9) (.tmp rfl id) (.str (l := []) (by decide))) (.po rfl rfl (.mv rfl (.mg rfl rfl rfl (.c (.not (.at rfl rfl) (.tmp rfl id)) (.pa rfl rfl (.ra hv9 rfl (.nil (Ends.j _ (some_eq h))))))))))))))))
  ·
   subst hj5; have h := hK5; clear hK5
   refine .cb rfl h (fun _ h => ?_) fun _ h => ?_
   ·
    refine .sn mx (.asi (.nil (.ret (.blkRet (.thenRet ?_)))))
    obtain rfl := some_eq h
    exact Ends.rt Tryz.results31 rfl
   ·
    obtain ⟨r1, hv11, h⟩ := bind_some h
    refine .seq (.sn mx (.mv rfl (.c (.not .none (.s rfl)) (.mv rfl (.fg fd42_2 hfd42_2 rfl rfl rfl (.lg ty9 rfl rfl rfl (.c (.callIf (.at rfl rfl) fnok29 (fun hg => edit_isName_ok ((fun hg => gd_some hv11 (hg.2)) hg)) (.cons (.tmp rfl id) .nil) (fun h => h)) ?_)))))))
    obtain ⟨v4, hv12, h⟩ := bnd_some h
    refine .c (.not (.at rfl rfl) (.tmp rfl id)) (.pa rfl rfl (.ra hv12 rfl (.nil ?_)))
    obtain ⟨j_13, h, hK13⟩ := bind_some h
    refine .thenJ (ι := Bool) (fun j_13 => [(46, ⟨True, rep j_13⟩)]) (fun j_13 => []) (fun s => j_13 = s) (.k2 1 3 rfl rfl (.k 4 rfl .nil)) SubB.nil ?_ (fun j_13' hj13 => ?_)
    ·
     refine .cb rfl h (fun _ h => ?_) fun _ h => ?_
     ·
      exact .skip (Ends.j _ (some_eq h))
     ·
      obtain ⟨r2, hv15, h⟩ := bind_some h
      refine .rn mx (.mv rfl (.mv rfl (.fg fd42_3 hfd42_3 rfl rfl rfl (.lg ty9 rfl rfl rfl (.c (.callIf (.at rfl rfl) fnok29 (fun hg => edit_isName_ok ((fun hg => gd_some hv15 (hg.2)) hg)) (.cons (.tmp rfl id) .nil) (fun h => h)) ?_)))))
      obtain ⟨v5, hv16, h⟩ := bnd_some h
      exact .c (.not (.at rfl rfl) (.tmp rfl id)) (.pa rfl rfl (.ra hv16 rfl (.nil (Ends.j _ (some_eq h)))))
    ·
     subst hj13; have h := hK13; clear hK13
     refine .cb rfl h (fun _ h => ?_) fun _ h => ?_
     ·
      refine .sn mx (.asi (.nil (.ret (.blkRet (.thenRet ?_)))))
      obtain rfl := some_eq h
      exact Ends.rt Tryz.results31 rfl
     ·
      refine .skip (.blkNormal (.then (.seq (.sn mx (.mv rfl (.nil ?_))))))
      obtain ⟨o_18, h, hK18⟩ := bindR_some h
      refine .tJ (fun s => o_18 = Res.nx s) (.k2 1 4 rfl rfl .nil) SubB.nil ?_ (fun j_18 hj18 => ?_)
      ·
       refine .cb rfl h (fun _ h => ?_) fun _ h => ?_
       ·
        obtain ⟨e1, hv20, h⟩ := bind_some h
        refine .sn mx (.fa fd42_4 hfd42_4 rfl (.ld ty9 rfl (.c (.call .none (shape_CheckText_ok hv20) (.cons (.s rfl) .nil)) (.asn rfl (.nil (.sn mx (.mv rfl (.nei rfl (.nil (.cb rfl h (fun _ h => ?_) fun _ h => ?_))))))))))
        ·
         refine .sn mx (.mv rfl (.asn rfl (.nil (.ret (.thenRet ?_)))))
         replace h := resb_ab hK18 (some_eq h)
         obtain rfl := some_eq h
         exact Ends.rt Tryz.results31 rfl
        ·
         exact .skip (Ends.j _ (some_eq h))
       ·
        exact .skip (Ends.j _ (some_eq h))
      ·
       have h := resb_nx hK18 hj18
       refine .seq (.sn mx (.mv rfl (.mv rfl (.fg fd42_5 hfd42_5 rfl rfl rfl (.lg ty3 rfl rfl rfl (.c (.lt (.at rfl rfl) (.tmp rfl id) .i) (.c (.move (.at rfl rfl) (.tmp rfl id)) (.fg fd42_5 hfd42_5 rfl rfl rfl (.lg ty3 rfl rfl rfl (.fg fd42_0 hfd42_0 rfl rfl rfl (.c (.fieldAddr (.at rfl rfl) fd40_2 hfd40_2 (.tmp rfl id)) (.lg ty3 rfl rfl rfl (.c (.subW (.at rfl rfl) (.tmp rfl id) .i) (.c (.gt (.at rfl rfl) (.tmp rfl id) (.tmp rfl id)) (.c (.pickOr (.at rfl rfl) (.tmp rfl id) (.tmp rfl id)) (.pa rfl rfl (.nil (.cb rfl h (fun _ h => ?_) fun _ h => ?_))))))))))))))))))
       ·
        refine .sn mx (.asi (.nil (.ret (.thenRet ?_))))
        obtain rfl := some_eq h
        exact Ends.rt Tryz.results31 rfl
       ·
        refine .skip (.then (.sn mx (.asi (.nil (.ret ?_)))))
        obtain rfl := some_eq h
        exact Ends.rt Tryz.results31 rfl

theorem edit_Check_ok {l1 : (List DOp)} {r : Int}  (h : edit_Check l1 = some r) : FSpec Tryz.prog 6 [rep l1] (rep r) := by
 unfold edit_Check at h
 refine FSpec.i Tryz.func6 rfl Tryz.ntmps6 rfl (fun F => (.sn mx (.asi (.nil (.seq (.sn mx (.mv rfl (.ln sl22 rfl (.c (.gt .none (.s rfl) .i) (.nil (.cb rfl h (fun _ h => ?_) fun _ h => ?_)))))))))))
 ·
  refine .sn mx (.asi (.nil (.ret (.thenRet ?_))))
  obtain rfl := some_eq h
  exact Ends.rt Tryz.results6 rfl
 ·
  refine .skip (.then (.seq (.sn mx (.mv rfl (.ln sl22 rfl (.mvi (.nil ?_)))))))
  obtain ⟨o_2, h, hK2⟩ := bindR_some h
  refine .tJ (fun s => o_2 = Res.nx s) Sub.nil SubB.nil ?_ (fun j_2 hj2 => ?_)
  ·
   refine .block (.rforEL h (fun p3_ => [(12, ⟨True, rep p3_.1⟩)]) (fun p3_ => []) (.k 12 rfl .nil) SubB.nil (.k2 0 10 rfl rfl (.k 11 rfl .nil)) SubB.nil (fun p3_ o_3 h hD3 => (.sn mx (.lt rfl rfl (.nil (.seq (.cb rfl h (fun _ h => ?_) fun _ h => ?_)))))))
   ·
    refine .skip (.then (.seq ?_))
    obtain ⟨o_5, h, hK5⟩ := bindD_some h
    unfold edit_Check_L1 at h
    refine .tJ (fun s => o_5 = Res.nx s) (.k4 0 10 11 12 rfl rfl rfl rfl .nil) SubB.nil ?_ (fun j_5 hj5 => ?_)
    ·
     obtain ⟨hn6, h⟩ := need_some h
     obtain ⟨v1, hv7, h⟩ := bnd_some h
     obtain ⟨v2, hv8, h⟩ := bnd_some h
     obtain ⟨hn9, h⟩ := need_some h
     refine .block (.sr [oo, oo, oo, ([], [4]), oo, ([4], [4])] mx (.mvA rfl (.ixA sl22 ty42 rfl rfl hn6 (.rlA hv7 ty42 rfl (.al zo42 rfl (.asnA rfl (.st ty42 rfl rfl rfl (.nil (.freeze (t := 4) rfl rfl SubB.nil rfl (.sr [oo, ([], [5]), ([5], [5])] mx (.cA (.re hv8 (.buildF (y := (⟨(⟨(0 : Int), Str.nil, (0 : Int)⟩ : Stamp), (0 : Int), Str.nil, Str.nil, Str.nil, (0 : Int)⟩ : DOp)) .none bu42 zc42 rfl .nil .nil)) (.al zo42 rfl (.st ty42 rfl rfl rfl (.nil (.nameBox (t := 5) (g := 5001) rfl rfl (fun m5001 => (.seq (.sn mx (.mv rfl (.c (.gt .none (.s rfl) .i) (.mv rfl (.mg rfl rfl rfl (.mg rfl rfl rfl (.c (.subW (.at rfl rfl) (.tmp rfl id) .i) (.c (.indexAddr (.at rfl rfl) sl22 ty42 (.tmp rfl id) (.tmp rfl id) (fun hg => hn9 hg.2)) (.c (.fieldAddr (.at rfl rfl) fd42_0 hfd42_0 (.tmp rfl id)) (.c (.fieldAddr (.at rfl rfl) fd40_1 hfd40_1 (.tmp rfl id)) (.lg ty9 rfl rfl rfl (.fg fd42_0 hfd42_0 rfl rfl rfl (.c (.fieldAddr (.at rfl rfl) fd40_1 hfd40_1 (.tmp rfl id)) (.lg ty9 rfl rfl rfl (.c (.eqS (.at rfl rfl) (eqAt_str Tryz.underlying9) (.tmp rfl id) (.tmp rfl id)) (.pa rfl rfl (.nil ?_))))))))))))))))))))))))))))))))))
     obtain ⟨j_10, h, hK10⟩ := bind_some h
     refine .thenJ (ι := DOp) (fun j_10 => []) (fun j_10 => [(5001, some (boxAt m5001 42 j_10))]) (fun s => j_10 = s) (.k4 0 3 4 5 rfl rfl rfl rfl (.k2 10 11 rfl rfl (.k 12 rfl .nil))) SubB.nil ?_ (fun j_10' hj10 => ?_)
     ·
      refine .cb rfl h (fun _ h => ?_) fun _ h => ?_
      ·
       obtain ⟨hn12, h⟩ := need_some h
       obtain ⟨v3, hv13, h⟩ := bnd_some h
       exact .rg [oo, oo, oo, oo, oo, ([5001], [5001])] mx (.mvA rfl (.mvA rfl (.cA (.subW .none (.s rfl) .i) (.ixA sl22 ty42 rfl rfl hn12 (.rlA hv13 ty42 rfl (.s0 5001 ty42 rfl rfl rfl (.nil (Ends.j _ (some_eq h)))))))))
      ·
       exact .skip (Ends.j _ (some_eq h))
     ·
      subst hj10; have h := hK10; clear hK10
      obtain ⟨r1, hv14, h⟩ := bind_some h
      refine .fb 5001 [5] rfl (.cons (t := 5) rfl trivial .nil) (.seq (.block (.sn mx (.fa fd42_0 hfd42_0 rfl (.fa fd40_1 hfd40_1 rfl (.ld ty9 rfl (.c (.call .none (edit_isName_ok hv14) (.cons (.s rfl) .nil)) (.c (.not .none (.s rfl)) (.asn rfl (.nil (.cb rfl h (fun _ h => ?_) fun _ h => ?_)))))))))))
      ·
       refine .sn mx (.asi (.nil (.ret (.blkRet (.thenRet (.blkRet (.thenRet (.thenRet (.blkRet (.thenRet ?_))))))))))
       replace h := resd_ab hK5 (some_eq h)
       replace h := hD3 _ (some_eq h)
       replace h := resb_ab hK2 (some_eq h)
       obtain rfl := some_eq h
       exact Ends.rt Tryz.results6 rfl
      ·
       obtain ⟨hn16, h⟩ := need_some h
       obtain ⟨r2, hv17, h⟩ := bind_some h
       refine .sn mx (.mv rfl (.c (.gt .none (.s rfl) .i) (.mv rfl (.mg rfl rfl rfl (.mg rfl rfl rfl (.c (.subW (.at rfl rfl) (.tmp rfl id) .i) (.c (.indexAddr (.at rfl rfl) sl22 ty42 (.tmp rfl id) (.tmp rfl id) (fun hg => hn16 hg.2)) (.lg ty42 rfl rfl rfl (.c (.load (.at rfl rfl) ty42 (.s rfl)) (.c (.callIf (.at rfl rfl) fnok30 (fun hg => edit_order_ok ((fun hg => gd_some hv17 (hg.2)) hg)) (.cons (.tmp rfl id) (.cons (.tmp rfl id) .nil)) (fun h => h)) (.c (.ge (.at rfl rfl) (.tmp rfl id) .i) (.pa rfl rfl (.asn rfl (.nil (.cb rfl h (fun _ h => ?_) fun _ h => ?_)))))))))))))))
       ·
        refine .sn mx (.asi (.nil (.ret (.blkRet (.thenRet (.blkRet (.thenRet (.thenRet (.blkRet (.thenRet ?_))))))))))
        replace h := resd_ab hK5 (some_eq h)
        replace h := hD3 _ (some_eq h)
        replace h := resb_ab hK2 (some_eq h)
        obtain rfl := some_eq h
        exact Ends.rt Tryz.results6 rfl
       ·
        obtain ⟨v4, hv19, h⟩ := bnd_some h
        refine .seq (.sn mx (.fa fd42_0 hfd42_0 rfl (.fa fd40_2 hfd40_2 rfl (.ld ty3 rfl (.fa fd42_0 hfd42_0 rfl (.fa fd40_2 hfd40_2 rfl (.ld ty3 rfl (.adi rfl (.c (.neI .none (.s rfl) (.s rfl)) (.ra hv19 rfl (.nil ?_)))))))))))
        obtain ⟨j_20, h, hK20⟩ := bind_some h
        refine .thenJ (ι := Bool) (fun j_20 => [(57, ⟨True, rep j_20⟩)]) (fun j_20 => []) (fun s => j_20 = s) (.k4 0 4 5 10 rfl rfl rfl rfl (.k2 11 12 rfl rfl .nil)) SubB.nil ?_ (fun j_20' hj20 => ?_)
        ·
         refine .cb rfl h (fun _ h => ?_) fun _ h => ?_
         ·
          exact .skip (Ends.j _ (some_eq h))
         ·
          obtain ⟨v5, hv22, h⟩ := bnd_some h
          exact .rn mx (.fa fd42_0 hfd42_0 rfl (.fa fd40_0 hfd40_0 rfl (.ld ty3 rfl (.c (.lt .none (.s rfl) .i) (.mv rfl (.fg fd42_0 hfd42_0 rfl rfl rfl (.c (.fieldAddr (.at rfl rfl) fd40_0 hfd40_0 (.tmp rfl id)) (.lg ty3 rfl rfl rfl (.c (.gt (.at rfl rfl) (.tmp rfl id) .i) (.po rfl rfl (.ra hv22 rfl (.nil (Ends.j _ (some_eq h))))))))))))))
        ·
         subst hj20; have h := hK20; clear hK20
         refine .cb rfl h (fun _ h => ?_) fun _ h => ?_
         ·
          refine .sn mx (.asi (.nil (.ret (.blkRet (.thenRet (.blkRet (.thenRet (.thenRet (.blkRet (.thenRet ?_))))))))))
          replace h := resd_ab hK5 (some_eq h)
          replace h := hD3 _ (some_eq h)
          replace h := resb_ab hK2 (some_eq h)
          obtain rfl := some_eq h
          exact Ends.rt Tryz.results6 rfl
         ·
          refine .sn mx (.fa fd42_0 hfd42_0 rfl (.fa fd40_0 hfd40_0 rfl (.ld ty3 rfl (.fa fd42_0 hfd42_0 rfl (.fa fd40_0 hfd40_0 rfl (.ld ty3 rfl (.c (.le .none (.s rfl) (.s rfl)) (.asn rfl (.nil (.cb rfl h (fun _ h => ?_) fun _ h => ?_))))))))))
          ·
           refine .sn mx (.asi (.nil (.ret (.blkRet (.thenRet (.blkRet (.thenRet (.thenRet (.blkRet (.thenRet ?_))))))))))
           replace h := resd_ab hK5 (some_eq h)
           replace h := hD3 _ (some_eq h)
           replace h := resb_ab hK2 (some_eq h)
           obtain rfl := some_eq h
           exact Ends.rt Tryz.results6 rfl
          ·
           obtain ⟨e1, hv25, h⟩ := bind_some h
           refine .skip (.blkNormal (.then (.sn mx (.ld ty42 rfl (.c (.call .none (edit_checkBody_ok hv25) (.cons (.s rfl) .nil)) (.asn rfl (.nil (.sn mx (.mv rfl (.nei rfl (.nil (.cb rfl h (fun _ h => ?_) fun _ h => ?_))))))))))))
           ·
            refine .sn mx (.mv rfl (.asn rfl (.nil (.ret (.blkRet (.thenRet (.thenRet (.blkRet (.thenRet ?_)))))))))
            replace h := resd_ab hK5 (some_eq h)
            replace h := hD3 _ (some_eq h)
            replace h := resb_ab hK2 (some_eq h)
            obtain rfl := some_eq h
            exact Ends.rt Tryz.results6 rfl
           ·
            exact .skip (.blkNormal (Ends.j _ (some_eq h)))
    ·
     have h := resd_nx hK5 hj5
     exact .rn mx (.adi rfl (.mv rfl (.nil (Ends.ag (some_eq h)))))
   ·
    refine .exit (.thenExit (.thenExit (.blkExit ?_)))
    replace h := hD3 _ (some_eq h)
    exact Ends.j _ (some_eq h)
  ·
   have h := resb_nx hK2 hj2
   refine .sn mx (.asi (.nil (.ret ?_)))
   obtain rfl := some_eq h
   exact Ends.rt Tryz.results6 rfl

theorem edit_counting_ok {l1 : (List DOp)} {r : (List Bool)}  (h : edit_counting l1 = some r) : FSpec Tryz.prog 32 [rep l1] (rep r) := by
 unfold edit_counting at h
 obtain ⟨v1, hv1, h⟩ := bnd_some h
 obtain ⟨hn2, h⟩ := need_some h
 obtain ⟨out1, hv3, h⟩ := bnd_some h
 refine FSpec.i Tryz.func32 rfl Tryz.ntmps32 rfl (fun F => (.sn mx (.c (.assign .none (.const (x := ([] : (List Bool))) (fun M w => ⟨_, ⟨none, 0, rfl, Nat.le_refl _, by decide, rfl⟩, rfl⟩))) (.nil (.sr [oo, oo, ([], [9]), ([9], [3, 9])] mx (.mvA rfl (.cA (.re hv1 (.len .none sl22 (.s rfl))) (.cW (.makeSlice rk25 zo4 rfl (.s rfl) (.s rfl) hn2) (.cW (.passRow rfl (.tmp rfl)) (.nil (.reB (t := 3) rfl (congrArg (rowV 4) hv3) (.nameRow (t := 3) (g := 5001) rfl rfl rfl (fun s5001 => (.seq (.sr [oo, ([5001], []), oo] mx (.mvA rfl (.cA (.lenO (k := 5001) sl25 (.told (.s rfl) rfl)) (.cA (.move .none .i) (.nil ?_)))))))))))))))))))
 obtain ⟨j_4, h, hK4⟩ := bind_some h
 refine .thenJ (ι := (List Bool)) (fun j_4 => []) (fun j_4 => [(5001, some (CPred.at s5001 (rowV 4 j_4)))]) (fun s => j_4 = s) (.k2 0 3 rfl rfl .nil) SubB.nil ?_ (fun j_4' hj4 => ?_)
 ·
  refine .block (.rforL h (fun p5_ => [(12, ⟨True, rep p5_.1⟩)]) (fun p5_ => [(5001, some (CPred.at s5001 (rowV 4 p5_.2)))]) (.k 12 rfl .nil) (.k 5001 rfl .nil) (.k2 0 3 rfl rfl (.k 11 rfl .nil)) SubB.nil (fun p5_ o_5 h hD5 => (.sn mx (.lt rfl rfl (.nil (.seq (.cb rfl h (fun _ h => ?_) fun _ h => ?_)))))))
  ·
   refine .skip (.then (.seq ?_))
   obtain ⟨j_7, h, hK7⟩ := bind_some h
   unfold edit_counting_L1 at h
   refine .thenJ (ι := (List Bool)) (fun j_7 => []) (fun j_7 => [(5001, some (CPred.at s5001 (rowV 4 j_7)))]) (fun s => j_7 = s) (.k4 0 3 11 12 rfl rfl rfl rfl .nil) SubB.nil ?_ (fun j_7' hj7 => ?_)
   ·
    obtain ⟨hn8, h⟩ := need_some h
    exact .block (.sn mx (.mv rfl (.asn rfl (.nil (.rg [oo, oo, ([5001], []), ([5001], [5001])] mx (.mvA rfl (.mvA rfl (.ixO 5001 sl25 ty4 rfl rfl rfl hn8 (.cN (.storeElem0 (k := 5001) ty4 (.s rfl) rfl .bool hn8) (.nil (.blkNormal (Ends.j _ (some_eq h)))))))))))))
   ·
    subst hj7; have h := hK7; clear hK7
    exact .rn mx (.adi rfl (.mv rfl (.nil (Ends.ag (some_eq h)))))
  ·
   refine .exit (.thenExit (.thenExit (.blkExit ?_)))
   replace h := hD5 _ (some_eq h)
   exact Ends.j _ (some_eq h)
 ·
  subst hj4; have h := hK4; clear hK4
  obtain ⟨i1, hv9, h⟩ := bnd_some h
  refine .seq (.sn mx (.mv rfl (.ln sl22 rfl (.c (.subW .none (.s rfl) .i) (.ra hv9 rfl (.nil ?_))))))
  obtain ⟨j_10, h, hK10⟩ := bind_some h
  refine .thenJ (ι := (List Bool)) (fun j_10 => []) (fun j_10 => [(5001, some (CPred.at s5001 (rowV 4 j_10)))]) (fun s => j_10 = s) (.k 3 rfl .nil) SubB.nil ?_ (fun j_10' hj10 => ?_)
  ·
   refine .block (.loopL h (fun s11_ => [(5, ⟨True, rep s11_.1⟩)]) (fun s11_ => [(5001, some (CPred.at s5001 (rowV 4 s11_.2)))]) (.k 5 rfl .nil) (.k 5001 rfl .nil) (.k2 0 3 rfl rfl .nil) SubB.nil (fun s11_ o_11 h hD11 => ?_))
   unfold edit_counting_L2 at h
   refine .seq (.sn mx (.mv rfl (.c (.ge .none (.s rfl) .i) (.nil (.cb rfl h (fun _ h => ?_) fun _ h => ?_)))))
   ·
    refine .skip (.then (.seq ?_))
    obtain ⟨j_13, h, hK13⟩ := bind_some h
    refine .thenJ (ι := (List Bool)) (fun j_13 => []) (fun j_13 => [(5001, some (CPred.at s5001 (rowV 4 j_13)))]) (fun s => j_13 = s) (.k2 0 3 rfl rfl (.k 5 rfl .nil)) SubB.nil ?_ (fun j_13' hj13 => ?_)
    ·
     obtain ⟨hn14, h⟩ := need_some h
     obtain ⟨v2, hv15, h⟩ := bnd_some h
     obtain ⟨hn16, h⟩ := need_some h
     refine .block (.sr [oo, oo, oo, oo, ([], [6]), ([6], [6])] mx (.mvA rfl (.mvA rfl (.ixA sl22 ty42 rfl rfl hn14 (.rlA hv15 ty42 rfl (.al zo42 rfl (.st ty42 rfl rfl rfl (.nil (.freeze (t := 6) rfl rfl (.k 5001 rfl .nil) rfl (.sr [oo, oo, oo, oo, oo, oo, ([5001], []), ([5001], []), oo] mx (.faA fd42_1 hfd42_1 rfl (.ldA ty3 rfl (.cA (.eqI .none (.s rfl) .i) (.mvA rfl (.cA (.move (.at rfl rfl) (.s rfl)) (.cA (.move (.at rfl rfl) (.s rfl)) (.cA (.indexAddrO (k := 5001) (.at rfl rfl) sl25 ty4 (.tmp rfl id) rfl (.tmp rfl id) (fun hg => hn16 hg.2)) (.cA (.loadElem0 (k := 5001) (.at rfl rfl) ty4 (.tmp rfl id) rfl (fun hg => hn16 hg.2)) (.cA (.pickAnd .none (.s rfl) (.tmp rfl id)) (.nil (.cb rfl h (fun _ h => ?_) fun _ h => ?_)))))))))))))))))))))
     ·
      obtain ⟨hn18, h⟩ := need_some h
      exact .rg [oo, oo, oo, oo, oo, oo, oo, oo, oo, ([5001], []), ([5001], [5001])] mx (.mvA rfl (.mvA rfl (.faA fd42_0 hfd42_0 rfl (.faA fd40_2 hfd40_2 rfl (.ldA ty3 rfl (.subA rfl rfl (.faA fd42_5 hfd42_5 rfl (.ldA ty3 rfl (.addA rfl rfl (.ixO 5001 sl25 ty4 rfl rfl rfl hn18 (.cN (.storeElem0 (k := 5001) ty4 (.s rfl) rfl .bool hn18) (.nil (.blkNormal (Ends.j _ (some_eq h)))))))))))))))
     ·
      exact .skip (.blkNormal (Ends.j _ (some_eq h)))
    ·
     subst hj13; have h := hK13; clear hK13
     obtain ⟨i2, hv19, h⟩ := bnd_some h
     exact .rn mx (.mv rfl (.c (.subW .none (.s rfl) .i) (.ra hv19 rfl (.nil (Ends.ag (some_eq h))))))
   ·
    refine .exit (.thenExit (.thenExit (.blkExit ?_)))
    replace h := hD11 _ (some_eq h)
    exact Ends.j _ (some_eq h)
  ·
   subst hj10; have h := hK10; clear hK10
   refine .freezeRow (g := 5001) (ts := [3]) rfl (.cons (t := 3) rfl trivial .nil) SubB.nil rfl (.sn mx (.mv rfl (.asn rfl (.nil (.ret ?_)))))
   obtain rfl := some_eq h
   exact Ends.rt Tryz.results32 rfl

theorem edit_Counting_ok {l1 : (List DOp)} {r : ((List Bool) × Int)}  (h : edit_Counting l1 = some r) : FSpec Tryz.prog 7 [rep l1] (tup [rep r.1, rep r.2]) := by
 unfold edit_Counting at h
 obtain ⟨e1, hv1, h⟩ := bind_some h
 refine FSpec.i Tryz.func7 rfl Tryz.ntmps7 rfl (fun F => (.sn mx (.c (.assign .none (.const (x := ([] : (List Bool))) (fun M w => ⟨_, ⟨none, 0, rfl, Nat.le_refl _, by decide, rfl⟩, rfl⟩))) (.asi (.nil (.seq (.sn mx (.mv rfl (.c (.call .none (edit_Check_ok hv1) (.cons (.s rfl) .nil)) (.asn rfl (.nil (.sn mx (.mv rfl (.nei rfl (.nil (.cb rfl h (fun _ h => ?_) fun _ h => ?_))))))))))))))))
 ·
  refine .sn mx (.mv rfl (.c (.assign .none (.const (x := ([] : (List Bool))) (fun M w => ⟨_, ⟨none, 0, rfl, Nat.le_refl _, by decide, rfl⟩, rfl⟩))) (.asn rfl (.nil (.ret (.thenRet ?_))))))
  obtain rfl := some_eq h
  exact Ends.ret2 (.inl rfl) Tryz.results7 (ResOK.tmp rfl trivial Imp.refl) (ResOK.tmp rfl trivial Imp.refl)
 ·
  obtain ⟨r1, hv3, h⟩ := bind_some h
  refine .skip (.then (.sn mx (.mv rfl (.c (.call .none (edit_counting_ok hv3) (.cons (.s rfl) .nil)) (.asn rfl (.asi (.nil (.ret ?_))))))))
  obtain rfl := some_eq h
  exact Ends.ret2 (.inl rfl) Tryz.results7 (ResOK.tmp rfl trivial Imp.refl) (ResOK.tmp rfl trivial Imp.refl)

instance : Enc Stamp := Enc.via (fun x : Stamp => (x.Time, x.Site, x.No))
instance : Enc DOp := Enc.via (fun x : DOp => (x.Stamp, x.Kind, x.Id, x.Field, x.Value, x.Of))

theorem sortO_DOp : Sort.SWO (Proofs.ltOf sortC_DOp) := by
 have h : ∀ x y : { x : DOp // sortQ_DOp x }, Proofs.ltOf sortC_DOp x y = decide (cmpL x.1.Stamp.Time x.1.Stamp.Site.b x.1.Stamp.No y.1.Stamp.Time y.1.Stamp.Site.b y.1.Stamp.No < 0) := fun x y => rfl
 constructor
 ·
  intro x; rw [h, cmpL_self]; rfl
 ·
  intro x y z h1 h2
  rw [h] at *
  simp only [decide_eq_true_eq] at *
  exact (cmpL_trans (Int.le_of_lt h1) (Int.le_of_lt h2)).2 (.inl h1)
 ·
  intro x y z h1 h2
  rw [h] at *
  simp only [decide_eq_false_iff_not, Int.not_lt] at *
  have e1 := cmpL_swap x.1.Stamp.Time x.1.Stamp.Site.b x.1.Stamp.No y.1.Stamp.Time y.1.Stamp.Site.b y.1.Stamp.No
  have e2 := cmpL_swap y.1.Stamp.Time y.1.Stamp.Site.b y.1.Stamp.No z.1.Stamp.Time z.1.Stamp.Site.b z.1.Stamp.No
  have e3 := cmpL_swap x.1.Stamp.Time x.1.Stamp.Site.b x.1.Stamp.No z.1.Stamp.Time z.1.Stamp.Site.b z.1.Stamp.No
  have := (cmpL_trans (t := z.1.Stamp.Time) (s := z.1.Stamp.Site.b) (n := z.1.Stamp.No) (t' := y.1.Stamp.Time) (s' := y.1.Stamp.Site.b) (n' := y.1.Stamp.No) (t'' := x.1.Stamp.Time) (s'' := x.1.Stamp.Site.b) (n'' := x.1.Stamp.No) (by omega) (by omega)).1
  omega

theorem sortX_DOp (x y : { x : DOp // sortQ_DOp x }) (w0 : World) : Calls Tryz.prog 34 #[.agg (Enc.enc x.1).toArray, .agg (Enc.enc y.1).toArray] w0 fun e w' => e = .returned (.int .i64 (sortC_DOp x y)) ∧ ∃ q os', w' = Go.Sort.grow (w0.drewN q) os' := by
 obtain ⟨⟨⟨a1, a2, a3⟩, a4, a5, a6, a7, a8⟩, hx⟩ := x
 obtain ⟨⟨⟨b1, b2, b3⟩, b4, b5, b6, b7, b8⟩, hy⟩ := y
 exact laterE_at a1 a3 a4 a8 b1 b3 b4 b8 (cmpL a1 a2.b a3 b1 b2.b b3) (cmpO a2.b a3 b2.b b3) a2 a5 a6 a7 b2 b5 b6 b7 w0 (fun h => by rw [compareBytes_eq] at *; exact if_pos h) (fun h => by rw [compareBytes_eq] at h; exact if_neg (fun e => e h)) (fun h => if_pos h) (fun h => if_neg (fun e => e h))

theorem slices_SortFunc_Op_ok {l r : List DOp} {s : Value} (h : slices_SortFunc_Op l = some r) : FSpecO Tryz.prog 33 [isV s, cloV 34 []] [(s, rowV 42 l)] (anyV) [some (rowV 42 r)] := by
 obtain ⟨hl, h⟩ := need_some h
 obtain rfl := some_eq h
 exact sortF_spec sortF42_lay rfl rfl fnok33 fnok34 Tryz.underlying42 ty42 sortO_DOp sortX_DOp hl.1 hl.2

theorem edit_things_do_ok {t1 : (GMap Str (GMap Str Str))} {x1 : DOp} {r : (GMap Str (GMap Str Str))} {s27 : Value} (h : edit_things_do t1 x1 = some r) : FSpecO Tryz.prog 35 [isV s27, rep x1] [(s27, mapD none t1)] (anyV) [some (mapD none r)] := by
 unfold edit_things_do at h
 refine FSpecO.i Tryz.func35 rfl Tryz.ntmps35 rfl (fun F => (.sn mx (.c (.box .none (.s rfl)) (.nil (.seq (.sn mx (.fa fd42_1 hfd42_1 rfl (.ld ty3 rfl (.eqi rfl (.nil (.cb rfl h (fun _ h => ?_) fun _ h => ?_)))))))))))
 ·
  obtain ⟨c1, hv2, h⟩ := bnd_some h
  refine .sr [oo, oo, oo, ([27], [27])] mx (.mvA rfl (.faA fd42_2 hfd42_2 rfl (.ldA ty9 rfl (.cN (.mapDelD (q := 27) mo61 (.s rfl) rfl (.s rfl)) (.nil (.reB (t := 27) rfl (congrArg (fun y => CPred.at s27 (mapD none y)) hv2) (.ret (.thenRet ?_))))))))
  obtain rfl := some_eq h
  exact Ends.ret0O (.inl rfl) [27] Tryz.results35 (by decide) (.held rfl .nil)
 ·
  refine .skip (.then (.seq (.sr [oo, oo, oo, ([27], []), oo] mx (.mvA rfl (.faA fd42_2 hfd42_2 rfl (.ldA ty9 rfl (.cA (.lookNilM (q := 27) .none mo61 zrawm65 (.s rfl) rfl (.s rfl)) (.cA (.eqNilM .none Tryz.underlying65 (.s rfl)) (.nil ?_)))))))))
  obtain ⟨j_3, h, hK3⟩ := bind_some h
  refine .thenJ (ι := (GMap Str (GMap Str Str))) (fun j_3 => []) (fun j_3 => [(27, some (CPred.at s27 (mapD none j_3)))]) (fun s => j_3 = s) (.k2 0 3 rfl rfl .nil) SubB.nil ?_ (fun j_3' hj3 => ?_)
  ·
   refine .cb rfl h (fun _ h => ?_) fun _ h => ?_
   ·
    exact .rg [oo, oo, oo, ([], [18]), ([27, 18], [27, 18])] mx (.mvA rfl (.faA fd42_2 hfd42_2 rfl (.ldA ty9 rfl (.cW (.makeMap (K := Str) (V := Str) rfl) (.cN (.mapPutD (q := 27) (t := 18) mo61 rfl (.s rfl) rfl rfl rfl (.s rfl)) (.nil (Ends.j _ (some_eq h))))))))
   ·
    exact .skip (Ends.j _ (some_eq h))
  ·
   subst hj3; have h := hK3; clear hK3
   obtain ⟨hn5, h⟩ := need_some h
   refine .openM (q := 27) (r := 5001) (k := x1.Id) rfl rfl hn5 (fun s5001 => (.rg [oo, oo, oo, ([27], []), oo, oo, oo, oo, ([5001], [5001])] mx (.mvA rfl (.faA fd42_2 hfd42_2 rfl (.ldA ty9 rfl (.cA (.lookPin (q := 27) (z := s5001) .none mo61 zrawm65 (.s rfl) rfl (.s rfl)) (.faA fd42_3 hfd42_3 rfl (.ldA ty9 rfl (.faA fd42_4 hfd42_4 rfl (.ldA ty9 rfl (.cN (.mapUpdate (q := 5001) mo65 (.s rfl) rfl (.s rfl) (.s rfl)) (.nil (.closeM (q := 27) (r := 5001) rfl rfl rfl ?_)))))))))))))
   obtain rfl := some_eq h
   exact Ends.ret0O (.inr rfl) [27] Tryz.results35 (by decide) (.held rfl .nil)

instance : Enc Attr := Enc.via (fun x : Attr => (x.Field, x.Value))

theorem sortO_Attr : Sort.SWO (Proofs.ltOf sortC_Attr) := by
 have h : ∀ x y, Proofs.ltOf sortC_Attr x y = decide (cmpB x.1.Field.b y.1.Field.b < 0) := fun x y => rfl
 constructor
 ·
  intro x; rw [h, cmpB_self]; rfl
 ·
  intro x y z h1 h2
  rw [h] at *
  simp only [decide_eq_true_eq] at *
  exact (cmpB_trans (by omega) (by omega)).2 (.inl h1)
 ·
  intro x y z h1 h2
  rw [h] at *
  simp only [decide_eq_false_iff_not, Int.not_lt] at *
  have e1 := cmpB_swap x.1.Field.b y.1.Field.b
  have e2 := cmpB_swap y.1.Field.b z.1.Field.b
  have e3 := cmpB_swap x.1.Field.b z.1.Field.b
  have := (cmpB_trans (a := z.1.Field.b) (b := y.1.Field.b) (c := x.1.Field.b) (by omega) (by omega)).1
  omega

theorem sortX_Attr (x y : { x : Attr // sortQ_Attr x }) (w0 : World) : Calls Tryz.prog 60 #[.agg (Enc.enc x.1).toArray, .agg (Enc.enc y.1).toArray] w0 fun e w' => e = .returned (.int .i64 (sortC_Attr x y)) ∧ ∃ q os', w' = Go.Sort.grow (w0.drewN q) os' := by
 obtain ⟨⟨a1, a2⟩, hx⟩ := x
 obtain ⟨⟨b1, b2⟩, hy⟩ := y
 show Calls Tryz.prog 60 #[.agg #[.string ⟨a1.b.toArray⟩, .string ⟨a2.b.toArray⟩], .agg #[.string ⟨b1.b.toArray⟩, .string ⟨b2.b.toArray⟩]] w0 fun e w' => e = .returned (.int .i64 (cmpB a1.b b1.b)) ∧ ∃ q os', w' = Go.Sort.grow (w0.drewN q) os'
 clear hx hy
 rw [← compareBytes_eq]
 go_enter Tryz.func60, Tryz.ntmps60
 go_wp2_with (go_at_call 52; refine (Proofs.Any.strings_Compare compareStr_lay _ _ _).mono ?_; rintro e w' ⟨rfl, rfl⟩)
 go_ret
 exact ⟨by simp, 0, _, by rw [Go.Sort.alloc_eq_grow, Go.Sort.alloc_eq_grow, Go.Sort.grow_grow]; rfl⟩

theorem slices_SortFunc_Attr_ok {l r : List Attr} {s : Value} (h : slices_SortFunc_Attr l = some r) : FSpecO Tryz.prog 59 [isV s, cloV 60 []] [(s, rowV 78 l)] (anyV) [some (rowV 78 r)] := by
 obtain ⟨hl, h⟩ := need_some h
 obtain rfl := some_eq h
 exact sortF_spec sortF78_lay rfl rfl fnok59 fnok60 Tryz.underlying78 ty78 sortO_Attr sortX_Attr hl.1 hl.2

theorem sortX_Thing (x y : Str × SlV) (w0 : World) : Calls Tryz.prog 62 #[.agg (Enc.enc x).toArray, .agg (Enc.enc y).toArray] w0 fun e w' => e = .returned (.int .i64 (cmpB x.1.b y.1.b)) ∧ ∃ q os', w' = Go.Sort.grow (w0.drewN q) os' := by
 obtain ⟨a1, a2, a3, a4⟩ := x
 obtain ⟨b1, b2, b3, b4⟩ := y
 show Calls Tryz.prog 62 #[.agg #[.string ⟨a1.b.toArray⟩, .slice a2 a3 a4], .agg #[.string ⟨b1.b.toArray⟩, .slice b2 b3 b4]] w0 fun e w' => e = .returned (.int .i64 (cmpB a1.b b1.b)) ∧ ∃ q os', w' = Go.Sort.grow (w0.drewN q) os'
 rw [← compareBytes_eq]
 go_enter Tryz.func62, Tryz.ntmps62
 go_wp2_with (go_at_call 52; refine (Proofs.Any.strings_Compare compareStr_lay _ _ _).mono ?_; rintro e w' ⟨rfl, rfl⟩)
 go_ret
 exact ⟨by simp, 0, _, by rw [Go.Sort.alloc_eq_grow, Go.Sort.alloc_eq_grow, Go.Sort.grow_grow]; rfl⟩

theorem slices_SortFunc_Thing_ok {l r : List Thing} {s : Value} (h : slices_SortFunc_Thing l = some r) : FSpecO Tryz.prog 61 [isV s, cloV 62 []] [(s, rowV 75 l)] (anyV) [some (rowV 75 r)] := by
 obtain ⟨hl, h⟩ := need_some h
 obtain rfl := some_eq h
 exact sortU_spec sortF75_lay (fun x : Thing => (x.Id, x.Attrs)) rfl rfl fnok61 fnok62 Tryz.underlying75 tyU75 sortX_Thing hl.1 hl.2

theorem edit_things_listed_ok {t1 : (GMap Str (GMap Str Str))} {r : (List Thing)}  (h : edit_things_listed t1 = some r) : FSpec Tryz.prog 36 [rep t1] (rep r) := by
 unfold edit_things_listed at h
 refine FSpec.i Tryz.func36 rfl Tryz.ntmps36 rfl (fun F => (.sn mx (.c (.assign .none (.const (x := ([] : (List Thing))) (fun M w => ⟨_, ⟨none, 0, rfl, Nat.le_refl _, by decide, rfl⟩, rfl⟩))) (.nil (.sr [([], [3])] mx (.cW (.nilRow (T := 75) (α := Thing) rfl) (.nil (.nameRow (t := 3) (g := 5001) rfl rfl rfl (fun s5001 => (.seq (.sr [oo, ([], [10])] mx (.mvA rfl (.cW (.rangeMap Tryz.underlying61 rfl (.s rfl)) (.nil (.nameAt (t := 10) (g := 5002) rfl rfl isBox_iterF rfl (fun m5002 => ?_))))))))))))))))
 obtain ⟨P1, h, hK1⟩ := mrangeK_some h
 refine .thenJ (ι := (List Thing)) (fun j_1 => []) (fun j_1 => [(3, some (rowV 75 j_1))]) (fun s => P1 s) (.k 10 rfl .nil) SubB.nil ?_ (fun j_1 hj1 => ?_)
 ·
  refine .block (.anon (t := 3) (g := 5001) rfl rfl trivial rfl (.listsF (q := 5002) rfl (fun hf2 => (.mrangeKL h hf2 (fun p2_ => []) (fun p2_ => [(5002, some (CPred.at (ptr m5002 0) (iterF t1 p2_.1))), (3, some (rowV 75 p2_.2))]) Sub.nil (.k2 5002 3 rfl rfl .nil) (.k 10 rfl .nil) SubB.nil (fun p2_ H2 => (.nameRow (t := 3) (g := 5003) rfl rfl rfl (fun s5003 => (.sr [([5002], [11, 5002]), ([11], [12, 11])] mx (.cW (.nextF (k := 5002) rfl rfl (.s rfl)) (.cW (.nextedOk (d := 11) rfl rfl) (.nil (.openNext (t := 12) (k := 5002) rfl rfl rfl (fun o2_ ho2 => ?_)))))))))))))
  obtain ⟨out2_, h, hD2⟩ := H2 o2_ ho2
  refine .againM (fun s' hs' => ⟨o2_, ho2, h.trans (congrArg some hs')⟩) (.seq ?_)
  cases o2_ with
  | some x2_ =>
   replace h := mstep_some h
   refine .condT (t := 12) rfl trivial rfl (.skip (.then ?_))
   obtain ⟨j_3, h, hK3⟩ := bind_some h
   unfold edit_things_listed_L1 at h
   refine .tailJ (ι := (List Thing)) (fun j_3 => []) (fun j_3 => [(3, some (rowV 75 j_3))]) (fun s => j_3 = s) (.k 10 rfl .nil) (.k 5002 rfl .nil) ?_ (fun j_3' hj3 => ?_)
   ·
    refine .block (.sr [([5002], []), oo, oo, oo, oo] mx (.cA (.entryF (k := 5002) (p := p2_.1) (y := x2_) rfl (.s rfl)) (.exA rfl rfl (.exA rfl rfl (.asnA rfl (.asnA rfl (.nil (.sr [oo, oo, ([], [6]), ([6], [6])] mx (.mvA rfl (.cA (.buildF (y := (⟨x2_.1, ⟨.slice none 0 0⟩⟩ : Thing_o1)) .none bu75 zvc_Thing_o1 rfl (.cons (.s rfl) .nil) (.cons rfl sv_Thing_o1_0 .nil)) (.al zo75 rfl (.cN (.storeH tyv_Thing_o1 rfl (by rfl) rfl (.s rfl)) (.nil (.nameAt (t := 6) (g := 5004) rfl rfl isBox_cont rfl (fun m5004 => (.nilKey (g := 5005) (T := 78) (α := Attr) rfl (.seq (.sr [oo, ([], [19])] mx (.mvA rfl (.cW (.rangeMap Tryz.underlying65 rfl (.s rfl)) (.nil (.nameAt (t := 19) (g := 5006) rfl rfl isBox_iterF rfl (fun m5006 => ?_)))))))))))))))))))))))
    obtain ⟨P4, h, hK4⟩ := mrangeK_some h
    refine .thenJ (ι := Thing) (fun j_4 => []) (fun j_4 => [(5004, some (CPred.at (ptr m5004 0) (deep (fun z0 => cont 75 (⟨j_4.Id, ⟨z0⟩⟩ : Thing_o1)) (rowV 78 j_4.Attrs))))]) (fun s => P4 s) (.k4 3 6 10 19 rfl rfl rfl rfl .nil) (.k2 5002 5003 rfl rfl .nil) ?_ (fun j_4 hj4 => ?_)
    ·
     refine .block (.close (k := 5004) (g := 5005) (fun z => cont 75 (⟨x2_.1, ⟨z⟩⟩ : Thing_o1)) rfl rfl rfl (.listsF (q := 5006) rfl (fun hf5 => (.mrangeKL h hf5 (fun p5_ => []) (fun p5_ => [(5006, some (CPred.at (ptr m5006 0) (iterF x2_.2 p5_.1))), (5004, some (CPred.at (ptr m5004 0) (deep (fun z0 => cont 75 (⟨p5_.2.Id, ⟨z0⟩⟩ : Thing_o1)) (rowV 78 p5_.2.Attrs))))]) Sub.nil (.k2 5006 5004 rfl rfl .nil) (.k4 3 6 10 19 rfl rfl rfl rfl .nil) (.k2 5002 5003 rfl rfl .nil) (fun p5_ H5 => (.open (k := 5004) (g := 5007) rfl rfl (fun s5007 => (.sr [([5006], [20, 5006]), ([20], [21, 20])] mx (.cW (.nextF (k := 5006) rfl rfl (.s rfl)) (.cW (.nextedOk (d := 20) rfl rfl) (.nil (.openNext (t := 21) (k := 5006) rfl rfl rfl (fun o5_ ho5 => ?_)))))))))))))
     obtain ⟨out5_, h, hD5⟩ := H5 o5_ ho5
     refine .againM (fun s' hs' => ⟨o5_, ho5, h.trans (congrArg some hs')⟩) (.seq ?_)
     cases o5_ with
     | some x5_ =>
      replace h := mstep_some h
      refine .condT (t := 21) rfl trivial rfl (.skip (.then ?_))
      obtain ⟨j_6, h, hK6⟩ := bind_some h
      unfold edit_things_listed_L2 at h
      refine .tailJ (ι := Thing) (fun j_6 => []) (fun j_6 => [(5004, some (CPred.at (ptr m5004 0) (deep (fun z0 => cont 75 (⟨j_6.Id, ⟨z0⟩⟩ : Thing_o1)) (rowV 78 j_6.Attrs))))]) (fun s => j_6 = s) (.k4 3 6 10 19 rfl rfl rfl rfl .nil) (.k2 5002 5003 rfl rfl (.k 5006 rfl .nil)) ?_ (fun j_6' hj6 => ?_)
      ·
       obtain ⟨hn7, h⟩ := need_some h
       exact .block (.sr [([5006], []), oo, oo, oo, oo] mx (.cA (.entryF (k := 5006) (p := p5_.1) (y := x5_) rfl (.s rfl)) (.exA rfl rfl (.exA rfl rfl (.asnA rfl (.asnA rfl (.nil (.rg [oo, ([5004], []), oo, oo, oo, oo, ([5007], [31, 5007]), oo, ([5004, 31], [5004, 31])] mx (.cA (.fieldPtr .none fd75_1 (.s rfl)) (.cA (.loadAt (k := 5004) .none tr73 rfl (.s rfl) hv_Thing_o1_1) (.mvA rfl (.mvA rfl (.cA (.buildF (y := (⟨x5_.1, x5_.2⟩ : Attr)) .none bu78 zc78 rfl (.cons (.s rfl) (.cons (.s rfl) .nil)) (.cons rfl sf78_0 (.cons rfl sf78_1 .nil))) (.cA (.buildSlice (xs := [_]) .none sl73 ty78 hz78 (.cons (.s rfl) .nil) rfl (by decide)) (.cW (.append (k := 5007) rk73 rfl (.told (.s rfl) rfl) (.s rfl) hn7) (.cA (.fieldPtr .none fd75_1 (.s rfl)) (.cN (.storeRow (k := 5004) (t := 31) ty73 rfl (.s rfl) sv_Thing_o1_1 rfl rfl) (.nil (.blkNormal (Ends.j _ (some_eq h)))))))))))))))))))))
      ·
       subst hj6; have h := hK6; clear hK6
       exact Ends.ag (some_eq h)
     | none =>
      replace h := mstep_none h
      refine .condF (t := 21) rfl trivial rfl (.exit (.thenExit (.thenExit (.blkExit (.close (k := 5004) (g := 5007) (fun z => cont 75 (⟨p5_.2.Id, ⟨z⟩⟩ : Thing_o1)) rfl rfl rfl ?_)))))
      replace h := hD5 _ (some_eq h)
      exact Ends.join _ h (.k4 3 6 10 19 rfl rfl rfl rfl .nil) (.k2 5004 5002 rfl rfl (.k 5003 rfl .nil))
    ·
     have h := hK4 _ hj4; clear hK4
     obtain ⟨r1, hv8, h⟩ := bind_some h
     refine .open (k := 5004) (g := 5008) rfl rfl (fun s5008 => (.sr [oo, ([5004], []), ([5008], [5008])] mx (.cA (.fieldPtr .none fd75_1 (.s rfl)) (.cA (.loadAt (k := 5004) .none tr73 rfl (.s rfl) hv_Thing_o1_1) (.cW (.cO [5008] (slices_SortFunc_Attr_ok hv8) (.cons (.s rfl) (.cons .funcC .nil)) (.cons (k := 5008) rfl .nil) rfl) (.nil (.close (k := 5004) (g := 5008) (fun z => cont 75 (⟨j_4.Id, ⟨z⟩⟩ : Thing_o1)) rfl rfl rfl (.freezeAt (g := 5004) (S := ref ({ j_4 with Attrs := r1 } : Thing)) (ts := [6]) rfl (.cons (t := 6) rfl trivial .nil) (.k2 5002 5003 rfl rfl .nil) rfl (fun M D w h hms => deep_ref1 (mk := (fun s1_ => (⟨j_4.Id, ⟨s1_⟩⟩ : Thing_o1))) (y := ({ j_4 with Attrs := r1 } : Thing)) frzRow rfl (fun M s1_ cs w hc g1 => by obtain ⟨c0, q0, e0, h0, h1⟩ := hc; exact ⟨c0, q0, e0, h0, raw_cells rfl rfl h1 g1⟩) M D w h hms) ?_))))))))
     obtain ⟨hn9, h⟩ := need_some h
     exact .rg [oo, oo, oo, ([5003], [39, 5003]), ([39], [3, 39])] mx (.mvA rfl (.ldA ty75 rfl (.cA (.buildSlice (xs := [_]) .none sl28 ty75 hz75 (.cons (.s rfl) .nil) rfl (by decide)) (.cW (.append (k := 5003) rk28 rfl (.told (.s rfl) rfl) (.s rfl) hn9) (.cW (.passRow rfl (.tmp rfl)) (.nil (.blkNormal (Ends.j _ (some_eq h)))))))))
   ·
    subst hj3; have h := hK3; clear hK3
    exact Ends.ag (some_eq h)
  | none =>
   replace h := mstep_none h
   refine .condF (t := 12) rfl trivial rfl (.exit (.thenExit (.thenExit (.blkExit (.anon (t := 3) (g := 5003) rfl rfl trivial rfl ?_)))))
   replace h := hD2 _ (some_eq h)
   exact Ends.join _ h (.k 10 rfl .nil) (.k 3 rfl .nil)
 ·
  have h := hK1 _ hj1; clear hK1
  obtain ⟨r2, hv10, h⟩ := bind_some h
  refine .nameRow (t := 3) (g := 5009) rfl rfl rfl (fun s5009 => (.sr [oo, ([5009], [5009])] mx (.mvA rfl (.cW (.cO [5009] (slices_SortFunc_Thing_ok hv10) (.cons (.s rfl) (.cons .funcC .nil)) (.cons (k := 5009) rfl .nil) rfl) (.nil (.freezeRow (g := 5009) (ts := [3]) rfl (.cons (t := 3) rfl trivial .nil) SubB.nil rfl (.sn mx (.mv rfl (.asn rfl (.nil (.ret ?_)))))))))))
  obtain rfl := some_eq h
  exact Ends.rt Tryz.results36 rfl

theorem edit_State_ok {l1 : (List DOp)} {r : ((List Thing) × Int)}  (h : edit_State l1 = some r) : FSpec Tryz.prog 8 [rep l1] (tup [rep r.1, rep r.2]) := by
 unfold edit_State at h
 obtain ⟨e1, hv1, h⟩ := bind_some h
 refine FSpec.i Tryz.func8 rfl Tryz.ntmps8 rfl (fun F => (.sn mx (.c (.assign .none (.const (x := ([] : (List Thing))) (fun M w => ⟨_, ⟨none, 0, rfl, Nat.le_refl _, by decide, rfl⟩, rfl⟩))) (.asi (.nil (.seq (.sn mx (.mv rfl (.c (.call .none (edit_Check_ok hv1) (.cons (.s rfl) .nil)) (.asn rfl (.nil (.sn mx (.mv rfl (.nei rfl (.nil (.cb rfl h (fun _ h => ?_) fun _ h => ?_))))))))))))))))
 ·
  refine .sn mx (.mv rfl (.c (.assign .none (.const (x := ([] : (List Thing))) (fun M w => ⟨_, ⟨none, 0, rfl, Nat.le_refl _, by decide, rfl⟩, rfl⟩))) (.asn rfl (.nil (.ret (.thenRet ?_))))))
  obtain rfl := some_eq h
  exact Ends.ret2 (.inl rfl) Tryz.results8 (ResOK.tmp rfl trivial Imp.refl) (ResOK.tmp rfl trivial Imp.refl)
 ·
  obtain ⟨r1, hv3, h⟩ := bind_some h
  refine .skip (.then (.sr [([], [5])] mx (.cW (.nilRow (T := 42) (α := DOp) rfl) (.nil (.nameRow (t := 5) (g := 5001) rfl rfl rfl (fun s5001 => (.seq (.sn mx (.mv rfl (.c (.call .none (edit_counting_ok hv3) (.cons (.s rfl) .nil)) (.ln sl25 rfl (.mvi (.nil ?_)))))))))))))
  obtain ⟨j_4, h, hK4⟩ := bind_some h
  refine .thenJ (ι := (List DOp)) (fun j_4 => []) (fun j_4 => [(5, some (rowV 42 j_4))]) (fun s => j_4 = s) Sub.nil SubB.nil ?_ (fun j_4' hj4 => ?_)
  ·
   refine .block (.anon (t := 5) (g := 5001) rfl rfl trivial rfl (.rforL h (fun p5_ => [(19, ⟨True, rep p5_.1⟩)]) (fun p5_ => [(5, some (rowV 42 p5_.2))]) (.k 19 rfl .nil) (.k 5 rfl .nil) (.k2 0 17 rfl rfl (.k 18 rfl .nil)) SubB.nil (fun p5_ o_5 h hD5 => (.nameRow (t := 5) (g := 5002) rfl rfl rfl (fun s5002 => (.sn mx (.lt rfl rfl (.nil (.seq (.cb rfl h (fun _ h => ?_) fun _ h => ?_))))))))))
   ·
    refine .skip (.then (.seq ?_))
    obtain ⟨j_7, h, hK7⟩ := bind_some h
    unfold edit_State_L1 at h
    refine .thenJ (ι := (List DOp)) (fun j_7 => []) (fun j_7 => [(5, some (rowV 42 j_7))]) (fun s => j_7 = s) (.k4 0 17 18 19 rfl rfl rfl rfl .nil) SubB.nil ?_ (fun j_7' hj7 => ?_)
    ·
     obtain ⟨hn8, h⟩ := need_some h
     obtain ⟨hn9, h⟩ := need_some h
     refine .block (.sn mx (.mv rfl (.ix sl25 ty4 rfl rfl hn8 (.ld ty4 rfl (.asn rfl (.asn rfl (.nil (.sn mx (.mv rfl (.mv rfl (.mg rfl rfl rfl (.mg rfl rfl rfl (.c (.indexAddr (.at rfl rfl) sl22 ty42 (.tmp rfl id) (.tmp rfl id) (fun hg => hn9 hg.2)) (.c (.fieldAddr (.at rfl rfl) fd42_1 hfd42_1 (.tmp rfl id)) (.lg ty3 rfl rfl rfl (.c (.neI (.at rfl rfl) (.tmp rfl id) .i) (.pa rfl rfl (.nil (.cb rfl h (fun _ h => ?_) fun _ h => ?_)))))))))))))))))))
     ·
      obtain ⟨hn11, h⟩ := need_some h
      obtain ⟨hn12, h⟩ := need_some h
      exact .rg [oo, oo, oo, oo, oo, oo, ([5002], [39, 5002]), ([39], [5, 39])] mx (.mvA rfl (.mvA rfl (.mvA rfl (.ixA sl22 ty42 rfl rfl hn11 (.ldA ty42 rfl (.cA (.buildSlice (xs := [_]) .none sl22 ty42 hz42 (.cons (.s rfl) .nil) rfl (by decide)) (.cW (.append (k := 5002) rk22 rfl (.told (.s rfl) rfl) (.s rfl) hn12) (.consWD (.passRow rfl (.tmp rfl)) rfl rfl (.nil (.blkNormal (Ends.j _ (some_eq h))))))))))))
     ·
      exact .skip (.blkNormal (.anon (t := 5) (g := 5002) rfl rfl trivial rfl (Ends.j _ (some_eq h))))
    ·
     subst hj7; have h := hK7; clear hK7
     exact .nameRow (t := 5) (g := 5003) rfl rfl rfl (fun s5003 => (.rn mx (.adi rfl (.mv rfl (.nil (.anon (t := 5) (g := 5003) rfl rfl trivial rfl (Ends.ag (some_eq h))))))))
   ·
    refine .exit (.thenExit (.thenExit (.blkExit (.anon (t := 5) (g := 5002) rfl rfl trivial rfl ?_))))
    replace h := hD5 _ (some_eq h)
    exact Ends.j _ (some_eq h)
  ·
   subst hj4; have h := hK4; clear hK4
   obtain ⟨r2, hv13, h⟩ := bind_some h
   obtain ⟨t1, hv14, h⟩ := bnd_some h
   refine .nameRow (t := 5) (g := 5004) rfl rfl rfl (fun s5004 => (.sr [oo, ([5004], [5004])] mx (.mvA rfl (.cW (.cO [5004] (slices_SortFunc_Op_ok hv13) (.cons (.s rfl) (.cons .funcC .nil)) (.cons (k := 5004) rfl .nil) rfl) (.nil (.freezeRow (g := 5004) (ts := [5]) rfl (.cons (t := 5) rfl trivial .nil) SubB.nil rfl (.sr [([], [43]), ([43], [8, 43])] mx (.cW (.makeMapD (K := Str) (K2 := Str) (V := Str) rfl) (.cW (.passRow rfl (.tmp rfl)) (.nil (.reB (t := 8) rfl (congrArg (mapD none) hv14) (.nameC (t := 8) (g := 5005) oneMapD rfl rfl rfl (fun s5005 => (.seq (.sn mx (.mv rfl (.ln sl22 rfl (.mvi (.nil ?_)))))))))))))))))))
   obtain ⟨j_15, h, hK15⟩ := bind_some h
   refine .thenJ (ι := (GMap Str (GMap Str Str))) (fun j_15 => []) (fun j_15 => [(5005, some (CPred.at s5005 (mapD none j_15)))]) (fun s => j_15 = s) (.k 8 rfl .nil) SubB.nil ?_ (fun j_15' hj15 => ?_)
   ·
    refine .block (.rforL h (fun p16_ => [(46, ⟨True, rep p16_.1⟩)]) (fun p16_ => [(5005, some (CPred.at s5005 (mapD none p16_.2)))]) (.k 46 rfl .nil) (.k 5005 rfl .nil) (.k2 8 44 rfl rfl (.k 45 rfl .nil)) SubB.nil (fun p16_ o_16 h hD16 => (.sn mx (.lt rfl rfl (.nil (.seq (.cb rfl h (fun _ h => ?_) fun _ h => ?_)))))))
    ·
     refine .skip (.then (.seq ?_))
     obtain ⟨j_18, h, hK18⟩ := bind_some h
     unfold edit_State_L2 at h
     refine .thenJ (ι := (GMap Str (GMap Str Str))) (fun j_18 => []) (fun j_18 => [(5005, some (CPred.at s5005 (mapD none j_18)))]) (fun s => j_18 = s) (.k4 8 44 45 46 rfl rfl rfl rfl .nil) SubB.nil ?_ (fun j_18' hj18 => ?_)
     ·
      obtain ⟨hn19, h⟩ := need_some h
      obtain ⟨v1, hv20, h⟩ := bnd_some h
      obtain ⟨r3, hv21, h⟩ := bind_some h
      exact .block (.sr [oo, oo, ([], [10]), ([10], [10])] mx (.ixA sl22 ty42 rfl rfl hn19 (.rlA hv20 ty42 rfl (.al zo42 rfl (.st ty42 rfl rfl rfl (.nil (.freeze (t := 10) rfl rfl (.k 5005 rfl .nil) rfl (.rg [oo, oo, ([5005], [5005])] mx (.mvA rfl (.ldA ty42 rfl (.cW (.cO [5005] (edit_things_do_ok hv21) (.cons (.s rfl) (.cons (.s rfl) .nil)) (.cons (k := 5005) rfl .nil) rfl) (.nil (.blkNormal (Ends.j _ (some_eq h)))))))))))))))
     ·
      subst hj18; have h := hK18; clear hK18
      exact .rn mx (.adi rfl (.mv rfl (.nil (Ends.ag (some_eq h)))))
    ·
     refine .exit (.thenExit (.thenExit (.blkExit ?_)))
     replace h := hD16 _ (some_eq h)
     exact Ends.j _ (some_eq h)
   ·
    subst hj15; have h := hK15; clear hK15
    refine .freezeAt (g := 5005) (S := rep j_15) (ts := [8]) rfl (.cons (t := 8) rfl trivial .nil) SubB.nil rfl (fun M D w h hms => mapD_rep h hms) ?_
    obtain ⟨r4, hv22, h⟩ := bind_some h
    refine .sn mx (.mv rfl (.c (.call .none (edit_things_listed_ok hv22) (.cons (.s rfl) .nil)) (.asn rfl (.asi (.nil (.ret ?_))))))
    obtain rfl := some_eq h
    exact Ends.ret2 (.inl rfl) Tryz.results8 (ResOK.tmp rfl trivial Imp.refl) (ResOK.tmp rfl trivial Imp.refl)

theorem law_edits_ok  {r : Bool}  (h : law_edits  = some r) : FSpec Tryz.prog 9 [] (rep r) := by
 unfold law_edits at h
 obtain ⟨r1, hv1, h⟩ := bind_some h
 obtain ⟨r2, hv2, h⟩ := bind_some h
 refine FSpec.i Tryz.func9 rfl Tryz.ntmps9 rfl (fun F => (.sn mx (.asb (.nil (.sn mx (.c (.call .none (edit_Check_ok hv1) (.cons (.const (x := ([] : (List DOp))) (fun M w => ⟨_, ⟨none, 0, rfl, Nat.le_refl _, by decide, rfl⟩, rfl⟩)) .nil)) (.eqi rfl (.mv rfl (.c (.buildF (y := (⟨(⟨(0 : Int), Str.nil, (0 : Int)⟩ : Stamp), (0 : Int), Str.nil, Str.nil, Str.nil, (0 : Int)⟩ : DOp)) (.at rfl rfl) bu42 zc42 rfl .nil .nil) (.c (.buildSlice (xs := [_]) (.at rfl rfl) sl22 ty42 hz42 (.cons (.tmp rfl id) .nil) rfl (by decide)) (.c (.callIf (.at rfl rfl) fnok6 (fun hg => edit_Check_ok ((fun hg => gd_some hv2 (hg.2)) hg)) (.cons (.tmp rfl id) .nil) (fun h => h)) (.c (.eqI (.at rfl rfl) (.tmp rfl id) .i) (.pa rfl rfl (.asn rfl (.nil (.ret ?_))))))))))))))))
 obtain rfl := some_eq h
 exact Ends.rt Tryz.results9 rfl

theorem ref_CountingOf_ok {l1 : (List DOp)} {r : (List Bool)}  (h : ref_CountingOf l1 = some r) : FSpec Tryz.prog 12 [rep l1] (rep r) := by
 unfold ref_CountingOf at h
 obtain ⟨v1, hv1, h⟩ := bnd_some h
 obtain ⟨hn2, h⟩ := need_some h
 obtain ⟨out1, hv3, h⟩ := bnd_some h
 obtain ⟨i1, hv4, h⟩ := bnd_some h
 refine FSpec.i Tryz.func12 rfl Tryz.ntmps12 rfl (fun F => (.sn mx (.c (.assign .none (.const (x := ([] : (List Bool))) (fun M w => ⟨_, ⟨none, 0, rfl, Nat.le_refl _, by decide, rfl⟩, rfl⟩))) (.nil (.sr [oo, oo, ([], [8]), ([8], [3, 8])] mx (.mvA rfl (.cA (.re hv1 (.len .none sl22 (.s rfl))) (.cW (.makeSlice rk25 zo4 rfl (.s rfl) (.s rfl) hn2) (.cW (.passRow rfl (.tmp rfl)) (.nil (.reB (t := 3) rfl (congrArg (rowV 4) hv3) (.nameRow (t := 3) (g := 5001) rfl rfl rfl (fun s5001 => (.seq (.sn mx (.mv rfl (.ln sl22 rfl (.c (.subW .none (.s rfl) .i) (.ra hv4 rfl (.nil ?_))))))))))))))))))))
 obtain ⟨j_5, h, hK5⟩ := bind_some h
 refine .thenJ (ι := (List Bool)) (fun j_5 => []) (fun j_5 => [(5001, some (CPred.at s5001 (rowV 4 j_5)))]) (fun s => j_5 = s) (.k 3 rfl .nil) SubB.nil ?_ (fun j_5' hj5 => ?_)
 ·
  refine .block (.loopL h (fun s6_ => [(4, ⟨True, rep s6_.1⟩)]) (fun s6_ => [(5001, some (CPred.at s5001 (rowV 4 s6_.2)))]) (.k 4 rfl .nil) (.k 5001 rfl .nil) (.k2 0 3 rfl rfl .nil) SubB.nil (fun s6_ o_6 h hD6 => ?_))
  unfold ref_CountingOf_L1 at h
  refine .seq (.sn mx (.mv rfl (.c (.ge .none (.s rfl) .i) (.nil (.cb rfl h (fun _ h => ?_) fun _ h => ?_)))))
  ·
   refine .skip (.then (.seq ?_))
   obtain ⟨j_8, h, hK8⟩ := bind_some h
   refine .thenJ (ι := (List Bool)) (fun j_8 => []) (fun j_8 => [(5001, some (CPred.at s5001 (rowV 4 j_8)))]) (fun s => j_8 = s) (.k2 0 3 rfl rfl (.k 4 rfl .nil)) SubB.nil ?_ (fun j_8' hj8 => ?_)
   ·
    obtain ⟨hn9, h⟩ := need_some h
    obtain ⟨out2, hv10, h⟩ := bnd_some h
    obtain ⟨j1, hv11, h⟩ := bnd_some h
    refine .block (.sr [oo, oo, ([5001], []), ([5001], [5001])] mx (.mvA rfl (.mvA rfl (.ixO 5001 sl25 ty4 rfl rfl rfl hn9 (.cN (.storeElem0 (k := 5001) ty4 (.s rfl) rfl .bool hn9) (.nil (.reB (t := 5001) rfl (congrArg (fun y => CPred.at s5001 (rowV 4 y)) hv10) (.sn mx (.mv rfl (.adi rfl (.ra hv11 rfl (.nil (.block (.loopL h (fun s12_ => [(5, ⟨True, rep s12_.1⟩)]) (fun s12_ => [(5001, some (CPred.at s5001 (rowV 4 s12_.2)))]) (.k 5 rfl .nil) (.k 5001 rfl .nil) (.k2 0 3 rfl rfl (.k 4 rfl .nil)) SubB.nil (fun s12_ o_12 h hD12 => ?_)))))))))))))))
    unfold ref_CountingOf_L2 at h
    refine .seq (.sn mx (.mv rfl (.mv rfl (.ln sl22 rfl (.lt rfl rfl (.nil (.cb rfl h (fun _ h => ?_) fun _ h => ?_)))))))
    ·
     refine .skip (.then (.seq ?_))
     obtain ⟨j_14, h, hK14⟩ := bind_some h
     refine .thenJ (ι := (List Bool)) (fun j_14 => []) (fun j_14 => [(5001, some (CPred.at s5001 (rowV 4 j_14)))]) (fun s => j_14 = s) (.k4 0 3 4 5 rfl rfl rfl rfl .nil) SubB.nil ?_ (fun j_14' hj14 => ?_)
     ·
      obtain ⟨hn15, h⟩ := need_some h
      obtain ⟨hn16, h⟩ := need_some h
      obtain ⟨hn17, h⟩ := need_some h
      obtain ⟨hn18, h⟩ := need_some h
      obtain ⟨hn19, h⟩ := need_some h
      obtain ⟨hn20, h⟩ := need_some h
      refine .block (.sr [oo, oo, ([5001], []), ([5001], []), oo, oo, oo, oo, oo, oo, oo, oo, oo, oo, oo, oo, oo, oo, oo, oo, oo, oo, oo, oo, oo, oo, oo, oo, oo, oo, oo, oo, oo, oo, oo, oo, oo, oo, oo, oo, oo] mx (.mvA rfl (.mvA rfl (.ixO 5001 sl25 ty4 rfl rfl rfl hn15 (.cA (.loadElem0 (k := 5001) .none ty4 (.s rfl) rfl (fun _ => hn15)) (.mvA rfl (.cA (.move (.at rfl rfl) (.s rfl)) (.cA (.move (.at rfl rfl) (.s rfl)) (.cA (.indexAddr (.at rfl rfl) sl22 ty42 (.tmp rfl id) (.tmp rfl id) (fun hg => hn16 hg.2)) (.cA (.fieldAddr (.at rfl rfl) fd42_1 hfd42_1 (.tmp rfl id)) (.cA (.load (.at rfl rfl) ty3 (.tmp rfl id)) (.cA (.eqI (.at rfl rfl) (.tmp rfl id) .i) (.cA (.pickAnd .none (.s rfl) (.tmp rfl id)) (.mvA rfl (.cA (.move (.at rfl rfl) (.s rfl)) (.cA (.move (.at rfl rfl) (.s rfl)) (.cA (.indexAddr (.at rfl rfl) sl22 ty42 (.tmp rfl id) (.tmp rfl id) (fun hg => hn17 hg.2)) (.cA (.fieldAddr (.at rfl rfl) fd42_0 hfd42_0 (.tmp rfl id)) (.cA (.fieldAddr (.at rfl rfl) fd40_1 hfd40_1 (.tmp rfl id)) (.cA (.load (.at rfl rfl) ty9 (.tmp rfl id)) (.cA (.move (.at rfl rfl) (.s rfl)) (.cA (.move (.at rfl rfl) (.s rfl)) (.cA (.indexAddr (.at rfl rfl) sl22 ty42 (.tmp rfl id) (.tmp rfl id) (fun hg => hn18 hg.2)) (.cA (.fieldAddr (.at rfl rfl) fd42_0 hfd42_0 (.tmp rfl id)) (.cA (.fieldAddr (.at rfl rfl) fd40_1 hfd40_1 (.tmp rfl id)) (.cA (.load (.at rfl rfl) ty9 (.tmp rfl id)) (.cA (.eqS (.at rfl rfl) (eqAt_str Tryz.underlying9) (.tmp rfl id) (.tmp rfl id)) (.cA (.pickAnd .none (.s rfl) (.tmp rfl id)) (.mvA rfl (.cA (.move (.at rfl rfl) (.s rfl)) (.cA (.move (.at rfl rfl) (.s rfl)) (.cA (.indexAddr (.at rfl rfl) sl22 ty42 (.tmp rfl id) (.tmp rfl id) (fun hg => hn19 hg.2)) (.cA (.fieldAddr (.at rfl rfl) fd42_5 hfd42_5 (.tmp rfl id)) (.cA (.load (.at rfl rfl) ty3 (.tmp rfl id)) ?_))))))))))))))))))))))))))))))))))
      refine .cA (.move (.at rfl rfl) (.s rfl)) (.cA (.move (.at rfl rfl) (.s rfl)) (.cA (.indexAddr (.at rfl rfl) sl22 ty42 (.tmp rfl id) (.tmp rfl id) (fun hg => hn20 hg.2)) (.cA (.fieldAddr (.at rfl rfl) fd42_0 hfd42_0 (.tmp rfl id)) (.cA (.fieldAddr (.at rfl rfl) fd40_2 hfd40_2 (.tmp rfl id)) (.cA (.load (.at rfl rfl) ty3 (.tmp rfl id)) (.cA (.eqI (.at rfl rfl) (.tmp rfl id) (.tmp rfl id)) (.cA (.pickAnd .none (.s rfl) (.tmp rfl id)) (.nil (.cb rfl h (fun _ h => ?_) fun _ h => ?_)))))))))
      ·
       obtain ⟨hn22, h⟩ := need_some h
       exact .rg [oo, oo, ([5001], []), ([5001], [5001])] mx (.mvA rfl (.mvA rfl (.ixO 5001 sl25 ty4 rfl rfl rfl hn22 (.cN (.storeElem0 (k := 5001) ty4 (.s rfl) rfl .bool hn22) (.nil (.blkNormal (Ends.j _ (some_eq h))))))))
      ·
       exact .skip (.blkNormal (Ends.j _ (some_eq h)))
     ·
      subst hj14; have h := hK14; clear hK14
      obtain ⟨j2, hv23, h⟩ := bnd_some h
      exact .rn mx (.mv rfl (.adi rfl (.ra hv23 rfl (.nil (Ends.ag (some_eq h))))))
    ·
     refine .exit (.thenExit (.thenExit (.blkExit (.blkNormal ?_))))
     replace h := hD12 _ (some_eq h)
     exact Ends.j _ (some_eq h)
   ·
    subst hj8; have h := hK8; clear hK8
    obtain ⟨i2, hv24, h⟩ := bnd_some h
    exact .rn mx (.mv rfl (.c (.subW .none (.s rfl) .i) (.ra hv24 rfl (.nil (Ends.ag (some_eq h))))))
  ·
   refine .exit (.thenExit (.thenExit (.blkExit ?_)))
   replace h := hD6 _ (some_eq h)
   exact Ends.j _ (some_eq h)
 ·
  subst hj5; have h := hK5; clear hK5
  refine .freezeRow (g := 5001) (ts := [3]) rfl (.cons (t := 3) rfl trivial .nil) SubB.nil rfl (.sn mx (.mv rfl (.asn rfl (.nil (.ret ?_)))))
  obtain rfl := some_eq h
  exact Ends.rt Tryz.results12 rfl

theorem law_StatesMatch_1_ok {c0_1 : (List DOp)} {r : (List Bool)}  (h : law_StatesMatch_1 c0_1 = some r) : FSpec Tryz.prog 11 [ref c0_1] (rep r) := by
 unfold law_StatesMatch_1 at h
 obtain ⟨r1, hv1, h⟩ := bind_some h
 refine FSpec.i Tryz.func11 rfl Tryz.ntmps11 rfl (fun F => (.sn mx (.c (.assign .none (.const (x := ([] : (List Bool))) (fun M w => ⟨_, ⟨none, 0, rfl, Nat.le_refl _, by decide, rfl⟩, rfl⟩))) (.nil (.sn mx (.ld ty22 rfl (.c (.call .none (ref_CountingOf_ok hv1) (.cons (.s rfl) .nil)) (.asn rfl (.nil (.ret ?_))))))))))
 obtain rfl := some_eq h
 exact Ends.rt Tryz.results11 rfl

theorem slices_Equal_bool_ok {s1_1 : (List Bool)} {s2_1 : (List Bool)} {r : Bool}  (h : slices_Equal_bool s1_1 s2_1 = some r) : FSpec Tryz.prog 37 [rep s1_1, rep s2_1] (rep r) := by
 unfold slices_Equal_bool at h
 refine FSpec.i Tryz.func37 rfl Tryz.ntmps37 rfl (fun F => (.sn mx (.asb (.nil (.seq (.sn mx (.mv rfl (.ln sl25 rfl (.mv rfl (.ln sl25 rfl (.c (.neI .none (.s rfl) (.s rfl)) (.nil (.cb rfl h (fun _ h => ?_) fun _ h => ?_)))))))))))))
 ·
  refine .sn mx (.asb (.nil (.ret (.thenRet ?_))))
  obtain rfl := some_eq h
  exact Ends.rt Tryz.results37 rfl
 ·
  refine .skip (.then (.seq (.sn mx (.mv rfl (.ln sl25 rfl (.mvi (.nil ?_)))))))
  obtain ⟨o_2, h, hK2⟩ := bindR_some h
  refine .tJ (fun s => o_2 = Res.nx s) Sub.nil SubB.nil ?_ (fun j_2 hj2 => ?_)
  ·
   refine .block (.rforEL h (fun p3_ => [(13, ⟨True, rep p3_.1⟩)]) (fun p3_ => []) (.k 13 rfl .nil) SubB.nil (.k2 0 1 rfl rfl (.k 12 rfl .nil)) SubB.nil (fun p3_ o_3 h hD3 => (.sn mx (.lt rfl rfl (.nil (.seq (.cb rfl h (fun _ h => ?_) fun _ h => ?_)))))))
   ·
    refine .skip (.then (.seq ?_))
    obtain ⟨o_5, h, hK5⟩ := bindD_some h
    unfold slices_Equal_bool_L1 at h
    refine .tJ (fun s => o_5 = Res.nx s) (.k4 0 1 12 13 rfl rfl rfl rfl .nil) SubB.nil ?_ (fun j_5 hj5 => ?_)
    ·
     obtain ⟨hn6, h⟩ := need_some h
     obtain ⟨hn7, h⟩ := need_some h
     refine .block (.sn mx (.mv rfl (.asn rfl (.nil (.sn mx (.mv rfl (.mv rfl (.ix sl25 ty4 rfl rfl hn6 (.ld ty4 rfl (.mv rfl (.mv rfl (.ix sl25 ty4 rfl rfl hn7 (.ld ty4 rfl (.c (.neS .none (eqAt_bool Tryz.underlying4) (.s rfl) (.s rfl)) (.nil (.cb rfl h (fun _ h => ?_) fun _ h => ?_))))))))))))))))
     ·
      refine .sn mx (.asb (.nil (.ret (.blkRet (.thenRet (.thenRet (.blkRet (.thenRet ?_))))))))
      replace h := resd_ab hK5 (some_eq h)
      replace h := hD3 _ (some_eq h)
      replace h := resb_ab hK2 (some_eq h)
      obtain rfl := some_eq h
      exact Ends.rt Tryz.results37 rfl
     ·
      exact .skip (.blkNormal (Ends.j _ (some_eq h)))
    ·
     have h := resd_nx hK5 hj5
     exact .rn mx (.adi rfl (.mv rfl (.nil (Ends.ag (some_eq h)))))
   ·
    refine .exit (.thenExit (.thenExit (.blkExit ?_)))
    replace h := hD3 _ (some_eq h)
    exact Ends.j _ (some_eq h)
  ·
   have h := resb_nx hK2 hj2
   refine .sn mx (.asb (.nil (.ret ?_)))
   obtain rfl := some_eq h
   exact Ends.rt Tryz.results37 rfl

theorem law_lists_bool_ok {got1 : (List Bool)} {e1 : Int} {want1 : Int} {right1 : (Option (List Bool))} {r : Bool}  (h : law_lists_bool got1 e1 want1 right1 = some r) : FSpec Tryz.prog 10 [rep got1, rep e1, rep want1, fn0 Tryz.prog (rep (α := (List Bool))) right1] (rep r) := by
 unfold law_lists_bool at h
 refine FSpec.i Tryz.func10 rfl Tryz.ntmps10 rfl (fun F => (.sn mx (.asb (.nil (.seq (.sn mx (.mv rfl (.nei rfl (.nil (.cb rfl h (fun _ h => ?_) fun _ h => ?_))))))))))
 ·
  refine .sn mx (.mv rfl (.ln sl25 rfl (.eqi rfl (.mv rfl (.mg rfl rfl rfl (.mg rfl rfl rfl (.c (.eqI (.at rfl rfl) (.tmp rfl id) (.tmp rfl id)) (.pa rfl rfl (.asn rfl (.nil (.ret (.thenRet ?_))))))))))))
  obtain rfl := some_eq h
  exact Ends.rt Tryz.results10 rfl
 ·
  obtain ⟨r1, hv2, h⟩ := bind_some h
  obtain ⟨r2, hv3, h⟩ := bind_some h
  refine .skip (.then (.sn mx (.mv rfl (.eqi rfl (.mv rfl (.mg rfl rfl rfl (.mg rfl rfl rfl (.c (.callV _ (.at rfl rfl) (.tmp rfl id) (fun hg => gd_some hv2 (hg.2)) .nil) (.c (.callIf (.at rfl rfl) fnok37 (fun hg => slices_Equal_bool_ok ((fun hg => gd_some hv3 (hg.2)) hg)) (.cons (.tmp rfl id) (.cons (.tmp rfl id) .nil)) (fun h => h)) (.pa rfl rfl (.asn rfl (.nil (.ret ?_)))))))))))))
  obtain rfl := some_eq h
  exact Ends.rt Tryz.results10 rfl


theorem sortO_DOp_1 : Sort.SWO (Proofs.ltOf sortC_DOp_1) := by
 have h : ∀ x y : { x : DOp // sortQ_DOp_1 x }, Proofs.ltOf sortC_DOp_1 x y = decide (cmpL x.1.Stamp.Time x.1.Stamp.Site.b x.1.Stamp.No y.1.Stamp.Time y.1.Stamp.Site.b y.1.Stamp.No < 0) := fun x y => rfl
 constructor
 ·
  intro x; rw [h, cmpL_self]; rfl
 ·
  intro x y z h1 h2
  rw [h] at *
  simp only [decide_eq_true_eq] at *
  exact (cmpL_trans (Int.le_of_lt h1) (Int.le_of_lt h2)).2 (.inl h1)
 ·
  intro x y z h1 h2
  rw [h] at *
  simp only [decide_eq_false_iff_not, Int.not_lt] at *
  have e1 := cmpL_swap x.1.Stamp.Time x.1.Stamp.Site.b x.1.Stamp.No y.1.Stamp.Time y.1.Stamp.Site.b y.1.Stamp.No
  have e2 := cmpL_swap y.1.Stamp.Time y.1.Stamp.Site.b y.1.Stamp.No z.1.Stamp.Time z.1.Stamp.Site.b z.1.Stamp.No
  have e3 := cmpL_swap x.1.Stamp.Time x.1.Stamp.Site.b x.1.Stamp.No z.1.Stamp.Time z.1.Stamp.Site.b z.1.Stamp.No
  have := (cmpL_trans (t := z.1.Stamp.Time) (s := z.1.Stamp.Site.b) (n := z.1.Stamp.No) (t' := y.1.Stamp.Time) (s' := y.1.Stamp.Site.b) (n' := y.1.Stamp.No) (t'' := x.1.Stamp.Time) (s'' := x.1.Stamp.Site.b) (n'' := x.1.Stamp.No) (by omega) (by omega)).1
  omega

theorem sortX_DOp_1 (x y : { x : DOp // sortQ_DOp_1 x }) (w0 : World) : Calls Tryz.prog 39 #[.agg (Enc.enc x.1).toArray, .agg (Enc.enc y.1).toArray] w0 fun e w' => e = .returned (.int .i64 (sortC_DOp_1 x y)) ∧ ∃ q os', w' = Go.Sort.grow (w0.drewN q) os' := by
 obtain ⟨⟨⟨a1, a2, a3⟩, a4, a5, a6, a7, a8⟩, hx⟩ := x
 obtain ⟨⟨⟨b1, b2, b3⟩, b4, b5, b6, b7, b8⟩, hy⟩ := y
 exact stateC_at a1 a3 a4 a8 b1 b3 b4 b8 (cmpL a1 a2.b a3 b1 b2.b b3) a2 a5 a6 a7 b2 b5 b6 b7 w0 (fun h => if_pos h) (fun h0 h => (if_neg (fun e => e h0)).trans (by rw [compareBytes_eq] at *; exact if_pos h)) (fun h0 h => (if_neg (fun e => e h0)).trans (by rw [compareBytes_eq] at h; exact if_neg (fun e => e h)))

theorem slices_SortFunc_Op_1_ok {l r : List DOp} {s : Value} (h : slices_SortFunc_Op_1 l = some r) : FSpecO Tryz.prog 33 [isV s, cloV 39 []] [(s, rowV 42 l)] (anyV) [some (rowV 42 r)] := by
 obtain ⟨hl, h⟩ := need_some h
 obtain rfl := some_eq h
 exact sortF_spec sortF42_lay rfl rfl fnok33 fnok39 Tryz.underlying42 ty42 sortO_DOp_1 sortX_DOp_1 hl.1 hl.2

theorem keysK_65_ok {m : (GMap Str (GMap Str Str))} : FSpec Tryz.prog 65 [rep m] (keysP 96 m) := keys_spec keysZ65_lay rfl rfl fnok65
theorem sortedK_65_ok {m : (GMap Str (GMap Str Str))} (hn : m.size ≤ 1000000000) (hl : ∃ l, Lists m l) : FSpecO Tryz.prog 64 [keysP 96 m] [] anyV [some (rowV 9 (keysS m))] := sortedK_spec keysZ65_lay sortedZ_lay sortSM_lay rfl rfl rfl rfl rfl Tryz.underlying9 fnok64 fnok96 fnok95 hn hl

theorem keysK_66_ok {m : (GMap Str Str)} : FSpec Tryz.prog 66 [rep m] (keysP 97 m) := keys_spec keysZ66_lay rfl rfl fnok66
theorem sortedK_66_ok {m : (GMap Str Str)} (hn : m.size ≤ 1000000000) (hl : ∃ l, Lists m l) : FSpecO Tryz.prog 64 [keysP 97 m] [] anyV [some (rowV 9 (keysS m))] := sortedK_spec keysZ66_lay sortedZ_lay sortSM_lay rfl rfl rfl rfl rfl Tryz.underlying9 fnok64 fnok97 fnok95 hn hl

theorem ref_ThingsOf_ok {m1 : (GMap Str (GMap Str Str))} {r : (List Thing)}  (h : ref_ThingsOf m1 = some r) : FSpec Tryz.prog 41 [rep m1] (rep r) := by
 unfold ref_ThingsOf at h
 obtain ⟨hn1, h⟩ := need_some h
 obtain ⟨v1, hv2, h⟩ := bnd_some h
 refine FSpec.i Tryz.func41 rfl Tryz.ntmps41 rfl (fun F => (.sn mx (.c (.assign .none (.const (x := ([] : (List Thing))) (fun M w => ⟨_, ⟨none, 0, rfl, Nat.le_refl _, by decide, rfl⟩, rfl⟩))) (.nil (.sr [([], [3])] mx (.cW (.nilRow (T := 75) (α := Thing) rfl) (.nil (.nameRow (t := 3) (g := 5001) rfl rfl rfl (fun s5001 => (.seq (.sn mx (.mv rfl (.c (.call .none keysK_65_ok (.cons (.s rfl) .nil)) (.c (.re hv2 (.call .none (sortedK_65_ok hn1.1 hn1.2).frz (.cons (.s rfl) .nil))) (.ln sl93 rfl (.mvi (.nil ?_)))))))))))))))))
 obtain ⟨j_3, h, hK3⟩ := bind_some h
 refine .thenJ (ι := (List Thing)) (fun j_3 => []) (fun j_3 => [(3, some (rowV 75 j_3))]) (fun s => j_3 = s) Sub.nil SubB.nil ?_ (fun j_3' hj3 => ?_)
 ·
  refine .block (.anon (t := 3) (g := 5001) rfl rfl trivial rfl (.rforL h (fun p4_ => [(13, ⟨True, rep p4_.1⟩)]) (fun p4_ => [(3, some (rowV 75 p4_.2))]) (.k 13 rfl .nil) (.k 3 rfl .nil) (.k2 0 11 rfl rfl (.k 12 rfl .nil)) SubB.nil (fun p4_ o_4 h hD4 => (.nameRow (t := 3) (g := 5002) rfl rfl rfl (fun s5002 => (.sn mx (.lt rfl rfl (.nil (.seq (.cb rfl h (fun _ h => ?_) fun _ h => ?_))))))))))
  ·
   refine .skip (.then (.seq ?_))
   obtain ⟨j_6, h, hK6⟩ := bind_some h
   unfold ref_ThingsOf_L1 at h
   refine .thenJ (ι := (List Thing)) (fun j_6 => []) (fun j_6 => [(3, some (rowV 75 j_6))]) (fun s => j_6 = s) (.k4 0 11 12 13 rfl rfl rfl rfl .nil) SubB.nil ?_ (fun j_6' hj6 => ?_)
   ·
    obtain ⟨hn7, h⟩ := need_some h
    obtain ⟨id1, hv8, h⟩ := bnd_some h
    obtain ⟨hn9, h⟩ := need_some h
    obtain ⟨v2, hv10, h⟩ := bnd_some h
    refine .block (.sn mx (.ix sl93 ty9 rfl rfl hn7 (.ld ty9 rfl (.ra hv8 rfl (.nil (.sr [oo, oo, ([], [6]), ([6], [6])] mx (.mvA rfl (.cA (.buildF (y := (⟨id1, ⟨.slice none 0 0⟩⟩ : Thing_o1)) .none bu75 zvc_Thing_o1 rfl (.cons (.s rfl) .nil) (.cons rfl sv_Thing_o1_0 .nil)) (.al zo75 rfl (.cN (.storeH tyv_Thing_o1 rfl (by rfl) rfl (.s rfl)) (.nil (.nameAt (t := 6) (g := 5003) rfl rfl isBox_cont rfl (fun m5003 => (.nilKey (g := 5004) (T := 78) (α := Attr) rfl (.seq (.sn mx (.mv rfl (.mv rfl (.c (.lookup .none mo60 zo65 (.s rfl) (.s rfl)) (.c (.call .none keysK_66_ok (.cons (.s rfl) .nil)) (.c (.re hv10 (.call .none (sortedK_66_ok hn9.1 hn9.2).frz (.cons (.s rfl) .nil))) (.ln sl93 rfl (.mvi (.nil ?_))))))))))))))))))))))))
    obtain ⟨j_11, h, hK11⟩ := bind_some h
    refine .thenJ (ι := Thing) (fun j_11 => []) (fun j_11 => [(5003, some (CPred.at (ptr m5003 0) (deep (fun z0 => cont 75 (⟨j_11.Id, ⟨z0⟩⟩ : Thing_o1)) (rowV 78 j_11.Attrs))))]) (fun s => j_11 = s) (.k4 0 3 6 11 rfl rfl rfl rfl (.k2 12 13 rfl rfl .nil)) (.k 5002 rfl .nil) ?_ (fun j_11' hj11 => ?_)
    ·
     refine .block (.close (k := 5003) (g := 5004) (fun z => cont 75 (⟨id1, ⟨z⟩⟩ : Thing_o1)) rfl rfl rfl (.rforL h (fun p12_ => [(25, ⟨True, rep p12_.1⟩)]) (fun p12_ => [(5003, some (CPred.at (ptr m5003 0) (deep (fun z0 => cont 75 (⟨p12_.2.Id, ⟨z0⟩⟩ : Thing_o1)) (rowV 78 p12_.2.Attrs))))]) (.k 25 rfl .nil) (.k 5003 rfl .nil) (.k4 0 3 5 6 rfl rfl rfl rfl (.k4 11 12 13 23 rfl rfl rfl rfl (.k 24 rfl .nil))) (.k 5002 rfl .nil) (fun p12_ o_12 h hD12 => (.open (k := 5003) (g := 5005) rfl rfl (fun s5005 => (.sn mx (.lt rfl rfl (.nil (.seq (.cb rfl h (fun _ h => ?_) fun _ h => ?_))))))))))
     ·
      refine .skip (.then (.seq ?_))
      obtain ⟨j_14, h, hK14⟩ := bind_some h
      unfold ref_ThingsOf_L2 at h
      refine .thenJ (ι := Thing) (fun j_14 => []) (fun j_14 => [(5003, some (CPred.at (ptr m5003 0) (deep (fun z0 => cont 75 (⟨j_14.Id, ⟨z0⟩⟩ : Thing_o1)) (rowV 78 j_14.Attrs))))]) (fun s => j_14 = s) (.k4 0 3 5 6 rfl rfl rfl rfl (.k4 11 12 13 23 rfl rfl rfl rfl (.k2 24 25 rfl rfl .nil))) (.k 5002 rfl .nil) ?_ (fun j_14' hj14 => ?_)
      ·
       obtain ⟨hn15, h⟩ := need_some h
       obtain ⟨f1, hv16, h⟩ := bnd_some h
       obtain ⟨hn17, h⟩ := need_some h
       exact .block (.sn mx (.ix sl93 ty9 rfl rfl hn15 (.ld ty9 rfl (.ra hv16 rfl (.nil (.rg [oo, ([5003], []), oo, oo, oo, oo, oo, oo, oo, oo, ([5005], [39, 5005]), oo, ([5003, 39], [5003, 39])] mx (.cA (.fieldPtr .none fd75_1 (.s rfl)) (.cA (.loadAt (k := 5003) .none tr73 rfl (.s rfl) hv_Thing_o1_1) (.mvA rfl (.mvA rfl (.mvA rfl (.cA (.lookup .none mo60 zo65 (.s rfl) (.s rfl)) (.mvA rfl (.cA (.lookup .none mo65 zo9 (.s rfl) (.s rfl)) (.cA (.buildF (y := (⟨f1, (m1.getD id1 (GMap.nil : (GMap Str Str))).getD f1 Str.nil⟩ : Attr)) .none bu78 zc78 rfl (.cons (.s rfl) (.cons (.s rfl) .nil)) (.cons rfl sf78_0 (.cons rfl sf78_1 .nil))) (.cA (.buildSlice (xs := [_]) .none sl73 ty78 hz78 (.cons (.s rfl) .nil) rfl (by decide)) (.cW (.append (k := 5005) rk73 rfl (.told (.s rfl) rfl) (.s rfl) hn17) (.cA (.fieldPtr .none fd75_1 (.s rfl)) (.cN (.storeRow (k := 5003) (t := 39) ty73 rfl (.s rfl) sv_Thing_o1_1 rfl rfl) (.nil (.blkNormal (Ends.j _ (some_eq h)))))))))))))))))))))))
      ·
       subst hj14; have h := hK14; clear hK14
       exact .open (k := 5003) (g := 5006) rfl rfl (fun s5006 => (.rn mx (.adi rfl (.mv rfl (.nil (.close (k := 5003) (g := 5006) (fun z => cont 75 (⟨j_14.Id, ⟨z⟩⟩ : Thing_o1)) rfl rfl rfl (Ends.ag (some_eq h))))))))
     ·
      refine .exit (.thenExit (.thenExit (.blkExit (.close (k := 5003) (g := 5005) (fun z => cont 75 (⟨p12_.2.Id, ⟨z⟩⟩ : Thing_o1)) rfl rfl rfl ?_))))
      replace h := hD12 _ (some_eq h)
      exact Ends.j _ (some_eq h)
    ·
     subst hj11; have h := hK11; clear hK11
     refine .freezeAt (g := 5003) (S := ref ({ j_11 with Attrs := j_11.Attrs } : Thing)) (ts := [6]) rfl (.cons (t := 6) rfl trivial .nil) (.k 5002 rfl .nil) rfl (fun M D w h hms => deep_ref1 (mk := (fun s1_ => (⟨j_11.Id, ⟨s1_⟩⟩ : Thing_o1))) (y := ({ j_11 with Attrs := j_11.Attrs } : Thing)) frzRow rfl (fun M s1_ cs w hc g1 => by obtain ⟨c0, q0, e0, h0, h1⟩ := hc; exact ⟨c0, q0, e0, h0, raw_cells rfl rfl h1 g1⟩) M D w h hms) ?_
     obtain ⟨hn18, h⟩ := need_some h
     exact .rg [oo, oo, oo, ([5002], [45, 5002]), ([45], [3, 45])] mx (.mvA rfl (.ldA ty75 rfl (.cA (.buildSlice (xs := [_]) .none sl28 ty75 hz75 (.cons (.s rfl) .nil) rfl (by decide)) (.cW (.append (k := 5002) rk28 rfl (.told (.s rfl) rfl) (.s rfl) hn18) (.cW (.passRow rfl (.tmp rfl)) (.nil (.blkNormal (Ends.j _ (some_eq h)))))))))
   ·
    subst hj6; have h := hK6; clear hK6
    exact .nameRow (t := 3) (g := 5007) rfl rfl rfl (fun s5007 => (.rn mx (.adi rfl (.mv rfl (.nil (.anon (t := 3) (g := 5007) rfl rfl trivial rfl (Ends.ag (some_eq h))))))))
  ·
   refine .exit (.thenExit (.thenExit (.blkExit (.anon (t := 3) (g := 5002) rfl rfl trivial rfl ?_))))
   replace h := hD4 _ (some_eq h)
   exact Ends.j _ (some_eq h)
 ·
  subst hj3; have h := hK3; clear hK3
  refine .freezeRowA (t := 3) rfl rfl SubB.nil rfl (.sn mx (.mv rfl (.asn rfl (.nil (.ret ?_)))))
  obtain rfl := some_eq h
  exact Ends.rt Tryz.results41 rfl

theorem ref_StateOf_ok {l1 : (List DOp)} {r : (List Thing)}  (h : ref_StateOf l1 = some r) : FSpec Tryz.prog 15 [rep l1] (rep r) := by
 unfold ref_StateOf at h
 obtain ⟨counts1, hv1, h⟩ := bind_some h
 refine FSpec.i Tryz.func15 rfl Tryz.ntmps15 rfl (fun F => (.sn mx (.c (.assign .none (.const (x := ([] : (List Thing))) (fun M w => ⟨_, ⟨none, 0, rfl, Nat.le_refl _, by decide, rfl⟩, rfl⟩))) (.nil (.sn mx (.mv rfl (.c (.call .none (ref_CountingOf_ok hv1) (.cons (.s rfl) .nil)) (.asn rfl (.nil (.sr [([], [4])] mx (.cW (.nilRow (T := 42) (α := DOp) rfl) (.nil (.nameRow (t := 4) (g := 5001) rfl rfl rfl (fun s5001 => (.seq (.sn mx (.mv rfl (.ln sl22 rfl (.mvi (.nil ?_))))))))))))))))))))
 obtain ⟨j_2, h, hK2⟩ := bind_some h
 refine .thenJ (ι := (List DOp)) (fun j_2 => []) (fun j_2 => [(4, some (rowV 42 j_2))]) (fun s => j_2 = s) Sub.nil SubB.nil ?_ (fun j_2' hj2 => ?_)
 ·
  refine .block (.anon (t := 4) (g := 5001) rfl rfl trivial rfl (.rforL h (fun p3_ => [(14, ⟨True, rep p3_.1⟩)]) (fun p3_ => [(4, some (rowV 42 p3_.2))]) (.k 14 rfl .nil) (.k 4 rfl .nil) (.k2 3 12 rfl rfl (.k 13 rfl .nil)) SubB.nil (fun p3_ o_3 h hD3 => (.nameRow (t := 4) (g := 5002) rfl rfl rfl (fun s5002 => (.sn mx (.lt rfl rfl (.nil (.seq (.cb rfl h (fun _ h => ?_) fun _ h => ?_))))))))))
  ·
   refine .skip (.then (.seq ?_))
   obtain ⟨j_5, h, hK5⟩ := bind_some h
   unfold ref_StateOf_L1 at h
   refine .thenJ (ι := (List DOp)) (fun j_5 => []) (fun j_5 => [(4, some (rowV 42 j_5))]) (fun s => j_5 = s) (.k4 3 12 13 14 rfl rfl rfl rfl .nil) SubB.nil ?_ (fun j_5' hj5 => ?_)
   ·
    obtain ⟨hn6, h⟩ := need_some h
    obtain ⟨v1, hv7, h⟩ := bnd_some h
    obtain ⟨hn8, h⟩ := need_some h
    refine .block (.sr [oo, oo, oo, ([], [6]), oo, ([6], [6])] mx (.mvA rfl (.ixA sl22 ty42 rfl rfl hn6 (.rlA hv7 ty42 rfl (.al zo42 rfl (.asnA rfl (.st ty42 rfl rfl rfl (.nil (.freeze (t := 6) rfl rfl (.k 5002 rfl .nil) rfl (.sn mx (.mv rfl (.mv rfl (.ix sl25 ty4 rfl rfl hn8 (.ld ty4 rfl (.mv rfl (.fg fd42_1 hfd42_1 rfl rfl rfl (.lg ty3 rfl rfl rfl (.c (.neI (.at rfl rfl) (.tmp rfl id) .i) (.pa rfl rfl (.nil (.cb rfl h (fun _ h => ?_) fun _ h => ?_)))))))))))))))))))))
    ·
     obtain ⟨hn10, h⟩ := need_some h
     exact .rg [oo, oo, oo, ([5002], [31, 5002]), ([31], [4, 31])] mx (.mvA rfl (.ldA ty42 rfl (.cA (.buildSlice (xs := [_]) .none sl22 ty42 hz42 (.cons (.s rfl) .nil) rfl (by decide)) (.cW (.append (k := 5002) rk22 rfl (.told (.s rfl) rfl) (.s rfl) hn10) (.cW (.passRow rfl (.tmp rfl)) (.nil (.blkNormal (Ends.j _ (some_eq h)))))))))
    ·
     exact .skip (.blkNormal (.anon (t := 4) (g := 5002) rfl rfl trivial rfl (Ends.j _ (some_eq h))))
   ·
    subst hj5; have h := hK5; clear hK5
    exact .nameRow (t := 4) (g := 5003) rfl rfl rfl (fun s5003 => (.rn mx (.adi rfl (.mv rfl (.nil (.anon (t := 4) (g := 5003) rfl rfl trivial rfl (Ends.ag (some_eq h))))))))
  ·
   refine .exit (.thenExit (.thenExit (.blkExit (.anon (t := 4) (g := 5002) rfl rfl trivial rfl ?_))))
   replace h := hD3 _ (some_eq h)
   exact Ends.j _ (some_eq h)
 ·
  subst hj2; have h := hK2; clear hK2
  obtain ⟨r1, hv11, h⟩ := bind_some h
  obtain ⟨m1, hv12, h⟩ := bnd_some h
  refine .nameRow (t := 4) (g := 5004) rfl rfl rfl (fun s5004 => (.sr [oo, ([5004], [5004])] mx (.mvA rfl (.cW (.cO [5004] (slices_SortFunc_Op_1_ok hv11) (.cons (.s rfl) (.cons .funcC .nil)) (.cons (k := 5004) rfl .nil) rfl) (.nil (.freezeRow (g := 5004) (ts := [4]) rfl (.cons (t := 4) rfl trivial .nil) SubB.nil rfl (.sr [([], [35]), ([35], [7, 35])] mx (.cW (.makeMapD (K := Str) (K2 := Str) (V := Str) rfl) (.cW (.passRow rfl (.tmp rfl)) (.nil (.reB (t := 7) rfl (congrArg (mapD none) hv12) (.nameC (t := 7) (g := 5005) oneMapD rfl rfl rfl (fun s5005 => (.seq (.sn mx (.mv rfl (.ln sl22 rfl (.mvi (.nil ?_)))))))))))))))))))
  obtain ⟨j_13, h, hK13⟩ := bind_some h
  refine .thenJ (ι := (GMap Str (GMap Str Str))) (fun j_13 => []) (fun j_13 => [(5005, some (CPred.at s5005 (mapD none j_13)))]) (fun s => j_13 = s) (.k 7 rfl .nil) SubB.nil ?_ (fun j_13' hj13 => ?_)
  ·
   refine .block (.rforL h (fun p14_ => [(38, ⟨True, rep p14_.1⟩)]) (fun p14_ => [(5005, some (CPred.at s5005 (mapD none p14_.2)))]) (.k 38 rfl .nil) (.k 5005 rfl .nil) (.k2 7 36 rfl rfl (.k 37 rfl .nil)) SubB.nil (fun p14_ o_14 h hD14 => (.sn mx (.lt rfl rfl (.nil (.seq (.cb rfl h (fun _ h => ?_) fun _ h => ?_)))))))
   ·
    refine .skip (.then (.seq ?_))
    obtain ⟨j_16, h, hK16⟩ := bind_some h
    unfold ref_StateOf_L2 at h
    refine .thenJ (ι := (GMap Str (GMap Str Str))) (fun j_16 => []) (fun j_16 => [(5005, some (CPred.at s5005 (mapD none j_16)))]) (fun s => j_16 = s) (.k4 7 36 37 38 rfl rfl rfl rfl .nil) SubB.nil ?_ (fun j_16' hj16 => ?_)
    ·
     obtain ⟨hn17, h⟩ := need_some h
     obtain ⟨v2, hv18, h⟩ := bnd_some h
     refine .block (.sr [oo, oo, ([], [9]), ([9], [9])] mx (.ixA sl22 ty42 rfl rfl hn17 (.rlA hv18 ty42 rfl (.al zo42 rfl (.st ty42 rfl rfl rfl (.nil (.freeze (t := 9) rfl rfl (.k 5005 rfl .nil) rfl (.seq (.sn mx (.fa fd42_1 hfd42_1 rfl (.ld ty3 rfl (.eqi rfl (.nil (.cb rfl h (fun _ h => ?_) fun _ h => ?_))))))))))))))
     ·
      obtain ⟨m2, hv20, h⟩ := bnd_some h
      exact .sr [oo, oo, oo, ([5005], [5005])] mx (.mvA rfl (.faA fd42_2 hfd42_2 rfl (.ldA ty9 rfl (.cN (.mapDelD (q := 5005) mo60 (.s rfl) rfl (.s rfl)) (.nil (.reB (t := 5005) rfl (congrArg (fun y => CPred.at s5005 (mapD none y)) hv20) (.exit (.thenExit (.blkExit (Ends.j _ (some_eq h)))))))))))
     ·
      refine .skip (.then (.seq (.sr [oo, oo, oo, ([5005], []), oo] mx (.mvA rfl (.faA fd42_2 hfd42_2 rfl (.ldA ty9 rfl (.cA (.lookNilM (q := 5005) .none mo60 zrawm65 (.s rfl) rfl (.s rfl)) (.cA (.eqNilM .none Tryz.underlying65 (.s rfl)) (.nil ?_)))))))))
      obtain ⟨j_21, h, hK21⟩ := bind_some h
      refine .thenJ (ι := (GMap Str (GMap Str Str))) (fun j_21 => []) (fun j_21 => [(5005, some (CPred.at s5005 (mapD none j_21)))]) (fun s => j_21 = s) (.k4 7 9 36 37 rfl rfl rfl rfl (.k 38 rfl .nil)) SubB.nil ?_ (fun j_21' hj21 => ?_)
      ·
       refine .cb rfl h (fun _ h => ?_) fun _ h => ?_
       ·
        exact .rg [oo, oo, oo, ([], [56]), ([5005, 56], [5005, 56])] mx (.mvA rfl (.faA fd42_2 hfd42_2 rfl (.ldA ty9 rfl (.cW (.makeMap (K := Str) (V := Str) rfl) (.cN (.mapPutD (q := 5005) (t := 56) mo60 rfl (.s rfl) rfl rfl rfl (.s rfl)) (.nil (Ends.j _ (some_eq h))))))))
       ·
        exact .skip (Ends.j _ (some_eq h))
      ·
       subst hj21; have h := hK21; clear hK21
       obtain ⟨hn23, h⟩ := need_some h
       exact .openM (q := 5005) (r := 5006) (k := v2.Id) rfl rfl hn23 (fun s5006 => (.rg [oo, oo, oo, ([5005], []), oo, oo, oo, oo, ([5006], [5006])] mx (.mvA rfl (.faA fd42_2 hfd42_2 rfl (.ldA ty9 rfl (.cA (.lookPin (q := 5005) (z := s5006) .none mo60 zrawm65 (.s rfl) rfl (.s rfl)) (.faA fd42_3 hfd42_3 rfl (.ldA ty9 rfl (.faA fd42_4 hfd42_4 rfl (.ldA ty9 rfl (.cN (.mapUpdate (q := 5006) mo65 (.s rfl) rfl (.s rfl) (.s rfl)) (.nil (.blkNormal (.closeM (q := 5005) (r := 5006) rfl rfl rfl (Ends.j _ (some_eq h))))))))))))))))
    ·
     subst hj16; have h := hK16; clear hK16
     exact .rn mx (.adi rfl (.mv rfl (.nil (Ends.ag (some_eq h)))))
   ·
    refine .exit (.thenExit (.thenExit (.blkExit ?_)))
    replace h := hD14 _ (some_eq h)
    exact Ends.j _ (some_eq h)
  ·
   subst hj13; have h := hK13; clear hK13
   refine .freezeAt (g := 5005) (S := rep j_13) (ts := [7]) rfl (.cons (t := 7) rfl trivial .nil) SubB.nil rfl (fun M D w h hms => mapD_rep h hms) ?_
   obtain ⟨r2, hv24, h⟩ := bind_some h
   refine .sn mx (.mv rfl (.c (.call .none (ref_ThingsOf_ok hv24) (.cons (.s rfl) .nil)) (.asn rfl (.nil (.ret ?_)))))
   obtain rfl := some_eq h
   exact Ends.rt Tryz.results15 rfl

theorem law_StatesMatch_2_ok {c0_1 : (List DOp)} {r : (List Thing)}  (h : law_StatesMatch_2 c0_1 = some r) : FSpec Tryz.prog 14 [ref c0_1] (rep r) := by
 unfold law_StatesMatch_2 at h
 obtain ⟨r1, hv1, h⟩ := bind_some h
 refine FSpec.i Tryz.func14 rfl Tryz.ntmps14 rfl (fun F => (.sn mx (.c (.assign .none (.const (x := ([] : (List Thing))) (fun M w => ⟨_, ⟨none, 0, rfl, Nat.le_refl _, by decide, rfl⟩, rfl⟩))) (.nil (.sn mx (.ld ty22 rfl (.c (.call .none (ref_StateOf_ok hv1) (.cons (.s rfl) .nil)) (.asn rfl (.nil (.ret ?_))))))))))
 obtain rfl := some_eq h
 exact Ends.rt Tryz.results14 rfl

theorem slices_EqualFunc_Thing_ok {s1_1 : (List Thing)} {s2_1 : (List Thing)} {eq1 : (Thing → Thing → Option Bool)} {r : Bool}  (h : slices_EqualFunc_Thing s1_1 s2_1 eq1 = some r) : FSpec Tryz.prog 48 [rep s1_1, rep s2_1, fn2 Tryz.prog (rep (α := Bool)) eq1] (rep r) := by
 unfold slices_EqualFunc_Thing at h
 refine FSpec.i Tryz.func48 rfl Tryz.ntmps48 rfl (fun F => (.sn mx (.asb (.nil (.seq (.sn mx (.mv rfl (.ln sl28 rfl (.mv rfl (.ln sl28 rfl (.c (.neI .none (.s rfl) (.s rfl)) (.nil (.cb rfl h (fun _ h => ?_) fun _ h => ?_)))))))))))))
 ·
  refine .sn mx (.asb (.nil (.ret (.thenRet ?_))))
  obtain rfl := some_eq h
  exact Ends.rt Tryz.results48 rfl
 ·
  refine .skip (.then (.seq (.sn mx (.mv rfl (.ln sl28 rfl (.mvi (.nil ?_)))))))
  obtain ⟨o_2, h, hK2⟩ := bindR_some h
  refine .tJ (fun s => o_2 = Res.nx s) Sub.nil SubB.nil ?_ (fun j_2 hj2 => ?_)
  ·
   refine .block (.rforEL h (fun p3_ => [(17, ⟨True, rep p3_.1⟩)]) (fun p3_ => []) (.k 17 rfl .nil) SubB.nil (.k4 1 2 15 16 rfl rfl rfl rfl .nil) SubB.nil (fun p3_ o_3 h hD3 => (.sn mx (.lt rfl rfl (.nil (.seq (.cb rfl h (fun _ h => ?_) fun _ h => ?_)))))))
   ·
    refine .skip (.then (.seq ?_))
    obtain ⟨o_5, h, hK5⟩ := bindD_some h
    unfold slices_EqualFunc_Thing_L1 at h
    refine .tJ (fun s => o_5 = Res.nx s) (.k4 1 2 15 16 rfl rfl rfl rfl (.k 17 rfl .nil)) SubB.nil ?_ (fun j_5 hj5 => ?_)
    ·
     obtain ⟨hn6, h⟩ := need_some h
     obtain ⟨v1, hv7, h⟩ := bnd_some h
     obtain ⟨hn8, h⟩ := need_some h
     obtain ⟨v2, hv9, h⟩ := bnd_some h
     obtain ⟨r1, hv10, h⟩ := bind_some h
     refine .block (.sr [oo, oo, oo, ([], [8]), oo, ([8], [8])] mx (.mvA rfl (.ixA sl28 ty75 rfl rfl hn6 (.rlA hv7 ty75 rfl (.al zo75 rfl (.asnA rfl (.st ty75 rfl rfl rfl (.nil (.freeze (t := 8) rfl rfl SubB.nil rfl (.sr [oo, oo, oo, oo, ([], [9]), ([9], [9])] mx (.mvA rfl (.mvA rfl (.ixA sl28 ty75 rfl rfl hn8 (.rlA hv9 ty75 rfl (.al zo75 rfl (.st ty75 rfl rfl rfl (.nil (.freeze (t := 9) rfl rfl SubB.nil rfl (.sn mx (.mv rfl (.ld ty75 rfl (.ld ty75 rfl (.c (.callV (v1, v2, r1) .none (.s rfl) (fun _ => hv10) (.cons (.s rfl) (.cons (.s rfl) .nil))) (.c (.not .none (.s rfl)) (.nil (.cb rfl h (fun _ h => ?_) fun _ h => ?_))))))))))))))))))))))))))
     ·
      refine .sn mx (.asb (.nil (.ret (.blkRet (.thenRet (.thenRet (.blkRet (.thenRet ?_))))))))
      replace h := resd_ab hK5 (some_eq h)
      replace h := hD3 _ (some_eq h)
      replace h := resb_ab hK2 (some_eq h)
      obtain rfl := some_eq h
      exact Ends.rt Tryz.results48 rfl
     ·
      exact .skip (.blkNormal (Ends.j _ (some_eq h)))
    ·
     have h := resd_nx hK5 hj5
     exact .rn mx (.adi rfl (.mv rfl (.nil (Ends.ag (some_eq h)))))
   ·
    refine .exit (.thenExit (.thenExit (.blkExit ?_)))
    replace h := hD3 _ (some_eq h)
    exact Ends.j _ (some_eq h)
  ·
   have h := resb_nx hK2 hj2
   refine .sn mx (.asb (.nil (.ret ?_)))
   obtain rfl := some_eq h
   exact Ends.rt Tryz.results48 rfl

theorem slices_Equal_Attr_ok {s1_1 : (List Attr)} {s2_1 : (List Attr)} {r : Bool}  (h : slices_Equal_Attr s1_1 s2_1 = some r) : FSpec Tryz.prog 50 [rep s1_1, rep s2_1] (rep r) := by
 unfold slices_Equal_Attr at h
 refine FSpec.i Tryz.func50 rfl Tryz.ntmps50 rfl (fun F => (.sn mx (.asb (.nil (.seq (.sn mx (.mv rfl (.ln sl73 rfl (.mv rfl (.ln sl73 rfl (.c (.neI .none (.s rfl) (.s rfl)) (.nil (.cb rfl h (fun _ h => ?_) fun _ h => ?_)))))))))))))
 ·
  refine .sn mx (.asb (.nil (.ret (.thenRet ?_))))
  obtain rfl := some_eq h
  exact Ends.rt Tryz.results50 rfl
 ·
  refine .skip (.then (.seq (.sn mx (.mv rfl (.ln sl73 rfl (.mvi (.nil ?_)))))))
  obtain ⟨o_2, h, hK2⟩ := bindR_some h
  refine .tJ (fun s => o_2 = Res.nx s) Sub.nil SubB.nil ?_ (fun j_2 hj2 => ?_)
  ·
   refine .block (.rforEL h (fun p3_ => [(13, ⟨True, rep p3_.1⟩)]) (fun p3_ => []) (.k 13 rfl .nil) SubB.nil (.k2 0 1 rfl rfl (.k 12 rfl .nil)) SubB.nil (fun p3_ o_3 h hD3 => (.sn mx (.lt rfl rfl (.nil (.seq (.cb rfl h (fun _ h => ?_) fun _ h => ?_)))))))
   ·
    refine .skip (.then (.seq ?_))
    obtain ⟨o_5, h, hK5⟩ := bindD_some h
    unfold slices_Equal_Attr_L1 at h
    refine .tJ (fun s => o_5 = Res.nx s) (.k4 0 1 12 13 rfl rfl rfl rfl .nil) SubB.nil ?_ (fun j_5 hj5 => ?_)
    ·
     obtain ⟨hn6, h⟩ := need_some h
     obtain ⟨hn7, h⟩ := need_some h
     refine .block (.sn mx (.mv rfl (.asn rfl (.nil (.sn mx (.mv rfl (.mv rfl (.ix sl73 ty78 rfl rfl hn6 (.ld ty78 rfl (.mv rfl (.mv rfl (.ix sl73 ty78 rfl rfl hn7 (.ld ty78 rfl (.c (.neS .none eqa78 (.s rfl) (.s rfl)) (.nil (.cb rfl h (fun _ h => ?_) fun _ h => ?_))))))))))))))))
     ·
      refine .sn mx (.asb (.nil (.ret (.blkRet (.thenRet (.thenRet (.blkRet (.thenRet ?_))))))))
      replace h := resd_ab hK5 (some_eq h)
      replace h := hD3 _ (some_eq h)
      replace h := resb_ab hK2 (some_eq h)
      obtain rfl := some_eq h
      exact Ends.rt Tryz.results50 rfl
     ·
      exact .skip (.blkNormal (Ends.j _ (some_eq h)))
    ·
     have h := resd_nx hK5 hj5
     exact .rn mx (.adi rfl (.mv rfl (.nil (Ends.ag (some_eq h)))))
   ·
    refine .exit (.thenExit (.thenExit (.blkExit ?_)))
    replace h := hD3 _ (some_eq h)
    exact Ends.j _ (some_eq h)
  ·
   have h := resb_nx hK2 hj2
   refine .sn mx (.asb (.nil (.ret ?_)))
   obtain rfl := some_eq h
   exact Ends.rt Tryz.results50 rfl

theorem ref_SameThings_1_ok {x1 : Thing} {y1 : Thing} {r : Bool}  (h : ref_SameThings_1 x1 y1 = some r) : FSpec Tryz.prog 63 [rep x1, rep y1] (rep r) := by
 unfold ref_SameThings_1 at h
 obtain ⟨r1, hv1, h⟩ := bind_some h
 refine FSpec.i Tryz.func63 rfl Tryz.ntmps63 rfl (fun F => (.sn mx (.c (.box .none (.s rfl)) (.c (.box .none (.s rfl)) (.asb (.nil (.sn mx (.fa fd75_0 hfd75_0 rfl (.ld ty9 rfl (.fa fd75_0 hfd75_0 rfl (.ld ty9 rfl (.c (.eqS .none (eqAt_str Tryz.underlying9) (.s rfl) (.s rfl)) (.mv rfl (.fg fd75_1 hfd75_1 rfl rfl rfl (.lg ty73 rfl rfl rfl (.fg fd75_1 hfd75_1 rfl rfl rfl (.lg ty73 rfl rfl rfl (.c (.callIf (.at rfl rfl) fnok50 (fun hg => slices_Equal_Attr_ok ((fun hg => gd_some hv1 (hg.2)) hg)) (.cons (.tmp rfl id) (.cons (.tmp rfl id) .nil)) (fun h => h)) (.pa rfl rfl (.asn rfl (.nil (.ret ?_))))))))))))))))))))))
 obtain rfl := some_eq h
 exact Ends.rt Tryz.results63 rfl

theorem ref_SameThings_ok {a1 : (List Thing)} {b1 : (List Thing)} {r : Bool}  (h : ref_SameThings a1 b1 = some r) : FSpec Tryz.prog 38 [rep a1, rep b1] (rep r) := by
 unfold ref_SameThings at h
 obtain ⟨r1, hv1, h⟩ := bind_some h
 refine FSpec.i Tryz.func38 rfl Tryz.ntmps38 rfl (fun F => (.sn mx (.asb (.nil (.sn mx (.mv rfl (.mv rfl (.c (.call .none (slices_EqualFunc_Thing_ok hv1) (.cons (.s rfl) (.cons (.s rfl) (.cons (Opd.func (ι := Thing × Thing × Bool) (pre := fun i => ref_SameThings_1 i.1 i.2.1 = some i.2.2) (Ss := fun i => [rep i.1, rep i.2.1]) (S := fun i => rep i.2.2) fnok63 (fun i h => ref_SameThings_1_ok h)) .nil)))) (.asn rfl (.nil (.ret ?_)))))))))))
 obtain rfl := some_eq h
 exact Ends.rt Tryz.results38 rfl

theorem law_things_ok {l1 : (List Thing)} {e1 : Int} {want1 : Int} {right1 : (Option (List Thing))} {r : Bool}  (h : law_things l1 e1 want1 right1 = some r) : FSpec Tryz.prog 13 [rep l1, rep e1, rep want1, fn0 Tryz.prog (rep (α := (List Thing))) right1] (rep r) := by
 unfold law_things at h
 refine FSpec.i Tryz.func13 rfl Tryz.ntmps13 rfl (fun F => (.sn mx (.asb (.nil (.seq (.sn mx (.mv rfl (.nei rfl (.nil (.cb rfl h (fun _ h => ?_) fun _ h => ?_))))))))))
 ·
  refine .sn mx (.mv rfl (.ln sl28 rfl (.eqi rfl (.mv rfl (.mg rfl rfl rfl (.mg rfl rfl rfl (.c (.eqI (.at rfl rfl) (.tmp rfl id) (.tmp rfl id)) (.pa rfl rfl (.asn rfl (.nil (.ret (.thenRet ?_))))))))))))
  obtain rfl := some_eq h
  exact Ends.rt Tryz.results13 rfl
 ·
  obtain ⟨r1, hv2, h⟩ := bind_some h
  obtain ⟨r2, hv3, h⟩ := bind_some h
  refine .skip (.then (.sn mx (.mv rfl (.eqi rfl (.mv rfl (.mg rfl rfl rfl (.mg rfl rfl rfl (.c (.callV _ (.at rfl rfl) (.tmp rfl id) (fun hg => gd_some hv2 (hg.2)) .nil) (.c (.callIf (.at rfl rfl) fnok38 (fun hg => ref_SameThings_ok ((fun hg => gd_some hv3 (hg.2)) hg)) (.cons (.tmp rfl id) (.cons (.tmp rfl id) .nil)) (fun h => h)) (.pa rfl rfl (.asn rfl (.nil (.ret ?_)))))))))))))
  obtain rfl := some_eq h
  exact Ends.rt Tryz.results13 rfl

theorem law_StatesMatch_ok {l1 : (List DOp)} {r : Bool}  (h : law_StatesMatch l1 = some r) : FSpec Tryz.prog 3 [rep l1] (rep r) := by
 unfold law_StatesMatch at h
 obtain ⟨own1, hv1, h⟩ := bind_some h
 refine FSpec.i Tryz.func3 rfl Tryz.ntmps3 rfl (fun F => (.sn mx (.c (.box .none (.s rfl)) (.asb (.nil (.sn mx (.ld ty22 rfl (.c (.call .none (ref_OpsError_ok hv1) (.cons (.s rfl) .nil)) (.asn rfl (.nil (.seq (.sn mx (.mv rfl (.eqi rfl (.mv rfl (.c (.load (.at rfl rfl) ty22 (.s rfl)) (.c (.len (.at rfl rfl) sl22 (.tmp rfl id)) (.c (.gt (.at rfl rfl) (.tmp rfl id) .i) (.pa rfl rfl (.nil (.cb rfl h (fun _ h => ?_) fun _ h => ?_)))))))))))))))))))))
 ·
  obtain ⟨r1, hv3, h⟩ := bind_some h
  refine .sn mx (.ld ty22 rfl (.c (.call .none (edit_Check_ok hv3) (.cons (.s rfl) .nil)) (.mv rfl (.c (.eqI .none (.s rfl) (.s rfl)) (.asn rfl (.nil (.ret (.thenRet ?_))))))))
  obtain rfl := some_eq h
  exact Ends.rt Tryz.results3 rfl
 ·
  obtain ⟨r2, hv4, h⟩ := bind_some h
  obtain ⟨r3, hv5, h⟩ := bind_some h
  obtain ⟨r4, hv6, h⟩ := bind_some h
  obtain ⟨r5, hv7, h⟩ := bind_some h
  refine .skip (.then (.sn mx (.ld ty22 rfl (.c (.call .none (edit_Counting_ok hv4) (.cons (.s rfl) .nil)) (.mv rfl (.ex rfl rfl (.ex rfl rfl (.asn rfl (.asn rfl (.nil (.sn mx (.ld ty22 rfl (.c (.call .none (edit_State_ok hv5) (.cons (.s rfl) .nil)) (.mv rfl (.ex rfl rfl (.ex rfl rfl (.asn rfl (.asn rfl (.nil (.sn mx (.c (.call .none (law_edits_ok hv6) .nil) (.mv rfl (.c (.load (.at rfl rfl) ty22 (.s rfl)) (.c (.callIf (.at rfl rfl) fnok6 (fun hg => edit_Check_ok ((fun hg => gd_some hv7 (hg.2)) hg)) (.cons (.tmp rfl id) .nil) (fun h => h)) (.mg rfl rfl rfl (.c (.eqI (.at rfl rfl) (.tmp rfl id) (.tmp rfl id)) (.pa rfl rfl (.mv rfl (.mg rfl rfl rfl (.mg rfl rfl rfl (.mg rfl rfl rfl (.c (.makeFunc (ι := (List Bool)) (pre := fun i => (law_StatesMatch_1 l1)  = some i) (Ss := fun i => []) (S := fun i => rep i) (.at rfl rfl) fnok11 (fun i h => law_StatesMatch_1_ok h) (.cons (.s rfl) .nil)) ?_))))))))))))))))))))))))))))))))
  obtain ⟨r6, hv8, h⟩ := bind_some h
  refine .c (.callIf (.at rfl rfl) fnok10 (fun hg => law_lists_bool_ok ((fun hg => gd_some hv8 (hg.2)) hg)) (.cons (.tmp rfl id) (.cons (.tmp rfl id) (.cons (.tmp rfl id) (.cons (.tmp rfl id) .nil)))) (fun h => h)) (.pa rfl rfl (.mv rfl (.mg rfl rfl rfl (.mg rfl rfl rfl (.mg rfl rfl rfl (.c (.makeFunc (ι := (List Thing)) (pre := fun i => (law_StatesMatch_2 l1)  = some i) (Ss := fun i => []) (S := fun i => rep i) (.at rfl rfl) fnok14 (fun i h => law_StatesMatch_2_ok h) (.cons (.s rfl) .nil)) ?_))))))
  obtain ⟨r7, hv9, h⟩ := bind_some h
  refine .c (.callIf (.at rfl rfl) fnok13 (fun hg => law_things_ok ((fun hg => gd_some hv9 (hg.2)) hg)) (.cons (.tmp rfl id) (.cons (.tmp rfl id) (.cons (.tmp rfl id) (.cons (.tmp rfl id) .nil)))) (fun h => h)) (.pa rfl rfl (.asn rfl (.nil (.ret ?_))))
  obtain rfl := some_eq h
  exact Ends.rt Tryz.results3 rfl


end Go.Proofs.YtlkebjlooppdlaaGreatDoor
