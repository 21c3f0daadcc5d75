/-
  The walks: what a function computes is what its plain function says (printed by a program of one's own).
-/
import Derived.Test.YtlbbcehlhbaggaaGreatDoorTxdWa1
set_option maxRecDepth 100000
set_option linter.unusedSimpArgs false
set_option linter.unusedVariables false
namespace Go.Proofs.YtlbbcehlhbaggaaGreatDoor
open Go Go.DB Go.RowKit

theorem law_rulesError_ok {l1 : (List Rule)} {r : Int}  (h : law_rulesError l1 = some r) : FSpec Tryz.prog 7 [rep l1] (rep r) := by
 unfold law_rulesError at h
 refine FSpec.i Tryz.func7 rfl Tryz.ntmps7 rfl (fun F => (.sn mx (.asi (.nil (.seq (.sn mx (.mv rfl (.ln sl26 rfl (.c (.gt .none (.s rfl) .i) (.nil (.cb rfl h (fun _ h => ?_) fun _ h => ?_)))))))))))
 ·
  refine .sn mx (.asi (.nil (.ret (.thenRet ?_))))
  obtain rfl := some_eq h
  exact Ends.rt Tryz.results7 rfl
 ·
  refine .skip (.then (.seq (.sn mx (.mv rfl (.ln sl26 rfl (.mvi (.nil ?_)))))))
  obtain ⟨o_2, h, hK2⟩ := bindR_some h
  refine .tJ (fun s => o_2 = Res.nx s) Sub.nil SubB.nil ?_ (fun j_2 hj2 => ?_)
  ·
   refine .block (.rforEL h (fun p3_ => [(13, ⟨True, rep p3_.1⟩)]) (fun p3_ => []) (.k 13 rfl .nil) SubB.nil (.k2 11 12 rfl rfl .nil) SubB.nil (fun p3_ o_3 h hD3 => (.sn mx (.lt rfl rfl (.nil (.seq (.cb rfl h (fun _ h => ?_) fun _ h => ?_)))))))
   ·
    refine .skip (.then (.seq ?_))
    obtain ⟨o_5, h, hK5⟩ := bindD_some h
    unfold law_rulesError_L1 at h
    refine .tJ (fun s => o_5 = Res.nx s) (.k2 11 12 rfl rfl (.k 13 rfl .nil)) SubB.nil ?_ (fun j_5 hj5 => ?_)
    ·
     obtain ⟨hn6, h⟩ := need_some h
     obtain ⟨v1, hv7, h⟩ := bnd_some h
     obtain ⟨r1, hv8, h⟩ := bind_some h
     obtain ⟨bad1, hv9, h⟩ := bnd_some h
     refine .block (.sr [oo, oo, ([], [4]), ([4], [4])] mx (.ixA sl26 ty43 rfl rfl hn6 (.rlA hv7 ty43 rfl (.al zo43 rfl (.st ty43 rfl rfl rfl (.nil (.freeze (t := 4) rfl rfl SubB.nil rfl (.sn mx (.fa fd43_2 hfd43_2 rfl (.ld ty9 rfl (.c (.lenStr .none Tryz.underlying9 (.s rfl)) (.c (.call .none (ref_In_ok hv8) (.cons (.s rfl) (.cons .i (.cons .i .nil)))) (.c (.not .none (.s rfl)) (.ra hv9 rfl (.nil (.seq (.sn mx (.fa fd43_2 hfd43_2 rfl (.ld ty9 rfl (.c (.lenStr .none Tryz.underlying9 (.s rfl)) (.mvi (.nil ?_))))))))))))))))))))))
     obtain ⟨j_10, h, hK10⟩ := bind_some h
     refine .thenJ (ι := Bool) (fun j_10 => [(5, ⟨True, rep j_10⟩)]) (fun j_10 => []) (fun s => j_10 = s) (.k4 4 11 12 13 rfl rfl rfl rfl .nil) SubB.nil ?_ (fun j_10' hj10 => ?_)
     ·
      refine .block (.rforL h (fun p11_ => [(25, ⟨True, rep p11_.1⟩), (5, ⟨True, rep p11_.2⟩)]) (fun p11_ => []) (.k2 25 5 rfl rfl .nil) SubB.nil (.k4 4 11 12 13 rfl rfl rfl rfl (.k 24 rfl .nil)) SubB.nil (fun p11_ o_11 h hD11 => (.sn mx (.lt rfl rfl (.nil (.seq (.cb rfl h (fun _ h => ?_) fun _ h => ?_)))))))
      ·
       refine .skip (.then (.seq ?_))
       obtain ⟨j_13, h, hK13⟩ := bind_some h
       unfold law_rulesError_L2 at h
       refine .thenJ (ι := Bool) (fun j_13 => [(5, ⟨True, rep j_13⟩)]) (fun j_13 => []) (fun s => j_13 = s) (.k4 4 11 12 13 rfl rfl rfl rfl (.k2 24 25 rfl rfl .nil)) SubB.nil ?_ (fun j_13' hj13 => ?_)
       ·
        obtain ⟨hn14, h⟩ := need_some h
        obtain ⟨hn15, h⟩ := need_some h
        obtain ⟨hn16, h⟩ := need_some h
        obtain ⟨bad2, hv17, h⟩ := bnd_some h
        exact .block (.sn mx (.mv rfl (.asn rfl (.nil (.rn mx (.mv rfl (.mv rfl (.fg fd43_2 hfd43_2 rfl rfl rfl (.lg ty9 rfl rfl rfl (.mg rfl rfl rfl (.c (.indexStr (.at rfl rfl) Tryz.underlying9 (.tmp rfl id) (.tmp rfl id) (fun hg => hn14 hg.2)) (.c (.klss (.at rfl rfl) (.tmp rfl id) .ki) (.po rfl rfl (.mv rfl (.fg fd43_2 hfd43_2 rfl rfl rfl (.lg ty9 rfl rfl rfl (.mg rfl rfl rfl (.c (.indexStr (.at rfl rfl) Tryz.underlying9 (.tmp rfl id) (.tmp rfl id) (fun hg => hn15 hg.2)) (.c (.kgtr (.at rfl rfl) (.tmp rfl id) .ki) (.po rfl rfl (.mv rfl (.fg fd43_2 hfd43_2 rfl rfl rfl (.lg ty9 rfl rfl rfl (.mg rfl rfl rfl (.c (.indexStr (.at rfl rfl) Tryz.underlying9 (.tmp rfl id) (.tmp rfl id) (fun hg => hn16 hg.2)) (.c (.keql (.at rfl rfl) (.tmp rfl id) .ki) (.po rfl rfl (.ra hv17 rfl (.nil (.blkNormal (Ends.j _ (some_eq h))))))))))))))))))))))))))))))))
       ·
        subst hj13; have h := hK13; clear hK13
        exact .rn mx (.adi rfl (.mv rfl (.nil (Ends.ag (some_eq h)))))
      ·
       refine .exit (.thenExit (.thenExit (.blkExit ?_)))
       replace h := hD11 _ (some_eq h)
       exact Ends.j _ (some_eq h)
     ·
      subst hj10; have h := hK10; clear hK10
      obtain ⟨r2, hv18, h⟩ := bind_some h
      refine .sn mx (.fa fd43_0 hfd43_0 rfl (.ld ty9 rfl (.c (.neS .none (eqAt_str Tryz.underlying9) (.s rfl) (.str (l := []) (by decide))) (.mv rfl (.fg fd43_0 hfd43_0 rfl rfl rfl (.lg ty9 rfl rfl rfl (.c (.callIf (.at rfl rfl) fnok30 (fun hg => ref_NameOf_ok ((fun hg => gd_some hv18 (hg.2)) hg)) (.cons (.tmp rfl id) .nil) (fun h => h)) ?_)))))))
      obtain ⟨r3, hv19, h⟩ := bind_some h
      refine .c (.not (.at rfl rfl) (.tmp rfl id)) (.pa rfl rfl (.mv rfl (.fg fd43_1 hfd43_1 rfl rfl rfl (.lg ty9 rfl rfl rfl (.c (.callIf (.at rfl rfl) fnok30 (fun hg => ref_NameOf_ok ((fun hg => gd_some hv19 ((notT hg.2))) hg)) (.cons (.tmp rfl id) .nil) (fun h => h)) ?_)))))
      obtain ⟨r4, hv20, h⟩ := bind_some h
      obtain ⟨r5, hv21, h⟩ := bind_some h
      obtain ⟨e1, hv22, h⟩ := bind_some h
      refine .c (.not (.at rfl rfl) (.tmp rfl id)) (.po rfl rfl (.c (.call .none (ref_When_ok hv20) (.cons (.s rfl) (.cons .i .nil))) (.mv rfl (.c (.call .none (ref_When_ok hv21) (.cons (.s rfl) (.cons .i .nil))) (.c (.buildSlice (xs := [_, _]) .none sl68 ty27 hz27 (.cons (.s rfl) (.cons (.s rfl) .nil)) rfl (by decide)) (.c (.call .none (ref_First_ok hv22) (.cons (.s rfl) .nil)) (.asn rfl (.nil (.sn mx (.mv rfl (.nei rfl (.nil (.cb rfl h (fun _ h => ?_) fun _ h => ?_)))))))))))))
      ·
       refine .sn mx (.mv rfl (.asn rfl (.nil (.ret (.blkRet (.thenRet (.thenRet (.blkRet (.thenRet ?_)))))))))
       replace h := resd_ab hK5 (some_eq h)
       replace h := hD3 _ (some_eq h)
       replace h := resb_ab hK2 (some_eq h)
       obtain rfl := some_eq h
       exact Ends.rt Tryz.results7 rfl
      ·
       exact .skip (.blkNormal (Ends.j _ (some_eq h)))
    ·
     have h := resd_nx hK5 hj5
     exact .rn mx (.adi rfl (.mv rfl (.nil (Ends.ag (some_eq h)))))
   ·
    refine .exit (.thenExit (.thenExit (.blkExit ?_)))
    replace h := hD3 _ (some_eq h)
    exact Ends.j _ (some_eq h)
  ·
   have h := resb_nx hK2 hj2
   refine .sn mx (.asi (.nil (.ret ?_)))
   obtain rfl := some_eq h
   exact Ends.rt Tryz.results7 rfl

theorem law_star_ok {class1 : Str} {r : Str}  (h : law_star class1 = some r) : FSpec Tryz.prog 31 [rep class1] (rep r) := by
 unfold law_star at h
 refine FSpec.i Tryz.func31 rfl Tryz.ntmps31 rfl (fun F => (.sn mx (.c (.assign .none (.str (l := []) (by decide))) (.nil (.seq (.sn mx (.mv rfl (.c (.eqS .none (eqAt_str Tryz.underlying9) (.s rfl) (.str (l := []) (by decide))) (.nil (.cb rfl h (fun _ h => ?_) fun _ h => ?_))))))))))
 ·
  refine .sn mx (.c (.assign .none (.str (l := [42]) (by decide))) (.nil (.ret (.thenRet ?_))))
  obtain rfl := some_eq h
  exact Ends.rt Tryz.results31 rfl
 ·
  refine .skip (.then (.sn mx (.mv rfl (.asn rfl (.nil (.ret ?_))))))
  obtain rfl := some_eq h
  exact Ends.rt Tryz.results31 rfl

theorem ref_KindWord_ok {kind1 : Int} {r : Str}  (h : ref_KindWord kind1 = some r) : FSpec Tryz.prog 72 [rep kind1] (rep r) := by
 unfold ref_KindWord at h
 obtain ⟨r1, hv1, h⟩ := bind_some h
 obtain ⟨hn2, h⟩ := need_some h
 refine FSpec.i Tryz.func72 rfl Tryz.ntmps72 rfl (fun F => (.sn mx (.c (.assign .none (.str (l := []) (by decide))) (.nil (.sn mx (.c (.call .none (strings_Fields_ok hv1).frz (.cons (.str (l := [98, 111, 120, 32, 114, 111, 117, 110, 100, 32, 111, 118, 97, 108, 32, 100, 105, 97, 109, 111, 110, 100, 32, 110, 111, 116, 101, 32, 103, 114, 111, 117, 112]) (by decide)) .nil)) (.mv rfl (.c (.subW .none (.s rfl) .i) (.ix sl76 ty9 rfl rfl hn2 (.ld ty9 rfl (.asn rfl (.nil (.ret ?_)))))))))))))
 obtain rfl := some_eq h
 exact Ends.rt Tryz.results72 rfl

theorem law_ints_ok {l1 : (List Int)} {r : Str}  (h : law_ints l1 = some r) : FSpec Tryz.prog 73 [rep l1] (rep r) := by
 unfold law_ints at h
 refine FSpec.i Tryz.func73 rfl Tryz.ntmps73 rfl (fun F => (.sn mx (.c (.assign .none (.str (l := []) (by decide))) (.nil (.sn mx (.c (.assign .none (.str (l := []) (by decide))) (.nil (.seq (.sn mx (.mv rfl (.ln sl104 rfl (.mvi (.nil ?_)))))))))))))
 obtain ⟨j_1, h, hK1⟩ := bind_some h
 refine .thenJ (ι := Str) (fun j_1 => [(3, ⟨True, rep j_1⟩)]) (fun j_1 => []) (fun s => j_1 = s) Sub.nil SubB.nil ?_ (fun j_1' hj1 => ?_)
 ·
  refine .block (.rforL h (fun p2_ => [(8, ⟨True, rep p2_.1⟩), (3, ⟨True, rep p2_.2⟩)]) (fun p2_ => []) (.k2 8 3 rfl rfl .nil) SubB.nil (.k2 6 7 rfl rfl .nil) SubB.nil (fun p2_ o_2 h hD2 => (.sn mx (.lt rfl rfl (.nil (.seq (.cb rfl h (fun _ h => ?_) fun _ h => ?_)))))))
  ·
   refine .skip (.then (.seq ?_))
   obtain ⟨j_4, h, hK4⟩ := bind_some h
   unfold law_ints_L1 at h
   refine .thenJ (ι := Str) (fun j_4 => [(3, ⟨True, rep j_4⟩)]) (fun j_4 => []) (fun s => j_4 = s) (.k2 6 7 rfl rfl (.k 8 rfl .nil)) SubB.nil ?_ (fun j_4' hj4 => ?_)
   ·
    obtain ⟨hn5, h⟩ := need_some h
    obtain ⟨r1, hv6, h⟩ := bind_some h
    obtain ⟨hn7, h⟩ := need_some h
    obtain ⟨hn8, h⟩ := need_some h
    obtain ⟨s1, hv9, h⟩ := bnd_some h
    exact .block (.sn mx (.ix sl104 ty3 rfl rfl hn5 (.ld ty3 rfl (.asn rfl (.nil (.rn mx (.mv rfl (.mv rfl (.c (.call .none (strconv_Itoa_ok hv6) (.cons (.s rfl) .nil)) (.c (.addStr .none (.str (l := [32]) (by decide)) (.s rfl) (fun _ => hn7)) (.c (.addStr .none (.s rfl) (.s rfl) (fun _ => hn8)) (.ra hv9 rfl (.nil (.blkNormal (Ends.j _ (some_eq h))))))))))))))))
   ·
    subst hj4; have h := hK4; clear hK4
    exact .rn mx (.adi rfl (.mv rfl (.nil (Ends.ag (some_eq h)))))
  ·
   refine .exit (.thenExit (.thenExit (.blkExit ?_)))
   replace h := hD2 _ (some_eq h)
   exact Ends.j _ (some_eq h)
 ·
  subst hj1; have h := hK1; clear hK1
  refine .sn mx (.mv rfl (.asn rfl (.nil (.ret ?_))))
  obtain rfl := some_eq h
  exact Ends.rt Tryz.results73 rfl

theorem law_tail_ok {class1 : Str} {text1 : Str} {r : Str}  (h : law_tail class1 text1 = some r) : FSpec Tryz.prog 74 [rep class1, rep text1] (rep r) := by
 unfold law_tail at h
 refine FSpec.i Tryz.func74 rfl Tryz.ntmps74 rfl (fun F => (.sn mx (.c (.assign .none (.str (l := []) (by decide))) (.nil (.sn mx (.c (.assign .none (.str (l := []) (by decide))) (.nil (.seq (.sn mx (.mv rfl (.c (.neS .none (eqAt_str Tryz.underlying9) (.s rfl) (.str (l := []) (by decide))) (.nil ?_))))))))))))
 obtain ⟨j_1, h, hK1⟩ := bind_some h
 refine .thenJ (ι := Str) (fun j_1 => [(5, ⟨True, rep j_1⟩)]) (fun j_1 => []) (fun s => j_1 = s) (.k 1 rfl .nil) SubB.nil ?_ (fun j_1' hj1 => ?_)
 ·
  refine .cb rfl h (fun _ h => ?_) fun _ h => ?_
  ·
   obtain ⟨hn3, h⟩ := need_some h
   obtain ⟨hn4, h⟩ := need_some h
   obtain ⟨s1, hv5, h⟩ := bnd_some h
   exact .rn mx (.mv rfl (.mv rfl (.c (.addStr .none (.str (l := [32, 99, 108, 97, 115, 115, 32]) (by decide)) (.s rfl) (fun _ => hn3)) (.c (.addStr .none (.s rfl) (.s rfl) (fun _ => hn4)) (.ra hv5 rfl (.nil (Ends.j _ (some_eq h))))))))
  ·
   exact .skip (Ends.j _ (some_eq h))
 ·
  subst hj1; have h := hK1; clear hK1
  refine .seq (.sn mx (.mv rfl (.c (.neS .none (eqAt_str Tryz.underlying9) (.s rfl) (.str (l := []) (by decide))) (.nil ?_))))
  obtain ⟨j_6, h, hK6⟩ := bind_some h
  refine .thenJ (ι := Str) (fun j_6 => [(5, ⟨True, rep j_6⟩)]) (fun j_6 => []) (fun s => j_6 = s) Sub.nil SubB.nil ?_ (fun j_6' hj6 => ?_)
  ·
   refine .cb rfl h (fun _ h => ?_) fun _ h => ?_
   ·
    obtain ⟨r1, hv8, h⟩ := bind_some h
    obtain ⟨hn9, h⟩ := need_some h
    obtain ⟨hn10, h⟩ := need_some h
    obtain ⟨s2, hv11, h⟩ := bnd_some h
    exact .rn mx (.mv rfl (.mv rfl (.c (.call .none (ref_Quote_ok hv8) (.cons (.s rfl) .nil)) (.c (.addStr .none (.str (l := [32]) (by decide)) (.s rfl) (fun _ => hn9)) (.c (.addStr .none (.s rfl) (.s rfl) (fun _ => hn10)) (.ra hv11 rfl (.nil (Ends.j _ (some_eq h)))))))))
   ·
    exact .skip (Ends.j _ (some_eq h))
  ·
   subst hj6; have h := hK6; clear hK6
   refine .sn mx (.mv rfl (.asn rfl (.nil (.ret ?_))))
   obtain rfl := some_eq h
   exact Ends.rt Tryz.results74 rfl

theorem law_nodeLine_ok {n1 : DNode} {r : Str}  (h : law_nodeLine n1 = some r) : FSpec Tryz.prog 32 [rep n1] (rep r) := by
 unfold law_nodeLine at h
 obtain ⟨r1, hv1, h⟩ := bind_some h
 obtain ⟨hn2, h⟩ := need_some h
 obtain ⟨hn3, h⟩ := need_some h
 obtain ⟨s1, hv4, h⟩ := bnd_some h
 refine FSpec.i Tryz.func32 rfl Tryz.ntmps32 rfl (fun F => (.sn mx (.c (.box .none (.s rfl)) (.c (.assign .none (.str (l := []) (by decide))) (.nil (.sn mx (.fa fd59_1 hfd59_1 rfl (.ld ty3 rfl (.c (.call .none (ref_KindWord_ok hv1) (.cons (.s rfl) .nil)) (.c (.addStr .none (.s rfl) (.str (l := [32]) (by decide)) (fun _ => hn2)) (.fa fd59_0 hfd59_0 rfl (.ld ty9 rfl (.c (.addStr .none (.s rfl) (.s rfl) (fun _ => hn3)) (.ra hv4 rfl (.nil (.seq (.sn mx (.fa fd59_1 hfd59_1 rfl (.ld ty3 rfl (.nei rfl (.nil ?_)))))))))))))))))))))
 obtain ⟨j_5, h, hK5⟩ := bind_some h
 refine .thenJ (ι := Str) (fun j_5 => [(3, ⟨True, rep j_5⟩)]) (fun j_5 => []) (fun s => j_5 = s) (.k 1 rfl .nil) SubB.nil ?_ (fun j_5' hj5 => ?_)
 ·
  refine .cb rfl h (fun _ h => ?_) fun _ h => ?_
  ·
   obtain ⟨r2, hv7, h⟩ := bind_some h
   obtain ⟨hn8, h⟩ := need_some h
   obtain ⟨s2, hv9, h⟩ := bnd_some h
   exact .rn mx (.mv rfl (.fa fd59_2 hfd59_2 rfl (.fa fd57_0 hfd57_0 rfl (.ld ty3 rfl (.fa fd59_2 hfd59_2 rfl (.fa fd57_1 hfd57_1 rfl (.ld ty3 rfl (.fa fd59_2 hfd59_2 rfl (.fa fd57_2 hfd57_2 rfl (.ld ty3 rfl (.fa fd59_2 hfd59_2 rfl (.fa fd57_3 hfd57_3 rfl (.ld ty3 rfl (.c (.buildSlice (xs := [_, _, _, _]) .none sl104 ty3 hz3 (.cons (.s rfl) (.cons (.s rfl) (.cons (.s rfl) (.cons (.s rfl) .nil)))) rfl (by decide)) (.c (.call .none (law_ints_ok hv7) (.cons (.s rfl) .nil)) (.c (.addStr .none (.s rfl) (.s rfl) (fun _ => hn8)) (.ra hv9 rfl (.nil (Ends.j _ (some_eq h))))))))))))))))))))
  ·
   exact .skip (Ends.j _ (some_eq h))
 ·
  subst hj5; have h := hK5; clear hK5
  obtain ⟨r3, hv10, h⟩ := bind_some h
  obtain ⟨hn11, h⟩ := need_some h
  obtain ⟨s3, hv12, h⟩ := bnd_some h
  refine .sn mx (.mv rfl (.fa fd59_4 hfd59_4 rfl (.ld ty9 rfl (.c (.call .none (law_tail_ok hv10) (.cons (.s rfl) (.cons (.str (l := []) (by decide)) .nil))) (.c (.addStr .none (.s rfl) (.s rfl) (fun _ => hn11)) (.ra hv12 rfl (.nil (.seq (.sn mx (.fa fd59_5 hfd59_5 rfl (.ld ty9 rfl (.c (.neS .none (eqAt_str Tryz.underlying9) (.s rfl) (.str (l := []) (by decide))) (.nil ?_)))))))))))))
  obtain ⟨j_13, h, hK13⟩ := bind_some h
  refine .thenJ (ι := Str) (fun j_13 => [(3, ⟨True, rep j_13⟩)]) (fun j_13 => []) (fun s => j_13 = s) (.k 1 rfl .nil) SubB.nil ?_ (fun j_13' hj13 => ?_)
  ·
   refine .cb rfl h (fun _ h => ?_) fun _ h => ?_
   ·
    obtain ⟨hn15, h⟩ := need_some h
    obtain ⟨hn16, h⟩ := need_some h
    obtain ⟨s4, hv17, h⟩ := bnd_some h
    exact .rn mx (.mv rfl (.fa fd59_5 hfd59_5 rfl (.ld ty9 rfl (.c (.addStr .none (.str (l := [32, 105, 110, 32]) (by decide)) (.s rfl) (fun _ => hn15)) (.c (.addStr .none (.s rfl) (.s rfl) (fun _ => hn16)) (.ra hv17 rfl (.nil (Ends.j _ (some_eq h)))))))))
   ·
    exact .skip (Ends.j _ (some_eq h))
  ·
   subst hj13; have h := hK13; clear hK13
   refine .seq (.sn mx (.fa fd59_6 hfd59_6 rfl (.ld ty4 rfl (.nil ?_))))
   obtain ⟨j_18, h, hK18⟩ := bind_some h
   refine .thenJ (ι := Str) (fun j_18 => [(3, ⟨True, rep j_18⟩)]) (fun j_18 => []) (fun s => j_18 = s) (.k 1 rfl .nil) SubB.nil ?_ (fun j_18' hj18 => ?_)
   ·
    refine .cb rfl h (fun _ h => ?_) fun _ h => ?_
    ·
     obtain ⟨hn20, h⟩ := need_some h
     obtain ⟨s5, hv21, h⟩ := bnd_some h
     exact .rn mx (.mv rfl (.c (.addStr .none (.s rfl) (.str (l := [32, 108, 111, 99, 107, 101, 100]) (by decide)) (fun _ => hn20)) (.ra hv21 rfl (.nil (Ends.j _ (some_eq h))))))
    ·
     exact .skip (Ends.j _ (some_eq h))
   ·
    subst hj18; have h := hK18; clear hK18
    obtain ⟨r4, hv22, h⟩ := bind_some h
    obtain ⟨hn23, h⟩ := need_some h
    refine .sn mx (.mv rfl (.fa fd59_3 hfd59_3 rfl (.ld ty9 rfl (.c (.call .none (law_tail_ok hv22) (.cons (.str (l := []) (by decide)) (.cons (.s rfl) .nil))) (.c (.addStr .none (.s rfl) (.s rfl) (fun _ => hn23)) (.asn rfl (.nil (.ret ?_))))))))
    obtain rfl := some_eq h
    exact Ends.rt Tryz.results32 rfl

theorem ref_SideWord_ok {side1 : Int} {r : Str}  (h : ref_SideWord side1 = some r) : FSpec Tryz.prog 108 [rep side1] (rep r) := by
 unfold ref_SideWord at h
 obtain ⟨r1, hv1, h⟩ := bind_some h
 obtain ⟨hn2, h⟩ := need_some h
 refine FSpec.i Tryz.func108 rfl Tryz.ntmps108 rfl (fun F => (.sn mx (.c (.assign .none (.str (l := []) (by decide))) (.nil (.sn mx (.c (.call .none (strings_Fields_ok hv1).frz (.cons (.str (l := [117, 112, 32, 114, 105, 103, 104, 116, 32, 100, 111, 119, 110, 32, 108, 101, 102, 116]) (by decide)) .nil)) (.mv rfl (.c (.subW .none (.s rfl) .i) (.ix sl76 ty9 rfl rfl hn2 (.ld ty9 rfl (.asn rfl (.nil (.ret ?_)))))))))))))
 obtain rfl := some_eq h
 exact Ends.rt Tryz.results108 rfl

theorem ref_EndText_ok {x1 : DEnd} {r : Str}  (h : ref_EndText x1 = some r) : FSpec Tryz.prog 75 [rep x1] (rep r) := by
 unfold ref_EndText at h
 obtain ⟨hn1, h⟩ := need_some h
 obtain ⟨r1, hv2, h⟩ := bind_some h
 obtain ⟨hn3, h⟩ := need_some h
 obtain ⟨hn4, h⟩ := need_some h
 obtain ⟨r2, hv5, h⟩ := bind_some h
 obtain ⟨hn6, h⟩ := need_some h
 refine FSpec.i Tryz.func75 rfl Tryz.ntmps75 rfl (fun F => (.sn mx (.c (.box .none (.s rfl)) (.c (.assign .none (.str (l := []) (by decide))) (.nil (.sn mx (.fa fd62_0 hfd62_0 rfl (.ld ty9 rfl (.c (.addStr .none (.s rfl) (.str (l := [32]) (by decide)) (fun _ => hn1)) (.fa fd62_1 hfd62_1 rfl (.ld ty3 rfl (.c (.call .none (ref_SideWord_ok hv2) (.cons (.s rfl) .nil)) (.c (.addStr .none (.s rfl) (.s rfl) (fun _ => hn3)) (.c (.addStr .none (.s rfl) (.str (l := [32]) (by decide)) (fun _ => hn4)) (.fa fd62_2 hfd62_2 rfl (.ld ty3 rfl (.c (.call .none (strconv_Itoa_ok hv5) (.cons (.s rfl) .nil)) (.c (.addStr .none (.s rfl) (.s rfl) (fun _ => hn6)) (.asn rfl (.nil (.ret ?_)))))))))))))))))))))
 obtain rfl := some_eq h
 exact Ends.rt Tryz.results75 rfl

theorem law_edgeLine_ok {x1 : DEdge} {r : Str}  (h : law_edgeLine x1 = some r) : FSpec Tryz.prog 33 [rep x1] (rep r) := by
 unfold law_edgeLine at h
 obtain ⟨hn1, h⟩ := need_some h
 obtain ⟨hn2, h⟩ := need_some h
 obtain ⟨r1, hv3, h⟩ := bind_some h
 obtain ⟨hn4, h⟩ := need_some h
 obtain ⟨hn5, h⟩ := need_some h
 obtain ⟨r2, hv6, h⟩ := bind_some h
 obtain ⟨hn7, h⟩ := need_some h
 obtain ⟨s1, hv8, h⟩ := bnd_some h
 refine FSpec.i Tryz.func33 rfl Tryz.ntmps33 rfl (fun F => (.sn mx (.c (.box .none (.s rfl)) (.c (.assign .none (.str (l := []) (by decide))) (.nil (.sn mx (.fa fd65_0 hfd65_0 rfl (.ld ty9 rfl (.c (.addStr .none (.str (l := [101, 100, 103, 101, 32]) (by decide)) (.s rfl) (fun _ => hn1)) (.c (.addStr .none (.s rfl) (.str (l := [32]) (by decide)) (fun _ => hn2)) (.fa fd65_1 hfd65_1 rfl (.ld ty62 rfl (.c (.call .none (ref_EndText_ok hv3) (.cons (.s rfl) .nil)) (.c (.addStr .none (.s rfl) (.s rfl) (fun _ => hn4)) (.c (.addStr .none (.s rfl) (.str (l := [32]) (by decide)) (fun _ => hn5)) (.fa fd65_2 hfd65_2 rfl (.ld ty62 rfl (.c (.call .none (ref_EndText_ok hv6) (.cons (.s rfl) .nil)) (.c (.addStr .none (.s rfl) (.s rfl) (fun _ => hn7)) (.ra hv8 rfl (.nil (.seq (.sn mx (.fa fd65_3 hfd65_3 rfl (.ld ty63 rfl (.ln sl63 rfl (.c (.gt .none (.s rfl) .i) (.nil ?_))))))))))))))))))))))))))))
 obtain ⟨j_9, h, hK9⟩ := bind_some h
 refine .thenJ (ι := Str) (fun j_9 => [(3, ⟨True, rep j_9⟩)]) (fun j_9 => []) (fun s => j_9 = s) (.k 1 rfl .nil) SubB.nil ?_ (fun j_9' hj9 => ?_)
 ·
  refine .cb rfl h (fun _ h => ?_) fun _ h => ?_
  ·
   obtain ⟨hn11, h⟩ := need_some h
   obtain ⟨s2, hv12, h⟩ := bnd_some h
   refine .sn mx (.mv rfl (.c (.addStr .none (.s rfl) (.str (l := [32, 98, 121]) (by decide)) (fun _ => hn11)) (.ra hv12 rfl (.nil (.sn mx (.fa fd65_3 hfd65_3 rfl (.ld ty63 rfl (.ln sl63 rfl (.mvi (.nil (.block (.rforL h (fun p13_ => [(28, ⟨True, rep p13_.1⟩), (3, ⟨True, rep p13_.2⟩)]) (fun p13_ => []) (.k2 28 3 rfl rfl .nil) SubB.nil (.k2 1 26 rfl rfl (.k 27 rfl .nil)) SubB.nil (fun p13_ o_13 h hD13 => (.sn mx (.lt rfl rfl (.nil (.seq (.cb rfl h (fun _ h => ?_) fun _ h => ?_))))))))))))))))))
   ·
    refine .skip (.then (.seq ?_))
    obtain ⟨j_15, h, hK15⟩ := bind_some h
    unfold law_edgeLine_L1 at h
    refine .thenJ (ι := Str) (fun j_15 => [(3, ⟨True, rep j_15⟩)]) (fun j_15 => []) (fun s => j_15 = s) (.k4 1 26 27 28 rfl rfl rfl rfl .nil) SubB.nil ?_ (fun j_15' hj15 => ?_)
    ·
     obtain ⟨hn16, h⟩ := need_some h
     obtain ⟨v1, hv17, h⟩ := bnd_some h
     obtain ⟨r3, hv18, h⟩ := bind_some h
     obtain ⟨hn19, h⟩ := need_some h
     obtain ⟨s3, hv20, h⟩ := bnd_some h
     exact .block (.sr [oo, oo, ([], [5]), ([5], [5])] mx (.ixA sl63 ty89 rfl rfl hn16 (.rlA hv17 ty89 rfl (.al zo89 rfl (.st ty89 rfl rfl rfl (.nil (.freeze (t := 5) rfl rfl SubB.nil rfl (.rn mx (.mv rfl (.fa fd89_0 hfd89_0 rfl (.ld ty3 rfl (.fa fd89_1 hfd89_1 rfl (.ld ty3 rfl (.c (.buildSlice (xs := [_, _]) .none sl104 ty3 hz3 (.cons (.s rfl) (.cons (.s rfl) .nil)) rfl (by decide)) (.c (.call .none (law_ints_ok hv18) (.cons (.s rfl) .nil)) (.c (.addStr .none (.s rfl) (.s rfl) (fun _ => hn19)) (.ra hv20 rfl (.nil (.blkNormal (Ends.j _ (some_eq h)))))))))))))))))))))
    ·
     subst hj15; have h := hK15; clear hK15
     exact .rn mx (.adi rfl (.mv rfl (.nil (Ends.ag (some_eq h)))))
   ·
    refine .exit (.thenExit (.thenExit (.blkExit ?_)))
    replace h := hD13 _ (some_eq h)
    exact Ends.j _ (some_eq h)
  ·
   exact .skip (Ends.j _ (some_eq h))
 ·
  subst hj9; have h := hK9; clear hK9
  obtain ⟨r4, hv21, h⟩ := bind_some h
  obtain ⟨hn22, h⟩ := need_some h
  refine .sn mx (.mv rfl (.fa fd65_5 hfd65_5 rfl (.ld ty9 rfl (.fa fd65_4 hfd65_4 rfl (.ld ty9 rfl (.c (.call .none (law_tail_ok hv21) (.cons (.s rfl) (.cons (.s rfl) .nil))) (.c (.addStr .none (.s rfl) (.s rfl) (fun _ => hn22)) (.asn rfl (.nil (.ret ?_))))))))))
  obtain rfl := some_eq h
  exact Ends.rt Tryz.results33 rfl

theorem law_docText_ok {d1 : Doc} {l1 : (List Rule)} {r : Str}  (h : law_docText d1 l1 = some r) : FSpec Tryz.prog 9 [rep d1, rep l1] (rep r) := by
 unfold law_docText at h
 refine FSpec.i Tryz.func9 rfl Tryz.ntmps9 rfl (fun F => (.sn mx (.c (.box .none (.s rfl)) (.c (.assign .none (.str (l := []) (by decide))) (.nil (.sn mx (.c (.assign .none (.str (l := []) (by decide))) (.nil (.seq (.sn mx (.mv rfl (.ln sl26 rfl (.mvi (.nil ?_))))))))))))))
 obtain ⟨j_1, h, hK1⟩ := bind_some h
 refine .thenJ (ι := Str) (fun j_1 => [(5, ⟨True, rep j_1⟩)]) (fun j_1 => []) (fun s => j_1 = s) (.k 2 rfl .nil) SubB.nil ?_ (fun j_1' hj1 => ?_)
 ·
  refine .block (.rforL h (fun p2_ => [(14, ⟨True, rep p2_.1⟩), (5, ⟨True, rep p2_.2⟩)]) (fun p2_ => []) (.k2 14 5 rfl rfl .nil) SubB.nil (.k2 2 12 rfl rfl (.k 13 rfl .nil)) SubB.nil (fun p2_ o_2 h hD2 => (.sn mx (.lt rfl rfl (.nil (.seq (.cb rfl h (fun _ h => ?_) fun _ h => ?_)))))))
  ·
   refine .skip (.then (.seq ?_))
   obtain ⟨j_4, h, hK4⟩ := bind_some h
   unfold law_docText_L1 at h
   refine .thenJ (ι := Str) (fun j_4 => [(5, ⟨True, rep j_4⟩)]) (fun j_4 => []) (fun s => j_4 = s) (.k4 2 12 13 14 rfl rfl rfl rfl .nil) SubB.nil ?_ (fun j_4' hj4 => ?_)
   ·
    obtain ⟨hn5, h⟩ := need_some h
    obtain ⟨v1, hv6, h⟩ := bnd_some h
    obtain ⟨r1, hv7, h⟩ := bind_some h
    obtain ⟨hn8, h⟩ := need_some h
    obtain ⟨hn9, h⟩ := need_some h
    obtain ⟨hn10, h⟩ := need_some h
    obtain ⟨hn11, h⟩ := need_some h
    obtain ⟨hn12, h⟩ := need_some h
    obtain ⟨hn13, h⟩ := need_some h
    obtain ⟨hn14, h⟩ := need_some h
    obtain ⟨s1, hv15, h⟩ := bnd_some h
    exact .block (.sr [oo, oo, ([], [7]), ([7], [7])] mx (.ixA sl26 ty43 rfl rfl hn5 (.rlA hv6 ty43 rfl (.al zo43 rfl (.st ty43 rfl rfl rfl (.nil (.freeze (t := 7) rfl rfl SubB.nil rfl (.rn mx (.mv rfl (.fa fd43_0 hfd43_0 rfl (.ld ty9 rfl (.c (.call .none (law_star_ok hv7) (.cons (.s rfl) .nil)) (.c (.addStr .none (.str (l := [115, 116, 121, 108, 101, 32]) (by decide)) (.s rfl) (fun _ => hn8)) (.c (.addStr .none (.s rfl) (.str (l := [32]) (by decide)) (fun _ => hn9)) (.fa fd43_1 hfd43_1 rfl (.ld ty9 rfl (.c (.addStr .none (.s rfl) (.s rfl) (fun _ => hn10)) (.c (.addStr .none (.s rfl) (.str (l := [32]) (by decide)) (fun _ => hn11)) (.fa fd43_2 hfd43_2 rfl (.ld ty9 rfl (.c (.addStr .none (.s rfl) (.s rfl) (fun _ => hn12)) (.c (.addStr .none (.s rfl) (.str (l := [10]) (by decide)) (fun _ => hn13)) (.c (.addStr .none (.s rfl) (.s rfl) (fun _ => hn14)) (.ra hv15 rfl (.nil (.blkNormal (Ends.j _ (some_eq h))))))))))))))))))))))))))))
   ·
    subst hj4; have h := hK4; clear hK4
    exact .rn mx (.adi rfl (.mv rfl (.nil (Ends.ag (some_eq h)))))
  ·
   refine .exit (.thenExit (.thenExit (.blkExit ?_)))
   replace h := hD2 _ (some_eq h)
   exact Ends.j _ (some_eq h)
 ·
  subst hj1; have h := hK1; clear hK1
  refine .seq (.sn mx (.fa fd25_0 hfd25_0 rfl (.ld ty22 rfl (.ln sl22 rfl (.mvi (.nil ?_))))))
  obtain ⟨j_16, h, hK16⟩ := bind_some h
  refine .thenJ (ι := Str) (fun j_16 => [(5, ⟨True, rep j_16⟩)]) (fun j_16 => []) (fun s => j_16 = s) (.k 2 rfl .nil) SubB.nil ?_ (fun j_16' hj16 => ?_)
  ·
   refine .block (.rforL h (fun p17_ => [(37, ⟨True, rep p17_.1⟩), (5, ⟨True, rep p17_.2⟩)]) (fun p17_ => []) (.k2 37 5 rfl rfl .nil) SubB.nil (.k2 2 35 rfl rfl (.k 36 rfl .nil)) SubB.nil (fun p17_ o_17 h hD17 => (.sn mx (.lt rfl rfl (.nil (.seq (.cb rfl h (fun _ h => ?_) fun _ h => ?_)))))))
   ·
    refine .skip (.then (.seq ?_))
    obtain ⟨j_19, h, hK19⟩ := bind_some h
    unfold law_docText_L2 at h
    refine .thenJ (ι := Str) (fun j_19 => [(5, ⟨True, rep j_19⟩)]) (fun j_19 => []) (fun s => j_19 = s) (.k4 2 35 36 37 rfl rfl rfl rfl .nil) SubB.nil ?_ (fun j_19' hj19 => ?_)
    ·
     obtain ⟨hn20, h⟩ := need_some h
     obtain ⟨v2, hv21, h⟩ := bnd_some h
     obtain ⟨r2, hv22, h⟩ := bind_some h
     obtain ⟨hn23, h⟩ := need_some h
     obtain ⟨hn24, h⟩ := need_some h
     obtain ⟨s2, hv25, h⟩ := bnd_some h
     exact .block (.sr [oo, oo, ([], [9]), ([9], [9])] mx (.ixA sl22 ty59 rfl rfl hn20 (.rlA hv21 ty59 rfl (.al zo59 rfl (.st ty59 rfl rfl rfl (.nil (.freeze (t := 9) rfl rfl SubB.nil rfl (.rn mx (.mv rfl (.ld ty59 rfl (.c (.call .none (law_nodeLine_ok hv22) (.cons (.s rfl) .nil)) (.c (.addStr .none (.s rfl) (.str (l := [10]) (by decide)) (fun _ => hn23)) (.c (.addStr .none (.s rfl) (.s rfl) (fun _ => hn24)) (.ra hv25 rfl (.nil (.blkNormal (Ends.j _ (some_eq h))))))))))))))))))
    ·
     subst hj19; have h := hK19; clear hK19
     exact .rn mx (.adi rfl (.mv rfl (.nil (Ends.ag (some_eq h)))))
   ·
    refine .exit (.thenExit (.thenExit (.blkExit ?_)))
    replace h := hD17 _ (some_eq h)
    exact Ends.j _ (some_eq h)
  ·
   subst hj16; have h := hK16; clear hK16
   refine .seq (.sn mx (.fa fd25_1 hfd25_1 rfl (.ld ty23 rfl (.ln sl23 rfl (.mvi (.nil ?_))))))
   obtain ⟨j_26, h, hK26⟩ := bind_some h
   refine .thenJ (ι := Str) (fun j_26 => [(5, ⟨True, rep j_26⟩)]) (fun j_26 => []) (fun s => j_26 = s) Sub.nil SubB.nil ?_ (fun j_26' hj26 => ?_)
   ·
    refine .block (.rforL h (fun p27_ => [(50, ⟨True, rep p27_.1⟩), (5, ⟨True, rep p27_.2⟩)]) (fun p27_ => []) (.k2 50 5 rfl rfl .nil) SubB.nil (.k2 48 49 rfl rfl .nil) SubB.nil (fun p27_ o_27 h hD27 => (.sn mx (.lt rfl rfl (.nil (.seq (.cb rfl h (fun _ h => ?_) fun _ h => ?_)))))))
    ·
     refine .skip (.then (.seq ?_))
     obtain ⟨j_29, h, hK29⟩ := bind_some h
     unfold law_docText_L3 at h
     refine .thenJ (ι := Str) (fun j_29 => [(5, ⟨True, rep j_29⟩)]) (fun j_29 => []) (fun s => j_29 = s) (.k2 48 49 rfl rfl (.k 50 rfl .nil)) SubB.nil ?_ (fun j_29' hj29 => ?_)
     ·
      obtain ⟨hn30, h⟩ := need_some h
      obtain ⟨v3, hv31, h⟩ := bnd_some h
      obtain ⟨r3, hv32, h⟩ := bind_some h
      obtain ⟨hn33, h⟩ := need_some h
      obtain ⟨hn34, h⟩ := need_some h
      obtain ⟨s3, hv35, h⟩ := bnd_some h
      exact .block (.sr [oo, oo, ([], [11]), ([11], [11])] mx (.ixA sl23 ty65 rfl rfl hn30 (.rlA hv31 ty65 rfl (.al zo65 rfl (.st ty65 rfl rfl rfl (.nil (.freeze (t := 11) rfl rfl SubB.nil rfl (.rn mx (.mv rfl (.ld ty65 rfl (.c (.call .none (law_edgeLine_ok hv32) (.cons (.s rfl) .nil)) (.c (.addStr .none (.s rfl) (.str (l := [10]) (by decide)) (fun _ => hn33)) (.c (.addStr .none (.s rfl) (.s rfl) (fun _ => hn34)) (.ra hv35 rfl (.nil (.blkNormal (Ends.j _ (some_eq h))))))))))))))))))
     ·
      subst hj29; have h := hK29; clear hK29
      exact .rn mx (.adi rfl (.mv rfl (.nil (Ends.ag (some_eq h)))))
    ·
     refine .exit (.thenExit (.thenExit (.blkExit ?_)))
     replace h := hD27 _ (some_eq h)
     exact Ends.j _ (some_eq h)
   ·
    subst hj26; have h := hK26; clear hK26
    refine .sn mx (.mv rfl (.asn rfl (.nil (.ret ?_))))
    obtain rfl := some_eq h
    exact Ends.rt Tryz.results9 rfl

theorem law_desks_ok  {r : Bool}  (h : law_desks  = some r) : FSpec Tryz.prog 10 [] (rep r) := by
 unfold law_desks at h
 obtain ⟨r1, hv1, h⟩ := bind_some h
 obtain ⟨r2, hv2, h⟩ := bind_some h
 refine FSpec.i Tryz.func10 rfl Tryz.ntmps10 rfl (fun F => (.sn mx (.asb (.nil (.sn mx (.c (.call .none (desk_CheckRules_ok hv1) (.cons (.const (x := ([] : (List Rule))) (fun M w => ⟨_, ⟨none, 0, rfl, Nat.le_refl _, by decide, rfl⟩, rfl⟩)) .nil)) (.eqi rfl (.mv rfl (.c (.buildF (y := (⟨Str.nil, Str.nil, Str.nil⟩ : Rule)) (.at rfl rfl) bu43 zc43 rfl .nil .nil) (.c (.buildSlice (xs := [_]) (.at rfl rfl) sl26 ty43 hz43 (.cons (.tmp rfl id) .nil) rfl (by decide)) (.c (.callIf (.at rfl rfl) fnok19 (fun hg => desk_CheckRules_ok ((fun hg => gd_some hv2 (hg.2)) hg)) (.cons (.tmp rfl id) .nil) (fun h => h)) (.c (.eqI (.at rfl rfl) (.tmp rfl id) .i) (.pa rfl rfl (.asn rfl (.nil (.ret ?_))))))))))))))))
 obtain rfl := some_eq h
 exact Ends.rt Tryz.results10 rfl

theorem law_TextsOfDocs_1_ok {c0_1 : Doc} {c1_1 : (List Rule)} {r : Str}  (h : law_TextsOfDocs_1 c0_1 c1_1 = some r) : FSpec Tryz.prog 12 [ref c0_1, ref c1_1] (rep r) := by
 unfold law_TextsOfDocs_1 at h
 obtain ⟨r1, hv1, h⟩ := bind_some h
 refine FSpec.i Tryz.func12 rfl Tryz.ntmps12 rfl (fun F => (.sn mx (.c (.assign .none (.str (l := []) (by decide))) (.nil (.sn mx (.ld ty25 rfl (.ld ty26 rfl (.c (.call .none (law_docText_ok hv1) (.cons (.s rfl) (.cons (.s rfl) .nil))) (.asn rfl (.nil (.ret ?_)))))))))))
 obtain rfl := some_eq h
 exact Ends.rt Tryz.results12 rfl

theorem law_is_string_ok {got1 : Str} {e1 : Int} {want1 : Int} {right1 : (Option Str)} {r : Bool}  (h : law_is_string got1 e1 want1 right1 = some r) : FSpec Tryz.prog 11 [rep got1, rep e1, rep want1, fn0 Tryz.prog (rep (α := Str)) right1] (rep r) := by
 unfold law_is_string at h
 refine FSpec.i Tryz.func11 rfl Tryz.ntmps11 rfl (fun F => (.sn mx (.asb (.nil (.sn mx (.c (.assign .none (.str (l := []) (by decide))) (.nil (.seq (.sn mx (.mv rfl (.nei rfl (.nil (.cb rfl h (fun _ h => ?_) fun _ h => ?_)))))))))))))
 ·
  refine .sn mx (.mv rfl (.mv rfl (.c (.eqS .none (eqAt_str Tryz.underlying9) (.s rfl) (.s rfl)) (.mv rfl (.mg rfl rfl rfl (.mg rfl rfl rfl (.c (.eqI (.at rfl rfl) (.tmp rfl id) (.tmp rfl id)) (.pa rfl rfl (.asn rfl (.nil (.ret (.thenRet ?_))))))))))))
  obtain rfl := some_eq h
  exact Ends.rt Tryz.results11 rfl
 ·
  obtain ⟨r1, hv2, h⟩ := bind_some h
  refine .skip (.then (.sn mx (.mv rfl (.eqi rfl (.mv rfl (.mg rfl rfl rfl (.mg rfl rfl rfl (.c (.callV _ (.at rfl rfl) (.tmp rfl id) (fun hg => gd_some hv2 (hg.2)) .nil) (.c (.eqS (.at rfl rfl) (eqAt_str Tryz.underlying9) (.tmp rfl id) (.tmp rfl id)) (.pa rfl rfl (.asn rfl (.nil (.ret ?_)))))))))))))
  obtain rfl := some_eq h
  exact Ends.rt Tryz.results11 rfl

theorem edit_Unquoted_ok {s1 : Str} {r : (Str × Bool)}  (h : edit_Unquoted s1 = some r) : FSpec Tryz.prog 77 [rep s1] (tup [rep r.1, rep r.2]) := by
 unfold edit_Unquoted at h
 refine FSpec.i Tryz.func77 rfl Tryz.ntmps77 rfl (fun F => (.sn mx (.c (.assign .none (.str (l := []) (by decide))) (.asb (.nil (.sr [([], [4])] mx (.cW (.nilRow (T := 5) (α := (KI .u8)) rfl) (.nil (.nameRow (t := 4) (g := 5001) rfl rfl rfl (fun s5001 => (.seq (.sn mx (.asi (.nil ?_))))))))))))))
 obtain ⟨o_1, h, hK1⟩ := bindR_some h
 refine .tJ (fun s => o_1 = Res.nx s) Sub.nil SubB.nil ?_ (fun j_1 hj1 => ?_)
 ·
  refine .block (.anon (t := 4) (g := 5001) rfl rfl trivial rfl (.loopL h (fun s2_ => [(5, ⟨True, rep s2_.2⟩)]) (fun s2_ => [(4, some (rowV 5 s2_.1))]) (.k 5 rfl .nil) (.k 4 rfl .nil) (.k 0 rfl .nil) SubB.nil (fun s2_ o_2 h hD2 => ?_)))
  unfold edit_Unquoted_L1 at h
  refine .nameRow (t := 4) (g := 5002) rfl rfl rfl (fun s5002 => (.seq (.sn mx (.mv rfl (.mv rfl (.c (.lenStr .none Tryz.underlying9 (.s rfl)) (.lt rfl rfl (.nil (.cb rfl h (fun _ h => ?_) fun _ h => ?_)))))))))
  ·
   obtain ⟨hn4, h⟩ := need_some h
   obtain ⟨c1, hv5, h⟩ := bnd_some h
   refine .skip (.then (.seq (.block (.sn mx (.mv rfl (.mv rfl (.c (.indexStr .none Tryz.underlying9 (.s rfl) (.s rfl) (fun _ => hn4)) (.ra hv5 rfl (.nil (.seq ?_))))))))))
   obtain ⟨o_6, h, hK6⟩ := bindR_some h
   refine .thenJ (ι := (Int × (KI .u8))) (fun j_6 => [(5, ⟨True, rep j_6.1⟩), (6, ⟨True, rep j_6.2⟩)]) (fun j_6 => []) (fun s => o_6 = Res.nx s) (.k2 0 4 rfl rfl .nil) (.k 5002 rfl .nil) ?_ (fun j_6 hj6 => ?_)
   ·
    refine .block (.sn mx (.mv rfl (.c (.keql .none (.s rfl) .ki) (.asn rfl (.nil (.cb rfl h (fun _ h => ?_) fun _ h => ?_))))))
    ·
     obtain ⟨hn8, h⟩ := need_some h
     refine .sr [oo, ([5002], []), oo, oo, oo, oo, oo, oo, oo, oo, oo, oo, oo, oo] mx (.mvA rfl (.cA (.bytesStrO (k := 5002) Tryz.underlying48 Tryz.underlying5 Tryz.underlying9 (.told (.s rfl) rfl)) (.mvA rfl (.mvA rfl (.cA (.lenStr .none Tryz.underlying9 (.s rfl)) (.cA (.subW .none (.s rfl) .i) (.cA (.eqI .none (.s rfl) (.s rfl)) (.mvA rfl (.cA (.move (.at rfl rfl) (.s rfl)) (.cA (.indexStr (.at rfl rfl) Tryz.underlying9 (.tmp rfl id) .i (fun hg => hn8 hg.2)) (.cA (.keql (.at rfl rfl) (.tmp rfl id) .ki) (.cA (.pickAnd .none (.s rfl) (.tmp rfl id)) (.asnA rfl (.asnA rfl (.nil (.ret (.blkRet (.thenRet (.blkRet (.thenRet (.thenRet (.blkRet (.thenRet ?_)))))))))))))))))))))))
     replace h := resb_ab hK6 (some_eq h)
     replace h := hD2 _ (some_eq h)
     replace h := resb_ab hK1 (some_eq h)
     obtain rfl := some_eq h
     exact Ends.ret2 (.inl rfl) Tryz.results77 (ResOK.tmp rfl trivial Imp.refl) (ResOK.tmp rfl trivial Imp.refl)
    ·
     refine .sn mx (.mv rfl (.c (.keql .none (.s rfl) .ki) (.asn rfl (.nil (.cb rfl h (fun _ h => ?_) fun _ h => ?_)))))
     ·
      refine .sn mx (.c (.assign .none (.str (l := []) (by decide))) (.asb (.nil (.ret (.blkRet (.thenRet (.blkRet (.thenRet (.thenRet (.blkRet (.thenRet ?_)))))))))))
      replace h := resb_ab hK6 (some_eq h)
      replace h := hD2 _ (some_eq h)
      replace h := resb_ab hK1 (some_eq h)
      obtain rfl := some_eq h
      exact Ends.ret2 (.inl rfl) Tryz.results77 (ResOK.tmp rfl trivial Imp.refl) (ResOK.tmp rfl trivial Imp.refl)
     ·
      refine .sn mx (.mv rfl (.c (.keql .none (.s rfl) .ki) (.asn rfl (.nil (.cb rfl h (fun _ h => ?_) fun _ h => ?_)))))
      ·
       obtain ⟨i1, hv11, h⟩ := bnd_some h
       refine .seq (.sn mx (.mv rfl (.adi rfl (.ra hv11 rfl (.nil (.sn mx (.mv rfl (.mv rfl (.c (.lenStr .none Tryz.underlying9 (.s rfl)) (.c (.eqI .none (.s rfl) (.s rfl)) (.nil (.cb rfl h (fun _ h => ?_) fun _ h => ?_))))))))))))
       ·
        refine .sn mx (.c (.assign .none (.str (l := []) (by decide))) (.asb (.nil (.ret (.thenRet (.blkRet (.thenRet (.blkRet (.thenRet (.thenRet (.blkRet (.thenRet ?_))))))))))))
        replace h := resb_ab hK6 (some_eq h)
        replace h := hD2 _ (some_eq h)
        replace h := resb_ab hK1 (some_eq h)
        obtain rfl := some_eq h
        exact Ends.ret2 (.inl rfl) Tryz.results77 (ResOK.tmp rfl trivial Imp.refl) (ResOK.tmp rfl trivial Imp.refl)
       ·
        obtain ⟨hn13, h⟩ := need_some h
        obtain ⟨k1, hv14, h⟩ := bind_some h
        refine .skip (.then (.sn mx (.mv rfl (.mv rfl (.c (.indexStr .none Tryz.underlying9 (.s rfl) (.s rfl) (fun _ => hn13)) (.c (.call .none (strings_IndexByte_ok hv14) (.cons (.str (l := [34, 92, 110]) (by decide)) (.cons (.s rfl) .nil))) (.asn rfl (.nil (.seq (.sn mx (.mv rfl (.c (.lt .none (.s rfl) .i) (.nil (.cb rfl h (fun _ h => ?_) fun _ h => ?_))))))))))))))
        ·
         refine .sn mx (.c (.assign .none (.str (l := []) (by decide))) (.asb (.nil (.ret (.thenRet (.blkRet (.thenRet (.blkRet (.thenRet (.thenRet (.blkRet (.thenRet ?_))))))))))))
         replace h := resb_ab hK6 (some_eq h)
         replace h := hD2 _ (some_eq h)
         replace h := resb_ab hK1 (some_eq h)
         obtain rfl := some_eq h
         exact Ends.ret2 (.inl rfl) Tryz.results77 (ResOK.tmp rfl trivial Imp.refl) (ResOK.tmp rfl trivial Imp.refl)
        ·
         obtain ⟨hn16, h⟩ := need_some h
         obtain ⟨c2, hv17, h⟩ := bnd_some h
         exact .skip (.then (.rn mx (.mv rfl (.c (.indexStr .none Tryz.underlying9 (.str (l := [34, 92, 10]) (by decide)) (.s rfl) (fun _ => hn16)) (.ra hv17 rfl (.nil (.blkNormal (Ends.j _ (some_eq h)))))))))
      ·
       exact .skip (.blkNormal (Ends.j _ (some_eq h)))
   ·
    have h := resb_nx hK6 hj6
    obtain ⟨hn18, h⟩ := need_some h
    obtain ⟨b1, hv19, h⟩ := bnd_some h
    obtain ⟨i2, hv20, h⟩ := bnd_some h
    exact .rg [oo, oo, oo, ([5002], [55, 5002]), ([55], [4, 55])] mx (.mvA rfl (.mvA rfl (.cA (.buildSlice (xs := [_]) .none sl48 ty5 hz5 (.cons (.s rfl) .nil) rfl (by decide)) (.cW (.append (k := 5002) rk48 rfl (.told (.s rfl) rfl) (.s rfl) hn18) (.cW (.passRow rfl (.tmp rfl)) (.nil (.blkNormal (.then (.reB (t := 4) rfl (congrArg (rowV 5) hv19) (.nameRow (t := 4) (g := 5003) rfl rfl rfl (fun s5003 => (.rn mx (.mv rfl (.adi rfl (.ra hv20 rfl (.nil (.anon (t := 4) (g := 5003) rfl rfl trivial rfl (Ends.ag (some_eq h)))))))))))))))))))
  ·
   refine .exit (.thenExit (.thenExit (.blkExit ?_)))
   replace h := hD2 _ (some_eq h)
   exact Ends.j _ (some_eq h)
 ·
  have h := resb_nx hK1 hj1
  refine .sn mx (.c (.assign .none (.str (l := []) (by decide))) (.asb (.nil (.ret ?_))))
  obtain rfl := some_eq h
  exact Ends.ret2 (.inl rfl) Tryz.results77 (ResOK.tmp rfl trivial Imp.refl) (ResOK.tmp rfl trivial Imp.refl)

theorem slices_Index_string_ok {s1 : (List Str)} {v1 : Str} {r : Int}  (h : slices_Index_string s1 v1 = some r) : FSpec Tryz.prog 85 [rep s1, rep v1] (rep r) := by
 unfold slices_Index_string at h
 refine FSpec.i Tryz.func85 rfl Tryz.ntmps85 rfl (fun F => (.sn mx (.asi (.nil (.seq (.sn mx (.mv rfl (.ln sl76 rfl (.mvi (.nil ?_))))))))))
 obtain ⟨o_1, h, hK1⟩ := bindR_some h
 refine .tJ (fun s => o_1 = Res.nx s) Sub.nil SubB.nil ?_ (fun j_1 hj1 => ?_)
 ·
  refine .block (.rforEL h (fun p2_ => [(8, ⟨True, rep p2_.1⟩)]) (fun p2_ => []) (.k 8 rfl .nil) SubB.nil (.k2 0 1 rfl rfl (.k 7 rfl .nil)) SubB.nil (fun p2_ o_2 h hD2 => (.sn mx (.lt rfl rfl (.nil (.seq (.cb rfl h (fun _ h => ?_) fun _ h => ?_)))))))
  ·
   refine .skip (.then (.seq ?_))
   obtain ⟨o_4, h, hK4⟩ := bindD_some h
   unfold slices_Index_string_L1 at h
   refine .tJ (fun s => o_4 = Res.nx s) (.k4 0 1 7 8 rfl rfl rfl rfl .nil) SubB.nil ?_ (fun j_4 hj4 => ?_)
   ·
    obtain ⟨hn5, h⟩ := need_some h
    refine .block (.sn mx (.mv rfl (.asn rfl (.nil (.sn mx (.mv rfl (.mv rfl (.mv rfl (.ix sl76 ty9 rfl rfl hn5 (.ld ty9 rfl (.c (.eqS .none (eqAt_str Tryz.underlying9) (.s rfl) (.s rfl)) (.nil (.cb rfl h (fun _ h => ?_) fun _ h => ?_)))))))))))))
    ·
     refine .sn mx (.mv rfl (.asn rfl (.nil (.ret (.blkRet (.thenRet (.thenRet (.blkRet (.thenRet ?_)))))))))
     replace h := resd_ab hK4 (some_eq h)
     replace h := hD2 _ (some_eq h)
     replace h := resb_ab hK1 (some_eq h)
     obtain rfl := some_eq h
     exact Ends.rt Tryz.results85 rfl
    ·
     exact .skip (.blkNormal (Ends.j _ (some_eq h)))
   ·
    have h := resd_nx hK4 hj4
    exact .rn mx (.adi rfl (.mv rfl (.nil (Ends.ag (some_eq h)))))
  ·
   refine .exit (.thenExit (.thenExit (.blkExit ?_)))
   replace h := hD2 _ (some_eq h)
   exact Ends.j _ (some_eq h)
 ·
  have h := resb_nx hK1 hj1
  refine .sn mx (.asi (.nil (.ret ?_)))
  obtain rfl := some_eq h
  exact Ends.rt Tryz.results85 rfl

theorem slices_Contains_string_ok {s1 : (List Str)} {v1 : Str} {r : Bool}  (h : slices_Contains_string s1 v1 = some r) : FSpec Tryz.prog 79 [rep s1, rep v1] (rep r) := by
 unfold slices_Contains_string at h
 obtain ⟨r1, hv1, h⟩ := bind_some h
 refine FSpec.i Tryz.func79 rfl Tryz.ntmps79 rfl (fun F => (.sn mx (.asb (.nil (.sn mx (.mv rfl (.mv rfl (.c (.call .none (slices_Index_string_ok hv1) (.cons (.s rfl) (.cons (.s rfl) .nil))) (.c (.ge .none (.s rfl) .i) (.asn rfl (.nil (.ret ?_))))))))))))
 obtain rfl := some_eq h
 exact Ends.rt Tryz.results79 rfl

theorem desk_split_ok {line1 : Str} {r : ((List Str) × Str × Bool × Bool)}  (h : desk_split line1 = some r) : FSpec Tryz.prog 35 [rep line1] (tup [rep r.1, rep r.2.1, rep r.2.2.1, rep r.2.2.2]) := by
 unfold desk_split at h
 obtain ⟨r1, hv1, h⟩ := bind_some h
 refine FSpec.i Tryz.func35 rfl Tryz.ntmps35 rfl (fun F => (.sn mx (.c (.assign .none (.const (x := ([] : (List Str))) (fun M w => ⟨_, ⟨none, 0, rfl, Nat.le_refl _, by decide, rfl⟩, rfl⟩))) (.c (.assign .none (.str (l := []) (by decide))) (.asb (.asb (.nil (.sn mx (.mv rfl (.c (.call .none (strings_Cut_ok hv1) (.cons (.s rfl) (.cons (.str (l := [32, 34]) (by decide)) .nil))) (.mv rfl (.ex rfl rfl (.ex rfl rfl (.ex rfl rfl (.asn rfl (.asn rfl (.asn rfl (.nil (.seq (.sn mx (.mv rfl (.nil ?_))))))))))))))))))))))
 obtain ⟨o_2, h, hK2⟩ := bindR_some h
 refine .thenJ (ι := Str) (fun j_2 => [(3, ⟨True, rep j_2⟩)]) (fun j_2 => []) (fun s => o_2 = Res.nx s) (.k2 4 6 rfl rfl .nil) SubB.nil ?_ (fun j_2 hj2 => ?_)
 ·
  refine .cb rfl h (fun _ h => ?_) fun _ h => ?_
  ·
   obtain ⟨hn4, h⟩ := need_some h
   obtain ⟨r2, hv5, h⟩ := bind_some h
   refine .sn mx (.mv rfl (.c (.addStr .none (.str (l := [34]) (by decide)) (.s rfl) (fun _ => hn4)) (.c (.call .none (edit_Unquoted_ok hv5) (.cons (.s rfl) .nil)) (.mv rfl (.ex rfl rfl (.ex rfl rfl (.asn rfl (.asn rfl (.nil (.sn mx (.mv rfl (.c (.not .none (.s rfl)) (.nil (.cb rfl h (fun _ h => ?_) fun _ h => ?_))))))))))))))
   ·
    refine .sn mx (.c (.assign .none (.const (x := ([] : (List Str))) (fun M w => ⟨_, ⟨none, 0, rfl, Nat.le_refl _, by decide, rfl⟩, rfl⟩))) (.c (.assign .none (.str (l := []) (by decide))) (.asb (.asb (.nil (.ret (.thenRet ?_)))))))
    replace h := resb_ab hK2 (some_eq h)
    obtain rfl := some_eq h
    exact Ends.ret4 (.inl rfl) Tryz.results35 (ResOK.tmp rfl trivial Imp.refl) (ResOK.tmp rfl trivial Imp.refl) (ResOK.tmp rfl trivial Imp.refl) (ResOK.tmp rfl trivial Imp.refl)
   ·
    exact .skip (Ends.j _ (some_eq h))
  ·
   exact .skip (Ends.j _ (some_eq h))
 ·
  have h := resb_nx hK2 hj2
  obtain ⟨words1, hv7, h⟩ := bind_some h
  obtain ⟨r3, hv8, h⟩ := bind_some h
  refine .sn mx (.mv rfl (.c (.call .none (strings_Split_ok hv7).frz (.cons (.s rfl) (.cons (.str (l := [32]) (by decide)) .nil))) (.asn rfl (.nil (.sn mx (.mv rfl (.mv rfl (.mv rfl (.mv rfl (.c (.call .none (slices_Contains_string_ok hv8) (.cons (.s rfl) (.cons (.str (l := []) (by decide)) .nil))) (.c (.not .none (.s rfl)) (.asn rfl (.asn rfl (.asn rfl (.asn rfl (.nil (.ret ?_)))))))))))))))))
  obtain rfl := some_eq h
  exact Ends.ret4 (.inl rfl) Tryz.results35 (ResOK.tmp rfl trivial Imp.refl) (ResOK.tmp rfl trivial Imp.refl) (ResOK.tmp rfl trivial Imp.refl) (ResOK.tmp rfl trivial Imp.refl)

theorem desk_readRule_ok {l1 : (List Str)} {r : (Rule × Bool)}  (h : desk_readRule l1 = some r) : FSpec Tryz.prog 36 [rep l1] (tup [rep r.1, rep r.2]) := by
 unfold desk_readRule at h
 obtain ⟨r1, hv1, h⟩ := bnd_some h
 refine FSpec.i Tryz.func36 rfl Tryz.ntmps36 rfl (fun F => (.sr [([], [2]), oo] mx (.al zo43 rfl (.cA (.assign .none .bool) (.nil (.reB (t := 2) rfl (congrArg (cont 43) hv1) (.nameBox (t := 2) (g := 5001) rfl rfl (fun m5001 => (.seq (.sn mx (.mv rfl (.ln sl76 rfl (.nei rfl (.nil (.cb rfl h (fun _ h => ?_) fun _ h => ?_)))))))))))))))
 ·
  refine .sr [([5001], []), ([5001], [5001]), oo] mx (.cA (.loadAt0 (k := 5001) .none ty43 rfl (.s rfl)) (.s0 5001 ty43 rfl rfl rfl (.cA (.assign .none .bool) (.nil (.fb 5001 [2] rfl (.cons (t := 2) rfl trivial .nil) (.ret (.thenRet ?_)))))))
  obtain rfl := some_eq h
  exact Ends.r2 Tryz.results36 ty43 rfl rfl
 ·
  obtain ⟨hn3, h⟩ := need_some h
  obtain ⟨hn4, h⟩ := need_some h
  obtain ⟨hn5, h⟩ := need_some h
  obtain ⟨v1, hv6, h⟩ := bnd_some h
  refine .skip (.then (.sr [oo, oo, oo, oo, oo, oo, oo, oo, oo, oo, ([5001], [5001])] mx (.mvA rfl (.cA (.indexAddr .none sl76 ty9 (.s rfl) .i (fun _ => hn3)) (.ldA ty9 rfl (.mvA rfl (.cA (.indexAddr .none sl76 ty9 (.s rfl) .i (fun _ => hn4)) (.ldA ty9 rfl (.mvA rfl (.cA (.indexAddr .none sl76 ty9 (.s rfl) .i (fun _ => hn5)) (.ldA ty9 rfl (.cA (.re hv6 (.buildF (y := (⟨gx l1 1, gx l1 2, gx l1 3⟩ : Rule)) .none bu43 zc43 rfl (.cons (.s rfl) (.cons (.s rfl) (.cons (.s rfl) .nil))) (.cons rfl sf43_0 (.cons rfl sf43_1 (.cons rfl sf43_2 .nil))))) (.s0 5001 ty43 rfl rfl rfl (.nil (.seq (.sr [oo, ([5001], []), oo] mx (.cA (.fieldPtr .none fd43_0 (.s rfl)) (.cA (.loadAt (k := 5001) .none ty9 rfl (.s rfl) hfd43_0) (.cA (.eqS .none (eqAt_str Tryz.underlying9) (.s rfl) (.str (l := [42]) (by decide))) (.nil ?_))))))))))))))))))))
  obtain ⟨j_7, h, hK7⟩ := bind_some h
  refine .thenJ (ι := Rule) (fun j_7 => []) (fun j_7 => [(5001, some (boxAt m5001 43 j_7))]) (fun s => j_7 = s) (.k 2 rfl .nil) SubB.nil ?_ (fun j_7' hj7 => ?_)
  ·
   refine .cb rfl h (fun _ h => ?_) fun _ h => ?_
   ·
    exact .rg [oo, ([5001], [5001])] mx (.cA (.fieldPtr .none fd43_0 (.s rfl)) (.cN (.storeAt (g := 5001) ty9 rfl (.s rfl) sf43_0 (.str (l := []) (by decide))) (.nil (Ends.j _ (some_eq h)))))
   ·
    exact .skip (Ends.j _ (some_eq h))
  ·
   subst hj7; have h := hK7; clear hK7
   refine .sr [([5001], []), ([5001], [5001]), oo] mx (.cA (.loadAt0 (k := 5001) .none ty43 rfl (.s rfl)) (.s0 5001 ty43 rfl rfl rfl (.cA (.assign .none .bool) (.nil (.fb 5001 [2] rfl (.cons (t := 2) rfl trivial .nil) (.ret ?_))))))
   obtain rfl := some_eq h
   exact Ends.r2 Tryz.results36 ty43 rfl rfl

theorem desk_words_take_ok {w1 : Desk_words} {r : (Str × Desk_words)} {m25 : Nat} (h : desk_words_take w1 = some r) : FSpecO Tryz.prog 80 [isV (ptr m25 0)] [(ptr m25 0, cont 130 w1)] (rep r.1) [some (cont 130 r.2)] := by
 unfold desk_words_take at h
 refine FSpecO.i Tryz.func80 rfl Tryz.ntmps80 rfl (fun F => (.sn mx (.c (.assign .none (.str (l := []) (by decide))) (.nil (.seq (.sr [oo, oo, oo, ([25], []), oo, oo] mx (.mvA rfl (.cA (.nilCheckP .none (.s rfl)) (.cA (.fieldPtr .none fd130_0 (.s rfl)) (.cA (.loadAt (k := 25) .none ty76 rfl (.s rfl) hfd130_0) (.cA (.len .none sl76 (.s rfl)) (.cA (.eqI .none (.s rfl) .i) (.nil (.cb rfl h (fun _ h => ?_) fun _ h => ?_))))))))))))))
 ·
  refine .sn mx (.c (.assign .none (.str (l := []) (by decide))) (.nil (.ret (.thenRet ?_))))
  obtain rfl := some_eq h
  exact Ends.ret1O (.inl rfl) [25] Tryz.results80 (by decide) (.held rfl .nil) (ResOK.tmp rfl trivial Imp.refl)
 ·
  obtain ⟨hn2, h⟩ := need_some h
  obtain ⟨hn3, h⟩ := need_some h
  obtain ⟨v1, hv4, h⟩ := bnd_some h
  obtain ⟨c1, hv5, h⟩ := bnd_some h
  refine .skip (.then (.sr [oo, oo, oo, ([25], []), oo, oo, oo] mx (.mvA rfl (.cA (.nilCheckP .none (.s rfl)) (.cA (.fieldPtr .none fd130_0 (.s rfl)) (.cA (.loadAt (k := 25) .none ty76 rfl (.s rfl) hfd130_0) (.cA (.indexAddr .none sl76 ty9 (.s rfl) .i (fun _ => hn2)) (.ldA ty9 rfl (.asnA rfl (.nil (.sr [oo, oo, oo, oo, ([25], []), oo, oo, oo, ([25], [25])] mx (.mvA rfl (.mvA rfl (.cA (.nilCheckP .none (.s rfl)) (.cA (.fieldPtr .none fd130_0 (.s rfl)) (.cA (.loadAt (k := 25) .none ty76 rfl (.s rfl) hfd130_0) (.cA (.re hv4 (.slice .none sl76 ty9 (.s rfl) .i rfl (fun _ => hn3))) (.cA (.nilCheckP .none (.s rfl)) (.cA (.fieldPtr .none fd130_0 (.s rfl)) (.cN (.storeAt (g := 25) ty76 rfl (.s rfl) sf130_0 (.s rfl)) (.nil (.reB (t := 25) rfl (congrArg (fun y => boxAt m25 130 y) hv5) (.sn mx (.mv rfl (.asn rfl (.nil (.ret ?_)))))))))))))))))))))))))))
  obtain rfl := some_eq h
  exact Ends.ret1O (.inl rfl) [25] Tryz.results80 (by decide) (.held rfl .nil) (ResOK.tmp rfl trivial Imp.refl)

theorem stringslite_HasPrefix_ok {s1 : Str} {prefix1 : Str} {r : Bool}  (h : stringslite_HasPrefix s1 prefix1 = some r) : FSpec Tryz.prog 166 [rep s1, rep prefix1] (rep r) := by
 unfold stringslite_HasPrefix at h
 obtain ⟨hn1, h⟩ := need_some h
 refine FSpec.i Tryz.func166 rfl Tryz.ntmps166 rfl (fun F => (.sn mx (.asb (.nil (.sn mx (.mv rfl (.c (.lenStr .none Tryz.underlying9 (.s rfl)) (.mv rfl (.c (.lenStr .none Tryz.underlying9 (.s rfl)) (.c (.ge .none (.s rfl) (.s rfl)) (.mv rfl (.mg rfl rfl rfl (.mg rfl rfl rfl (.c (.lenStr (.at rfl rfl) Tryz.underlying9 (.tmp rfl id)) (.c (.sliceStr (.at rfl rfl) Tryz.underlying9 (.tmp rfl id) rfl (.tmp rfl id) (fun hg => hn1 hg.2)) (.mg rfl rfl rfl (.c (.eqS (.at rfl rfl) (eqAt_str Tryz.underlying9) (.tmp rfl id) (.tmp rfl id)) (.pa rfl rfl (.asn rfl (.nil (.ret ?_)))))))))))))))))))))
 obtain rfl := some_eq h
 exact Ends.rt Tryz.results166 rfl

theorem stringslite_TrimPrefix_ok {s1 : Str} {prefix1 : Str} {r : Str}  (h : stringslite_TrimPrefix s1 prefix1 = some r) : FSpec Tryz.prog 150 [rep s1, rep prefix1] (rep r) := by
 unfold stringslite_TrimPrefix at h
 obtain ⟨r1, hv1, h⟩ := bind_some h
 refine FSpec.i Tryz.func150 rfl Tryz.ntmps150 rfl (fun F => (.sn mx (.c (.assign .none (.str (l := []) (by decide))) (.nil (.seq (.sn mx (.mv rfl (.mv rfl (.c (.call .none (stringslite_HasPrefix_ok hv1) (.cons (.s rfl) (.cons (.s rfl) .nil))) (.nil (.cb rfl h (fun _ h => ?_) fun _ h => ?_)))))))))))
 ·
  obtain ⟨hn3, h⟩ := need_some h
  refine .sn mx (.mv rfl (.mv rfl (.c (.lenStr .none Tryz.underlying9 (.s rfl)) (.c (.sliceStr .none Tryz.underlying9 (.s rfl) (.s rfl) rfl (fun _ => hn3)) (.asn rfl (.nil (.ret (.thenRet ?_))))))))
  obtain rfl := some_eq h
  exact Ends.rt Tryz.results150 rfl
 ·
  refine .skip (.then (.sn mx (.mv rfl (.asn rfl (.nil (.ret ?_))))))
  obtain rfl := some_eq h
  exact Ends.rt Tryz.results150 rfl

theorem strings_TrimPrefix_ok {s1 : Str} {prefix1 : Str} {r : Str}  (h : strings_TrimPrefix s1 prefix1 = some r) : FSpec Tryz.prog 136 [rep s1, rep prefix1] (rep r) := by
 unfold strings_TrimPrefix at h
 obtain ⟨r1, hv1, h⟩ := bind_some h
 refine FSpec.i Tryz.func136 rfl Tryz.ntmps136 rfl (fun F => (.sn mx (.c (.assign .none (.str (l := []) (by decide))) (.nil (.sn mx (.mv rfl (.mv rfl (.c (.call .none (stringslite_TrimPrefix_ok hv1) (.cons (.s rfl) (.cons (.s rfl) .nil))) (.asn rfl (.nil (.ret ?_)))))))))))
 obtain rfl := some_eq h
 exact Ends.rt Tryz.results136 rfl

theorem edit_Number_ok {s1 : Str} {r : (Int × Bool)}  (h : edit_Number s1 = some r) : FSpec Tryz.prog 111 [rep s1] (tup [rep r.1, rep r.2]) := by
 unfold edit_Number at h
 obtain ⟨digits1, hv1, h⟩ := bind_some h
 obtain ⟨r1, hv2, h⟩ := bind_some h
 obtain ⟨r2, hv3, h⟩ := bind_some h
 refine FSpec.i Tryz.func111 rfl Tryz.ntmps111 rfl (fun F => (.sn mx (.asi (.asb (.nil (.sn mx (.mv rfl (.c (.call .none (strings_TrimPrefix_ok hv1) (.cons (.s rfl) (.cons (.str (l := [45]) (by decide)) .nil))) (.asn rfl (.nil (.sn mx (.mv rfl (.c (.call .none (strconv_Atoi_ok hv2) (.cons (.s rfl) .nil)) (.mv rfl (.ex rfl rfl (.ex rfl rfl (.asn rfl (.asn rfl (.nil (.sn mx (.mv rfl (.mv rfl (.c (.eqErr .none Tryz.underlying52 (.s rfl)) (.mv rfl (.mg rfl rfl rfl (.c (.lenStr (.at rfl rfl) Tryz.underlying9 (.tmp rfl id)) (.c (.le (.at rfl rfl) (.tmp rfl id) .i) (.pa rfl rfl (.mv rfl (.mg rfl rfl rfl (.c (.callIf (.at rfl rfl) fnok97 (fun hg => strconv_Itoa_ok ((fun hg => gd_some hv3 (hg.2)) hg)) (.cons (.tmp rfl id) .nil) (fun h => h)) (.mg rfl rfl rfl (.c (.eqS (.at rfl rfl) (eqAt_str Tryz.underlying9) (.tmp rfl id) (.tmp rfl id)) (.pa rfl rfl (.asn rfl (.asn rfl (.nil (.ret ?_))))))))))))))))))))))))))))))))))))))
 obtain rfl := some_eq h
 exact Ends.ret2 (.inl rfl) Tryz.results111 (ResOK.tmp rfl trivial Imp.refl) (ResOK.tmp rfl trivial Imp.refl)

theorem edit_ReadEnd_ok {w1 : (List Str)} {r : (DEnd × Bool)}  (h : edit_ReadEnd w1 = some r) : FSpec Tryz.prog 81 [rep w1] (tup [rep r.1, rep r.2]) := by
 unfold edit_ReadEnd at h
 obtain ⟨x1, hv1, h⟩ := bnd_some h
 obtain ⟨hn2, h⟩ := need_some h
 obtain ⟨hn3, h⟩ := need_some h
 refine FSpec.i Tryz.func81 rfl Tryz.ntmps81 rfl (fun F => (.sr [([], [2]), oo] mx (.al zo62 rfl (.cA (.assign .none .bool) (.nil (.reB (t := 2) rfl (congrArg (cont 62) hv1) (.nameBox (t := 2) (g := 5001) rfl rfl (fun m5001 => (.seq (.sn mx (.mv rfl (.ln sl76 rfl (.nei rfl (.mv rfl (.mg rfl rfl rfl (.c (.indexAddr (.at rfl rfl) sl76 ty9 (.tmp rfl id) .i (fun hg => hn2 hg.2)) (.lg ty9 rfl rfl rfl (.c (.eqS (.at rfl rfl) (eqAt_str Tryz.underlying9) (.tmp rfl id) (.str (l := []) (by decide))) (.po rfl rfl (.mv rfl (.mg rfl rfl rfl (.c (.indexAddr (.at rfl rfl) sl76 ty9 (.tmp rfl id) .i (fun hg => hn3 hg.2)) (.lg ty9 rfl rfl rfl (.c (.eqS (.at rfl rfl) (eqAt_str Tryz.underlying9) (.tmp rfl id) (.str (l := []) (by decide))) (.po rfl rfl (.nil (.cb rfl h (fun _ h => ?_) fun _ h => ?_)))))))))))))))))))))))))))
 ·
  refine .sr [([5001], []), ([5001], [5001]), oo] mx (.cA (.loadAt0 (k := 5001) .none ty62 rfl (.s rfl)) (.s0 5001 ty62 rfl rfl rfl (.cA (.assign .none .bool) (.nil (.fb 5001 [2] rfl (.cons (t := 2) rfl trivial .nil) (.ret (.thenRet ?_)))))))
  obtain rfl := some_eq h
  exact Ends.r2 Tryz.results81 ty62 rfl rfl
 ·
  obtain ⟨hn5, h⟩ := need_some h
  obtain ⟨v1, hv6, h⟩ := bnd_some h
  obtain ⟨r1, hv7, h⟩ := bind_some h
  obtain ⟨hn8, h⟩ := need_some h
  obtain ⟨r2, hv9, h⟩ := bind_some h
  obtain ⟨x2, hv10, h⟩ := bnd_some h
  obtain ⟨hn11, h⟩ := need_some h
  obtain ⟨r3, hv12, h⟩ := bind_some h
  obtain ⟨x3, hv13, h⟩ := bnd_some h
  refine .skip (.then (.sr [oo, oo, oo, oo, oo, oo, oo, oo, oo, ([5001], [5001]), oo, ([5001], [5001])] mx (.mvA rfl (.cA (.indexAddr .none sl76 ty9 (.s rfl) .i (fun _ => hn5)) (.rlA hv6 ty9 rfl (.cA (.call .none (edit_SideWords_ok hv7) .nil) (.mvA rfl (.cA (.indexAddr .none sl76 ty9 (.s rfl) .i (fun _ => hn8)) (.ldA ty9 rfl (.cA (.call .none (slices_Index_string_ok hv9) (.cons (.s rfl) (.cons (.s rfl) .nil))) (.cA (.fieldPtr .none fd62_0 (.s rfl)) (.cN (.storeAt (g := 5001) ty9 rfl (.s rfl) sf62_0 (.s rfl)) (.cA (.fieldPtr .none fd62_1 (.s rfl)) (.cN (.storeAt (g := 5001) ty3 rfl (.s rfl) sf62_1 (.s rfl)) (.nil (.reB (t := 5001) rfl (congrArg (fun y => boxAt m5001 62 y) hv10) (.sr [oo, oo, oo, oo, oo, oo, oo, oo, ([5001], [5001]), oo] mx (.mvA rfl (.cA (.indexAddr .none sl76 ty9 (.s rfl) .i (fun _ => hn11)) (.ldA ty9 rfl (.cA (.call .none (edit_Number_ok hv12) (.cons (.s rfl) .nil)) (.mvA rfl (.exA rfl rfl (.exA rfl rfl (.cA (.fieldPtr .none fd62_2 (.s rfl)) (.cN (.storeAt (g := 5001) ty3 rfl (.s rfl) sf62_2 (.s rfl)) (.asnA rfl (.nil (.reB (t := 5001) rfl (congrArg (fun y => boxAt m5001 62 y) hv13) (.sr [([5001], []), oo, oo, oo, ([5001], []), oo, oo, ([5001], [5001]), oo] mx (.cA (.loadAt0 (k := 5001) .none ty62 rfl (.s rfl)) (.mvA rfl (.mvA rfl (.cA (.fieldPtr (.at rfl rfl) fd62_1 (.s rfl)) (.cA (.loadAt (k := 5001) (.at rfl rfl) ty3 rfl (.tmp rfl id) hfd62_1) (.cA (.gt (.at rfl rfl) (.tmp rfl id) .i) (.cA (.pickAnd .none (.s rfl) (.tmp rfl id)) (.s0 5001 ty62 rfl rfl rfl (.asnA rfl (.nil (.fb 5001 [2] rfl (.cons (t := 2) rfl trivial .nil) (.ret ?_))))))))))))))))))))))))))))))))))))))))))
  obtain rfl := some_eq h
  exact Ends.r2 Tryz.results81 ty62 rfl rfl

theorem edit_ReadNumbers_ok {w1 : (List Str)} {r : ((List Int) × Bool)}  (h : edit_ReadNumbers w1 = some r) : FSpec Tryz.prog 112 [rep w1] (tup [rep r.1, rep r.2]) := by
 unfold edit_ReadNumbers at h
 refine FSpec.i Tryz.func112 rfl Tryz.ntmps112 rfl (fun F => (.sn mx (.c (.assign .none (.const (x := ([] : (List Int))) (fun M w => ⟨_, ⟨none, 0, rfl, Nat.le_refl _, by decide, rfl⟩, rfl⟩))) (.asb (.nil (.sr [([], [4])] mx (.cW (.nilRow (T := 3) (α := Int) rfl) (.nil (.nameRow (t := 4) (g := 5001) rfl rfl rfl (fun s5001 => (.seq (.sn mx (.mv rfl (.ln sl76 rfl (.mvi (.nil ?_))))))))))))))))
 obtain ⟨o_1, h, hK1⟩ := bindR_some h
 refine .thenJ (ι := (List Int)) (fun j_1 => []) (fun j_1 => [(4, some (rowV 3 j_1))]) (fun s => o_1 = Res.nx s) Sub.nil SubB.nil ?_ (fun j_1 hj1 => ?_)
 ·
  refine .block (.anon (t := 4) (g := 5001) rfl rfl trivial rfl (.rforEL h (fun p2_ => [(11, ⟨True, rep p2_.1⟩)]) (fun p2_ => [(4, some (rowV 3 p2_.2))]) (.k 11 rfl .nil) (.k 4 rfl .nil) (.k2 9 10 rfl rfl .nil) SubB.nil (fun p2_ o_2 h hD2 => (.nameRow (t := 4) (g := 5002) rfl rfl rfl (fun s5002 => (.sn mx (.lt rfl rfl (.nil (.seq (.cb rfl h (fun _ h => ?_) fun _ h => ?_))))))))))
  ·
   refine .skip (.then (.seq ?_))
   obtain ⟨o_4, h, hK4⟩ := bindD_some h
   unfold edit_ReadNumbers_L1 at h
   refine .thenJ (ι := (List Int)) (fun j_4 => []) (fun j_4 => [(4, some (rowV 3 j_4))]) (fun s => o_4 = Res.nx s) (.k2 9 10 rfl rfl (.k 11 rfl .nil)) SubB.nil ?_ (fun j_4 hj4 => ?_)
   ·
    obtain ⟨hn5, h⟩ := need_some h
    obtain ⟨r1, hv6, h⟩ := bind_some h
    refine .block (.sn mx (.ix sl76 ty9 rfl rfl hn5 (.ld ty9 rfl (.asn rfl (.nil (.sn mx (.mv rfl (.c (.call .none (edit_Number_ok hv6) (.cons (.s rfl) .nil)) (.mv rfl (.ex rfl rfl (.ex rfl rfl (.asn rfl (.asn rfl (.nil (.seq (.sn mx (.mv rfl (.c (.not .none (.s rfl)) (.nil (.cb rfl h (fun _ h => ?_) fun _ h => ?_))))))))))))))))))))
    ·
     refine .sn mx (.c (.assign .none (.const (x := ([] : (List Int))) (fun M w => ⟨_, ⟨none, 0, rfl, Nat.le_refl _, by decide, rfl⟩, rfl⟩))) (.asb (.nil (.ret (.thenRet (.blkRet (.thenRet (.thenRet (.blkRet (.thenRet ?_))))))))))
     replace h := resd_ab hK4 (some_eq h)
     replace h := hD2 _ (some_eq h)
     replace h := resb_ab hK1 (some_eq h)
     obtain rfl := some_eq h
     exact Ends.ret2 (.inl rfl) Tryz.results112 (ResOK.tmp rfl trivial Imp.refl) (ResOK.tmp rfl trivial Imp.refl)
    ·
     obtain ⟨hn8, h⟩ := need_some h
     exact .skip (.then (.rg [oo, oo, oo, ([5002], [25, 5002]), ([25], [4, 25])] mx (.mvA rfl (.mvA rfl (.cA (.buildSlice (xs := [_]) .none sl104 ty3 hz3 (.cons (.s rfl) .nil) rfl (by decide)) (.cW (.append (k := 5002) rk104 rfl (.told (.s rfl) rfl) (.s rfl) hn8) (.consWD (.passRow rfl (.tmp rfl)) rfl rfl (.nil (.blkNormal (Ends.j _ (some_eq h)))))))))))
   ·
    have h := resd_nx hK4 hj4
    exact .nameRow (t := 4) (g := 5003) rfl rfl rfl (fun s5003 => (.rn mx (.adi rfl (.mv rfl (.nil (.anon (t := 4) (g := 5003) rfl rfl trivial rfl (Ends.ag (some_eq h))))))))
  ·
   refine .exit (.thenExit (.thenExit (.blkExit (.anon (t := 4) (g := 5002) rfl rfl trivial rfl ?_))))
   replace h := hD2 _ (some_eq h)
   exact Ends.j _ (some_eq h)
 ·
  have h := resb_nx hK1 hj1
  refine .freezeRowA (t := 4) rfl rfl SubB.nil rfl (.sn mx (.mv rfl (.asn rfl (.asb (.nil (.ret ?_))))))
  obtain rfl := some_eq h
  exact Ends.ret2 (.inl rfl) Tryz.results112 (ResOK.tmp rfl trivial Imp.refl) (ResOK.tmp rfl trivial Imp.refl)

theorem desk_words_numbers_ok {w1 : Desk_words} {many1 : Int} {r : ((List Int) × Bool × Desk_words)} {m36 : Nat} (h : desk_words_numbers w1 many1 = some r) : FSpecO Tryz.prog 82 [isV (ptr m36 0), rep many1] [(ptr m36 0, cont 130 w1)] (tup [rep r.1, rep r.2.1]) [some (cont 130 r.2.2)] := by
 unfold desk_words_numbers at h
 refine FSpecO.i Tryz.func82 rfl Tryz.ntmps82 rfl (fun F => (.sn mx (.c (.assign .none (.const (x := ([] : (List Int))) (fun M w => ⟨_, ⟨none, 0, rfl, Nat.le_refl _, by decide, rfl⟩, rfl⟩))) (.asb (.nil (.seq (.sr [oo, oo, oo, ([36], []), oo, oo, oo] mx (.mvA rfl (.cA (.nilCheckP .none (.s rfl)) (.cA (.fieldPtr .none fd130_0 (.s rfl)) (.cA (.loadAt (k := 36) .none ty76 rfl (.s rfl) hfd130_0) (.cA (.len .none sl76 (.s rfl)) (.mvA rfl (.cA (.lt .none (.s rfl) (.s rfl)) (.nil (.cb rfl h (fun _ h => ?_) fun _ h => ?_))))))))))))))))
 ·
  refine .sn mx (.c (.assign .none (.const (x := ([] : (List Int))) (fun M w => ⟨_, ⟨none, 0, rfl, Nat.le_refl _, by decide, rfl⟩, rfl⟩))) (.asb (.nil (.ret (.thenRet ?_)))))
  obtain rfl := some_eq h
  exact Ends.ret2O (.inl rfl) [36] Tryz.results82 (by decide) (.held rfl .nil) (ResOK.tmp rfl trivial Imp.refl) (ResOK.tmp rfl trivial Imp.refl)
 ·
  obtain ⟨hn2, h⟩ := need_some h
  obtain ⟨r1, hv3, h⟩ := bind_some h
  obtain ⟨hn4, h⟩ := need_some h
  obtain ⟨v1, hv5, h⟩ := bnd_some h
  obtain ⟨c1, hv6, h⟩ := bnd_some h
  refine .skip (.then (.sr [oo, oo, oo, ([36], []), oo, oo, oo, oo, oo, oo, oo, oo] mx (.mvA rfl (.cA (.nilCheckP .none (.s rfl)) (.cA (.fieldPtr .none fd130_0 (.s rfl)) (.cA (.loadAt (k := 36) .none ty76 rfl (.s rfl) hfd130_0) (.mvA rfl (.cA (.slice .none sl76 ty9 (.s rfl) rfl (.s rfl) (fun _ => hn2)) (.cA (.call .none (edit_ReadNumbers_ok hv3) (.cons (.s rfl) .nil)) (.mvA rfl (.exA rfl rfl (.exA rfl rfl (.asnA rfl (.asnA rfl (.nil (.sr [oo, oo, oo, oo, ([36], []), oo, oo, oo, oo, ([36], [36])] mx (.mvA rfl (.mvA rfl (.cA (.nilCheckP .none (.s rfl)) (.cA (.fieldPtr .none fd130_0 (.s rfl)) (.cA (.loadAt (k := 36) .none ty76 rfl (.s rfl) hfd130_0) (.mvA rfl (.cA (.re hv5 (.slice .none sl76 ty9 (.s rfl) (.s rfl) rfl (fun _ => hn4))) (.cA (.nilCheckP .none (.s rfl)) (.cA (.fieldPtr .none fd130_0 (.s rfl)) (.cN (.storeAt (g := 36) ty76 rfl (.s rfl) sf130_0 (.s rfl)) (.nil (.reB (t := 36) rfl (congrArg (fun y => boxAt m36 130 y) hv6) (.sn mx (.mv rfl (.mv rfl (.asn rfl (.asn rfl (.nil (.ret ?_)))))))))))))))))))))))))))))))))))
  obtain rfl := some_eq h
  exact Ends.ret2O (.inl rfl) [36] Tryz.results82 (by decide) (.held rfl .nil) (ResOK.tmp rfl trivial Imp.refl) (ResOK.tmp rfl trivial Imp.refl)

theorem edit_Points_ok {l1 : (List Int)} {r : ((List Point) × Bool)}  (h : edit_Points l1 = some r) : FSpec Tryz.prog 83 [rep l1] (tup [rep r.1, rep r.2]) := by
 unfold edit_Points at h
 refine FSpec.i Tryz.func83 rfl Tryz.ntmps83 rfl (fun F => (.sn mx (.c (.assign .none (.const (x := ([] : (List Point))) (fun M w => ⟨_, ⟨none, 0, rfl, Nat.le_refl _, by decide, rfl⟩, rfl⟩))) (.asb (.nil (.seq (.sn mx (.mv rfl (.ln sl104 rfl (.c (.rem .none (.s rfl) .i (fun _ => by decide)) (.eqi rfl (.mv rfl (.mg rfl rfl rfl (.c (.len (.at rfl rfl) sl104 (.tmp rfl id)) (.c (.eqI (.at rfl rfl) (.tmp rfl id) .i) (.po rfl rfl (.nil (.cb rfl h (fun _ h => ?_) fun _ h => ?_))))))))))))))))))
 ·
  refine .sn mx (.c (.assign .none (.const (x := ([] : (List Point))) (fun M w => ⟨_, ⟨none, 0, rfl, Nat.le_refl _, by decide, rfl⟩, rfl⟩))) (.asb (.nil (.ret (.thenRet ?_)))))
  obtain rfl := some_eq h
  exact Ends.ret2 (.inl rfl) Tryz.results83 (ResOK.tmp rfl trivial Imp.refl) (ResOK.tmp rfl trivial Imp.refl)
 ·
  refine .skip (.then (.sr [([], [4])] mx (.cW (.nilRow (T := 89) (α := Point) rfl) (.nil (.nameRow (t := 4) (g := 5001) rfl rfl rfl (fun s5001 => (.seq (.sn mx (.asi (.nil ?_))))))))))
  obtain ⟨j_2, h, hK2⟩ := bind_some h
  refine .thenJ (ι := (List Point)) (fun j_2 => []) (fun j_2 => [(4, some (rowV 89 j_2))]) (fun s => j_2 = s) Sub.nil SubB.nil ?_ (fun j_2' hj2 => ?_)
  ·
   refine .block (.anon (t := 4) (g := 5001) rfl rfl trivial rfl (.loopL h (fun s3_ => [(5, ⟨True, rep s3_.2⟩)]) (fun s3_ => [(4, some (rowV 89 s3_.1))]) (.k 5 rfl .nil) (.k 4 rfl .nil) (.k 0 rfl .nil) SubB.nil (fun s3_ o_3 h hD3 => ?_)))
   unfold edit_Points_L1 at h
   refine .nameRow (t := 4) (g := 5002) rfl rfl rfl (fun s5002 => (.seq (.sn mx (.mv rfl (.mv rfl (.ln sl104 rfl (.lt rfl rfl (.nil (.cb rfl h (fun _ h => ?_) fun _ h => ?_)))))))))
   ·
    obtain ⟨hn5, h⟩ := need_some h
    obtain ⟨hn6, h⟩ := need_some h
    obtain ⟨hn7, h⟩ := need_some h
    obtain ⟨out1, hv8, h⟩ := bnd_some h
    obtain ⟨i1, hv9, h⟩ := bnd_some h
    exact .skip (.then (.seq (.block (.rg [oo, oo, oo, oo, oo, oo, oo, oo, oo, oo, oo, oo, ([5002], [33, 5002]), ([33], [4, 33])] mx (.mvA rfl (.mvA rfl (.mvA rfl (.ixA sl104 ty3 rfl rfl hn5 (.ldA ty3 rfl (.mvA rfl (.mvA rfl (.cA (.addW .none (.s rfl) .i) (.ixA sl104 ty3 rfl rfl hn6 (.ldA ty3 rfl (.cA (.buildF (y := (⟨gx l1 s3_.2, gx l1 (W (s3_.2 + 1))⟩ : Point)) .none bu89 zc89 rfl (.cons (.s rfl) (.cons (.s rfl) .nil)) (.cons rfl sf89_0 (.cons rfl sf89_1 .nil))) (.cA (.buildSlice (xs := [_]) .none sl63 ty89 hz89 (.cons (.s rfl) .nil) rfl (by decide)) (.cW (.append (k := 5002) rk63 rfl (.told (.s rfl) rfl) (.s rfl) hn7) (.consWD (.passRow rfl (.tmp rfl)) rfl rfl (.nil (.blkNormal (.then (.reB (t := 4) rfl (congrArg (rowV 89) hv8) (.nameRow (t := 4) (g := 5003) rfl rfl rfl (fun s5003 => (.rn mx (.mv rfl (.adi rfl (.ra hv9 rfl (.nil (.anon (t := 4) (g := 5003) rfl rfl trivial rfl (Ends.ag (some_eq h))))))))))))))))))))))))))))))))
   ·
    refine .exit (.thenExit (.thenExit (.blkExit (.anon (t := 4) (g := 5002) rfl rfl trivial rfl ?_))))
    replace h := hD3 _ (some_eq h)
    exact Ends.j _ (some_eq h)
  ·
   subst hj2; have h := hK2; clear hK2
   refine .freezeRowA (t := 4) rfl rfl SubB.nil rfl (.sn mx (.mv rfl (.asn rfl (.asb (.nil (.ret ?_))))))
   obtain rfl := some_eq h
   exact Ends.ret2 (.inl rfl) Tryz.results83 (ResOK.tmp rfl trivial Imp.refl) (ResOK.tmp rfl trivial Imp.refl)

theorem desk_words_option_ok {w1 : Desk_words} {word1 : Str} {r : (Str × Desk_words)} {m25 : Nat} (h : desk_words_option w1 word1 = some r) : FSpecO Tryz.prog 84 [isV (ptr m25 0), rep word1] [(ptr m25 0, cont 130 w1)] (rep r.1) [some (cont 130 r.2)] := by
 unfold desk_words_option at h
 obtain ⟨hn1, h⟩ := need_some h
 refine FSpecO.i Tryz.func84 rfl Tryz.ntmps84 rfl (fun F => (.sn mx (.c (.assign .none (.str (l := []) (by decide))) (.nil (.seq (.sr [oo, oo, oo, ([25], []), oo, oo, oo, oo, oo, oo, ([25], []), oo, oo, oo, oo, oo] mx (.mvA rfl (.cA (.nilCheckP .none (.s rfl)) (.cA (.fieldPtr .none fd130_0 (.s rfl)) (.cA (.loadAt (k := 25) .none ty76 rfl (.s rfl) hfd130_0) (.cA (.len .none sl76 (.s rfl)) (.cA (.lt .none (.s rfl) .i) (.mvA rfl (.cA (.move (.at rfl rfl) (.s rfl)) (.cA (.nilCheckP (.at rfl rfl) (.tmp rfl id)) (.cA (.fieldPtr (.at rfl rfl) fd130_0 (.tmp rfl id)) (.cA (.loadAt (k := 25) (.at rfl rfl) ty76 rfl (.tmp rfl id) hfd130_0) (.cA (.indexAddr (.at rfl rfl) sl76 ty9 (.tmp rfl id) .i (fun hg => hn1 hg.2)) (.cA (.load (.at rfl rfl) ty9 (.tmp rfl id)) (.cA (.move (.at rfl rfl) (.s rfl)) (.cA (.neS (.at rfl rfl) (eqAt_str Tryz.underlying9) (.tmp rfl id) (.tmp rfl id)) (.cA (.pickOr .none (.s rfl) (.tmp rfl id)) (.nil (.cb rfl h (fun _ h => ?_) fun _ h => ?_))))))))))))))))))))))))
 ·
  refine .sn mx (.c (.assign .none (.str (l := []) (by decide))) (.nil (.ret (.thenRet ?_))))
  obtain rfl := some_eq h
  exact Ends.ret1O (.inl rfl) [25] Tryz.results84 (by decide) (.held rfl .nil) (ResOK.tmp rfl trivial Imp.refl)
 ·
  obtain ⟨r1, hv3, h⟩ := bind_some h
  obtain ⟨r2, hv4, h⟩ := bind_some h
  refine .skip (.then (.sr [oo, ([25], [25])] mx (.mvA rfl (.cW (.cO [25] (desk_words_take_ok hv3) (.cons (.s rfl) .nil) (.cons (k := 25) rfl .nil) rfl) (.nil (.sr [oo, ([25], [25]), oo] mx (.mvA rfl (.cW (.cO [25] (desk_words_take_ok hv4) (.cons (.s rfl) .nil) (.cons (k := 25) rfl .nil) rfl) (.asnA rfl (.nil (.ret ?_)))))))))))
  obtain rfl := some_eq h
  exact Ends.ret1O (.inl rfl) [25] Tryz.results84 (by decide) (.held rfl .nil) (ResOK.tmp rfl trivial Imp.refl)

theorem desk_readEdge_ok {l1 : (List Str)} {text1 : Str} {r : (DEdge × Bool)}  (h : desk_readEdge l1 text1 = some r) : FSpec Tryz.prog 37 [rep l1, rep text1] (tup [rep r.1, rep r.2]) := by
 unfold desk_readEdge at h
 obtain ⟨x1, hv1, h⟩ := bnd_some h
 obtain ⟨hn2, h⟩ := need_some h
 obtain ⟨v1, hv3, h⟩ := bnd_some h
 obtain ⟨r1, hv4, h⟩ := bind_some h
 obtain ⟨x2, hv5, h⟩ := bnd_some h
 refine FSpec.i Tryz.func37 rfl Tryz.ntmps37 rfl (fun F => (.sr [([], [4]), oo] mx (.al zo65 rfl (.cA (.assign .none .bool) (.nil (.reB (t := 4) rfl (congrArg (cont 65) hv1) (.nameBox (t := 4) (g := 5001) rfl rfl (fun m5001 => (.sr [oo, oo, oo, ([], [17]), ([17], [6, 17])] mx (.mvA rfl (.cA (.slice .none sl76 ty9 (.s rfl) .i rfl (fun _ => hn2)) (.cA (.re hv3 (.buildF (y := (⟨seg l1 1 (l1.length : Int)⟩ : Desk_words)) .none bu130 zc130 rfl (.cons (.s rfl) .nil) (.cons rfl sf130_0 .nil))) (.cW (.boxO rfl (.s rfl)) (.cW (.passRow rfl (.tmp rfl)) (.nil (.nameBox (t := 6) (g := 5002) rfl rfl (fun m5002 => (.sr [oo, ([5002], [5002]), oo, oo, ([5001], [5001]), oo, ([5001], [5001])] mx (.mvA rfl (.cW (.cO [5002] (desk_words_take_ok hv4) (.cons (.s rfl) .nil) (.cons (k := 5002) rfl .nil) rfl) (.mvA rfl (.cA (.fieldPtr .none fd65_0 (.s rfl)) (.cN (.storeAt (g := 5001) ty9 rfl (.s rfl) sf65_0 (.s rfl)) (.cA (.fieldPtr .none fd65_4 (.s rfl)) (.cN (.storeAt (g := 5001) ty9 rfl (.s rfl) sf65_4 (.s rfl)) (.nil (.reB (t := 5001) rfl (congrArg (fun y => boxAt m5001 65 y) hv5) (.seq (.sr [oo, ([5001], []), oo, oo, oo, oo, oo, ([5002], []), oo, oo, oo] mx (.cA (.fieldPtr .none fd65_0 (.s rfl)) (.cA (.loadAt (k := 5001) .none ty9 rfl (.s rfl) hfd65_0) (.cA (.eqS .none (eqAt_str Tryz.underlying9) (.s rfl) (.str (l := []) (by decide))) (.mvA rfl (.cA (.move (.at rfl rfl) (.s rfl)) (.cA (.nilCheckP (.at rfl rfl) (.tmp rfl id)) (.cA (.fieldPtr (.at rfl rfl) fd130_0 (.tmp rfl id)) (.cA (.loadAt (k := 5002) (.at rfl rfl) ty76 rfl (.tmp rfl id) hfd130_0) (.cA (.len (.at rfl rfl) sl76 (.tmp rfl id)) (.cA (.lt (.at rfl rfl) (.tmp rfl id) .i) (.cA (.pickOr .none (.s rfl) (.tmp rfl id)) (.nil (.cb rfl h (fun _ h => ?_) fun _ h => ?_))))))))))))))))))))))))))))))))))))))))))
 ·
  refine .sr [([5001], []), ([5001], [5001]), oo] mx (.cA (.loadAt0 (k := 5001) .none ty65 rfl (.s rfl)) (.s0 5001 ty65 rfl rfl rfl (.cA (.assign .none .bool) (.nil (.fb 5001 [4] rfl (.cons (t := 4) rfl trivial .nil) (.ret (.thenRet ?_)))))))
  obtain rfl := some_eq h
  exact Ends.r2 Tryz.results37 ty65 rfl rfl
 ·
  obtain ⟨hn7, h⟩ := need_some h
  obtain ⟨r2, hv8, h⟩ := bind_some h
  obtain ⟨hn9, h⟩ := need_some h
  obtain ⟨r3, hv10, h⟩ := bind_some h
  obtain ⟨x3, hv11, h⟩ := bnd_some h
  obtain ⟨hn12, h⟩ := need_some h
  obtain ⟨v2, hv13, h⟩ := bnd_some h
  obtain ⟨w1, hv14, h⟩ := bnd_some h
  refine .skip (.then (.sr [oo, oo, oo, ([5002], []), oo, oo, oo, oo, oo, ([], [7]), ([7], [7]), oo] mx (.mvA rfl (.cA (.nilCheckP .none (.s rfl)) (.cA (.fieldPtr .none fd130_0 (.s rfl)) (.cA (.loadAt (k := 5002) .none ty76 rfl (.s rfl) hfd130_0) (.cA (.slice .none sl76 ty9 (.s rfl) rfl .i (fun _ => hn7)) (.cA (.call .none (edit_ReadEnd_ok hv8) (.cons (.s rfl) .nil)) (.mvA rfl (.exA rfl rfl (.exA rfl rfl (.al zo62 rfl (.st ty62 rfl rfl rfl (.asnA rfl (.nil (.freeze (t := 7) rfl rfl (.k2 5001 5002 rfl rfl .nil) rfl (.sr [oo, oo, oo, ([5002], []), oo, oo, oo, oo, oo, ([], [9]), ([9], [9]), oo] mx (.mvA rfl (.cA (.nilCheckP .none (.s rfl)) (.cA (.fieldPtr .none fd130_0 (.s rfl)) (.cA (.loadAt (k := 5002) .none ty76 rfl (.s rfl) hfd130_0) (.cA (.slice .none sl76 ty9 (.s rfl) .i .i (fun _ => hn9)) (.cA (.call .none (edit_ReadEnd_ok hv10) (.cons (.s rfl) .nil)) (.mvA rfl (.exA rfl rfl (.exA rfl rfl (.al zo62 rfl (.st ty62 rfl rfl rfl (.asnA rfl (.nil (.freeze (t := 9) rfl rfl (.k2 5001 5002 rfl rfl .nil) rfl (.sr [oo, oo, oo, ([5001], [5001]), oo, ([5001], [5001])] mx (.ldA ty62 rfl (.ldA ty62 rfl (.cA (.fieldPtr .none fd65_1 (.s rfl)) (.cN (.storeAt (g := 5001) ty62 rfl (.s rfl) sf65_1 (.s rfl)) (.cA (.fieldPtr .none fd65_2 (.s rfl)) (.cN (.storeAt (g := 5001) ty62 rfl (.s rfl) sf65_2 (.s rfl)) (.nil (.reB (t := 5001) rfl (congrArg (fun y => boxAt m5001 65 y) hv11) (.sr [oo, oo, oo, oo, ([5002], []), oo, oo, oo, ([5002], [5002])] mx (.mvA rfl (.mvA rfl (.cA (.nilCheckP .none (.s rfl)) (.cA (.fieldPtr .none fd130_0 (.s rfl)) (.cA (.loadAt (k := 5002) .none ty76 rfl (.s rfl) hfd130_0) (.cA (.re hv13 (.slice .none sl76 ty9 (.s rfl) .i rfl (fun _ => hn12))) (.cA (.nilCheckP .none (.s rfl)) (.cA (.fieldPtr .none fd130_0 (.s rfl)) (.cN (.storeAt (g := 5002) ty76 rfl (.s rfl) sf130_0 (.s rfl)) ?_))))))))))))))))))))))))))))))))))))))))))))))))))
  refine .nil (.reB (t := 5002) rfl (congrArg (fun y => boxAt m5002 130 y) hv14) (.seq (.sn mx (.mv rfl (.c (.not .none (.s rfl)) (.mv rfl (.mg rfl rfl rfl (.c (.not (.at rfl rfl) (.tmp rfl id)) (.po rfl rfl (.nil (.cb rfl h (fun _ h => ?_) fun _ h => ?_)))))))))))
  ·
   refine .sr [([5001], []), ([5001], [5001]), oo] mx (.cA (.loadAt0 (k := 5001) .none ty65 rfl (.s rfl)) (.s0 5001 ty65 rfl rfl rfl (.cA (.assign .none .bool) (.nil (.fb 5001 [4] rfl (.cons (t := 4) rfl trivial .nil) (.ret (.thenRet ?_)))))))
   obtain rfl := some_eq h
   exact Ends.r2 Tryz.results37 ty65 rfl rfl
  ·
   obtain ⟨hn16, h⟩ := need_some h
   refine .skip (.then (.seq (.sr [oo, oo, oo, ([5002], []), oo, oo, oo, oo, oo, oo, ([5002], []), oo, oo, oo, oo] mx (.mvA rfl (.cA (.nilCheckP .none (.s rfl)) (.cA (.fieldPtr .none fd130_0 (.s rfl)) (.cA (.loadAt (k := 5002) .none ty76 rfl (.s rfl) hfd130_0) (.cA (.len .none sl76 (.s rfl)) (.cA (.gt .none (.s rfl) .i) (.mvA rfl (.cA (.move (.at rfl rfl) (.s rfl)) (.cA (.nilCheckP (.at rfl rfl) (.tmp rfl id)) (.cA (.fieldPtr (.at rfl rfl) fd130_0 (.tmp rfl id)) (.cA (.loadAt (k := 5002) (.at rfl rfl) ty76 rfl (.tmp rfl id) hfd130_0) (.cA (.indexAddr (.at rfl rfl) sl76 ty9 (.tmp rfl id) .i (fun hg => hn16 hg.2)) (.cA (.load (.at rfl rfl) ty9 (.tmp rfl id)) (.cA (.eqS (.at rfl rfl) (eqAt_str Tryz.underlying9) (.tmp rfl id) (.str (l := [98, 121]) (by decide))) (.cA (.pickAnd .none (.s rfl) (.tmp rfl id)) (.nil ?_)))))))))))))))))))
   obtain ⟨o_17, h, hK17⟩ := bindR_some h
   refine .thenJ (ι := (DEdge × Desk_words)) (fun j_17 => []) (fun j_17 => [(5001, some (boxAt m5001 65 j_17.1)), (5002, some (boxAt m5002 130 j_17.2))]) (fun s => o_17 = Res.nx s) (.k2 4 6 rfl rfl .nil) SubB.nil ?_ (fun j_17 hj17 => ?_)
   ·
    refine .cb rfl h (fun _ h => ?_) fun _ h => ?_
    ·
     obtain ⟨r4, hv19, h⟩ := bind_some h
     refine .sr [oo, ([5002], [5002])] mx (.mvA rfl (.cW (.cO [5002] (desk_words_take_ok hv19) (.cons (.s rfl) .nil) (.cons (k := 5002) rfl .nil) rfl) (.nil (.sn mx (.asi (.nil (.seq ?_)))))))
     obtain ⟨j_20, h, hK20⟩ := bind_some h
     refine .thenJ (ι := Int) (fun j_20 => [(11, ⟨True, rep j_20⟩)]) (fun j_20 => []) (fun s => j_20 = s) (.k2 4 6 rfl rfl .nil) (.k2 5001 5002 rfl rfl .nil) ?_ (fun j_20' hj20 => ?_)
     ·
      refine .block (.loopL h (fun s21_ => [(11, ⟨True, rep s21_⟩)]) (fun s21_ => []) (.k 11 rfl .nil) SubB.nil (.k2 4 6 rfl rfl .nil) (.k2 5001 5002 rfl rfl .nil) (fun s21_ o_21 h hD21 => ?_))
      unfold desk_readEdge_L1 at h
      obtain ⟨hn22, h⟩ := need_some h
      refine .seq (.sr [oo, oo, oo, oo, ([5002], []), oo, oo, oo, oo, oo, oo, ([5002], []), oo, oo, oo, oo, oo] mx (.mvA rfl (.mvA rfl (.cA (.nilCheckP .none (.s rfl)) (.cA (.fieldPtr .none fd130_0 (.s rfl)) (.cA (.loadAt (k := 5002) .none ty76 rfl (.s rfl) hfd130_0) (.cA (.len .none sl76 (.s rfl)) (.cA (.lt .none (.s rfl) (.s rfl)) (.mvA rfl (.cA (.move (.at rfl rfl) (.s rfl)) (.cA (.nilCheckP (.at rfl rfl) (.tmp rfl id)) (.cA (.fieldPtr (.at rfl rfl) fd130_0 (.tmp rfl id)) (.cA (.loadAt (k := 5002) (.at rfl rfl) ty76 rfl (.tmp rfl id) hfd130_0) (.cA (.move (.at rfl rfl) (.s rfl)) (.cA (.indexAddr (.at rfl rfl) sl76 ty9 (.tmp rfl id) (.tmp rfl id) (fun hg => hn22 hg.2)) (.cA (.load (.at rfl rfl) ty9 (.tmp rfl id)) (.cA (.neS (.at rfl rfl) (eqAt_str Tryz.underlying9) (.tmp rfl id) (.str (l := [99, 108, 97, 115, 115]) (by decide))) (.cA (.pickAnd .none (.s rfl) (.tmp rfl id)) (.nil (.cb rfl h (fun _ h => ?_) fun _ h => ?_))))))))))))))))))))
      ·
       obtain ⟨many1, hv24, h⟩ := bnd_some h
       exact .skip (.then (.block (.rn mx (.mv rfl (.adi rfl (.ra hv24 rfl (.nil (.blkNormal (Ends.ag (some_eq h))))))))))
      ·
       refine .exit (.thenExit (.thenExit (.blkExit ?_)))
       replace h := hD21 _ (some_eq h)
       exact Ends.j _ (some_eq h)
     ·
      subst hj20; have h := hK20; clear hK20
      obtain ⟨r5, hv25, h⟩ := bind_some h
      refine .sr [oo, oo, ([5002], [5002]), oo, oo, oo, oo, oo] mx (.mvA rfl (.mvA rfl (.cW (.cO [5002] (desk_words_numbers_ok hv25) (.cons (.s rfl) (.cons (.s rfl) .nil)) (.cons (k := 5002) rfl .nil) rfl) (.mvA rfl (.exA rfl rfl (.exA rfl rfl (.asnA rfl (.asnA rfl (.nil (.seq (.sn mx (.mv rfl (.c (.not .none (.s rfl)) (.nil (.cb rfl h (fun _ h => ?_) fun _ h => ?_)))))))))))))))
      ·
       refine .sr [([5001], []), ([5001], [5001]), oo] mx (.cA (.loadAt0 (k := 5001) .none ty65 rfl (.s rfl)) (.s0 5001 ty65 rfl rfl rfl (.cA (.assign .none .bool) (.nil (.fb 5001 [4] rfl (.cons (t := 4) rfl trivial .nil) (.ret (.thenRet (.thenRet ?_))))))))
       replace h := resb_ab hK17 (some_eq h)
       obtain rfl := some_eq h
       exact Ends.r2 Tryz.results37 ty65 rfl rfl
      ·
       obtain ⟨r6, hv27, h⟩ := bind_some h
       obtain ⟨x4, hv28, h⟩ := bnd_some h
       refine .skip (.then (.sr [oo, oo, oo, oo, oo, oo, ([5001], [5001]), oo] mx (.mvA rfl (.cA (.call .none (edit_Points_ok hv27) (.cons (.s rfl) .nil)) (.mvA rfl (.exA rfl rfl (.exA rfl rfl (.cA (.fieldPtr .none fd65_3 (.s rfl)) (.cN (.storeAt (g := 5001) ty63 rfl (.s rfl) sf65_3 (.s rfl)) (.asnA rfl (.nil (.reB (t := 5001) rfl (congrArg (fun y => boxAt m5001 65 y) hv28) (.sn mx (.mv rfl (.c (.not .none (.s rfl)) (.nil (.cb rfl h (fun _ h => ?_) fun _ h => ?_)))))))))))))))))
       ·
        refine .sr [([5001], []), ([5001], [5001]), oo] mx (.cA (.loadAt0 (k := 5001) .none ty65 rfl (.s rfl)) (.s0 5001 ty65 rfl rfl rfl (.cA (.assign .none .bool) (.nil (.fb 5001 [4] rfl (.cons (t := 4) rfl trivial .nil) (.ret (.thenRet ?_)))))))
        replace h := resb_ab hK17 (some_eq h)
        obtain rfl := some_eq h
        exact Ends.r2 Tryz.results37 ty65 rfl rfl
       ·
        exact .skip (Ends.j _ (some_eq h))
    ·
     exact .skip (Ends.j _ (some_eq h))
   ·
    have h := resb_nx hK17 hj17
    obtain ⟨r7, hv30, h⟩ := bind_some h
    obtain ⟨x5, hv31, h⟩ := bnd_some h
    refine .sr [oo, ([5002], [5002]), oo, ([5001], [5001])] mx (.mvA rfl (.cW (.cO [5002] (desk_words_option_ok hv30) (.cons (.s rfl) (.cons (.str (l := [99, 108, 97, 115, 115]) (by decide)) .nil)) (.cons (k := 5002) rfl .nil) rfl) (.cA (.fieldPtr .none fd65_5 (.s rfl)) (.cN (.storeAt (g := 5001) ty9 rfl (.s rfl) sf65_5 (.s rfl)) (.nil (.freezeBox (g := 5002) (ts := [6]) rfl (.cons (t := 6) rfl trivial .nil) (.k 5001 rfl .nil) rfl (.reB (t := 5001) rfl (congrArg (fun y => boxAt m5001 65 y) hv31) (.sr [([5001], []), oo, oo, oo, oo, oo, oo, ([5001], [5001]), oo] mx (.cA (.loadAt0 (k := 5001) .none ty65 rfl (.s rfl)) (.mvA rfl (.cA (.nilCheckR .none (.s rfl)) (.faA fd130_0 hfd130_0 rfl (.ldA ty76 rfl (.cA (.len .none sl76 (.s rfl)) (.cA (.eqI .none (.s rfl) .i) (.s0 5001 ty65 rfl rfl rfl (.asnA rfl (.nil (.fb 5001 [4] rfl (.cons (t := 4) rfl trivial .nil) (.ret ?_))))))))))))))))))))
    obtain rfl := some_eq h
    exact Ends.r2 Tryz.results37 ty65 rfl rfl

theorem desk_readNode_ok {l1 : (List Str)} {text1 : Str} {r : (DNode × Bool)}  (h : desk_readNode l1 text1 = some r) : FSpec Tryz.prog 38 [rep l1, rep text1] (tup [rep r.1, rep r.2]) := by
 unfold desk_readNode at h
 obtain ⟨n1, hv1, h⟩ := bnd_some h
 obtain ⟨v1, hv2, h⟩ := bnd_some h
 obtain ⟨r1, hv3, h⟩ := bind_some h
 obtain ⟨r2, hv4, h⟩ := bind_some h
 obtain ⟨r3, hv5, h⟩ := bind_some h
 obtain ⟨n2, hv6, h⟩ := bnd_some h
 obtain ⟨r4, hv7, h⟩ := bind_some h
 obtain ⟨n3, hv8, h⟩ := bnd_some h
 refine FSpec.i Tryz.func38 rfl Tryz.ntmps38 rfl (fun F => (.sr [([], [4]), oo] mx (.al zo59 rfl (.cA (.assign .none .bool) (.nil (.reB (t := 4) rfl (congrArg (cont 59) hv1) (.nameBox (t := 4) (g := 5001) rfl rfl (fun m5001 => (.sr [oo, oo, ([], [11]), ([11], [6, 11])] mx (.mvA rfl (.cA (.re hv2 (.buildF (y := (⟨l1⟩ : Desk_words)) .none bu130 zc130 rfl (.cons (.s rfl) .nil) (.cons rfl sf130_0 .nil))) (.cW (.boxO rfl (.s rfl)) (.cW (.passRow rfl (.tmp rfl)) (.nil (.nameBox (t := 6) (g := 5002) rfl rfl (fun m5002 => (.sr [oo, oo, ([5002], [5002]), oo, oo, ([5001], [5001])] mx (.cA (.call .none (edit_KindWords_ok hv3) .nil) (.mvA rfl (.cW (.cO [5002] (desk_words_take_ok hv4) (.cons (.s rfl) .nil) (.cons (k := 5002) rfl .nil) rfl) (.cA (.call .none (slices_Index_string_ok hv5) (.cons (.s rfl) (.cons (.s rfl) .nil))) (.cA (.fieldPtr .none fd59_1 (.s rfl)) (.cN (.storeAt (g := 5001) ty3 rfl (.s rfl) sf59_1 (.s rfl)) (.nil (.reB (t := 5001) rfl (congrArg (fun y => boxAt m5001 59 y) hv6) (.sr [oo, ([5002], [5002]), oo, oo, ([5001], [5001]), oo, ([5001], [5001])] mx (.mvA rfl (.cW (.cO [5002] (desk_words_take_ok hv7) (.cons (.s rfl) .nil) (.cons (k := 5002) rfl .nil) rfl) (.mvA rfl (.cA (.fieldPtr .none fd59_0 (.s rfl)) (.cN (.storeAt (g := 5001) ty9 rfl (.s rfl) sf59_0 (.s rfl)) (.cA (.fieldPtr .none fd59_3 (.s rfl)) (.cN (.storeAt (g := 5001) ty9 rfl (.s rfl) sf59_3 (.s rfl)) (.nil (.reB (t := 5001) rfl (congrArg (fun y => boxAt m5001 59 y) hv8) (.seq (.sr [oo, ([5001], []), oo, oo, oo, ([5001], []), oo, oo] mx (.cA (.fieldPtr .none fd59_1 (.s rfl)) (.cA (.loadAt (k := 5001) .none ty3 rfl (.s rfl) hfd59_1) (.cA (.lt .none (.s rfl) .i) (.mvA rfl (.cA (.fieldPtr (.at rfl rfl) fd59_0 (.s rfl)) (.cA (.loadAt (k := 5001) (.at rfl rfl) ty9 rfl (.tmp rfl id) hfd59_0) ?_)))))))))))))))))))))))))))))))))))))))))))
 refine .cA (.eqS (.at rfl rfl) (eqAt_str Tryz.underlying9) (.tmp rfl id) (.str (l := []) (by decide))) (.cA (.pickOr .none (.s rfl) (.tmp rfl id)) (.nil (.cb rfl h (fun _ h => ?_) fun _ h => ?_)))
 ·
  refine .sr [([5001], []), ([5001], [5001]), oo] mx (.cA (.loadAt0 (k := 5001) .none ty59 rfl (.s rfl)) (.s0 5001 ty59 rfl rfl rfl (.cA (.assign .none .bool) (.nil (.fb 5001 [4] rfl (.cons (t := 4) rfl trivial .nil) (.ret (.thenRet ?_)))))))
  obtain rfl := some_eq h
  exact Ends.r2 Tryz.results38 ty59 rfl rfl
 ·
  refine .skip (.then (.seq (.sr [oo, ([5001], []), oo] mx (.cA (.fieldPtr .none fd59_1 (.s rfl)) (.cA (.loadAt (k := 5001) .none ty3 rfl (.s rfl) hfd59_1) (.cA (.neI .none (.s rfl) .i) (.nil ?_)))))))
  obtain ⟨o_10, h, hK10⟩ := bindR_some h
  refine .thenJ (ι := (DNode × Desk_words)) (fun j_10 => []) (fun j_10 => [(5001, some (boxAt m5001 59 j_10.1)), (5002, some (boxAt m5002 130 j_10.2))]) (fun s => o_10 = Res.nx s) (.k2 4 6 rfl rfl .nil) SubB.nil ?_ (fun j_10 hj10 => ?_)
  ·
   refine .cb rfl h (fun _ h => ?_) fun _ h => ?_
   ·
    obtain ⟨r5, hv12, h⟩ := bind_some h
    refine .sr [oo, ([5002], [5002]), oo, oo, oo, oo, oo] mx (.mvA rfl (.cW (.cO [5002] (desk_words_numbers_ok hv12) (.cons (.s rfl) (.cons .i .nil)) (.cons (k := 5002) rfl .nil) rfl) (.mvA rfl (.exA rfl rfl (.exA rfl rfl (.asnA rfl (.asnA rfl (.nil (.seq (.sn mx (.mv rfl (.c (.not .none (.s rfl)) (.nil (.cb rfl h (fun _ h => ?_) fun _ h => ?_))))))))))))))
    ·
     refine .sr [([5001], []), ([5001], [5001]), oo] mx (.cA (.loadAt0 (k := 5001) .none ty59 rfl (.s rfl)) (.s0 5001 ty59 rfl rfl rfl (.cA (.assign .none .bool) (.nil (.fb 5001 [4] rfl (.cons (t := 4) rfl trivial .nil) (.ret (.thenRet (.thenRet ?_))))))))
     replace h := resb_ab hK10 (some_eq h)
     obtain rfl := some_eq h
     exact Ends.r2 Tryz.results38 ty59 rfl rfl
    ·
     obtain ⟨hn14, h⟩ := need_some h
     obtain ⟨hn15, h⟩ := need_some h
     obtain ⟨hn16, h⟩ := need_some h
     obtain ⟨hn17, h⟩ := need_some h
     obtain ⟨v2, hv18, h⟩ := bnd_some h
     exact .skip (.then (.rg [oo, oo, oo, oo, oo, oo, oo, oo, oo, oo, oo, oo, oo, oo, ([5001], [5001])] mx (.mvA rfl (.cA (.indexAddr .none sl104 ty3 (.s rfl) .i (fun _ => hn14)) (.ldA ty3 rfl (.mvA rfl (.cA (.indexAddr .none sl104 ty3 (.s rfl) .i (fun _ => hn15)) (.ldA ty3 rfl (.mvA rfl (.cA (.indexAddr .none sl104 ty3 (.s rfl) .i (fun _ => hn16)) (.ldA ty3 rfl (.mvA rfl (.cA (.indexAddr .none sl104 ty3 (.s rfl) .i (fun _ => hn17)) (.ldA ty3 rfl (.cA (.re hv18 (.buildF (y := (⟨gx r5.1 0, gx r5.1 1, gx r5.1 2, gx r5.1 3⟩ : Box)) .none bu57 zc57 rfl (.cons (.s rfl) (.cons (.s rfl) (.cons (.s rfl) (.cons (.s rfl) .nil)))) (.cons rfl sf57_0 (.cons rfl sf57_1 (.cons rfl sf57_2 (.cons rfl sf57_3 .nil)))))) (.cA (.fieldPtr .none fd59_2 (.s rfl)) (.cN (.storeAt (g := 5001) ty57 rfl (.s rfl) sf59_2 (.s rfl)) (.nil (Ends.j _ (some_eq h))))))))))))))))))))
   ·
    exact .skip (Ends.j _ (some_eq h))
  ·
   have h := resb_nx hK10 hj10
   obtain ⟨r6, hv19, h⟩ := bind_some h
   obtain ⟨n4, hv20, h⟩ := bnd_some h
   obtain ⟨r7, hv21, h⟩ := bind_some h
   obtain ⟨n5, hv22, h⟩ := bnd_some h
   obtain ⟨hn23, h⟩ := need_some h
   refine .sr [oo, ([5002], [5002]), oo, ([5001], [5001])] mx (.mvA rfl (.cW (.cO [5002] (desk_words_option_ok hv19) (.cons (.s rfl) (.cons (.str (l := [99, 108, 97, 115, 115]) (by decide)) .nil)) (.cons (k := 5002) rfl .nil) rfl) (.cA (.fieldPtr .none fd59_4 (.s rfl)) (.cN (.storeAt (g := 5001) ty9 rfl (.s rfl) sf59_4 (.s rfl)) (.nil (.reB (t := 5001) rfl (congrArg (fun y => boxAt m5001 59 y) hv20) (.sr [oo, ([5002], [5002]), oo, ([5001], [5001])] mx (.mvA rfl (.cW (.cO [5002] (desk_words_option_ok hv21) (.cons (.s rfl) (.cons (.str (l := [105, 110]) (by decide)) .nil)) (.cons (k := 5002) rfl .nil) rfl) (.cA (.fieldPtr .none fd59_5 (.s rfl)) (.cN (.storeAt (g := 5001) ty9 rfl (.s rfl) sf59_5 (.s rfl)) (.nil (.reB (t := 5001) rfl (congrArg (fun y => boxAt m5001 59 y) hv22) (.seq (.sr [oo, oo, oo, ([5002], []), oo, oo, oo, oo, oo, oo, ([5002], []), oo, oo, oo, oo] mx (.mvA rfl (.cA (.nilCheckP .none (.s rfl)) (.cA (.fieldPtr .none fd130_0 (.s rfl)) (.cA (.loadAt (k := 5002) .none ty76 rfl (.s rfl) hfd130_0) (.cA (.len .none sl76 (.s rfl)) (.cA (.gt .none (.s rfl) .i) (.mvA rfl (.cA (.move (.at rfl rfl) (.s rfl)) (.cA (.nilCheckP (.at rfl rfl) (.tmp rfl id)) (.cA (.fieldPtr (.at rfl rfl) fd130_0 (.tmp rfl id)) (.cA (.loadAt (k := 5002) (.at rfl rfl) ty76 rfl (.tmp rfl id) hfd130_0) (.cA (.indexAddr (.at rfl rfl) sl76 ty9 (.tmp rfl id) .i (fun hg => hn23 hg.2)) (.cA (.load (.at rfl rfl) ty9 (.tmp rfl id)) (.cA (.eqS (.at rfl rfl) (eqAt_str Tryz.underlying9) (.tmp rfl id) (.str (l := [108, 111, 99, 107, 101, 100]) (by decide))) (.cA (.pickAnd .none (.s rfl) (.tmp rfl id)) (.nil ?_)))))))))))))))))))))))))))))))
   obtain ⟨j_24, h, hK24⟩ := bind_some h
   refine .thenJ (ι := (DNode × Desk_words)) (fun j_24 => []) (fun j_24 => [(5001, some (boxAt m5001 59 j_24.1)), (5002, some (boxAt m5002 130 j_24.2))]) (fun s => j_24 = s) (.k2 4 6 rfl rfl .nil) SubB.nil ?_ (fun j_24' hj24 => ?_)
   ·
    refine .cb rfl h (fun _ h => ?_) fun _ h => ?_
    ·
     obtain ⟨n6, hv26, h⟩ := bnd_some h
     obtain ⟨r8, hv27, h⟩ := bind_some h
     exact .sr [oo, ([5001], [5001])] mx (.cA (.fieldPtr .none fd59_6 (.s rfl)) (.cN (.storeAt (g := 5001) ty4 rfl (.s rfl) sf59_6 .bool) (.nil (.reB (t := 5001) rfl (congrArg (fun y => boxAt m5001 59 y) hv26) (.rg [oo, ([5002], [5002])] mx (.mvA rfl (.cW (.cO [5002] (desk_words_take_ok hv27) (.cons (.s rfl) .nil) (.cons (k := 5002) rfl .nil) rfl) (.nil (Ends.j _ (some_eq h))))))))))
    ·
     exact .skip (Ends.j _ (some_eq h))
   ·
    subst hj24; have h := hK24; clear hK24
    refine .freezeBox (g := 5002) (ts := [6]) rfl (.cons (t := 6) rfl trivial .nil) (.k 5001 rfl .nil) rfl (.sr [([5001], []), oo, oo, oo, oo, oo, oo, ([5001], [5001]), oo] mx (.cA (.loadAt0 (k := 5001) .none ty59 rfl (.s rfl)) (.mvA rfl (.cA (.nilCheckR .none (.s rfl)) (.faA fd130_0 hfd130_0 rfl (.ldA ty76 rfl (.cA (.len .none sl76 (.s rfl)) (.cA (.eqI .none (.s rfl) .i) (.s0 5001 ty59 rfl rfl rfl (.asnA rfl (.nil (.fb 5001 [4] rfl (.cons (t := 4) rfl trivial .nil) (.ret ?_)))))))))))))
    obtain rfl := some_eq h
    exact Ends.r2 Tryz.results38 ty59 rfl rfl

theorem desk_Parse_ok {text1 : Str} {r : (Doc × (List Rule) × Int × Int)}  (h : desk_Parse text1 = some r) : FSpec Tryz.prog 13 [rep text1] (tup [rep r.1, rep r.2.1, rep r.2.2.1, rep r.2.2.2]) := by
 unfold desk_Parse at h
 obtain ⟨v1, hv1, h⟩ := bnd_some h
 refine FSpec.i Tryz.func13 rfl Tryz.ntmps13 rfl (fun F => (.sr [([], [2]), oo, oo, oo] mx (.al zo25 rfl (.cA (.assign .none (.const (x := ([] : (List Rule))) (fun M w => ⟨_, ⟨none, 0, rfl, Nat.le_refl _, by decide, rfl⟩, rfl⟩))) (.cA (.assign .none .i) (.cA (.assign .none .i) (.nil (.reB (t := 2) rfl (congrArg (cont 25) hv1) (.nameBox (t := 2) (g := 5001) rfl rfl (fun m5001 => (.seq (.sn mx (.mv rfl (.c (.lenStr .none Tryz.underlying9 (.s rfl)) (.c (.gt .none (.s rfl) .i) (.nil (.cb rfl h (fun _ h => ?_) fun _ h => ?_)))))))))))))))))
 ·
  obtain ⟨v2, hv3, h⟩ := bnd_some h
  refine .sr [oo, ([5001], [5001]), oo, oo, oo] mx (.cA (.re hv3 (.buildF (y := (⟨([] : (List DNode)), ([] : (List DEdge))⟩ : Doc)) .none bu25 zc25 rfl .nil .nil)) (.s0 5001 ty25 rfl rfl rfl (.cA (.assign .none (.const (x := ([] : (List Rule))) (fun M w => ⟨_, ⟨none, 0, rfl, Nat.le_refl _, by decide, rfl⟩, rfl⟩))) (.cA (.assign .none .i) (.cA (.assign .none .i) (.nil (.fb 5001 [2] rfl (.cons (t := 2) rfl trivial .nil) (.ret (.thenRet ?_)))))))))
  obtain rfl := some_eq h
  exact Ends.ret4 (.inl rfl) Tryz.results13 (ResOK.cellR ty25 rfl trivial Imp.refl) (ResOK.tmp rfl trivial Imp.refl) (ResOK.tmp rfl trivial Imp.refl) (ResOK.tmp rfl trivial Imp.refl)
 ·
  refine .skip (.then (.sr [([], [6])] mx (.al zv_Doc_o01 rfl (.nil (.nameAt (t := 6) (g := 5002) rfl rfl isBox_cont rfl (fun m5002 => (.nilKey (g := 5003) (T := 59) (α := DNode) rfl (.nilKey (g := 5004) (T := 65) (α := DEdge) rfl (.sr [([], [7])] mx (.cW (.nilRow (T := 43) (α := Rule) rfl) (.nil (.nameRow (t := 7) (g := 5005) rfl rfl rfl (fun s5005 => (.seq (.sn mx (.asi (.nil ?_)))))))))))))))))
  obtain ⟨o_4, h, hK4⟩ := bindR_some h
  refine .thenJ (ι := ((List Rule) × Doc)) (fun j_4 => []) (fun j_4 => [(7, some (rowV 43 j_4.1)), (5002, some (CPred.at (ptr m5002 0) (deep (fun z0 => deep (fun z1 => cont 25 (⟨⟨z0⟩, ⟨z1⟩⟩ : Doc_o01)) (rowV 65 j_4.2.Edges)) (rowV 59 j_4.2.Nodes))))]) (fun s => o_4 = Res.nx s) (.k2 2 6 rfl rfl .nil) (.k 5001 rfl .nil) ?_ (fun j_4 hj4 => ?_)
  ·
   refine .block (.anon (t := 7) (g := 5005) rfl rfl trivial rfl (.close (k := 5002) (g := 5004) (fun z => cont 25 (⟨⟨(.slice none 0 0)⟩, ⟨z⟩⟩ : Doc_o01)) rfl rfl rfl (.close (k := 5002) (g := 5003) (fun z => deep (fun z0 => cont 25 (⟨⟨z⟩, ⟨z0⟩⟩ : Doc_o01)) (rowV 65 ([] : List DEdge))) rfl rfl rfl (.loopL h (fun s5_ => [(0, ⟨True, rep s5_.1⟩), (8, ⟨True, rep s5_.2.2.1⟩)]) (fun s5_ => [(7, some (rowV 43 s5_.2.1)), (5002, some (CPred.at (ptr m5002 0) (deep (fun z0 => deep (fun z1 => cont 25 (⟨⟨z0⟩, ⟨z1⟩⟩ : Doc_o01)) (rowV 65 s5_.2.2.2.Edges)) (rowV 59 s5_.2.2.2.Nodes))))]) (.k2 0 8 rfl rfl .nil) (.k2 7 5002 rfl rfl .nil) (.k2 2 6 rfl rfl .nil) (.k 5001 rfl .nil) (fun s5_ o_5 h hD5 => ?_)))))
   unfold desk_Parse_L1 at h
   refine .nameRow (t := 7) (g := 5006) rfl rfl rfl (fun s5006 => (.open (k := 5002) (g := 5007) rfl rfl (fun s5007 => (.open (k := 5002) (g := 5008) rfl rfl (fun s5008 => (.seq (.sn mx (.mv rfl (.c (.neS .none (eqAt_str Tryz.underlying9) (.s rfl) (.str (l := []) (by decide))) (.nil (.cb rfl h (fun _ h => ?_) fun _ h => ?_)))))))))))
   ·
    obtain ⟨r1, hv7, h⟩ := bind_some h
    obtain ⟨r2, hv8, h⟩ := bind_some h
    obtain ⟨ok1, hv9, h⟩ := bnd_some h
    refine .skip (.then (.seq (.block (.sn mx (.mv rfl (.c (.call .none (strings_Cut_ok hv7) (.cons (.s rfl) (.cons (.str (l := [10]) (by decide)) .nil))) (.mv rfl (.ex rfl rfl (.ex rfl rfl (.ex rfl rfl (.asn rfl (.asn rfl (.asn rfl (.nil (.sn mx (.mv rfl (.asn rfl (.nil (.sn mx (.mv rfl (.c (.call .none (desk_split_ok hv8) (.cons (.s rfl) .nil)) (.mv rfl (.ex rfl rfl (.ex rfl rfl (.ex rfl rfl (.ex rfl rfl (.asn rfl (.asn rfl (.asn rfl (.asn rfl (.nil (.sn mx (.mv rfl (.mv rfl (.mg rfl rfl rfl (.pa rfl rfl (.mv rfl (.mg rfl rfl rfl (.c (.move (.at rfl rfl) (.tmp rfl id)) (.mg rfl rfl rfl (.c (.eqS (.at rfl rfl) (eqAt_str Tryz.underlying9) (.tmp rfl id) (.str (l := []) (by decide))) (.c (.pickAnd (.at rfl rfl) (.tmp rfl id) (.tmp rfl id)) (.c (.not (.at rfl rfl) (.tmp rfl id)) (.pa rfl rfl (.ra hv9 rfl (.nil (.seq ?_)))))))))))))))))))))))))))))))))))))))))))))))
    obtain ⟨j_10, h, hK10⟩ := bind_some h
    refine .thenJ (ι := ((List Rule) × Bool × Doc)) (fun j_10 => [(15, ⟨True, rep j_10.2.1⟩)]) (fun j_10 => [(7, some (rowV 43 j_10.1)), (5002, some (CPred.at (ptr m5002 0) (deep (fun z0 => deep (fun z1 => cont 25 (⟨⟨z0⟩, ⟨z1⟩⟩ : Doc_o01)) (rowV 65 j_10.2.2.Edges)) (rowV 59 j_10.2.2.Nodes))))]) (fun s => j_10 = s) (.k4 0 2 6 8 rfl rfl rfl rfl .nil) (.k 5001 rfl .nil) ?_ (fun j_10' hj10 => ?_)
    ·
     refine .block (.sn mx (.mv rfl (.c (.not .none (.s rfl)) (.asn rfl (.nil (.cb rfl h (fun _ h => ?_) fun _ h => ?_))))))
     ·
      exact .skip (.blkNormal (.anon (t := 7) (g := 5006) rfl rfl trivial rfl (.close (k := 5002) (g := 5008) (fun z => cont 25 (⟨⟨s5007⟩, ⟨z⟩⟩ : Doc_o01)) rfl rfl rfl (.close (k := 5002) (g := 5007) (fun z => deep (fun z0 => cont 25 (⟨⟨z⟩, ⟨z0⟩⟩ : Doc_o01)) (rowV 65 s5_.2.2.2.Edges)) rfl rfl rfl (Ends.j _ (some_eq h))))))
     ·
      obtain ⟨hn12, h⟩ := need_some h
      refine .sn mx (.mv rfl (.c (.indexAddr .none sl76 ty9 (.s rfl) .i (fun _ => hn12)) (.ld ty9 rfl (.c (.eqS .none (eqAt_str Tryz.underlying9) (.s rfl) (.str (l := [115, 116, 121, 108, 101]) (by decide))) (.asn rfl (.nil (.cb rfl h (fun _ h => ?_) fun _ h => ?_)))))))
      ·
       obtain ⟨r3, hv14, h⟩ := bind_some h
       obtain ⟨ok2, hv15, h⟩ := bnd_some h
       obtain ⟨hn16, h⟩ := need_some h
       exact .sr [oo, oo, oo, oo, oo, ([], [16]), ([16], [16]), oo] mx (.mvA rfl (.cA (.call .none (desk_readRule_ok hv14) (.cons (.s rfl) .nil)) (.mvA rfl (.exA rfl rfl (.exA rfl rfl (.al zo43 rfl (.st ty43 rfl rfl rfl (.asnA rfl (.nil (.freeze (t := 16) rfl rfl (.k2 5001 5002 rfl rfl (.k2 5006 5007 rfl rfl (.k 5008 rfl .nil))) rfl (.sr [oo, oo, oo, oo, oo, oo, oo, ([5002], []), ([5007], []), oo, oo, oo, oo, ([5002], []), ([5008], []), oo, oo, oo] mx (.mvA rfl (.mvA rfl (.cA (.move (.at rfl rfl) (.s rfl)) (.cA (.not (.at rfl rfl) (.tmp rfl id)) (.cA (.pickAnd .none (.s rfl) (.tmp rfl id)) (.mvA rfl (.cA (.fieldPtr (.at rfl rfl) fd25_0 (.s rfl)) (.cA (.loadAt (k := 5002) (.at rfl rfl) tr22 rfl (.tmp rfl id) hv_Doc_o01_0) (.cA (.lenG (k := 5007) (.at rfl rfl) sl22 (.tmp rfl id) rfl) (.cA (.eqI (.at rfl rfl) (.tmp rfl id) .i) (.cA (.pickAnd .none (.s rfl) (.tmp rfl id)) (.mvA rfl (.cA (.fieldPtr (.at rfl rfl) fd25_1 (.s rfl)) (.cA (.loadAt (k := 5002) (.at rfl rfl) tr23 rfl (.tmp rfl id) hv_Doc_o01_1) (.cA (.lenG (k := 5008) (.at rfl rfl) sl23 (.tmp rfl id) rfl) (.cA (.eqI (.at rfl rfl) (.tmp rfl id) .i) (.cA (.pickAnd .none (.s rfl) (.tmp rfl id)) (.cA (.re hv15 (.assign .none (.s rfl))) (.nil (.rg [oo, oo, oo, ([5006], [110, 5006]), ([110], [7, 110])] mx (.mvA rfl (.ldA ty43 rfl (.cA (.buildSlice (xs := [_]) .none sl26 ty43 hz43 (.cons (.s rfl) .nil) rfl (by decide)) (.cW (.append (k := 5006) rk26 rfl (.told (.s rfl) rfl) (.s rfl) hn16) (.cW (.passRow rfl (.tmp rfl)) (.nil (.blkNormal (.close (k := 5002) (g := 5008) (fun z => cont 25 (⟨⟨s5007⟩, ⟨z⟩⟩ : Doc_o01)) rfl rfl rfl (.close (k := 5002) (g := 5007) (fun z => deep (fun z0 => cont 25 (⟨⟨z⟩, ⟨z0⟩⟩ : Doc_o01)) (rowV 65 s5_.2.2.2.Edges)) rfl rfl rfl (Ends.j _ (some_eq h))))))))))))))))))))))))))))))))))))))))))
      ·
       obtain ⟨hn17, h⟩ := need_some h
       refine .sn mx (.mv rfl (.c (.indexAddr .none sl76 ty9 (.s rfl) .i (fun _ => hn17)) (.ld ty9 rfl (.c (.eqS .none (eqAt_str Tryz.underlying9) (.s rfl) (.str (l := [101, 100, 103, 101]) (by decide))) (.asn rfl (.nil (.cb rfl h (fun _ h => ?_) fun _ h => ?_)))))))
       ·
        obtain ⟨r4, hv19, h⟩ := bind_some h
        obtain ⟨hn20, h⟩ := need_some h
        exact .sr [oo, oo, oo, oo, oo, oo, ([], [18]), ([18], [18]), oo] mx (.mvA rfl (.mvA rfl (.cA (.call .none (desk_readEdge_ok hv19) (.cons (.s rfl) (.cons (.s rfl) .nil))) (.mvA rfl (.exA rfl rfl (.exA rfl rfl (.al zo65 rfl (.st ty65 rfl rfl rfl (.asnA rfl (.nil (.freeze (t := 18) rfl rfl (.k2 5001 5002 rfl rfl (.k2 5006 5007 rfl rfl (.k 5008 rfl .nil))) rfl (.sn mx (.mv rfl (.asn rfl (.nil (.rg [oo, ([5002], []), oo, oo, ([5008], [127, 5008]), oo, ([5002, 127], [5002, 127])] mx (.cA (.fieldPtr .none fd25_1 (.s rfl)) (.cA (.loadAt (k := 5002) .none tr23 rfl (.s rfl) hv_Doc_o01_1) (.ldA ty65 rfl (.cA (.buildSlice (xs := [_]) .none sl23 ty65 hz65 (.cons (.s rfl) .nil) rfl (by decide)) (.cW (.append (k := 5008) rk23 rfl (.told (.s rfl) rfl) (.s rfl) hn20) (.cA (.fieldPtr .none fd25_1 (.s rfl)) (.cN (.storeRow (k := 5002) (t := 127) ty23 rfl (.s rfl) sv_Doc_o01_1 rfl rfl) (.nil (.blkNormal (.anon (t := 7) (g := 5006) rfl rfl trivial rfl (.open (k := 5002) (g := 5009) rfl rfl (fun s5009 => (.close (k := 5002) (g := 5009) (fun z => cont 25 (⟨⟨s5007⟩, ⟨z⟩⟩ : Doc_o01)) rfl rfl rfl (.close (k := 5002) (g := 5007) (fun z => deep (fun z0 => cont 25 (⟨⟨z⟩, ⟨z0⟩⟩ : Doc_o01)) (rowV 65 (s5_.2.2.2.Edges ++ [r4.1]))) rfl rfl rfl (Ends.j _ (some_eq h))))))))))))))))))))))))))))))))
       ·
        obtain ⟨r5, hv21, h⟩ := bind_some h
        obtain ⟨ok3, hv22, h⟩ := bnd_some h
        obtain ⟨hn23, h⟩ := need_some h
        exact .sr [oo, oo, oo, oo, oo, oo, ([], [20]), ([20], [20]), oo] mx (.mvA rfl (.mvA rfl (.cA (.call .none (desk_readNode_ok hv21) (.cons (.s rfl) (.cons (.s rfl) .nil))) (.mvA rfl (.exA rfl rfl (.exA rfl rfl (.al zo59 rfl (.st ty59 rfl rfl rfl (.asnA rfl (.nil (.freeze (t := 20) rfl rfl (.k2 5001 5002 rfl rfl (.k2 5006 5007 rfl rfl (.k 5008 rfl .nil))) rfl (.sr [oo, oo, oo, ([5002], []), ([5008], []), oo, oo, oo] mx (.mvA rfl (.mvA rfl (.cA (.fieldPtr (.at rfl rfl) fd25_1 (.s rfl)) (.cA (.loadAt (k := 5002) (.at rfl rfl) tr23 rfl (.tmp rfl id) hv_Doc_o01_1) (.cA (.lenG (k := 5008) (.at rfl rfl) sl23 (.tmp rfl id) rfl) (.cA (.eqI (.at rfl rfl) (.tmp rfl id) .i) (.cA (.pickAnd .none (.s rfl) (.tmp rfl id)) (.cA (.re hv22 (.assign .none (.s rfl))) (.nil (.rg [oo, ([5002], []), oo, oo, ([5007], [75, 5007]), oo, ([5002, 75], [5002, 75])] mx (.cA (.fieldPtr .none fd25_0 (.s rfl)) (.cA (.loadAt (k := 5002) .none tr22 rfl (.s rfl) hv_Doc_o01_0) (.ldA ty59 rfl (.cA (.buildSlice (xs := [_]) .none sl22 ty59 hz59 (.cons (.s rfl) .nil) rfl (by decide)) (.cW (.append (k := 5007) rk22 rfl (.told (.s rfl) rfl) (.s rfl) hn23) (.cA (.fieldPtr .none fd25_0 (.s rfl)) (.cN (.storeRow (k := 5002) (t := 75) ty22 rfl (.s rfl) sv_Doc_o01_0 rfl rfl) (.nil (.blkNormal (.anon (t := 7) (g := 5006) rfl rfl trivial rfl (.open (k := 5002) (g := 5010) rfl rfl (fun s5010 => (.close (k := 5002) (g := 5008) (fun z => cont 25 (⟨⟨s5010⟩, ⟨z⟩⟩ : Doc_o01)) rfl rfl rfl (.close (k := 5002) (g := 5010) (fun z => deep (fun z0 => cont 25 (⟨⟨z⟩, ⟨z0⟩⟩ : Doc_o01)) (rowV 65 s5_.2.2.2.Edges)) rfl rfl rfl (Ends.j _ (some_eq h))))))))))))))))))))))))))))))))))))))
    ·
     subst hj10; have h := hK10; clear hK10
     refine .nameRow (t := 7) (g := 5011) rfl rfl rfl (fun s5011 => (.open (k := 5002) (g := 5012) rfl rfl (fun s5012 => (.open (k := 5002) (g := 5013) rfl rfl (fun s5013 => (.sn mx (.mv rfl (.c (.not .none (.s rfl)) (.nil (.cb rfl h (fun _ h => ?_) fun _ h => ?_))))))))))
     ·
      obtain ⟨v3, hv25, h⟩ := bnd_some h
      refine .sr [oo, oo, ([5001], [5001]), oo, oo, oo] mx (.cA (.re hv25 (.buildF (y := (⟨([] : (List DNode)), ([] : (List DEdge))⟩ : Doc)) .none bu25 zc25 rfl .nil .nil)) (.mvA rfl (.s0 5001 ty25 rfl rfl rfl (.cA (.assign .none (.const (x := ([] : (List Rule))) (fun M w => ⟨_, ⟨none, 0, rfl, Nat.le_refl _, by decide, rfl⟩, rfl⟩))) (.asnA rfl (.cA (.assign .none .i) (.nil (.fb 5001 [2] rfl (.cons (t := 2) rfl trivial .nil) (.ret (.blkRet (.thenRet (.thenRet (.blkRet (.thenRet ?_))))))))))))))
      replace h := hD5 _ (some_eq h)
      replace h := resb_ab hK4 (some_eq h)
      obtain rfl := some_eq h
      exact Ends.ret4 (.inl rfl) Tryz.results13 (ResOK.cellR ty25 rfl trivial Imp.refl) (ResOK.tmp rfl trivial Imp.refl) (ResOK.tmp rfl trivial Imp.refl) (ResOK.tmp rfl trivial Imp.refl)
     ·
      obtain ⟨at1, hv26, h⟩ := bnd_some h
      exact .skip (.blkNormal (.then (.rn mx (.mv rfl (.adi rfl (.ra hv26 rfl (.nil (.anon (t := 7) (g := 5011) rfl rfl trivial rfl (.close (k := 5002) (g := 5013) (fun z => cont 25 (⟨⟨s5012⟩, ⟨z⟩⟩ : Doc_o01)) rfl rfl rfl (.close (k := 5002) (g := 5012) (fun z => deep (fun z0 => cont 25 (⟨⟨z⟩, ⟨z0⟩⟩ : Doc_o01)) (rowV 65 j_10.2.2.Edges)) rfl rfl rfl (Ends.ag (some_eq h))))))))))))
   ·
    refine .exit (.thenExit (.thenExit (.blkExit (.anon (t := 7) (g := 5006) rfl rfl trivial rfl (.close (k := 5002) (g := 5008) (fun z => cont 25 (⟨⟨s5007⟩, ⟨z⟩⟩ : Doc_o01)) rfl rfl rfl (.close (k := 5002) (g := 5007) (fun z => deep (fun z0 => cont 25 (⟨⟨z⟩, ⟨z0⟩⟩ : Doc_o01)) (rowV 65 s5_.2.2.2.Edges)) rfl rfl rfl ?_))))))
    replace h := hD5 _ (some_eq h)
    exact Ends.j _ (some_eq h)
  ·
   have h := resb_nx hK4 hj4
   refine .freezeRowA (t := 7) rfl rfl (.k2 5001 5002 rfl rfl .nil) rfl (.freezeAt (g := 5002) (S := ref ({ j_4.2 with Nodes := j_4.2.Nodes, Edges := j_4.2.Edges } : Doc)) (ts := [6]) rfl (.cons (t := 6) rfl trivial .nil) (.k 5001 rfl .nil) rfl (fun M D w h hms => deep_ref2 (mk := (fun s1_ s2_ => (⟨⟨s1_⟩, ⟨s2_⟩⟩ : Doc_o01))) (y := ({ j_4.2 with Nodes := j_4.2.Nodes, Edges := j_4.2.Edges } : Doc)) frzRow frzRow rfl (fun M s1_ s2_ cs w hc g1 g2 => by obtain ⟨c0, q0, e0, h0, h1⟩ := hc; exact ⟨c0, q0, e0, raw_cells rfl rfl h0 g1, raw_cells rfl rfl h1 g2⟩) M D w h hms) ?_)
   obtain ⟨e1, hv27, h⟩ := bind_some h
   refine .seq (.sn mx (.ld ty25 rfl (.c (.call .none (page_Check_ok hv27) (.cons (.s rfl) .nil)) (.asn rfl (.nil (.sn mx (.mv rfl (.nei rfl (.nil (.cb rfl h (fun _ h => ?_) fun _ h => ?_))))))))))
   ·
    obtain ⟨v4, hv29, h⟩ := bnd_some h
    refine .sr [oo, oo, ([5001], [5001]), oo, oo, oo] mx (.cA (.re hv29 (.buildF (y := (⟨([] : (List DNode)), ([] : (List DEdge))⟩ : Doc)) .none bu25 zc25 rfl .nil .nil)) (.mvA rfl (.s0 5001 ty25 rfl rfl rfl (.cA (.assign .none (.const (x := ([] : (List Rule))) (fun M w => ⟨_, ⟨none, 0, rfl, Nat.le_refl _, by decide, rfl⟩, rfl⟩))) (.cA (.assign .none .i) (.asnA rfl (.nil (.fb 5001 [2] rfl (.cons (t := 2) rfl trivial .nil) (.ret (.thenRet ?_))))))))))
    obtain rfl := some_eq h
    exact Ends.ret4 (.inl rfl) Tryz.results13 (ResOK.cellR ty25 rfl trivial Imp.refl) (ResOK.tmp rfl trivial Imp.refl) (ResOK.tmp rfl trivial Imp.refl) (ResOK.tmp rfl trivial Imp.refl)
   ·
    obtain ⟨e2, hv30, h⟩ := bind_some h
    refine .skip (.then (.seq (.sn mx (.mv rfl (.c (.call .none (desk_CheckRules_ok hv30) (.cons (.s rfl) .nil)) (.asn rfl (.nil (.sn mx (.mv rfl (.nei rfl (.nil (.cb rfl h (fun _ h => ?_) fun _ h => ?_))))))))))))
    ·
     obtain ⟨v5, hv32, h⟩ := bnd_some h
     refine .sr [oo, oo, ([5001], [5001]), oo, oo, oo] mx (.cA (.re hv32 (.buildF (y := (⟨([] : (List DNode)), ([] : (List DEdge))⟩ : Doc)) .none bu25 zc25 rfl .nil .nil)) (.mvA rfl (.s0 5001 ty25 rfl rfl rfl (.cA (.assign .none (.const (x := ([] : (List Rule))) (fun M w => ⟨_, ⟨none, 0, rfl, Nat.le_refl _, by decide, rfl⟩, rfl⟩))) (.cA (.assign .none .i) (.asnA rfl (.nil (.fb 5001 [2] rfl (.cons (t := 2) rfl trivial .nil) (.ret (.thenRet ?_))))))))))
     obtain rfl := some_eq h
     exact Ends.ret4 (.inl rfl) Tryz.results13 (ResOK.cellR ty25 rfl trivial Imp.refl) (ResOK.tmp rfl trivial Imp.refl) (ResOK.tmp rfl trivial Imp.refl) (ResOK.tmp rfl trivial Imp.refl)
    ·
     obtain ⟨v6, hv33, h⟩ := bnd_some h
     refine .skip (.then (.sr [oo, oo, ([5001], [5001]), oo, oo, oo] mx (.rlA hv33 ty25 rfl (.mvA rfl (.s0 5001 ty25 rfl rfl rfl (.asnA rfl (.cA (.assign .none .i) (.cA (.assign .none .i) (.nil (.fb 5001 [2] rfl (.cons (t := 2) rfl trivial .nil) (.ret ?_)))))))))))
     obtain rfl := some_eq h
     exact Ends.ret4 (.inl rfl) Tryz.results13 (ResOK.cellR ty25 rfl trivial Imp.refl) (ResOK.tmp rfl trivial Imp.refl) (ResOK.tmp rfl trivial Imp.refl) (ResOK.tmp rfl trivial Imp.refl)

theorem slices_Equal_Node_ok {s1_1 : (List DNode)} {s2_1 : (List DNode)} {r : Bool}  (h : slices_Equal_Node s1_1 s2_1 = some r) : FSpec Tryz.prog 39 [rep s1_1, rep s2_1] (rep r) := by
 unfold slices_Equal_Node at h
 refine FSpec.i Tryz.func39 rfl Tryz.ntmps39 rfl (fun F => (.sn mx (.asb (.nil (.seq (.sn mx (.mv rfl (.ln sl22 rfl (.mv rfl (.ln sl22 rfl (.c (.neI .none (.s rfl) (.s rfl)) (.nil (.cb rfl h (fun _ h => ?_) fun _ h => ?_)))))))))))))
 ·
  refine .sn mx (.asb (.nil (.ret (.thenRet ?_))))
  obtain rfl := some_eq h
  exact Ends.rt Tryz.results39 rfl
 ·
  refine .skip (.then (.seq (.sn mx (.mv rfl (.ln sl22 rfl (.mvi (.nil ?_)))))))
  obtain ⟨o_2, h, hK2⟩ := bindR_some h
  refine .tJ (fun s => o_2 = Res.nx s) Sub.nil SubB.nil ?_ (fun j_2 hj2 => ?_)
  ·
   refine .block (.rforEL h (fun p3_ => [(13, ⟨True, rep p3_.1⟩)]) (fun p3_ => []) (.k 13 rfl .nil) SubB.nil (.k2 0 1 rfl rfl (.k 12 rfl .nil)) SubB.nil (fun p3_ o_3 h hD3 => (.sn mx (.lt rfl rfl (.nil (.seq (.cb rfl h (fun _ h => ?_) fun _ h => ?_)))))))
   ·
    refine .skip (.then (.seq ?_))
    obtain ⟨o_5, h, hK5⟩ := bindD_some h
    unfold slices_Equal_Node_L1 at h
    refine .tJ (fun s => o_5 = Res.nx s) (.k4 0 1 12 13 rfl rfl rfl rfl .nil) SubB.nil ?_ (fun j_5 hj5 => ?_)
    ·
     obtain ⟨hn6, h⟩ := need_some h
     obtain ⟨hn7, h⟩ := need_some h
     refine .block (.sn mx (.mv rfl (.asn rfl (.nil (.sn mx (.mv rfl (.mv rfl (.ix sl22 ty59 rfl rfl hn6 (.ld ty59 rfl (.mv rfl (.mv rfl (.ix sl22 ty59 rfl rfl hn7 (.ld ty59 rfl (.c (.neS .none eqa59 (.s rfl) (.s rfl)) (.nil (.cb rfl h (fun _ h => ?_) fun _ h => ?_))))))))))))))))
     ·
      refine .sn mx (.asb (.nil (.ret (.blkRet (.thenRet (.thenRet (.blkRet (.thenRet ?_))))))))
      replace h := resd_ab hK5 (some_eq h)
      replace h := hD3 _ (some_eq h)
      replace h := resb_ab hK2 (some_eq h)
      obtain rfl := some_eq h
      exact Ends.rt Tryz.results39 rfl
     ·
      exact .skip (.blkNormal (Ends.j _ (some_eq h)))
    ·
     have h := resd_nx hK5 hj5
     exact .rn mx (.adi rfl (.mv rfl (.nil (Ends.ag (some_eq h)))))
   ·
    refine .exit (.thenExit (.thenExit (.blkExit ?_)))
    replace h := hD3 _ (some_eq h)
    exact Ends.j _ (some_eq h)
  ·
   have h := resb_nx hK2 hj2
   refine .sn mx (.asb (.nil (.ret ?_)))
   obtain rfl := some_eq h
   exact Ends.rt Tryz.results39 rfl

theorem slices_EqualFunc_Edge_ok {s1_1 : (List DEdge)} {s2_1 : (List DEdge)} {eq1 : (DEdge → DEdge → Option Bool)} {r : Bool}  (h : slices_EqualFunc_Edge s1_1 s2_1 eq1 = some r) : FSpec Tryz.prog 40 [rep s1_1, rep s2_1, fn2 Tryz.prog (rep (α := Bool)) eq1] (rep r) := by
 unfold slices_EqualFunc_Edge at h
 refine FSpec.i Tryz.func40 rfl Tryz.ntmps40 rfl (fun F => (.sn mx (.asb (.nil (.seq (.sn mx (.mv rfl (.ln sl23 rfl (.mv rfl (.ln sl23 rfl (.c (.neI .none (.s rfl) (.s rfl)) (.nil (.cb rfl h (fun _ h => ?_) fun _ h => ?_)))))))))))))
 ·
  refine .sn mx (.asb (.nil (.ret (.thenRet ?_))))
  obtain rfl := some_eq h
  exact Ends.rt Tryz.results40 rfl
 ·
  refine .skip (.then (.seq (.sn mx (.mv rfl (.ln sl23 rfl (.mvi (.nil ?_)))))))
  obtain ⟨o_2, h, hK2⟩ := bindR_some h
  refine .tJ (fun s => o_2 = Res.nx s) Sub.nil SubB.nil ?_ (fun j_2 hj2 => ?_)
  ·
   refine .block (.rforEL h (fun p3_ => [(17, ⟨True, rep p3_.1⟩)]) (fun p3_ => []) (.k 17 rfl .nil) SubB.nil (.k4 1 2 15 16 rfl rfl rfl rfl .nil) SubB.nil (fun p3_ o_3 h hD3 => (.sn mx (.lt rfl rfl (.nil (.seq (.cb rfl h (fun _ h => ?_) fun _ h => ?_)))))))
   ·
    refine .skip (.then (.seq ?_))
    obtain ⟨o_5, h, hK5⟩ := bindD_some h
    unfold slices_EqualFunc_Edge_L1 at h
    refine .tJ (fun s => o_5 = Res.nx s) (.k4 1 2 15 16 rfl rfl rfl rfl (.k 17 rfl .nil)) SubB.nil ?_ (fun j_5 hj5 => ?_)
    ·
     obtain ⟨hn6, h⟩ := need_some h
     obtain ⟨v1, hv7, h⟩ := bnd_some h
     obtain ⟨hn8, h⟩ := need_some h
     obtain ⟨v2, hv9, h⟩ := bnd_some h
     obtain ⟨r1, hv10, h⟩ := bind_some h
     refine .block (.sr [oo, oo, oo, ([], [8]), oo, ([8], [8])] mx (.mvA rfl (.ixA sl23 ty65 rfl rfl hn6 (.rlA hv7 ty65 rfl (.al zo65 rfl (.asnA rfl (.st ty65 rfl rfl rfl (.nil (.freeze (t := 8) rfl rfl SubB.nil rfl (.sr [oo, oo, oo, oo, ([], [9]), ([9], [9])] mx (.mvA rfl (.mvA rfl (.ixA sl23 ty65 rfl rfl hn8 (.rlA hv9 ty65 rfl (.al zo65 rfl (.st ty65 rfl rfl rfl (.nil (.freeze (t := 9) rfl rfl SubB.nil rfl (.sn mx (.mv rfl (.ld ty65 rfl (.ld ty65 rfl (.c (.callV (v1, v2, r1) .none (.s rfl) (fun _ => hv10) (.cons (.s rfl) (.cons (.s rfl) .nil))) (.c (.not .none (.s rfl)) (.nil (.cb rfl h (fun _ h => ?_) fun _ h => ?_))))))))))))))))))))))))))
     ·
      refine .sn mx (.asb (.nil (.ret (.blkRet (.thenRet (.thenRet (.blkRet (.thenRet ?_))))))))
      replace h := resd_ab hK5 (some_eq h)
      replace h := hD3 _ (some_eq h)
      replace h := resb_ab hK2 (some_eq h)
      obtain rfl := some_eq h
      exact Ends.rt Tryz.results40 rfl
     ·
      exact .skip (.blkNormal (Ends.j _ (some_eq h)))
    ·
     have h := resd_nx hK5 hj5
     exact .rn mx (.adi rfl (.mv rfl (.nil (Ends.ag (some_eq h)))))
   ·
    refine .exit (.thenExit (.thenExit (.blkExit ?_)))
    replace h := hD3 _ (some_eq h)
    exact Ends.j _ (some_eq h)
  ·
   have h := resb_nx hK2 hj2
   refine .sn mx (.asb (.nil (.ret ?_)))
   obtain rfl := some_eq h
   exact Ends.rt Tryz.results40 rfl

theorem slices_Equal_Point_ok {s1_1 : (List Point)} {s2_1 : (List Point)} {r : Bool}  (h : slices_Equal_Point s1_1 s2_1 = some r) : FSpec Tryz.prog 42 [rep s1_1, rep s2_1] (rep r) := by
 unfold slices_Equal_Point at h
 refine FSpec.i Tryz.func42 rfl Tryz.ntmps42 rfl (fun F => (.sn mx (.asb (.nil (.seq (.sn mx (.mv rfl (.ln sl63 rfl (.mv rfl (.ln sl63 rfl (.c (.neI .none (.s rfl) (.s rfl)) (.nil (.cb rfl h (fun _ h => ?_) fun _ h => ?_)))))))))))))
 ·
  refine .sn mx (.asb (.nil (.ret (.thenRet ?_))))
  obtain rfl := some_eq h
  exact Ends.rt Tryz.results42 rfl
 ·
  refine .skip (.then (.seq (.sn mx (.mv rfl (.ln sl63 rfl (.mvi (.nil ?_)))))))
  obtain ⟨o_2, h, hK2⟩ := bindR_some h
  refine .tJ (fun s => o_2 = Res.nx s) Sub.nil SubB.nil ?_ (fun j_2 hj2 => ?_)
  ·
   refine .block (.rforEL h (fun p3_ => [(13, ⟨True, rep p3_.1⟩)]) (fun p3_ => []) (.k 13 rfl .nil) SubB.nil (.k2 0 1 rfl rfl (.k 12 rfl .nil)) SubB.nil (fun p3_ o_3 h hD3 => (.sn mx (.lt rfl rfl (.nil (.seq (.cb rfl h (fun _ h => ?_) fun _ h => ?_)))))))
   ·
    refine .skip (.then (.seq ?_))
    obtain ⟨o_5, h, hK5⟩ := bindD_some h
    unfold slices_Equal_Point_L1 at h
    refine .tJ (fun s => o_5 = Res.nx s) (.k4 0 1 12 13 rfl rfl rfl rfl .nil) SubB.nil ?_ (fun j_5 hj5 => ?_)
    ·
     obtain ⟨hn6, h⟩ := need_some h
     obtain ⟨hn7, h⟩ := need_some h
     refine .block (.sn mx (.mv rfl (.asn rfl (.nil (.sn mx (.mv rfl (.mv rfl (.ix sl63 ty89 rfl rfl hn6 (.ld ty89 rfl (.mv rfl (.mv rfl (.ix sl63 ty89 rfl rfl hn7 (.ld ty89 rfl (.c (.neS .none eq89 (.s rfl) (.s rfl)) (.nil (.cb rfl h (fun _ h => ?_) fun _ h => ?_))))))))))))))))
     ·
      refine .sn mx (.asb (.nil (.ret (.blkRet (.thenRet (.thenRet (.blkRet (.thenRet ?_))))))))
      replace h := resd_ab hK5 (some_eq h)
      replace h := hD3 _ (some_eq h)
      replace h := resb_ab hK2 (some_eq h)
      obtain rfl := some_eq h
      exact Ends.rt Tryz.results42 rfl
     ·
      exact .skip (.blkNormal (Ends.j _ (some_eq h)))
    ·
     have h := resd_nx hK5 hj5
     exact .rn mx (.adi rfl (.mv rfl (.nil (Ends.ag (some_eq h)))))
   ·
    refine .exit (.thenExit (.thenExit (.blkExit ?_)))
    replace h := hD3 _ (some_eq h)
    exact Ends.j _ (some_eq h)
  ·
   have h := resb_nx hK2 hj2
   refine .sn mx (.asb (.nil (.ret ?_)))
   obtain rfl := some_eq h
   exact Ends.rt Tryz.results42 rfl

theorem ref_SameDoc_1_ok {x1 : DEdge} {y1 : DEdge} {r : Bool}  (h : ref_SameDoc_1 x1 y1 = some r) : FSpec Tryz.prog 41 [rep x1, rep y1] (rep r) := by
 unfold ref_SameDoc_1 at h
 obtain ⟨r1, hv1, h⟩ := bind_some h
 refine FSpec.i Tryz.func41 rfl Tryz.ntmps41 rfl (fun F => (.sn mx (.c (.box .none (.s rfl)) (.c (.box .none (.s rfl)) (.asb (.nil (.sn mx (.fa fd65_0 hfd65_0 rfl (.ld ty9 rfl (.fa fd65_0 hfd65_0 rfl (.ld ty9 rfl (.c (.eqS .none (eqAt_str Tryz.underlying9) (.s rfl) (.s rfl)) (.mv rfl (.fg fd65_1 hfd65_1 rfl rfl rfl (.lg ty62 rfl rfl rfl (.fg fd65_1 hfd65_1 rfl rfl rfl (.lg ty62 rfl rfl rfl (.c (.eqS (.at rfl rfl) eqa62 (.tmp rfl id) (.tmp rfl id)) (.pa rfl rfl (.mv rfl (.fg fd65_2 hfd65_2 rfl rfl rfl (.lg ty62 rfl rfl rfl (.fg fd65_2 hfd65_2 rfl rfl rfl (.lg ty62 rfl rfl rfl (.c (.eqS (.at rfl rfl) eqa62 (.tmp rfl id) (.tmp rfl id)) (.pa rfl rfl (.mv rfl (.fg fd65_3 hfd65_3 rfl rfl rfl (.lg ty63 rfl rfl rfl (.fg fd65_3 hfd65_3 rfl rfl rfl (.lg ty63 rfl rfl rfl (.c (.callIf (.at rfl rfl) fnok42 (fun hg => slices_Equal_Point_ok ((fun hg => gd_some hv1 (hg.2)) hg)) (.cons (.tmp rfl id) (.cons (.tmp rfl id) .nil)) (fun h => h)) (.pa rfl rfl (.mv rfl (.fg fd65_4 hfd65_4 rfl rfl rfl (.lg ty9 rfl rfl rfl (.fg fd65_4 hfd65_4 rfl rfl rfl (.lg ty9 rfl rfl rfl (.c (.eqS (.at rfl rfl) (eqAt_str Tryz.underlying9) (.tmp rfl id) (.tmp rfl id)) (.pa rfl rfl (.mv rfl (.fg fd65_5 hfd65_5 rfl rfl rfl (.lg ty9 rfl rfl rfl (.fg fd65_5 hfd65_5 rfl rfl rfl (.lg ty9 rfl rfl rfl (.c (.eqS (.at rfl rfl) (eqAt_str Tryz.underlying9) (.tmp rfl id) (.tmp rfl id)) (.pa rfl rfl (.asn rfl (.nil (.ret ?_))))))))))))))))))))))))))))))))))))))))))))))))))
 obtain rfl := some_eq h
 exact Ends.rt Tryz.results41 rfl

theorem ref_SameDoc_ok {a1 : Doc} {b1 : Doc} {r : Bool}  (h : ref_SameDoc a1 b1 = some r) : FSpec Tryz.prog 14 [rep a1, rep b1] (rep r) := by
 unfold ref_SameDoc at h
 obtain ⟨r1, hv1, h⟩ := bind_some h
 obtain ⟨r2, hv2, h⟩ := bind_some h
 refine FSpec.i Tryz.func14 rfl Tryz.ntmps14 rfl (fun F => (.sn mx (.c (.box .none (.s rfl)) (.c (.box .none (.s rfl)) (.asb (.nil (.sn mx (.fa fd25_0 hfd25_0 rfl (.ld ty22 rfl (.fa fd25_0 hfd25_0 rfl (.ld ty22 rfl (.c (.call .none (slices_Equal_Node_ok hv1) (.cons (.s rfl) (.cons (.s rfl) .nil))) (.mv rfl (.fg fd25_1 hfd25_1 rfl rfl rfl (.lg ty23 rfl rfl rfl (.fg fd25_1 hfd25_1 rfl rfl rfl (.lg ty23 rfl rfl rfl (.c (.callIf (.at rfl rfl) fnok40 (fun hg => slices_EqualFunc_Edge_ok ((fun hg => gd_some hv2 (hg.2)) hg)) (.cons (.tmp rfl id) (.cons (.tmp rfl id) (.cons (Opd.func (ι := DEdge × DEdge × Bool) (pre := fun i => ref_SameDoc_1 i.1 i.2.1 = some i.2.2) (Ss := fun i => [rep i.1, rep i.2.1]) (S := fun i => rep i.2.2) fnok41 (fun i h => ref_SameDoc_1_ok h)) .nil))) (fun h => h)) (.pa rfl rfl (.asn rfl (.nil (.ret ?_))))))))))))))))))))))
 obtain rfl := some_eq h
 exact Ends.rt Tryz.results14 rfl

theorem slices_Equal_Rule_ok {s1_1 : (List Rule)} {s2_1 : (List Rule)} {r : Bool}  (h : slices_Equal_Rule s1_1 s2_1 = some r) : FSpec Tryz.prog 15 [rep s1_1, rep s2_1] (rep r) := by
 unfold slices_Equal_Rule at h
 refine FSpec.i Tryz.func15 rfl Tryz.ntmps15 rfl (fun F => (.sn mx (.asb (.nil (.seq (.sn mx (.mv rfl (.ln sl26 rfl (.mv rfl (.ln sl26 rfl (.c (.neI .none (.s rfl) (.s rfl)) (.nil (.cb rfl h (fun _ h => ?_) fun _ h => ?_)))))))))))))
 ·
  refine .sn mx (.asb (.nil (.ret (.thenRet ?_))))
  obtain rfl := some_eq h
  exact Ends.rt Tryz.results15 rfl
 ·
  refine .skip (.then (.seq (.sn mx (.mv rfl (.ln sl26 rfl (.mvi (.nil ?_)))))))
  obtain ⟨o_2, h, hK2⟩ := bindR_some h
  refine .tJ (fun s => o_2 = Res.nx s) Sub.nil SubB.nil ?_ (fun j_2 hj2 => ?_)
  ·
   refine .block (.rforEL h (fun p3_ => [(13, ⟨True, rep p3_.1⟩)]) (fun p3_ => []) (.k 13 rfl .nil) SubB.nil (.k2 0 1 rfl rfl (.k 12 rfl .nil)) SubB.nil (fun p3_ o_3 h hD3 => (.sn mx (.lt rfl rfl (.nil (.seq (.cb rfl h (fun _ h => ?_) fun _ h => ?_)))))))
   ·
    refine .skip (.then (.seq ?_))
    obtain ⟨o_5, h, hK5⟩ := bindD_some h
    unfold slices_Equal_Rule_L1 at h
    refine .tJ (fun s => o_5 = Res.nx s) (.k4 0 1 12 13 rfl rfl rfl rfl .nil) SubB.nil ?_ (fun j_5 hj5 => ?_)
    ·
     obtain ⟨hn6, h⟩ := need_some h
     obtain ⟨hn7, h⟩ := need_some h
     refine .block (.sn mx (.mv rfl (.asn rfl (.nil (.sn mx (.mv rfl (.mv rfl (.ix sl26 ty43 rfl rfl hn6 (.ld ty43 rfl (.mv rfl (.mv rfl (.ix sl26 ty43 rfl rfl hn7 (.ld ty43 rfl (.c (.neS .none eqa43 (.s rfl) (.s rfl)) (.nil (.cb rfl h (fun _ h => ?_) fun _ h => ?_))))))))))))))))
     ·
      refine .sn mx (.asb (.nil (.ret (.blkRet (.thenRet (.thenRet (.blkRet (.thenRet ?_))))))))
      replace h := resd_ab hK5 (some_eq h)
      replace h := hD3 _ (some_eq h)
      replace h := resb_ab hK2 (some_eq h)
      obtain rfl := some_eq h
      exact Ends.rt Tryz.results15 rfl
     ·
      exact .skip (.blkNormal (Ends.j _ (some_eq h)))
    ·
     have h := resd_nx hK5 hj5
     exact .rn mx (.adi rfl (.mv rfl (.nil (Ends.ag (some_eq h)))))
   ·
    refine .exit (.thenExit (.thenExit (.blkExit ?_)))
    replace h := hD3 _ (some_eq h)
    exact Ends.j _ (some_eq h)
  ·
   have h := resb_nx hK2 hj2
   refine .sn mx (.asb (.nil (.ret ?_)))
   obtain rfl := some_eq h
   exact Ends.rt Tryz.results15 rfl

theorem law_TextsOfDocs_ok {d1 : Doc} {l1 : (List Rule)} {text1 : Str} {r : Bool}  (h : law_TextsOfDocs d1 l1 text1 = some r) : FSpec Tryz.prog 3 [rep d1, rep l1, rep text1] (rep r) := by
 unfold law_TextsOfDocs at h
 obtain ⟨r1, hv1, h⟩ := bind_some h
 obtain ⟨r2, hv2, h⟩ := bind_some h
 obtain ⟨r3, hv3, h⟩ := bind_some h
 obtain ⟨want1, hv4, h⟩ := bind_some h
 refine FSpec.i Tryz.func3 rfl Tryz.ntmps3 rfl (fun F => (.sn mx (.c (.box .none (.s rfl)) (.c (.box .none (.s rfl)) (.asb (.nil (.sn mx (.ld ty25 rfl (.ld ty26 rfl (.c (.call .none (desk_Print_ok hv1) (.cons (.s rfl) (.cons (.s rfl) .nil))) (.mv rfl (.ex rfl rfl (.ex rfl rfl (.asn rfl (.asn rfl (.nil (.sn mx (.ld ty25 rfl (.c (.call .none (ref_DocError_ok hv2) (.cons (.s rfl) .nil)) (.ld ty26 rfl (.c (.call .none (law_rulesError_ok hv3) (.cons (.s rfl) .nil)) (.c (.buildSlice (xs := [_, _]) .none sl68 ty27 hz27 (.cons (.s rfl) (.cons (.s rfl) .nil)) rfl (by decide)) (.c (.call .none (ref_First_ok hv4) (.cons (.s rfl) .nil)) (.asn rfl (.nil (.seq (.sn mx (.mv rfl (.eqi rfl (.nil ?_))))))))))))))))))))))))))))))
 obtain ⟨j_5, h, hK5⟩ := bind_some h
 refine .thenJ (ι := Int) (fun j_5 => [(9, ⟨True, rep j_5⟩)]) (fun j_5 => []) (fun s => j_5 = s) (.k4 2 3 4 7 rfl rfl rfl rfl (.k 8 rfl .nil)) SubB.nil ?_ (fun j_5' hj5 => ?_)
 ·
  refine .cb rfl h (fun _ h => ?_) fun _ h => ?_
  ·
   obtain ⟨r4, hv7, h⟩ := bind_some h
   obtain ⟨want2, hv8, h⟩ := bind_some h
   exact .rn mx (.ld ty25 rfl (.ld ty26 rfl (.c (.call .none (law_docText_ok hv7) (.cons (.s rfl) (.cons (.s rfl) .nil))) (.c (.lenStr .none Tryz.underlying9 (.s rfl)) (.c (.gt .none (.s rfl) .i) (.c (.call .none (ref_When_ok hv8) (.cons (.s rfl) (.cons .i .nil))) (.asn rfl (.nil (Ends.j _ (some_eq h))))))))))
  ·
   exact .skip (Ends.j _ (some_eq h))
 ·
  subst hj5; have h := hK5; clear hK5
  obtain ⟨r5, hv9, h⟩ := bind_some h
  refine .seq (.sn mx (.c (.call .none (law_desks_ok hv9) .nil) (.c (.not .none (.s rfl)) (.mv rfl (.mg rfl rfl rfl (.mg rfl rfl rfl (.mg rfl rfl rfl (.c (.makeFunc (ι := Str) (pre := fun i => (law_TextsOfDocs_1 d1 l1)  = some i) (Ss := fun i => []) (S := fun i => rep i) (.at rfl rfl) fnok12 (fun i h => law_TextsOfDocs_1_ok h) (.cons (.s rfl) (.cons (.s rfl) .nil))) ?_))))))))
  obtain ⟨r6, hv10, h⟩ := bind_some h
  refine .c (.callIf (.at rfl rfl) fnok11 (fun hg => law_is_string_ok ((fun hg => gd_some hv10 ((notT hg.2))) hg)) (.cons (.tmp rfl id) (.cons (.tmp rfl id) (.cons (.tmp rfl id) (.cons (.tmp rfl id) .nil)))) (fun h => h)) (.c (.not (.at rfl rfl) (.tmp rfl id)) (.po rfl rfl (.nil (.cb rfl h (fun _ h => ?_) fun _ h => ?_))))
  ·
   refine .sn mx (.asb (.nil (.ret (.thenRet ?_))))
   obtain rfl := some_eq h
   exact Ends.rt Tryz.results3 rfl
  ·
   refine .skip (.then (.seq (.sn mx (.mv rfl (.eqi rfl (.nil ?_))))))
   obtain ⟨o_12, h, hK12⟩ := bindR_some h
   refine .tJ (fun s => o_12 = Res.nx s) (.k 2 rfl .nil) SubB.nil ?_ (fun j_12 hj12 => ?_)
   ·
    refine .cb rfl h (fun _ h => ?_) fun _ h => ?_
    ·
     obtain ⟨r7, hv14, h⟩ := bind_some h
     obtain ⟨r8, hv15, h⟩ := bind_some h
     refine .sr [oo, oo, oo, oo, oo, oo, oo, ([], [10]), ([10], [10]), oo, oo, oo] mx (.mvA rfl (.cA (.call .none (desk_Parse_ok hv14) (.cons (.s rfl) .nil)) (.mvA rfl (.exA rfl rfl (.exA rfl rfl (.exA rfl rfl (.exA rfl rfl (.al zo25 rfl (.st ty25 rfl rfl rfl (.asnA rfl (.asnA rfl (.asnA rfl (.nil (.freeze (t := 10) rfl rfl SubB.nil rfl (.sn mx (.mv rfl (.nei rfl (.mv rfl (.mg rfl rfl rfl (.c (.neI (.at rfl rfl) (.tmp rfl id) .i) (.po rfl rfl (.mv rfl (.c (.load (.at rfl rfl) ty25 (.s rfl)) (.c (.load (.at rfl rfl) ty25 (.s rfl)) (.c (.callIf (.at rfl rfl) fnok14 (fun hg => ref_SameDoc_ok ((fun hg => gd_some hv15 ((notT hg.2))) hg)) (.cons (.tmp rfl id) (.cons (.tmp rfl id) .nil)) (fun h => h)) ?_)))))))))))))))))))))))))
     obtain ⟨r9, hv16, h⟩ := bind_some h
     refine .c (.not (.at rfl rfl) (.tmp rfl id)) (.po rfl rfl (.mv rfl (.mg rfl rfl rfl (.c (.load (.at rfl rfl) ty26 (.s rfl)) (.c (.callIf (.at rfl rfl) fnok15 (fun hg => slices_Equal_Rule_ok ((fun hg => gd_some hv16 ((notT hg.2))) hg)) (.cons (.tmp rfl id) (.cons (.tmp rfl id) .nil)) (fun h => h)) (.c (.not (.at rfl rfl) (.tmp rfl id)) (.po rfl rfl (.nil (.cb rfl h (fun _ h => ?_) fun _ h => ?_)))))))))
     ·
      refine .sn mx (.asb (.nil (.ret (.thenRet ?_))))
      replace h := resb_ab hK12 (some_eq h)
      obtain rfl := some_eq h
      exact Ends.rt Tryz.results3 rfl
     ·
      exact .skip (Ends.j _ (some_eq h))
    ·
     exact .skip (Ends.j _ (some_eq h))
   ·
    have h := resb_nx hK12 hj12
    obtain ⟨r10, hv18, h⟩ := bind_some h
    refine .sr [oo, oo, oo, oo, oo, oo, oo, ([], [14]), ([14], [14]), oo, oo, oo] mx (.mvA rfl (.cA (.call .none (desk_Parse_ok hv18) (.cons (.s rfl) .nil)) (.mvA rfl (.exA rfl rfl (.exA rfl rfl (.exA rfl rfl (.exA rfl rfl (.al zo25 rfl (.st ty25 rfl rfl rfl (.asnA rfl (.asnA rfl (.asnA rfl (.nil (.freeze (t := 14) rfl rfl SubB.nil rfl (.seq (.sn mx (.mv rfl (.eqi rfl (.nil (.cb rfl h (fun _ h => ?_) fun _ h => ?_))))))))))))))))))))
    ·
     obtain ⟨r11, hv20, h⟩ := bind_some h
     refine .sn mx (.mv rfl (.eqi rfl (.mv rfl (.c (.load (.at rfl rfl) ty25 (.s rfl)) (.c (.callIf (.at rfl rfl) fnok6 (fun hg => ref_DocError_ok ((fun hg => gd_some hv20 (hg.2)) hg)) (.cons (.tmp rfl id) .nil) (fun h => h)) ?_)))))
     obtain ⟨r12, hv21, h⟩ := bind_some h
     refine .mg rfl rfl rfl (.c (.callIf (.at rfl rfl) fnok7 (fun hg => law_rulesError_ok ((fun hg => gd_some hv21 (hg.2)) hg)) (.cons (.tmp rfl id) .nil) (fun h => h)) ?_)
     obtain ⟨r13, hv22, h⟩ := bind_some h
     refine .c (.buildSlice (xs := [_, _]) (.at rfl rfl) sl68 ty27 hz27 (.cons (.tmp rfl id) (.cons (.tmp rfl id) .nil)) rfl (by decide)) (.c (.callIf (.at rfl rfl) fnok5 (fun hg => ref_First_ok ((fun hg => gd_some hv22 (hg.2)) hg)) (.cons (.tmp rfl id) .nil) (fun h => h)) ?_)
     obtain ⟨r14, hv23, h⟩ := bind_some h
     refine .c (.eqI (.at rfl rfl) (.tmp rfl id) .i) (.pa rfl rfl (.mv rfl (.c (.load (.at rfl rfl) ty25 (.s rfl)) (.mg rfl rfl rfl (.c (.callIf (.at rfl rfl) fnok9 (fun hg => law_docText_ok ((fun hg => gd_some hv23 (hg.2)) hg)) (.cons (.tmp rfl id) (.cons (.tmp rfl id) .nil)) (fun h => h)) (.mg rfl rfl rfl (.c (.eqS (.at rfl rfl) (eqAt_str Tryz.underlying9) (.tmp rfl id) (.tmp rfl id)) (.pa rfl rfl (.asn rfl (.nil (.ret (.thenRet ?_))))))))))))
     obtain rfl := some_eq h
     exact Ends.rt Tryz.results3 rfl
    ·
     obtain ⟨r15, hv24, h⟩ := bind_some h
     refine .skip (.then (.sn mx (.fa fd25_0 hfd25_0 rfl (.ld ty22 rfl (.ln sl22 rfl (.fa fd25_1 hfd25_1 rfl (.ld ty23 rfl (.ln sl23 rfl (.add rfl rfl (.mv rfl (.ln sl26 rfl (.add rfl rfl (.eqi rfl (.mv rfl (.mg rfl rfl rfl (.mg rfl rfl rfl (.c (.callIf (.at rfl rfl) fnok17 (fun hg => strings_Count_ok ((fun hg => gd_some hv24 (hg.2)) hg)) (.cons (.tmp rfl id) (.cons (.str (l := [10]) (by decide)) .nil)) (fun h => h)) ?_)))))))))))))))))
     obtain ⟨r16, hv25, h⟩ := bind_some h
     refine .c (.callIf (.at rfl rfl) fnok16 (fun hg => ref_In_ok ((fun hg => gd_some hv25 (hg.2)) hg)) (.cons (.tmp rfl id) (.cons .i (.cons (.tmp rfl id) .nil))) (fun h => h)) (.pa rfl rfl (.mv rfl (.mg rfl rfl rfl (.c (.eqI (.at rfl rfl) (.tmp rfl id) .i) (.c (.move (.at rfl rfl) (.tmp rfl id)) (.mg rfl rfl rfl (.c (.eqI (.at rfl rfl) (.tmp rfl id) .i) (.c (.pickOr (.at rfl rfl) (.tmp rfl id) (.tmp rfl id)) (.pa rfl rfl (.asn rfl (.nil (.ret ?_))))))))))))
     obtain rfl := some_eq h
     exact Ends.rt Tryz.results3 rfl


end Go.Proofs.YtlbbcehlhbaggaaGreatDoor
