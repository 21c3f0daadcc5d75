/-
  The walks: what a function computes is what its plain function says (printed by a program of one's own).
-/
import Derived.Test.YtbogpbomhmabhaaGreatDoorSkeFa
set_option maxRecDepth 100000
set_option linter.unusedSimpArgs false
set_option linter.unusedVariables false
namespace Go.Proofs.YtbogpbomhmabhaaGreatDoor
open Go Go.DB Go.RowKit

theorem strings_Trim_ok {s cs : Str} {r : Str} (h : strings_Trim s cs = some r) : FSpec Tryz.prog 88 [rep s, rep cs] (rep r) := by
 obtain ⟨hn, h⟩ := need_some h
 obtain rfl := some_eq h
 exact trimS_spec trimStr_lay (by kernel_rfl) rfl fnok88 hn

theorem utf8_ValidString_ok {s : Str} {r : Bool} (h : utf8_ValidString s = some r) : FSpec Tryz.prog 83 [rep s] (rep r) := by
 obtain rfl := some_eq h
 exact validS_spec validStr_lay rfl rfl rfl fnok83

theorem strings_Repeat_ok {s : Str} {n : Int} {r : Str} (h : strings_Repeat s n = some r) : FSpec Tryz.prog 14 [rep s, rep n] (rep r) := by
 obtain ⟨hn, h⟩ := need_some h
 obtain rfl := some_eq h
 exact repeatS_spec repeatStr_lay repeatStr_extra rfl fnok14 hn

theorem strings_Builder_String_ok {m : Nat} {c r : Str} (h : strings_Builder_String c = some r) : FSpecO Tryz.prog 19 [isV (ptr m 0)] [(ptr m 0, bldC 55 5 c)] (rep r) [none] := by
 obtain ⟨hn, h⟩ := need_some h
 obtain rfl := some_eq h
 exact bldString_spec bldStringL_lay bldStringL_extra rfl rfl rfl fnok19 hn

theorem strings_Builder_WriteString_ok {m : Nat} {c s r : Str} (h : strings_Builder_WriteString c s = some r) : FSpecO Tryz.prog 18 [isV (ptr m 0), rep s] [(ptr m 0, bldC 55 5 c)] anyV [some (bldC 55 5 r)] := by
 obtain ⟨hn, h⟩ := need_some h
 obtain rfl := some_eq h
 exact bldWrite_spec ws_at fnok18 hn

theorem slices_Grow_Point_ok {n : Int} {r : List Point} (h : slices_Grow_Point n = some r) : FSpecO Tryz.prog 94 [isV (.slice none 0 0), rep n] [] (anyV) [some (rowV 47 r)] := by
 obtain ⟨hn, h⟩ := need_some h
 obtain rfl := some_eq h
 exact growNil_spec growNil47_lay rk77 rfl rfl fnok94 hn

theorem page_isName_ok {s1 : Str} {r : Bool}  (h : page_isName s1 = some r) : FSpec Tryz.prog 60 [rep s1] (rep r) := by
 unfold page_isName at h
 obtain ⟨hn1, h⟩ := need_some h
 obtain ⟨hn2, h⟩ := need_some h
 obtain ⟨r1, hv3, h⟩ := bind_some h
 refine FSpec.i Tryz.func60 rfl Tryz.ntmps60 rfl (fun F => (.sn mx (.asb (.nil (.sn mx (.mv rfl (.c (.neS .none (eqAt_str Tryz.underlying9) (.s rfl) (.str (l := []) (by decide))) (.mv rfl (.mg rfl rfl rfl (.c (.lenStr (.at rfl rfl) Tryz.underlying9 (.tmp rfl id)) (.c (.le (.at rfl rfl) (.tmp rfl id) .i) (.pa rfl rfl (.mv rfl (.mg rfl rfl rfl (.c (.indexStr (.at rfl rfl) Tryz.underlying9 (.tmp rfl id) .i (fun hg => hn1 hg.2)) (.c (.kgeq (.at rfl rfl) (.tmp rfl id) .ki) (.c (.move (.at rfl rfl) (.tmp rfl id)) (.mg rfl rfl rfl (.c (.indexStr (.at rfl rfl) Tryz.underlying9 (.tmp rfl id) .i (fun hg => hn2 hg.1.2 hg.2)) (.c (.kleq (.at rfl rfl) (.tmp rfl id) .ki) (.c (.pickAnd (.at rfl rfl) (.tmp rfl id) (.tmp rfl id)) (.pa rfl rfl (.mv rfl (.mg rfl rfl rfl (.c (.callIf (.at rfl rfl) fnok88 (fun hg => strings_Trim_ok ((fun hg => gd_some hv3 (hg.2)) hg)) (.cons (.tmp rfl id) (.cons (.str (l := [97, 98, 99, 100, 101, 102, 103, 104, 105, 106, 107, 108, 109, 110, 111, 112, 113, 114, 115, 116, 117, 118, 119, 120, 121, 122, 48, 49, 50, 51, 52, 53, 54, 55, 56, 57, 45]) (by decide)) .nil)) (fun h => h)) (.c (.eqS (.at rfl rfl) (eqAt_str Tryz.underlying9) (.tmp rfl id) (.str (l := []) (by decide))) (.pa rfl rfl (.asn rfl (.nil (.ret ?_))))))))))))))))))))))))))))))
 obtain rfl := some_eq h
 exact Ends.rt Tryz.results60 rfl

theorem geom_out_ok {n1 : Int} {r : Bool}  (h : geom_out n1 = some r) : FSpec Tryz.prog 89 [rep n1] (rep r) := by
 unfold geom_out at h
 refine FSpec.i Tryz.func89 rfl Tryz.ntmps89 rfl (fun F => (.sn mx (.asb (.nil (.sn mx (.mv rfl (.c (.lt .none (.s rfl) .i) (.mv rfl (.mg rfl rfl rfl (.c (.gt (.at rfl rfl) (.tmp rfl id) .i) (.po rfl rfl (.asn rfl (.nil (.ret ?_))))))))))))))
 obtain rfl := some_eq h
 exact Ends.rt Tryz.results89 rfl

theorem geom_CheckBox_ok {b1 : Box} {r : Int}  (h : geom_CheckBox b1 = some r) : FSpec Tryz.prog 61 [rep b1] (rep r) := by
 unfold geom_CheckBox at h
 obtain ⟨r1, hv1, h⟩ := bind_some h
 obtain ⟨r2, hv2, h⟩ := bind_some h
 refine FSpec.i Tryz.func61 rfl Tryz.ntmps61 rfl (fun F => (.sn mx (.c (.box .none (.s rfl)) (.asi (.nil (.seq (.sn mx (.fa fd38_0 hfd38_0 rfl (.ld ty3 rfl (.c (.call .none (geom_out_ok hv1) (.cons (.s rfl) .nil)) (.mv rfl (.fg fd38_1 hfd38_1 rfl rfl rfl (.lg ty3 rfl rfl rfl (.c (.callIf (.at rfl rfl) fnok89 (fun hg => geom_out_ok ((fun hg => gd_some hv2 ((notT hg.2))) hg)) (.cons (.tmp rfl id) .nil) (fun h => h)) (.po rfl rfl (.mv rfl (.fg fd38_2 hfd38_2 rfl rfl rfl (.lg ty3 rfl rfl rfl (.c (.lt (.at rfl rfl) (.tmp rfl id) .i) (.po rfl rfl (.mv rfl (.fg fd38_2 hfd38_2 rfl rfl rfl (.lg ty3 rfl rfl rfl (.c (.gt (.at rfl rfl) (.tmp rfl id) .i) (.po rfl rfl (.mv rfl (.fg fd38_3 hfd38_3 rfl rfl rfl (.lg ty3 rfl rfl rfl (.c (.lt (.at rfl rfl) (.tmp rfl id) .i) (.po rfl rfl (.mv rfl (.fg fd38_3 hfd38_3 rfl rfl rfl (.lg ty3 rfl rfl rfl (.c (.gt (.at rfl rfl) (.tmp rfl id) .i) (.po rfl rfl (.nil (.cb rfl h (fun _ h => ?_) fun _ h => ?_)))))))))))))))))))))))))))))))))))))
 ·
  refine .sn mx (.asi (.nil (.ret (.thenRet ?_))))
  obtain rfl := some_eq h
  exact Ends.rt Tryz.results61 rfl
 ·
  refine .skip (.then (.sn mx (.asi (.nil (.ret ?_)))))
  obtain rfl := some_eq h
  exact Ends.rt Tryz.results61 rfl

theorem shape_CheckText_ok {s1 : Str} {r : Int}  (h : shape_CheckText s1 = some r) : FSpec Tryz.prog 62 [rep s1] (rep r) := by
 unfold shape_CheckText at h
 refine FSpec.i Tryz.func62 rfl Tryz.ntmps62 rfl (fun F => (.sn mx (.asi (.nil (.seq (.sn mx (.mv rfl (.c (.lenStr .none Tryz.underlying9 (.s rfl)) (.c (.gt .none (.s rfl) .i) (.nil (.cb rfl h (fun _ h => ?_) fun _ h => ?_)))))))))))
 ·
  refine .sn mx (.asi (.nil (.ret (.thenRet ?_))))
  obtain rfl := some_eq h
  exact Ends.rt Tryz.results62 rfl
 ·
  obtain ⟨r1, hv2, h⟩ := bind_some h
  refine .skip (.then (.seq (.sn mx (.mv rfl (.c (.call .none (utf8_ValidString_ok hv2) (.cons (.s rfl) .nil)) (.c (.not .none (.s rfl)) (.nil (.cb rfl h (fun _ h => ?_) fun _ h => ?_))))))))
  ·
   refine .sn mx (.asi (.nil (.ret (.thenRet ?_))))
   obtain rfl := some_eq h
   exact Ends.rt Tryz.results62 rfl
  ·
   refine .skip (.then (.seq (.sn mx (.mv rfl (.c (.lenStr .none Tryz.underlying9 (.s rfl)) (.mvi (.nil ?_)))))))
   obtain ⟨o_4, h, hK4⟩ := bindR_some h
   refine .tJ (fun s => o_4 = Res.nx s) Sub.nil SubB.nil ?_ (fun j_4 hj4 => ?_)
   ·
    refine .block (.rforEL h (fun p5_ => [(12, ⟨True, rep p5_.1⟩)]) (fun p5_ => []) (.k 12 rfl .nil) SubB.nil (.k2 0 11 rfl rfl .nil) SubB.nil (fun p5_ o_5 h hD5 => (.sn mx (.lt rfl rfl (.nil (.seq (.cb rfl h (fun _ h => ?_) fun _ h => ?_)))))))
    ·
     refine .skip (.then (.seq ?_))
     obtain ⟨o_7, h, hK7⟩ := bindD_some h
     unfold shape_CheckText_L1 at h
     refine .tJ (fun s => o_7 = Res.nx s) (.k2 0 11 rfl rfl (.k 12 rfl .nil)) SubB.nil ?_ (fun j_7 hj7 => ?_)
     ·
      obtain ⟨hn8, h⟩ := need_some h
      obtain ⟨hn9, h⟩ := need_some h
      obtain ⟨hn10, h⟩ := need_some h
      refine .block (.sn mx (.mv rfl (.asn rfl (.nil (.sn mx (.mv rfl (.mv rfl (.c (.indexStr .none Tryz.underlying9 (.s rfl) (.s rfl) (fun _ => hn8)) (.c (.klss .none (.s rfl) .ki) (.mv rfl (.mg rfl rfl rfl (.mg rfl rfl rfl (.c (.indexStr (.at rfl rfl) Tryz.underlying9 (.tmp rfl id) (.tmp rfl id) (fun hg => hn9 hg.2)) (.c (.kneq (.at rfl rfl) (.tmp rfl id) .ki) (.pa rfl rfl (.mv rfl (.mg rfl rfl rfl (.mg rfl rfl rfl (.c (.indexStr (.at rfl rfl) Tryz.underlying9 (.tmp rfl id) (.tmp rfl id) (fun hg => hn10 hg.2)) (.c (.keql (.at rfl rfl) (.tmp rfl id) .ki) (.po rfl rfl (.nil (.cb rfl h (fun _ h => ?_) fun _ h => ?_)))))))))))))))))))))))
      ·
       refine .sn mx (.asi (.nil (.ret (.blkRet (.thenRet (.thenRet (.blkRet (.thenRet ?_))))))))
       replace h := resd_ab hK7 (some_eq h)
       replace h := hD5 _ (some_eq h)
       replace h := resb_ab hK4 (some_eq h)
       obtain rfl := some_eq h
       exact Ends.rt Tryz.results62 rfl
      ·
       exact .skip (.blkNormal (Ends.j _ (some_eq h)))
     ·
      have h := resd_nx hK7 hj7
      exact .rn mx (.adi rfl (.mv rfl (.nil (Ends.ag (some_eq h)))))
    ·
     refine .exit (.thenExit (.thenExit (.blkExit ?_)))
     replace h := hD5 _ (some_eq h)
     exact Ends.j _ (some_eq h)
   ·
    have h := resb_nx hK4 hj4
    refine .sn mx (.asi (.nil (.ret ?_)))
    obtain rfl := some_eq h
    exact Ends.rt Tryz.results62 rfl

theorem page_checkNode_ok {n1 : DNode} {twice1 : Bool} {r : Int}  (h : page_checkNode n1 twice1 = some r) : FSpec Tryz.prog 27 [rep n1, rep twice1] (rep r) := by
 unfold page_checkNode at h
 obtain ⟨r1, hv1, h⟩ := bind_some h
 refine FSpec.i Tryz.func27 rfl Tryz.ntmps27 rfl (fun F => (.sn mx (.c (.box .none (.s rfl)) (.asi (.nil (.seq (.block (.sn mx (.fa fd40_0 hfd40_0 rfl (.ld ty9 rfl (.c (.call .none (page_isName_ok hv1) (.cons (.s rfl) .nil)) (.c (.not .none (.s rfl)) (.asn rfl (.nil (.cb rfl h (fun _ h => ?_) fun _ h => ?_)))))))))))))))
 ·
  refine .sn mx (.asi (.nil (.ret (.blkRet (.thenRet ?_)))))
  obtain rfl := some_eq h
  exact Ends.rt Tryz.results27 rfl
 ·
  refine .sn mx (.mv rfl (.asn rfl (.nil (.cb rfl h (fun _ h => ?_) fun _ h => ?_))))
  ·
   refine .sn mx (.asi (.nil (.ret (.blkRet (.thenRet ?_)))))
   obtain rfl := some_eq h
   exact Ends.rt Tryz.results27 rfl
  ·
   refine .sn mx (.fa fd40_1 hfd40_1 rfl (.ld ty3 rfl (.c (.lt .none (.s rfl) .i) (.mv rfl (.fg fd40_1 hfd40_1 rfl rfl rfl (.lg ty3 rfl rfl rfl (.c (.gt (.at rfl rfl) (.tmp rfl id) .i) (.po rfl rfl (.asn rfl (.nil (.cb rfl h (fun _ h => ?_) fun _ h => ?_)))))))))))
   ·
    refine .sn mx (.asi (.nil (.ret (.blkRet (.thenRet ?_)))))
    obtain rfl := some_eq h
    exact Ends.rt Tryz.results27 rfl
   ·
    refine .sn mx (.fa fd40_1 hfd40_1 rfl (.ld ty3 rfl (.eqi rfl (.mv rfl (.fg fd40_2 hfd40_2 rfl rfl rfl (.lg ty38 rfl rfl rfl (.c (.buildF (y := (⟨(0 : Int), (0 : Int), (0 : Int), (0 : Int)⟩ : Box)) (.at rfl rfl) bu38 zc38 rfl .nil .nil) (.c (.neS (.at rfl rfl) eq38 (.tmp rfl id) (.tmp rfl id)) (.pa rfl rfl (.asn rfl (.nil (.cb rfl h (fun _ h => ?_) fun _ h => ?_))))))))))))
    ·
     refine .sn mx (.asi (.nil (.ret (.blkRet (.thenRet ?_)))))
     obtain rfl := some_eq h
     exact Ends.rt Tryz.results27 rfl
    ·
     refine .skip (.blkNormal (.then (.seq (.sn mx (.fa fd40_1 hfd40_1 rfl (.ld ty3 rfl (.nei rfl (.nil ?_))))))))
     obtain ⟨o_6, h, hK6⟩ := bindR_some h
     refine .tJ (fun s => o_6 = Res.nx s) (.k 2 rfl .nil) SubB.nil ?_ (fun j_6 hj6 => ?_)
     ·
      refine .cb rfl h (fun _ h => ?_) fun _ h => ?_
      ·
       obtain ⟨e1, hv8, h⟩ := bind_some h
       refine .sn mx (.fa fd40_2 hfd40_2 rfl (.ld ty38 rfl (.c (.call .none (geom_CheckBox_ok hv8) (.cons (.s rfl) .nil)) (.asn rfl (.nil (.sn mx (.mv rfl (.nei rfl (.nil (.cb rfl h (fun _ h => ?_) fun _ h => ?_))))))))))
       ·
        refine .sn mx (.mv rfl (.asn rfl (.nil (.ret (.thenRet ?_)))))
        replace h := resb_ab hK6 (some_eq h)
        obtain rfl := some_eq h
        exact Ends.rt Tryz.results27 rfl
       ·
        exact .skip (Ends.j _ (some_eq h))
      ·
       exact .skip (Ends.j _ (some_eq h))
     ·
      have h := resb_nx hK6 hj6
      obtain ⟨e2, hv10, h⟩ := bind_some h
      refine .seq (.sn mx (.fa fd40_3 hfd40_3 rfl (.ld ty9 rfl (.c (.call .none (shape_CheckText_ok hv10) (.cons (.s rfl) .nil)) (.asn rfl (.nil (.sn mx (.mv rfl (.nei rfl (.nil (.cb rfl h (fun _ h => ?_) fun _ h => ?_)))))))))))
      ·
       refine .sn mx (.mv rfl (.asn rfl (.nil (.ret (.thenRet ?_)))))
       obtain rfl := some_eq h
       exact Ends.rt Tryz.results27 rfl
      ·
       obtain ⟨r2, hv12, h⟩ := bind_some h
       refine .skip (.then (.seq (.sn mx (.fa fd40_4 hfd40_4 rfl (.ld ty9 rfl (.c (.neS .none (eqAt_str Tryz.underlying9) (.s rfl) (.str (l := []) (by decide))) (.mv rfl (.fg fd40_4 hfd40_4 rfl rfl rfl (.lg ty9 rfl rfl rfl (.c (.callIf (.at rfl rfl) fnok60 (fun hg => page_isName_ok ((fun hg => gd_some hv12 (hg.2)) hg)) (.cons (.tmp rfl id) .nil) (fun h => h)) (.c (.not (.at rfl rfl) (.tmp rfl id)) (.pa rfl rfl (.nil (.cb rfl h (fun _ h => ?_) fun _ h => ?_))))))))))))))
       ·
        refine .sn mx (.asi (.nil (.ret (.thenRet ?_))))
        obtain rfl := some_eq h
        exact Ends.rt Tryz.results27 rfl
       ·
        refine .skip (.then (.sn mx (.asi (.nil (.ret ?_)))))
        obtain rfl := some_eq h
        exact Ends.rt Tryz.results27 rfl

theorem page_viewOf_ok {d1 : Doc} {r : (Option Page_view)}  (h : page_viewOf d1 = some r) : FSpec Tryz.prog 28 [rep d1] (rep r) := by
 unfold page_viewOf at h
 obtain ⟨c1, hv1, h⟩ := bnd_some h
 obtain ⟨c2, hv2, h⟩ := bnd_some h
 refine FSpec.i Tryz.func28 rfl Tryz.ntmps28 rfl (fun F => (.sn mx (.c (.box .none (.s rfl)) (.c (.assign .none (.const (x := (none : (Option Page_view))) (fun M w => ⟨_, ptr_zero, rfl⟩))) (.nil (.sr [oo, ([], [7]), ([], [8]), ([7, 8], [9, 7, 8]), ([9], [10, 9]), ([10], [3, 10])] mx (.ldA ty25 rfl (.cW (.makeMap (K := Str) (V := Int) rfl) (.cW (.makeMapW (K := Str) (α := Int) (E := 3) rfl) (.cW (.buildG2 (t1 := 7) (t2 := 8) oneMap oneMapW (mk := (fun z1 z2 => (⟨d1, ⟨z1⟩, ⟨z2⟩⟩ : Page_view_o12))) bu116 zvc_Page_view_o12 rfl rfl rfl rfl rfl rfl rfl rfl rfl (fun _ _ => (.cons (.s rfl) (.cons (.s rfl) (.cons (.s rfl) .nil)))) (fun _ _ => (.cons rfl sv_Page_view_o12_0 (.cons rfl sv_Page_view_o12_1 (.cons rfl sv_Page_view_o12_2 .nil))))) (.cW (.boxG2 (t := 9) rfl rfl) (.cW (.passRow rfl (.tmp rfl)) (.nil (.nameAt (t := 3) (g := 5001) rfl rfl (isBox_deep fun _ => (isBox_deep fun _ => isBox_cont)) rfl (fun m5001 => (.open (k := 5001) (g := 5002) rfl rfl (fun s5002 => (.open (k := 5001) (g := 5003) rfl rfl (fun s5003 => (.seq (.sn mx (.fa fd25_0 hfd25_0 rfl (.ld ty22 rfl (.ln sl22 rfl (.mvi (.nil (.reB (t := 5002) rfl (congrArg (fun y => CPred.at s5002 (mapV y)) hv1) (.reB (t := 5003) rfl (congrArg (fun y => CPred.at s5003 (mapW 3 y)) hv2) ?_))))))))))))))))))))))))))))
 obtain ⟨j_3, h, hK3⟩ := bind_some h
 refine .thenJ (ι := ((GMap Str Int) × (GMap Str (List Int)))) (fun j_3 => []) (fun j_3 => [(5002, some (CPred.at s5002 (mapV j_3.1))), (5003, some (CPred.at s5003 (mapW 3 j_3.2)))]) (fun s => j_3 = s) (.k 3 rfl .nil) (.k 5001 rfl .nil) ?_ (fun j_3' hj3 => ?_)
 ·
  refine .block (.rforL h (fun p4_ => [(14, ⟨True, rep p4_.1⟩)]) (fun p4_ => [(5002, some (CPred.at s5002 (mapV p4_.2.1))), (5003, some (CPred.at s5003 (mapW 3 p4_.2.2)))]) (.k 14 rfl .nil) (.k2 5002 5003 rfl rfl .nil) (.k2 3 12 rfl rfl (.k 13 rfl .nil)) (.k 5001 rfl .nil) (fun p4_ o_4 h hD4 => (.sn mx (.lt rfl rfl (.nil (.seq (.cb rfl h (fun _ h => ?_) fun _ h => ?_)))))))
  ·
   refine .skip (.then (.seq ?_))
   obtain ⟨j_6, h, hK6⟩ := bind_some h
   unfold page_viewOf_L1 at h
   refine .thenJ (ι := ((GMap Str Int) × (GMap Str (List Int)))) (fun j_6 => []) (fun j_6 => [(5002, some (CPred.at s5002 (mapV j_6.1))), (5003, some (CPred.at s5003 (mapW 3 j_6.2)))]) (fun s => j_6 = s) (.k4 3 12 13 14 rfl rfl rfl rfl .nil) (.k 5001 rfl .nil) ?_ (fun j_6' hj6 => ?_)
   ·
    obtain ⟨hn7, h⟩ := need_some h
    obtain ⟨v1, hv8, h⟩ := bnd_some h
    obtain ⟨c3, hv9, h⟩ := bnd_some h
    refine .block (.sr [oo, oo, oo, ([], [5]), oo, ([5], [5])] mx (.mvA rfl (.ixA sl22 ty40 rfl rfl hn7 (.rlA hv8 ty40 rfl (.al zo40 rfl (.asnA rfl (.st ty40 rfl rfl rfl (.nil (.freeze (t := 5) rfl rfl (.k2 5001 5002 rfl rfl (.k 5003 rfl .nil)) rfl (.sr [oo, oo, oo, ([5001], []), oo, oo, oo, ([5002], [5002])] mx (.mvA rfl (.cA (.nilCheckP .none (.s rfl)) (.cA (.fieldPtr .none fd116_1 (.s rfl)) (.cA (.loadAt (k := 5001) .none tr113 rfl (.s rfl) hv_Page_view_o12_1) (.faA fd40_0 hfd40_0 rfl (.ldA ty9 rfl (.mvA rfl (.cN (.mapUpdate (q := 5002) mo113 (.s rfl) rfl (.s rfl) (.s rfl)) (.nil (.reB (t := 5002) rfl (congrArg (fun y => CPred.at s5002 (mapV y)) hv9) (.sn mx (.fa fd40_5 hfd40_5 rfl (.ld ty9 rfl (.c (.neS .none (eqAt_str Tryz.underlying9) (.s rfl) (.str (l := []) (by decide))) (.nil (.cb rfl h (fun _ h => ?_) fun _ h => ?_))))))))))))))))))))))))))
    ·
     obtain ⟨hn11, h⟩ := need_some h
     exact .rg [oo, oo, oo, ([5001], []), oo, oo, oo, oo, oo, ([5001], []), oo, oo, ([5003], [41, 5003]), oo, oo, ([41], [44, 41]), ([5003, 44], [5003, 44])] mx (.mvA rfl (.cA (.nilCheckP .none (.s rfl)) (.cA (.fieldPtr .none fd116_2 (.s rfl)) (.cA (.loadAt (k := 5001) .none tr114 rfl (.s rfl) hv_Page_view_o12_2) (.faA fd40_5 hfd40_5 rfl (.ldA ty9 rfl (.mvA rfl (.cA (.nilCheckP .none (.s rfl)) (.cA (.fieldPtr .none fd116_2 (.s rfl)) (.cA (.loadAt (k := 5001) .none tr114 rfl (.s rfl) hv_Page_view_o12_2) (.faA fd40_5 hfd40_5 rfl (.ldA ty9 rfl (.cW (.mapTake (q := 5003) mo114 zraw90 rfl rfl (.s rfl) rfl (.s rfl)) (.mvA rfl (.cA (.buildSlice (xs := [_]) .none sl90 ty3 hz3 (.cons (.s rfl) .nil) rfl (by decide)) (.cW (.append (k := 41) rk90 rfl (.tmp rfl) (.s rfl) hn11) (.cN (.mapPut (q := 5003) (t := 44) mo114 rfl (.s rfl) rfl (fun _ h => h) rfl rfl (.s rfl)) (.nil (.blkNormal (Ends.j _ (some_eq h)))))))))))))))))))))
    ·
     exact .skip (.blkNormal (Ends.j _ (some_eq h)))
   ·
    subst hj6; have h := hK6; clear hK6
    exact .rn mx (.adi rfl (.mv rfl (.nil (Ends.ag (some_eq h)))))
  ·
   refine .exit (.thenExit (.thenExit (.blkExit ?_)))
   replace h := hD4 _ (some_eq h)
   exact Ends.j _ (some_eq h)
 ·
  subst hj3; have h := hK3; clear hK3
  refine .close (k := 5001) (g := 5003) (fun z => cont 116 (⟨d1, ⟨s5002⟩, ⟨z⟩⟩ : Page_view_o12)) rfl rfl rfl (.close (k := 5001) (g := 5002) (fun z => deep (fun z0 => cont 116 (⟨d1, ⟨z⟩, ⟨z0⟩⟩ : Page_view_o12)) (mapW 3 j_3.2)) rfl rfl rfl (.freezeAt (g := 5001) (S := ref ((⟨d1, j_3.1, j_3.2⟩ : Page_view) : Page_view)) (ts := [3]) rfl (.cons (t := 3) rfl trivial .nil) SubB.nil rfl (fun M D w h hms => deep_ref2 (mk := (fun s1_ s2_ => (⟨d1, ⟨s1_⟩, ⟨s2_⟩⟩ : Page_view_o12))) (y := ((⟨d1, j_3.1, j_3.2⟩ : Page_view) : Page_view)) frzMap frzMapW rfl (fun M s1_ s2_ cs w hc g1 g2 => by obtain ⟨c0, q0, e0, h0, c1, q1, e1, h1, h2⟩ := hc; exact ⟨c0, q0, e0, h0, c1, q1, e1, raw_cells rfl rfl h1 g1, raw_cells rfl rfl h2 g2⟩) M D w h hms) (.sn mx (.mv rfl (.asn rfl (.nil (.ret ?_)))))))
  obtain rfl := some_eq h
  exact Ends.ret1 (.inl rfl) Tryz.results28 (ResOK.tmp rfl trivial Imp.refSome)

theorem page_view_node_ok {v1 : Page_view} {id1 : Str} {r : DNode}  (h : page_view_node v1 id1 = some r) : FSpec Tryz.prog 90 [ref v1, rep id1] (rep r) := by
 unfold page_view_node at h
 obtain ⟨v2, hv1, h⟩ := bnd_some h
 obtain ⟨hn2, h⟩ := need_some h
 obtain ⟨v3, hv3, h⟩ := bnd_some h
 refine FSpec.i Tryz.func90 rfl Tryz.ntmps90 rfl (fun F => (.sr [([], [4])] mx (.al zo40 rfl (.nil (.reB (t := 4) rfl (congrArg (cont 40) hv1) (.nameBox (t := 4) (g := 5001) rfl rfl (fun m5001 => (.sr [oo, oo, oo, oo, oo, oo, oo, oo, oo, oo, oo, oo, oo, ([5001], [5001])] mx (.mvA rfl (.cA (.nilCheckR .none (.s rfl)) (.faA fd116_0 hfd116_0 rfl (.faA fd25_0 hfd25_0 rfl (.ldA ty22 rfl (.mvA rfl (.cA (.nilCheckR .none (.s rfl)) (.faA fd116_1 hfd116_1 rfl (.ldA ty113 rfl (.mvA rfl (.cA (.lookup .none mo113 zo3 (.s rfl) (.s rfl)) (.ixA sl22 ty40 rfl rfl hn2 (.rlA hv3 ty40 rfl (.s0 5001 ty40 rfl rfl rfl (.nil (.fb 5001 [4] rfl (.cons (t := 4) rfl trivial .nil) (.ret ?_)))))))))))))))))))))))))
 obtain rfl := some_eq h
 exact Ends.ret1 (.inl rfl) Tryz.results90 (ResOK.cellR ty40 rfl trivial Imp.refl)

theorem page_view_above_ok {v1 : Page_view} {n1 : DNode} {r : (Int × Bool)}  (h : page_view_above v1 n1 = some r) : FSpec Tryz.prog 63 [ref v1, rep n1] (tup [rep r.1, rep r.2]) := by
 unfold page_view_above at h
 refine FSpec.i Tryz.func63 rfl Tryz.ntmps63 rfl (fun F => (.sr [([], [3]), oo, oo] mx (.cW (.boxO rfl (.s rfl)) (.cA (.assign .none .i) (.cA (.assign .none .bool) (.nil (.nameBox (t := 3) (g := 5001) rfl rfl (fun m5001 => (.sr [oo, ([5001], []), oo, oo] mx (.cA (.fieldPtr .none fd40_0 (.s rfl)) (.cA (.loadAt (k := 5001) .none ty9 rfl (.s rfl) hfd40_0) (.asnA rfl (.cA (.assign .none .i) (.nil (.seq ?_)))))))))))))))
 obtain ⟨o_1, h, hK1⟩ := bindR_some h
 refine .thenJ (ι := Int) (fun j_1 => [(7, ⟨True, rep j_1⟩)]) (fun j_1 => []) (fun s => o_1 = Res.nx s) Sub.nil SubB.nil ?_ (fun j_1 hj1 => ?_)
 ·
  refine .block (.loopL h (fun s2_ => [(7, ⟨True, rep s2_.1⟩)]) (fun s2_ => [(5001, some (boxAt m5001 40 s2_.2))]) (.k 7 rfl .nil) (.k 5001 rfl .nil) (.k2 0 3 rfl rfl (.k 6 rfl .nil)) SubB.nil (fun s2_ o_2 h hD2 => ?_))
  unfold page_view_above_L1 at h
  refine .seq (.sr [oo, ([5001], []), oo] mx (.cA (.fieldPtr .none fd40_5 (.s rfl)) (.cA (.loadAt (k := 5001) .none ty9 rfl (.s rfl) hfd40_5) (.cA (.neS .none (eqAt_str Tryz.underlying9) (.s rfl) (.str (l := []) (by decide))) (.nil (.cb rfl h (fun _ h => ?_) fun _ h => ?_))))))
  ·
   obtain ⟨many1, hv4, h⟩ := bnd_some h
   refine .skip (.then (.block (.seq (.sn mx (.mv rfl (.adi rfl (.ra hv4 rfl (.nil (.sr [oo, ([5001], []), oo, oo, oo, oo, oo, oo, oo, oo, oo, oo, oo, oo] mx (.cA (.fieldPtr .none fd40_5 (.s rfl)) (.cA (.loadAt (k := 5001) .none ty9 rfl (.s rfl) hfd40_5) (.mvA rfl (.cA (.eqS .none (eqAt_str Tryz.underlying9) (.s rfl) (.s rfl)) (.mvA rfl (.cA (.move (.at rfl rfl) (.s rfl)) (.cA (.move (.at rfl rfl) (.s rfl)) (.cA (.nilCheckR (.at rfl rfl) (.tmp rfl id)) (.cA (.fieldAddr (.at rfl rfl) fd116_0 hfd116_0 (.tmp rfl id)) (.cA (.fieldAddr (.at rfl rfl) fd25_0 hfd25_0 (.tmp rfl id)) (.cA (.load (.at rfl rfl) ty22 (.tmp rfl id)) (.cA (.len (.at rfl rfl) sl22 (.tmp rfl id)) (.cA (.gt (.at rfl rfl) (.tmp rfl id) (.tmp rfl id)) (.cA (.pickOr .none (.s rfl) (.tmp rfl id)) (.nil (.cb rfl h (fun _ h => ?_) fun _ h => ?_)))))))))))))))))))))))))
   ·
    refine .sr [oo, oo, ([5001], []), oo, oo, oo, oo] mx (.mvA rfl (.cA (.fieldPtr .none fd40_5 (.s rfl)) (.cA (.loadAt (k := 5001) .none ty9 rfl (.s rfl) hfd40_5) (.mvA rfl (.cA (.neS .none (eqAt_str Tryz.underlying9) (.s rfl) (.s rfl)) (.asnA rfl (.asnA rfl (.nil (.ret (.thenRet (.blkRet (.thenRet (.blkRet (.thenRet ?_))))))))))))))
    replace h := hD2 _ (some_eq h)
    replace h := resb_ab hK1 (some_eq h)
    obtain rfl := some_eq h
    exact Ends.ret2 (.inl rfl) Tryz.results63 (ResOK.tmp rfl trivial Imp.refl) (ResOK.tmp rfl trivial Imp.refl)
   ·
    obtain ⟨r1, hv6, h⟩ := bind_some h
    exact .skip (.then (.rg [oo, oo, ([5001], []), oo, ([5001], [5001])] mx (.mvA rfl (.cA (.fieldPtr .none fd40_5 (.s rfl)) (.cA (.loadAt (k := 5001) .none ty9 rfl (.s rfl) hfd40_5) (.cA (.call .none (page_view_node_ok hv6) (.cons (.s rfl) (.cons (.s rfl) .nil))) (.s0 5001 ty40 rfl rfl rfl (.nil (.blkNormal (Ends.ag (some_eq h)))))))))))
  ·
   refine .exit (.thenExit (.thenExit (.blkExit ?_)))
   replace h := hD2 _ (some_eq h)
   exact Ends.j _ (some_eq h)
 ·
  have h := resb_nx hK1 hj1
  refine .sn mx (.mv rfl (.asn rfl (.asb (.nil (.ret ?_)))))
  obtain rfl := some_eq h
  exact Ends.ret2 (.inl rfl) Tryz.results63 (ResOK.tmp rfl trivial Imp.refl) (ResOK.tmp rfl trivial Imp.refl)

theorem page_view_checkGroups_ok {v1 : Page_view} {r : Int}  (h : page_view_checkGroups v1 = some r) : FSpec Tryz.prog 29 [ref v1] (rep r) := by
 unfold page_view_checkGroups at h
 refine FSpec.i Tryz.func29 rfl Tryz.ntmps29 rfl (fun F => (.sn mx (.asi (.nil (.seq (.sn mx (.mv rfl (.c (.nilCheckR .none (.s rfl)) (.fa fd116_0 hfd116_0 rfl (.fa fd25_0 hfd25_0 rfl (.ld ty22 rfl (.ln sl22 rfl (.mvi (.nil ?_))))))))))))))
 obtain ⟨o_1, h, hK1⟩ := bindR_some h
 refine .tJ (fun s => o_1 = Res.nx s) (.k 0 rfl .nil) SubB.nil ?_ (fun j_1 hj1 => ?_)
 ·
  refine .block (.rforEL h (fun p2_ => [(23, ⟨True, rep p2_.1⟩)]) (fun p2_ => []) (.k 23 rfl .nil) SubB.nil (.k2 0 21 rfl rfl (.k 22 rfl .nil)) SubB.nil (fun p2_ o_2 h hD2 => (.sn mx (.lt rfl rfl (.nil (.seq (.cb rfl h (fun _ h => ?_) fun _ h => ?_)))))))
  ·
   refine .skip (.then (.seq ?_))
   obtain ⟨o_4, h, hK4⟩ := bindD_some h
   unfold page_view_checkGroups_L1 at h
   refine .tJ (fun s => o_4 = Res.nx s) (.k4 0 21 22 23 rfl rfl rfl rfl .nil) SubB.nil ?_ (fun j_4 hj4 => ?_)
   ·
    obtain ⟨hn5, h⟩ := need_some h
    obtain ⟨v2, hv6, h⟩ := bnd_some h
    obtain ⟨hn7, h⟩ := need_some h
    refine .block (.sr [oo, oo, ([], [4]), ([4], [4])] mx (.ixA sl22 ty40 rfl rfl hn5 (.rlA hv6 ty40 rfl (.al zo40 rfl (.st ty40 rfl rfl rfl (.nil (.freeze (t := 4) rfl rfl SubB.nil rfl (.sn mx (.mv rfl (.c (.nilCheckR .none (.s rfl)) (.fa fd116_1 hfd116_1 rfl (.ld ty113 rfl (.fa fd40_5 hfd40_5 rfl (.ld ty9 rfl (.c (.lookupOk .none mo113 zo3 (.s rfl) (.s rfl)) (.mv rfl (.ex rfl rfl (.ex rfl rfl (.asn rfl (.asn rfl (.nil (.sn mx (.fa fd40_5 hfd40_5 rfl (.ld ty9 rfl (.c (.neS .none (eqAt_str Tryz.underlying9) (.s rfl) (.str (l := []) (by decide))) (.mv rfl (.mg rfl rfl rfl (.c (.not (.at rfl rfl) (.tmp rfl id)) (.c (.move (.at rfl rfl) (.tmp rfl id)) (.mg rfl rfl rfl (.c (.nilCheckR (.at rfl rfl) (.tmp rfl id)) (.c (.fieldAddr (.at rfl rfl) fd116_0 hfd116_0 (.tmp rfl id)) (.c (.fieldAddr (.at rfl rfl) fd25_0 hfd25_0 (.tmp rfl id)) (.lg ty22 rfl rfl rfl (.mg rfl rfl rfl (.c (.indexAddr (.at rfl rfl) sl22 ty40 (.tmp rfl id) (.tmp rfl id) (fun hg => hn7 hg.1.2 hg.2)) (.c (.fieldAddr (.at rfl rfl) fd40_1 hfd40_1 (.tmp rfl id)) (.lg ty3 rfl rfl rfl (.c (.neI (.at rfl rfl) (.tmp rfl id) .i) (.c (.pickOr (.at rfl rfl) (.tmp rfl id) (.tmp rfl id)) (.pa rfl rfl (.nil (.cb rfl h (fun _ h => ?_) fun _ h => ?_)))))))))))))))))))))))))))))))))))))))))))
    ·
     refine .sn mx (.asi (.nil (.ret (.blkRet (.thenRet (.thenRet (.blkRet (.thenRet ?_))))))))
     replace h := resd_ab hK4 (some_eq h)
     replace h := hD2 _ (some_eq h)
     replace h := resb_ab hK1 (some_eq h)
     obtain rfl := some_eq h
     exact Ends.rt Tryz.results29 rfl
    ·
     exact .skip (.blkNormal (Ends.j _ (some_eq h)))
   ·
    have h := resd_nx hK4 hj4
    exact .rn mx (.adi rfl (.mv rfl (.nil (Ends.ag (some_eq h)))))
  ·
   refine .exit (.thenExit (.thenExit (.blkExit ?_)))
   replace h := hD2 _ (some_eq h)
   exact Ends.j _ (some_eq h)
 ·
  have h := resb_nx hK1 hj1
  refine .seq (.sn mx (.mv rfl (.c (.nilCheckR .none (.s rfl)) (.fa fd116_0 hfd116_0 rfl (.fa fd25_0 hfd25_0 rfl (.ld ty22 rfl (.ln sl22 rfl (.mvi (.nil ?_)))))))))
  obtain ⟨o_9, h, hK9⟩ := bindR_some h
  refine .tJ (fun s => o_9 = Res.nx s) (.k 0 rfl .nil) SubB.nil ?_ (fun j_9 hj9 => ?_)
  ·
   refine .block (.rforEL h (fun p10_ => [(63, ⟨True, rep p10_.1⟩)]) (fun p10_ => []) (.k 63 rfl .nil) SubB.nil (.k2 0 61 rfl rfl (.k 62 rfl .nil)) SubB.nil (fun p10_ o_10 h hD10 => (.sn mx (.lt rfl rfl (.nil (.seq (.cb rfl h (fun _ h => ?_) fun _ h => ?_)))))))
   ·
    refine .skip (.then (.seq ?_))
    obtain ⟨o_12, h, hK12⟩ := bindD_some h
    unfold page_view_checkGroups_L2 at h
    refine .tJ (fun s => o_12 = Res.nx s) (.k4 0 61 62 63 rfl rfl rfl rfl .nil) SubB.nil ?_ (fun j_12 hj12 => ?_)
    ·
     obtain ⟨hn13, h⟩ := need_some h
     obtain ⟨v3, hv14, h⟩ := bnd_some h
     obtain ⟨r1, hv15, h⟩ := bind_some h
     refine .block (.sr [oo, oo, ([], [8]), ([8], [8])] mx (.ixA sl22 ty40 rfl rfl hn13 (.rlA hv14 ty40 rfl (.al zo40 rfl (.st ty40 rfl rfl rfl (.nil (.freeze (t := 8) rfl rfl SubB.nil rfl (.sn mx (.mv rfl (.ld ty40 rfl (.c (.call .none (page_view_above_ok hv15) (.cons (.s rfl) (.cons (.s rfl) .nil))) (.mv rfl (.ex rfl rfl (.ex rfl rfl (.asn rfl (.asn rfl (.nil (.sn mx (.mv rfl (.c (.not .none (.s rfl)) (.nil (.cb rfl h (fun _ h => ?_) fun _ h => ?_))))))))))))))))))))))
     ·
      refine .sn mx (.asi (.nil (.ret (.blkRet (.thenRet (.thenRet (.blkRet (.thenRet ?_))))))))
      replace h := resd_ab hK12 (some_eq h)
      replace h := hD10 _ (some_eq h)
      replace h := resb_ab hK9 (some_eq h)
      obtain rfl := some_eq h
      exact Ends.rt Tryz.results29 rfl
     ·
      exact .skip (.blkNormal (Ends.j _ (some_eq h)))
    ·
     have h := resd_nx hK12 hj12
     exact .rn mx (.adi rfl (.mv rfl (.nil (Ends.ag (some_eq h)))))
   ·
    refine .exit (.thenExit (.thenExit (.blkExit ?_)))
    replace h := hD10 _ (some_eq h)
    exact Ends.j _ (some_eq h)
  ·
   have h := resb_nx hK9 hj9
   refine .seq (.sn mx (.mv rfl (.c (.nilCheckR .none (.s rfl)) (.fa fd116_0 hfd116_0 rfl (.fa fd25_0 hfd25_0 rfl (.ld ty22 rfl (.ln sl22 rfl (.mvi (.nil ?_)))))))))
   obtain ⟨o_17, h, hK17⟩ := bindR_some h
   refine .tJ (fun s => o_17 = Res.nx s) (.k 0 rfl .nil) SubB.nil ?_ (fun j_17 hj17 => ?_)
   ·
    refine .block (.rforEL h (fun p18_ => [(82, ⟨True, rep p18_.1⟩)]) (fun p18_ => []) (.k 82 rfl .nil) SubB.nil (.k2 0 80 rfl rfl (.k 81 rfl .nil)) SubB.nil (fun p18_ o_18 h hD18 => (.sn mx (.lt rfl rfl (.nil (.seq (.cb rfl h (fun _ h => ?_) fun _ h => ?_)))))))
    ·
     refine .skip (.then (.seq ?_))
     obtain ⟨o_20, h, hK20⟩ := bindD_some h
     unfold page_view_checkGroups_L3 at h
     refine .tJ (fun s => o_20 = Res.nx s) (.k4 0 80 81 82 rfl rfl rfl rfl .nil) SubB.nil ?_ (fun j_20 hj20 => ?_)
     ·
      obtain ⟨hn21, h⟩ := need_some h
      obtain ⟨v4, hv22, h⟩ := bnd_some h
      obtain ⟨r2, hv23, h⟩ := bind_some h
      refine .block (.sr [oo, oo, ([], [12]), ([12], [12])] mx (.ixA sl22 ty40 rfl rfl hn21 (.rlA hv22 ty40 rfl (.al zo40 rfl (.st ty40 rfl rfl rfl (.nil (.freeze (t := 12) rfl rfl SubB.nil rfl (.sn mx (.mv rfl (.ld ty40 rfl (.c (.call .none (page_view_above_ok hv23) (.cons (.s rfl) (.cons (.s rfl) .nil))) (.mv rfl (.ex rfl rfl (.ex rfl rfl (.asn rfl (.asn rfl (.nil (.sn mx (.mv rfl (.c (.gt .none (.s rfl) .i) (.nil (.cb rfl h (fun _ h => ?_) fun _ h => ?_))))))))))))))))))))))
      ·
       refine .sn mx (.asi (.nil (.ret (.blkRet (.thenRet (.thenRet (.blkRet (.thenRet ?_))))))))
       replace h := resd_ab hK20 (some_eq h)
       replace h := hD18 _ (some_eq h)
       replace h := resb_ab hK17 (some_eq h)
       obtain rfl := some_eq h
       exact Ends.rt Tryz.results29 rfl
      ·
       exact .skip (.blkNormal (Ends.j _ (some_eq h)))
     ·
      have h := resd_nx hK20 hj20
      exact .rn mx (.adi rfl (.mv rfl (.nil (Ends.ag (some_eq h)))))
    ·
     refine .exit (.thenExit (.thenExit (.blkExit ?_)))
     replace h := hD18 _ (some_eq h)
     exact Ends.j _ (some_eq h)
   ·
    have h := resb_nx hK17 hj17
    refine .seq (.sn mx (.mv rfl (.c (.nilCheckR .none (.s rfl)) (.fa fd116_0 hfd116_0 rfl (.fa fd25_0 hfd25_0 rfl (.ld ty22 rfl (.ln sl22 rfl (.mvi (.nil ?_)))))))))
    obtain ⟨o_25, h, hK25⟩ := bindR_some h
    refine .tJ (fun s => o_25 = Res.nx s) Sub.nil SubB.nil ?_ (fun j_25 hj25 => ?_)
    ·
     refine .block (.rforEL h (fun p26_ => [(101, ⟨True, rep p26_.1⟩)]) (fun p26_ => []) (.k 101 rfl .nil) SubB.nil (.k2 0 99 rfl rfl (.k 100 rfl .nil)) SubB.nil (fun p26_ o_26 h hD26 => (.sn mx (.lt rfl rfl (.nil (.seq (.cb rfl h (fun _ h => ?_) fun _ h => ?_)))))))
     ·
      refine .skip (.then (.seq ?_))
      obtain ⟨o_28, h, hK28⟩ := bindD_some h
      unfold page_view_checkGroups_L4 at h
      refine .tJ (fun s => o_28 = Res.nx s) (.k4 0 99 100 101 rfl rfl rfl rfl .nil) SubB.nil ?_ (fun j_28 hj28 => ?_)
      ·
       obtain ⟨hn29, h⟩ := need_some h
       obtain ⟨v5, hv30, h⟩ := bnd_some h
       refine .block (.sr [oo, oo, ([], [16]), ([16], [16])] mx (.ixA sl22 ty40 rfl rfl hn29 (.rlA hv30 ty40 rfl (.al zo40 rfl (.st ty40 rfl rfl rfl (.nil (.freeze (t := 16) rfl rfl SubB.nil rfl (.sn mx (.fa fd40_1 hfd40_1 rfl (.ld ty3 rfl (.eqi rfl (.mv rfl (.mg rfl rfl rfl (.c (.nilCheckR (.at rfl rfl) (.tmp rfl id)) (.c (.fieldAddr (.at rfl rfl) fd116_2 hfd116_2 (.tmp rfl id)) (.lg ty114 rfl rfl rfl (.fg fd40_0 hfd40_0 rfl rfl rfl (.lg ty9 rfl rfl rfl (.c (.lookup (.at rfl rfl) mo114 zo90 (.tmp rfl id) (.tmp rfl id)) (.c (.len (.at rfl rfl) sl90 (.tmp rfl id)) (.c (.eqI (.at rfl rfl) (.tmp rfl id) .i) (.pa rfl rfl (.nil (.cb rfl h (fun _ h => ?_) fun _ h => ?_))))))))))))))))))))))))
       ·
        refine .sn mx (.asi (.nil (.ret (.blkRet (.thenRet (.thenRet (.blkRet (.thenRet ?_))))))))
        replace h := resd_ab hK28 (some_eq h)
        replace h := hD26 _ (some_eq h)
        replace h := resb_ab hK25 (some_eq h)
        obtain rfl := some_eq h
        exact Ends.rt Tryz.results29 rfl
       ·
        exact .skip (.blkNormal (Ends.j _ (some_eq h)))
      ·
       have h := resd_nx hK28 hj28
       exact .rn mx (.adi rfl (.mv rfl (.nil (Ends.ag (some_eq h)))))
     ·
      refine .exit (.thenExit (.thenExit (.blkExit ?_)))
      replace h := hD26 _ (some_eq h)
      exact Ends.j _ (some_eq h)
    ·
     have h := resb_nx hK25 hj25
     refine .sn mx (.asi (.nil (.ret ?_)))
     obtain rfl := some_eq h
     exact Ends.rt Tryz.results29 rfl

theorem page_view_checkEnd_ok {v1 : Page_view} {x1 : DEnd} {r : Int}  (h : page_view_checkEnd v1 x1 = some r) : FSpec Tryz.prog 64 [ref v1, rep x1] (rep r) := by
 unfold page_view_checkEnd at h
 refine FSpec.i Tryz.func64 rfl Tryz.ntmps64 rfl (fun F => (.sn mx (.c (.box .none (.s rfl)) (.asi (.nil (.sn mx (.mv rfl (.c (.nilCheckR .none (.s rfl)) (.fa fd116_1 hfd116_1 rfl (.ld ty113 rfl (.fa fd76_0 hfd76_0 rfl (.ld ty9 rfl (.c (.lookupOk .none mo113 zo3 (.s rfl) (.s rfl)) (.mv rfl (.ex rfl rfl (.ex rfl rfl (.asn rfl (.asn rfl (.nil (.seq (.block (.sn mx (.mv rfl (.c (.not .none (.s rfl)) (.asn rfl (.nil (.cb rfl h (fun _ h => ?_) fun _ h => ?_)))))))))))))))))))))))))))
 ·
  refine .sn mx (.asi (.nil (.ret (.blkRet (.thenRet ?_)))))
  obtain rfl := some_eq h
  exact Ends.rt Tryz.results64 rfl
 ·
  obtain ⟨hn2, h⟩ := need_some h
  refine .sn mx (.mv rfl (.c (.nilCheckR .none (.s rfl)) (.fa fd116_0 hfd116_0 rfl (.fa fd25_0 hfd25_0 rfl (.ld ty22 rfl (.mv rfl (.ix sl22 ty40 rfl rfl hn2 (.fa fd40_1 hfd40_1 rfl (.ld ty3 rfl (.eqi rfl (.asn rfl (.nil (.cb rfl h (fun _ h => ?_) fun _ h => ?_)))))))))))))
  ·
   refine .sn mx (.asi (.nil (.ret (.blkRet (.thenRet ?_)))))
   obtain rfl := some_eq h
   exact Ends.rt Tryz.results64 rfl
  ·
   refine .sn mx (.fa fd76_1 hfd76_1 rfl (.ld ty3 rfl (.c (.lt .none (.s rfl) .i) (.mv rfl (.fg fd76_1 hfd76_1 rfl rfl rfl (.lg ty3 rfl rfl rfl (.c (.gt (.at rfl rfl) (.tmp rfl id) .i) (.po rfl rfl (.mv rfl (.fg fd76_2 hfd76_2 rfl rfl rfl (.lg ty3 rfl rfl rfl (.c (.lt (.at rfl rfl) (.tmp rfl id) .i) (.po rfl rfl (.mv rfl (.fg fd76_2 hfd76_2 rfl rfl rfl (.lg ty3 rfl rfl rfl (.c (.gt (.at rfl rfl) (.tmp rfl id) .i) (.po rfl rfl (.asn rfl (.nil (.cb rfl h (fun _ h => ?_) fun _ h => ?_)))))))))))))))))))))
   ·
    refine .sn mx (.asi (.nil (.ret (.blkRet (.thenRet ?_)))))
    obtain rfl := some_eq h
    exact Ends.rt Tryz.results64 rfl
   ·
    refine .skip (.blkNormal (.then (.sn mx (.asi (.nil (.ret ?_))))))
    obtain rfl := some_eq h
    exact Ends.rt Tryz.results64 rfl

theorem geom_CheckPoint_ok {p1 : Point} {r : Int}  (h : geom_CheckPoint p1 = some r) : FSpec Tryz.prog 79 [rep p1] (rep r) := by
 unfold geom_CheckPoint at h
 obtain ⟨r1, hv1, h⟩ := bind_some h
 obtain ⟨r2, hv2, h⟩ := bind_some h
 refine FSpec.i Tryz.func79 rfl Tryz.ntmps79 rfl (fun F => (.sn mx (.c (.box .none (.s rfl)) (.asi (.nil (.seq (.sn mx (.fa fd47_0 hfd47_0 rfl (.ld ty3 rfl (.c (.call .none (geom_out_ok hv1) (.cons (.s rfl) .nil)) (.mv rfl (.fg fd47_1 hfd47_1 rfl rfl rfl (.lg ty3 rfl rfl rfl (.c (.callIf (.at rfl rfl) fnok89 (fun hg => geom_out_ok ((fun hg => gd_some hv2 ((notT hg.2))) hg)) (.cons (.tmp rfl id) .nil) (fun h => h)) (.po rfl rfl (.nil (.cb rfl h (fun _ h => ?_) fun _ h => ?_)))))))))))))))))
 ·
  refine .sn mx (.asi (.nil (.ret (.thenRet ?_))))
  obtain rfl := some_eq h
  exact Ends.rt Tryz.results79 rfl
 ·
  refine .skip (.then (.sn mx (.asi (.nil (.ret ?_)))))
  obtain rfl := some_eq h
  exact Ends.rt Tryz.results79 rfl

theorem geom_points_ok {l1 : (List Point)} {r : Int}  (h : geom_points l1 = some r) : FSpec Tryz.prog 91 [rep l1] (rep r) := by
 unfold geom_points at h
 refine FSpec.i Tryz.func91 rfl Tryz.ntmps91 rfl (fun F => (.sn mx (.asi (.nil (.seq (.sn mx (.mv rfl (.ln sl77 rfl (.mvi (.nil ?_))))))))))
 obtain ⟨o_1, h, hK1⟩ := bindR_some h
 refine .tJ (fun s => o_1 = Res.nx s) Sub.nil SubB.nil ?_ (fun j_1 hj1 => ?_)
 ·
  refine .block (.rforEL h (fun p2_ => [(8, ⟨True, rep p2_.1⟩)]) (fun p2_ => []) (.k 8 rfl .nil) SubB.nil (.k2 6 7 rfl rfl .nil) SubB.nil (fun p2_ o_2 h hD2 => (.sn mx (.lt rfl rfl (.nil (.seq (.cb rfl h (fun _ h => ?_) fun _ h => ?_)))))))
  ·
   refine .skip (.then (.seq ?_))
   obtain ⟨o_4, h, hK4⟩ := bindD_some h
   unfold geom_points_L1 at h
   refine .tJ (fun s => o_4 = Res.nx s) (.k2 6 7 rfl rfl (.k 8 rfl .nil)) SubB.nil ?_ (fun j_4 hj4 => ?_)
   ·
    obtain ⟨hn5, h⟩ := need_some h
    obtain ⟨v1, hv6, h⟩ := bnd_some h
    obtain ⟨e1, hv7, h⟩ := bind_some h
    refine .block (.sr [oo, oo, ([], [4]), ([4], [4])] mx (.ixA sl77 ty47 rfl rfl hn5 (.rlA hv6 ty47 rfl (.al zo47 rfl (.st ty47 rfl rfl rfl (.nil (.freeze (t := 4) rfl rfl SubB.nil rfl (.sn mx (.ld ty47 rfl (.c (.call .none (geom_CheckPoint_ok hv7) (.cons (.s rfl) .nil)) (.asn rfl (.nil (.sn mx (.mv rfl (.nei rfl (.nil (.cb rfl h (fun _ h => ?_) fun _ h => ?_)))))))))))))))))
    ·
     refine .sn mx (.mv rfl (.asn rfl (.nil (.ret (.blkRet (.thenRet (.thenRet (.blkRet (.thenRet ?_)))))))))
     replace h := resd_ab hK4 (some_eq h)
     replace h := hD2 _ (some_eq h)
     replace h := resb_ab hK1 (some_eq h)
     obtain rfl := some_eq h
     exact Ends.rt Tryz.results91 rfl
    ·
     exact .skip (.blkNormal (Ends.j _ (some_eq h)))
   ·
    have h := resd_nx hK4 hj4
    exact .rn mx (.adi rfl (.mv rfl (.nil (Ends.ag (some_eq h)))))
  ·
   refine .exit (.thenExit (.thenExit (.blkExit ?_)))
   replace h := hD2 _ (some_eq h)
   exact Ends.j _ (some_eq h)
 ·
  have h := resb_nx hK1 hj1
  refine .sn mx (.asi (.nil (.ret ?_)))
  obtain rfl := some_eq h
  exact Ends.rt Tryz.results91 rfl

theorem geom_CheckPoints_ok {l1 : (List Point)} {r : Int}  (h : geom_CheckPoints l1 = some r) : FSpec Tryz.prog 65 [rep l1] (rep r) := by
 unfold geom_CheckPoints at h
 refine FSpec.i Tryz.func65 rfl Tryz.ntmps65 rfl (fun F => (.sn mx (.asi (.nil (.seq (.sn mx (.mv rfl (.ln sl77 rfl (.c (.gt .none (.s rfl) .i) (.nil (.cb rfl h (fun _ h => ?_) fun _ h => ?_)))))))))))
 ·
  refine .sn mx (.asi (.nil (.ret (.thenRet ?_))))
  obtain rfl := some_eq h
  exact Ends.rt Tryz.results65 rfl
 ·
  obtain ⟨r1, hv2, h⟩ := bind_some h
  refine .skip (.then (.sn mx (.mv rfl (.c (.call .none (geom_points_ok hv2) (.cons (.s rfl) .nil)) (.asn rfl (.nil (.ret ?_)))))))
  obtain rfl := some_eq h
  exact Ends.rt Tryz.results65 rfl

theorem page_view_checkEdge_ok {v1 : Page_view} {x1 : DEdge} {twice1 : Bool} {r : Int}  (h : page_view_checkEdge v1 x1 twice1 = some r) : FSpec Tryz.prog 30 [ref v1, rep x1, rep twice1] (rep r) := by
 unfold page_view_checkEdge at h
 obtain ⟨r1, hv1, h⟩ := bind_some h
 refine FSpec.i Tryz.func30 rfl Tryz.ntmps30 rfl (fun F => (.sn mx (.c (.box .none (.s rfl)) (.asi (.nil (.seq (.block (.sn mx (.fa fd79_0 hfd79_0 rfl (.ld ty9 rfl (.c (.call .none (page_isName_ok hv1) (.cons (.s rfl) .nil)) (.c (.not .none (.s rfl)) (.asn rfl (.nil (.cb rfl h (fun _ h => ?_) fun _ h => ?_)))))))))))))))
 ·
  refine .sn mx (.asi (.nil (.ret (.blkRet (.thenRet ?_)))))
  obtain rfl := some_eq h
  exact Ends.rt Tryz.results30 rfl
 ·
  refine .sn mx (.mv rfl (.asn rfl (.nil (.cb rfl h (fun _ h => ?_) fun _ h => ?_))))
  ·
   refine .sn mx (.asi (.nil (.ret (.blkRet (.thenRet ?_)))))
   obtain rfl := some_eq h
   exact Ends.rt Tryz.results30 rfl
  ·
   obtain ⟨v2, hv4, h⟩ := bnd_some h
   refine .skip (.blkNormal (.then (.seq (.sn mx (.fa fd79_1 hfd79_1 rfl (.ld ty76 rfl (.fa fd79_2 hfd79_2 rfl (.ld ty76 rfl (.c (.re hv4 (.buildSlice (xs := [_, _]) .none sl106 ty76 hz76 (.cons (.s rfl) (.cons (.s rfl) .nil)) rfl (by decide))) (.ln sl106 rfl (.mvi (.nil ?_))))))))))))
   obtain ⟨o_5, h, hK5⟩ := bindR_some h
   refine .tJ (fun s => o_5 = Res.nx s) (.k 4 rfl .nil) SubB.nil ?_ (fun j_5 hj5 => ?_)
   ·
    refine .block (.rforEL h (fun p6_ => [(25, ⟨True, rep p6_.1⟩)]) (fun p6_ => []) (.k 25 rfl .nil) SubB.nil (.k4 0 4 23 24 rfl rfl rfl rfl .nil) SubB.nil (fun p6_ o_6 h hD6 => (.sn mx (.lt rfl rfl (.nil (.seq (.cb rfl h (fun _ h => ?_) fun _ h => ?_)))))))
    ·
     refine .skip (.then (.seq ?_))
     obtain ⟨o_8, h, hK8⟩ := bindD_some h
     unfold page_view_checkEdge_L1 at h
     refine .tJ (fun s => o_8 = Res.nx s) (.k4 0 4 23 24 rfl rfl rfl rfl (.k 25 rfl .nil)) SubB.nil ?_ (fun j_8 hj8 => ?_)
     ·
      obtain ⟨hn9, h⟩ := need_some h
      obtain ⟨v3, hv10, h⟩ := bnd_some h
      obtain ⟨e1, hv11, h⟩ := bind_some h
      refine .block (.sr [oo, oo, ([], [8]), ([8], [8])] mx (.ixA sl106 ty76 rfl rfl hn9 (.rlA hv10 ty76 rfl (.al zo76 rfl (.st ty76 rfl rfl rfl (.nil (.freeze (t := 8) rfl rfl SubB.nil rfl (.sn mx (.mv rfl (.ld ty76 rfl (.c (.call .none (page_view_checkEnd_ok hv11) (.cons (.s rfl) (.cons (.s rfl) .nil))) (.asn rfl (.nil (.sn mx (.mv rfl (.nei rfl (.nil (.cb rfl h (fun _ h => ?_) fun _ h => ?_))))))))))))))))))
      ·
       refine .sn mx (.mv rfl (.asn rfl (.nil (.ret (.blkRet (.thenRet (.thenRet (.blkRet (.thenRet ?_)))))))))
       replace h := resd_ab hK8 (some_eq h)
       replace h := hD6 _ (some_eq h)
       replace h := resb_ab hK5 (some_eq h)
       obtain rfl := some_eq h
       exact Ends.rt Tryz.results30 rfl
      ·
       exact .skip (.blkNormal (Ends.j _ (some_eq h)))
     ·
      have h := resd_nx hK8 hj8
      exact .rn mx (.adi rfl (.mv rfl (.nil (Ends.ag (some_eq h)))))
    ·
     refine .exit (.thenExit (.thenExit (.blkExit ?_)))
     replace h := hD6 _ (some_eq h)
     exact Ends.j _ (some_eq h)
   ·
    have h := resb_nx hK5 hj5
    refine .seq (.sn mx (.fa fd79_3 hfd79_3 rfl (.ld ty77 rfl (.ln sl77 rfl (.c (.gt .none (.s rfl) .i) (.nil (.cb rfl h (fun _ h => ?_) fun _ h => ?_)))))))
    ·
     refine .sn mx (.asi (.nil (.ret (.thenRet ?_))))
     obtain rfl := some_eq h
     exact Ends.rt Tryz.results30 rfl
    ·
     obtain ⟨e2, hv14, h⟩ := bind_some h
     refine .skip (.then (.seq (.sn mx (.fa fd79_3 hfd79_3 rfl (.ld ty77 rfl (.c (.call .none (geom_CheckPoints_ok hv14) (.cons (.s rfl) .nil)) (.asn rfl (.nil (.sn mx (.mv rfl (.nei rfl (.nil (.cb rfl h (fun _ h => ?_) fun _ h => ?_)))))))))))))
     ·
      refine .sn mx (.mv rfl (.asn rfl (.nil (.ret (.thenRet ?_)))))
      obtain rfl := some_eq h
      exact Ends.rt Tryz.results30 rfl
     ·
      obtain ⟨e3, hv16, h⟩ := bind_some h
      refine .skip (.then (.seq (.sn mx (.fa fd79_4 hfd79_4 rfl (.ld ty9 rfl (.c (.call .none (shape_CheckText_ok hv16) (.cons (.s rfl) .nil)) (.asn rfl (.nil (.sn mx (.mv rfl (.nei rfl (.nil (.cb rfl h (fun _ h => ?_) fun _ h => ?_)))))))))))))
      ·
       refine .sn mx (.mv rfl (.asn rfl (.nil (.ret (.thenRet ?_)))))
       obtain rfl := some_eq h
       exact Ends.rt Tryz.results30 rfl
      ·
       obtain ⟨r2, hv18, h⟩ := bind_some h
       refine .skip (.then (.seq (.sn mx (.fa fd79_5 hfd79_5 rfl (.ld ty9 rfl (.c (.neS .none (eqAt_str Tryz.underlying9) (.s rfl) (.str (l := []) (by decide))) (.mv rfl (.fg fd79_5 hfd79_5 rfl rfl rfl (.lg ty9 rfl rfl rfl (.c (.callIf (.at rfl rfl) fnok60 (fun hg => page_isName_ok ((fun hg => gd_some hv18 (hg.2)) hg)) (.cons (.tmp rfl id) .nil) (fun h => h)) (.c (.not (.at rfl rfl) (.tmp rfl id)) (.pa rfl rfl (.nil (.cb rfl h (fun _ h => ?_) fun _ h => ?_))))))))))))))
       ·
        refine .sn mx (.asi (.nil (.ret (.thenRet ?_))))
        obtain rfl := some_eq h
        exact Ends.rt Tryz.results30 rfl
       ·
        refine .skip (.then (.sn mx (.asi (.nil (.ret ?_)))))
        obtain rfl := some_eq h
        exact Ends.rt Tryz.results30 rfl

theorem geom_boxes_ok {l1 : (List Box)} {r : Int}  (h : geom_boxes l1 = some r) : FSpec Tryz.prog 92 [rep l1] (rep r) := by
 unfold geom_boxes at h
 refine FSpec.i Tryz.func92 rfl Tryz.ntmps92 rfl (fun F => (.sn mx (.asi (.nil (.seq (.sn mx (.mv rfl (.ln sl64 rfl (.mvi (.nil ?_))))))))))
 obtain ⟨o_1, h, hK1⟩ := bindR_some h
 refine .tJ (fun s => o_1 = Res.nx s) Sub.nil SubB.nil ?_ (fun j_1 hj1 => ?_)
 ·
  refine .block (.rforEL h (fun p2_ => [(8, ⟨True, rep p2_.1⟩)]) (fun p2_ => []) (.k 8 rfl .nil) SubB.nil (.k2 6 7 rfl rfl .nil) SubB.nil (fun p2_ o_2 h hD2 => (.sn mx (.lt rfl rfl (.nil (.seq (.cb rfl h (fun _ h => ?_) fun _ h => ?_)))))))
  ·
   refine .skip (.then (.seq ?_))
   obtain ⟨o_4, h, hK4⟩ := bindD_some h
   unfold geom_boxes_L1 at h
   refine .tJ (fun s => o_4 = Res.nx s) (.k2 6 7 rfl rfl (.k 8 rfl .nil)) SubB.nil ?_ (fun j_4 hj4 => ?_)
   ·
    obtain ⟨hn5, h⟩ := need_some h
    obtain ⟨v1, hv6, h⟩ := bnd_some h
    obtain ⟨e1, hv7, h⟩ := bind_some h
    refine .block (.sr [oo, oo, ([], [4]), ([4], [4])] mx (.ixA sl64 ty38 rfl rfl hn5 (.rlA hv6 ty38 rfl (.al zo38 rfl (.st ty38 rfl rfl rfl (.nil (.freeze (t := 4) rfl rfl SubB.nil rfl (.sn mx (.ld ty38 rfl (.c (.call .none (geom_CheckBox_ok hv7) (.cons (.s rfl) .nil)) (.asn rfl (.nil (.sn mx (.mv rfl (.nei rfl (.nil (.cb rfl h (fun _ h => ?_) fun _ h => ?_)))))))))))))))))
    ·
     refine .sn mx (.mv rfl (.asn rfl (.nil (.ret (.blkRet (.thenRet (.thenRet (.blkRet (.thenRet ?_)))))))))
     replace h := resd_ab hK4 (some_eq h)
     replace h := hD2 _ (some_eq h)
     replace h := resb_ab hK1 (some_eq h)
     obtain rfl := some_eq h
     exact Ends.rt Tryz.results92 rfl
    ·
     exact .skip (.blkNormal (Ends.j _ (some_eq h)))
   ·
    have h := resd_nx hK4 hj4
    exact .rn mx (.adi rfl (.mv rfl (.nil (Ends.ag (some_eq h)))))
  ·
   refine .exit (.thenExit (.thenExit (.blkExit ?_)))
   replace h := hD2 _ (some_eq h)
   exact Ends.j _ (some_eq h)
 ·
  have h := resb_nx hK1 hj1
  refine .sn mx (.asi (.nil (.ret ?_)))
  obtain rfl := some_eq h
  exact Ends.rt Tryz.results92 rfl

theorem geom_Hull_ok {l1 : (List Box)} {r : (Box × Int)}  (h : geom_Hull l1 = some r) : FSpec Tryz.prog 66 [rep l1] (tup [rep r.1, rep r.2]) := by
 unfold geom_Hull at h
 obtain ⟨v1, hv1, h⟩ := bnd_some h
 refine FSpec.i Tryz.func66 rfl Tryz.ntmps66 rfl (fun F => (.sr [([], [2]), oo] mx (.al zo38 rfl (.cA (.assign .none .i) (.nil (.reB (t := 2) rfl (congrArg (cont 38) hv1) (.nameBox (t := 2) (g := 5001) rfl rfl (fun m5001 => (.seq (.sn mx (.mv rfl (.ln sl64 rfl (.c (.gt .none (.s rfl) .i) (.nil (.cb rfl h (fun _ h => ?_) fun _ h => ?_)))))))))))))))
 ·
  obtain ⟨v2, hv3, h⟩ := bnd_some h
  refine .sr [oo, ([5001], [5001]), oo] mx (.cA (.re hv3 (.buildF (y := (⟨(0 : Int), (0 : Int), (0 : Int), (0 : Int)⟩ : Box)) .none bu38 zc38 rfl .nil .nil)) (.s0 5001 ty38 rfl rfl rfl (.cA (.assign .none .i) (.nil (.fb 5001 [2] rfl (.cons (t := 2) rfl trivial .nil) (.ret (.thenRet ?_)))))))
  obtain rfl := some_eq h
  exact Ends.r2 Tryz.results66 ty38 rfl rfl
 ·
  obtain ⟨e1, hv4, h⟩ := bind_some h
  refine .skip (.then (.seq (.sn mx (.mv rfl (.c (.call .none (geom_boxes_ok hv4) (.cons (.s rfl) .nil)) (.asn rfl (.nil (.sn mx (.mv rfl (.nei rfl (.nil (.cb rfl h (fun _ h => ?_) fun _ h => ?_))))))))))))
  ·
   obtain ⟨v3, hv6, h⟩ := bnd_some h
   refine .sr [oo, oo, ([5001], [5001]), oo] mx (.cA (.re hv6 (.buildF (y := (⟨(0 : Int), (0 : Int), (0 : Int), (0 : Int)⟩ : Box)) .none bu38 zc38 rfl .nil .nil)) (.mvA rfl (.s0 5001 ty38 rfl rfl rfl (.asnA rfl (.nil (.fb 5001 [2] rfl (.cons (t := 2) rfl trivial .nil) (.ret (.thenRet ?_))))))))
   obtain rfl := some_eq h
   exact Ends.r2 Tryz.results66 ty38 rfl rfl
  ·
   refine .skip (.then (.seq (.sn mx (.mv rfl (.ln sl64 rfl (.eqi rfl (.nil (.cb rfl h (fun _ h => ?_) fun _ h => ?_))))))))
   ·
    obtain ⟨v4, hv8, h⟩ := bnd_some h
    refine .sr [oo, ([5001], [5001]), oo] mx (.cA (.re hv8 (.buildF (y := (⟨(0 : Int), (0 : Int), (0 : Int), (0 : Int)⟩ : Box)) .none bu38 zc38 rfl .nil .nil)) (.s0 5001 ty38 rfl rfl rfl (.cA (.assign .none .i) (.nil (.fb 5001 [2] rfl (.cons (t := 2) rfl trivial .nil) (.ret (.thenRet ?_)))))))
    obtain rfl := some_eq h
    exact Ends.r2 Tryz.results66 ty38 rfl rfl
   ·
    obtain ⟨hn9, h⟩ := need_some h
    obtain ⟨v5, hv10, h⟩ := bnd_some h
    refine .skip (.then (.sr [oo, oo, oo, ([], [5]), ([5], [5])] mx (.mvA rfl (.cA (.indexAddr .none sl64 ty38 (.s rfl) .i (fun _ => hn9)) (.rlA hv10 ty38 rfl (.al zo38 rfl (.st ty38 rfl rfl rfl (.nil (.nameBox (t := 5) (g := 5002) rfl rfl (fun m5002 => (.seq (.sn mx (.mv rfl (.ln sl64 rfl (.mvi (.nil ?_))))))))))))))))
    obtain ⟨j_11, h, hK11⟩ := bind_some h
    refine .thenJ (ι := Box) (fun j_11 => []) (fun j_11 => [(5002, some (boxAt m5002 38 j_11))]) (fun s => j_11 = s) (.k2 2 5 rfl rfl .nil) (.k 5001 rfl .nil) ?_ (fun j_11' hj11 => ?_)
    ·
     refine .block (.rforL h (fun p12_ => [(29, ⟨True, rep p12_.1⟩)]) (fun p12_ => [(5002, some (boxAt m5002 38 p12_.2))]) (.k 29 rfl .nil) (.k 5002 rfl .nil) (.k4 2 5 27 28 rfl rfl rfl rfl .nil) (.k 5001 rfl .nil) (fun p12_ o_12 h hD12 => (.sn mx (.lt rfl rfl (.nil (.seq (.cb rfl h (fun _ h => ?_) fun _ h => ?_)))))))
     ·
      refine .skip (.then (.seq ?_))
      obtain ⟨j_14, h, hK14⟩ := bind_some h
      unfold geom_Hull_L1 at h
      refine .thenJ (ι := Box) (fun j_14 => []) (fun j_14 => [(5002, some (boxAt m5002 38 j_14))]) (fun s => j_14 = s) (.k4 2 5 27 28 rfl rfl rfl rfl (.k 29 rfl .nil)) (.k 5001 rfl .nil) ?_ (fun j_14' hj14 => ?_)
      ·
       obtain ⟨hn15, h⟩ := need_some h
       obtain ⟨v6, hv16, h⟩ := bnd_some h
       obtain ⟨x1, hv17, h⟩ := bnd_some h
       obtain ⟨y1, hv18, h⟩ := bnd_some h
       obtain ⟨v7, hv19, h⟩ := bnd_some h
       refine .block (.sr [oo, oo, ([], [7]), ([7], [7])] mx (.ixA sl64 ty38 rfl rfl hn15 (.rlA hv16 ty38 rfl (.al zo38 rfl (.st ty38 rfl rfl rfl (.nil (.freeze (t := 7) rfl rfl (.k2 5001 5002 rfl rfl .nil) rfl (.sr [oo, ([5002], []), oo, oo, oo, oo, ([5002], []), oo, oo, oo, oo, oo] mx (.cA (.fieldPtr .none fd38_0 (.s rfl)) (.cA (.loadAt (k := 5002) .none ty3 rfl (.s rfl) hfd38_0) (.faA fd38_0 hfd38_0 rfl (.ldA ty3 rfl (.cA (.min2 .none (.s rfl) (.s rfl)) (.cA (.fieldPtr .none fd38_1 (.s rfl)) (.cA (.loadAt (k := 5002) .none ty3 rfl (.s rfl) hfd38_1) (.faA fd38_1 hfd38_1 rfl (.ldA ty3 rfl (.cA (.min2 .none (.s rfl) (.s rfl)) (.cA (.re hv17 (.assign .none (.s rfl))) (.cA (.re hv18 (.assign .none (.s rfl))) (.nil (.rg [oo, oo, oo, ([5002], []), oo, ([5002], []), oo, oo, oo, oo, oo, oo, oo, oo, oo, oo, ([5002], []), oo, ([5002], []), oo, oo, oo, oo, oo, oo, oo, oo, oo, oo, ([5002], [5002])] mx (.mvA rfl (.mvA rfl (.cA (.fieldPtr .none fd38_0 (.s rfl)) (.cA (.loadAt (k := 5002) .none ty3 rfl (.s rfl) hfd38_0) (.cA (.fieldPtr .none fd38_2 (.s rfl)) (.cA (.loadAt (k := 5002) .none ty3 rfl (.s rfl) hfd38_2) (.addA rfl rfl (.faA fd38_0 hfd38_0 rfl (.ldA ty3 rfl (.faA fd38_2 hfd38_2 rfl (.ldA ty3 rfl (.addA rfl rfl (.cA (.max2 .none (.s rfl) (.s rfl)) (.mvA rfl (.subA rfl rfl (.cA (.fieldPtr .none fd38_1 (.s rfl)) (.cA (.loadAt (k := 5002) .none ty3 rfl (.s rfl) hfd38_1) (.cA (.fieldPtr .none fd38_3 (.s rfl)) (.cA (.loadAt (k := 5002) .none ty3 rfl (.s rfl) hfd38_3) (.addA rfl rfl (.faA fd38_1 hfd38_1 rfl (.ldA ty3 rfl (.faA fd38_3 hfd38_3 rfl (.ldA ty3 rfl (.addA rfl rfl (.cA (.max2 .none (.s rfl) (.s rfl)) (.mvA rfl (.subA rfl rfl (.cA (.re hv19 (.buildF (y := (⟨x1, y1, W ((max (W (p12_.2.X + p12_.2.W_)) (W (v6.X + v6.W_))) - x1), W ((max (W (p12_.2.Y + p12_.2.H)) (W (v6.Y + v6.H))) - y1)⟩ : Box)) .none bu38 zc38 rfl (.cons (.s rfl) (.cons (.s rfl) (.cons (.s rfl) (.cons (.s rfl) .nil)))) (.cons rfl sf38_0 (.cons rfl sf38_1 (.cons rfl sf38_2 (.cons rfl sf38_3 .nil)))))) ?_)))))))))))))))))))))))))))))))))))))))))))))))))))
       exact .s0 5002 ty38 rfl rfl rfl (.nil (.blkNormal (Ends.j _ (some_eq h))))
      ·
       subst hj14; have h := hK14; clear hK14
       exact .rn mx (.adi rfl (.mv rfl (.nil (Ends.ag (some_eq h)))))
     ·
      refine .exit (.thenExit (.thenExit (.blkExit ?_)))
      replace h := hD12 _ (some_eq h)
      exact Ends.j _ (some_eq h)
    ·
     subst hj11; have h := hK11; clear hK11
     refine .freezeBox (g := 5002) (ts := [5]) rfl (.cons (t := 5) rfl trivial .nil) (.k 5001 rfl .nil) rfl (.seq (.sn mx (.fa fd38_2 hfd38_2 rfl (.ld ty3 rfl (.c (.gt .none (.s rfl) .i) (.mv rfl (.fg fd38_3 hfd38_3 rfl rfl rfl (.lg ty3 rfl rfl rfl (.c (.gt (.at rfl rfl) (.tmp rfl id) .i) (.po rfl rfl (.nil (.cb rfl h (fun _ h => ?_) fun _ h => ?_))))))))))))
     ·
      obtain ⟨v8, hv21, h⟩ := bnd_some h
      refine .sr [oo, ([5001], [5001]), oo] mx (.cA (.re hv21 (.buildF (y := (⟨(0 : Int), (0 : Int), (0 : Int), (0 : Int)⟩ : Box)) .none bu38 zc38 rfl .nil .nil)) (.s0 5001 ty38 rfl rfl rfl (.cA (.assign .none .i) (.nil (.fb 5001 [2] rfl (.cons (t := 2) rfl trivial .nil) (.ret (.thenRet ?_)))))))
      obtain rfl := some_eq h
      exact Ends.r2 Tryz.results66 ty38 rfl rfl
     ·
      refine .skip (.then (.sr [oo, ([5001], [5001]), oo] mx (.ldA ty38 rfl (.s0 5001 ty38 rfl rfl rfl (.cA (.assign .none .i) (.nil (.fb 5001 [2] rfl (.cons (t := 2) rfl trivial .nil) (.ret ?_))))))))
      obtain rfl := some_eq h
      exact Ends.r2 Tryz.results66 ty38 rfl rfl

theorem geom_Grow_ok {b1 : Box} {n1 : Int} {r : (Box × Int)}  (h : geom_Grow b1 n1 = some r) : FSpec Tryz.prog 67 [rep b1, rep n1] (tup [rep r.1, rep r.2]) := by
 unfold geom_Grow at h
 obtain ⟨v1, hv1, h⟩ := bnd_some h
 obtain ⟨e1, hv2, h⟩ := bind_some h
 refine FSpec.i Tryz.func67 rfl Tryz.ntmps67 rfl (fun F => (.sr [oo, ([], [4]), oo] mx (.cA (.box .none (.s rfl)) (.al zo38 rfl (.cA (.assign .none .i) (.nil (.reB (t := 4) rfl (congrArg (cont 38) hv1) (.nameBox (t := 4) (g := 5001) rfl rfl (fun m5001 => (.seq (.sn mx (.ld ty38 rfl (.c (.call .none (geom_CheckBox_ok hv2) (.cons (.s rfl) .nil)) (.asn rfl (.nil (.sn mx (.mv rfl (.nei rfl (.nil (.cb rfl h (fun _ h => ?_) fun _ h => ?_))))))))))))))))))))
 ·
  obtain ⟨v2, hv4, h⟩ := bnd_some h
  refine .sr [oo, oo, ([5001], [5001]), oo] mx (.cA (.re hv4 (.buildF (y := (⟨(0 : Int), (0 : Int), (0 : Int), (0 : Int)⟩ : Box)) .none bu38 zc38 rfl .nil .nil)) (.mvA rfl (.s0 5001 ty38 rfl rfl rfl (.asnA rfl (.nil (.fb 5001 [4] rfl (.cons (t := 4) rfl trivial .nil) (.ret (.thenRet ?_))))))))
  obtain rfl := some_eq h
  exact Ends.r2 Tryz.results67 ty38 rfl rfl
 ·
  refine .skip (.then (.seq (.sn mx (.mv rfl (.c (.lt .none (.s rfl) .i) (.mv rfl (.mg rfl rfl rfl (.c (.gt (.at rfl rfl) (.tmp rfl id) .i) (.po rfl rfl (.nil (.cb rfl h (fun _ h => ?_) fun _ h => ?_)))))))))))
  ·
   obtain ⟨v3, hv6, h⟩ := bnd_some h
   refine .sr [oo, ([5001], [5001]), oo] mx (.cA (.re hv6 (.buildF (y := (⟨(0 : Int), (0 : Int), (0 : Int), (0 : Int)⟩ : Box)) .none bu38 zc38 rfl .nil .nil)) (.s0 5001 ty38 rfl rfl rfl (.cA (.assign .none .i) (.nil (.fb 5001 [4] rfl (.cons (t := 4) rfl trivial .nil) (.ret (.thenRet ?_)))))))
   obtain rfl := some_eq h
   exact Ends.r2 Tryz.results67 ty38 rfl rfl
  ·
   obtain ⟨v4, hv7, h⟩ := bnd_some h
   refine .skip (.then (.sr [oo, oo, oo, oo, oo, oo, oo, oo, oo, oo, oo, oo, oo, oo, oo, oo, oo, oo, oo, ([], [7]), ([7], [7])] mx (.faA fd38_0 hfd38_0 rfl (.ldA ty3 rfl (.mvA rfl (.subA rfl rfl (.faA fd38_1 hfd38_1 rfl (.ldA ty3 rfl (.mvA rfl (.subA rfl rfl (.faA fd38_2 hfd38_2 rfl (.ldA ty3 rfl (.mvA rfl (.cA (.mulW .none .i (.s rfl)) (.addA rfl rfl (.faA fd38_3 hfd38_3 rfl (.ldA ty3 rfl (.mvA rfl (.cA (.mulW .none .i (.s rfl)) (.addA rfl rfl (.cA (.re hv7 (.buildF (y := (⟨W (b1.X - n1), W (b1.Y - n1), W (b1.W_ + (W (2 * n1))), W (b1.H + (W (2 * n1)))⟩ : Box)) .none bu38 zc38 rfl (.cons (.s rfl) (.cons (.s rfl) (.cons (.s rfl) (.cons (.s rfl) .nil)))) (.cons rfl sf38_0 (.cons rfl sf38_1 (.cons rfl sf38_2 (.cons rfl sf38_3 .nil)))))) (.al zo38 rfl (.st ty38 rfl rfl rfl (.nil (.freeze (t := 7) rfl rfl (.k 5001 rfl .nil) rfl (.seq (.sn mx (.fa fd38_2 hfd38_2 rfl (.ld ty3 rfl (.c (.lt .none (.s rfl) .i) (.mv rfl (.fg fd38_3 hfd38_3 rfl rfl rfl (.lg ty3 rfl rfl rfl (.c (.lt (.at rfl rfl) (.tmp rfl id) .i) (.po rfl rfl (.nil (.cb rfl h (fun _ h => ?_) fun _ h => ?_)))))))))))))))))))))))))))))))))))))
   ·
    obtain ⟨v5, hv9, h⟩ := bnd_some h
    refine .sr [oo, ([5001], [5001]), oo] mx (.cA (.re hv9 (.buildF (y := (⟨(0 : Int), (0 : Int), (0 : Int), (0 : Int)⟩ : Box)) .none bu38 zc38 rfl .nil .nil)) (.s0 5001 ty38 rfl rfl rfl (.cA (.assign .none .i) (.nil (.fb 5001 [4] rfl (.cons (t := 4) rfl trivial .nil) (.ret (.thenRet ?_)))))))
    obtain rfl := some_eq h
    exact Ends.r2 Tryz.results67 ty38 rfl rfl
   ·
    obtain ⟨e2, hv10, h⟩ := bind_some h
    refine .skip (.then (.seq (.sn mx (.ld ty38 rfl (.c (.call .none (geom_CheckBox_ok hv10) (.cons (.s rfl) .nil)) (.asn rfl (.nil (.sn mx (.mv rfl (.nei rfl (.nil (.cb rfl h (fun _ h => ?_) fun _ h => ?_))))))))))))
    ·
     obtain ⟨v6, hv12, h⟩ := bnd_some h
     refine .sr [oo, oo, ([5001], [5001]), oo] mx (.cA (.re hv12 (.buildF (y := (⟨(0 : Int), (0 : Int), (0 : Int), (0 : Int)⟩ : Box)) .none bu38 zc38 rfl .nil .nil)) (.mvA rfl (.s0 5001 ty38 rfl rfl rfl (.asnA rfl (.nil (.fb 5001 [4] rfl (.cons (t := 4) rfl trivial .nil) (.ret (.thenRet ?_))))))))
     obtain rfl := some_eq h
     exact Ends.r2 Tryz.results67 ty38 rfl rfl
    ·
     refine .skip (.then (.sr [oo, ([5001], [5001]), oo] mx (.ldA ty38 rfl (.s0 5001 ty38 rfl rfl rfl (.cA (.assign .none .i) (.nil (.fb 5001 [4] rfl (.cons (t := 4) rfl trivial .nil) (.ret ?_))))))))
     obtain rfl := some_eq h
     exact Ends.r2 Tryz.results67 ty38 rfl rfl

theorem page_view_boxOf_okS {self : (Page_view × Int) → Option (Box × Int)} (hself : ∀  (x : (Page_view × Int)) (r : (Box × Int)), self x = some r → FSpec Tryz.prog 31 [ref x.1, rep x.2] (tup [rep r.1, rep r.2]))  {x : (Page_view × Int)} {r : (Box × Int)} (h : page_view_boxOf_body self x = some r) : FSpec Tryz.prog 31 [ref x.1, rep x.2] (tup [rep r.1, rep r.2]) := by
 unfold page_view_boxOf_body at h
 obtain ⟨v2, hv1, h⟩ := bnd_some h
 obtain ⟨hn2, h⟩ := need_some h
 obtain ⟨v3, hv3, h⟩ := bnd_some h
 refine FSpec.i Tryz.func31 rfl Tryz.ntmps31 rfl (fun F => (.sr [([], [4]), oo] mx (.al zo38 rfl (.cA (.assign .none .i) (.nil (.reB (t := 4) rfl (congrArg (cont 38) hv1) (.nameBox (t := 4) (g := 5001) rfl rfl (fun m5001 => (.sr [oo, oo, oo, oo, oo, oo, oo, oo, ([], [6]), ([6], [6])] mx (.mvA rfl (.cA (.nilCheckR .none (.s rfl)) (.faA fd116_0 hfd116_0 rfl (.faA fd25_0 hfd25_0 rfl (.ldA ty22 rfl (.mvA rfl (.ixA sl22 ty40 rfl rfl hn2 (.rlA hv3 ty40 rfl (.al zo40 rfl (.st ty40 rfl rfl rfl (.nil (.freeze (t := 6) rfl rfl (.k 5001 rfl .nil) rfl (.seq (.sn mx (.fa fd40_1 hfd40_1 rfl (.ld ty3 rfl (.nei rfl (.nil (.cb rfl h (fun _ h => ?_) fun _ h => ?_))))))))))))))))))))))))))))
 ·
  refine .sr [oo, oo, ([5001], [5001]), oo] mx (.faA fd40_2 hfd40_2 rfl (.ldA ty38 rfl (.s0 5001 ty38 rfl rfl rfl (.cA (.assign .none .i) (.nil (.fb 5001 [4] rfl (.cons (t := 4) rfl trivial .nil) (.ret (.thenRet ?_))))))))
  obtain rfl := some_eq h
  exact Ends.r2 Tryz.results31 ty38 rfl rfl
 ·
  obtain ⟨v4, hv5, h⟩ := bnd_some h
  refine .skip (.then (.sr [([], [7])] mx (.cW (.nilRow (T := 38) (α := Box) rfl) (.nil (.nameRow (t := 7) (g := 5002) rfl rfl rfl (fun s5002 => (.seq (.sn mx (.mv rfl (.c (.nilCheckR .none (.s rfl)) (.fa fd116_2 hfd116_2 rfl (.ld ty114 rfl (.fa fd40_0 hfd40_0 rfl (.ld ty9 rfl (.c (.re hv5 (.lookup .none mo114 zo90 (.s rfl) (.s rfl))) (.ln sl90 rfl (.mvi (.nil ?_))))))))))))))))))
  obtain ⟨o_6, h, hK6⟩ := bindR_some h
  refine .thenJ (ι := (List Box)) (fun j_6 => []) (fun j_6 => [(7, some (rowV 38 j_6))]) (fun s => o_6 = Res.nx s) (.k 4 rfl .nil) (.k 5001 rfl .nil) ?_ (fun j_6 hj6 => ?_)
  ·
   refine .block (.anon (t := 7) (g := 5002) rfl rfl trivial rfl (.rforEL h (fun p7_ => [(35, ⟨True, rep p7_.1⟩)]) (fun p7_ => [(7, some (rowV 38 p7_.2))]) (.k 35 rfl .nil) (.k 7 rfl .nil) (.k4 0 4 33 34 rfl rfl rfl rfl .nil) (.k 5001 rfl .nil) (fun p7_ o_7 h hD7 => (.nameRow (t := 7) (g := 5003) rfl rfl rfl (fun s5003 => (.sn mx (.lt rfl rfl (.nil (.seq (.cb rfl h (fun _ h => ?_) fun _ h => ?_))))))))))
   ·
    refine .skip (.then (.seq ?_))
    obtain ⟨o_9, h, hK9⟩ := bindD_some h
    unfold page_view_boxOf_L1 at h
    refine .thenJ (ι := (List Box)) (fun j_9 => []) (fun j_9 => [(7, some (rowV 38 j_9))]) (fun s => o_9 = Res.nx s) (.k4 0 4 33 34 rfl rfl rfl rfl (.k 35 rfl .nil)) (.k 5001 rfl .nil) ?_ (fun j_9 hj9 => ?_)
    ·
     obtain ⟨hn10, h⟩ := need_some h
     obtain ⟨r1, hv11, h⟩ := bind_some h
     refine .block (.sn mx (.ix sl90 ty3 rfl rfl hn10 (.ld ty3 rfl (.asn rfl (.nil (.sr [oo, oo, oo, oo, oo, oo, ([], [10]), ([10], [10]), oo] mx (.mvA rfl (.mvA rfl (.cA (.call .none (hself _ _ hv11) (.cons (.s rfl) (.cons (.s rfl) .nil))) (.mvA rfl (.exA rfl rfl (.exA rfl rfl (.al zo38 rfl (.st ty38 rfl rfl rfl (.asnA rfl (.nil (.freeze (t := 10) rfl rfl (.k2 5001 5003 rfl rfl .nil) rfl (.seq (.sn mx (.mv rfl (.nei rfl (.nil (.cb rfl h (fun _ h => ?_) fun _ h => ?_)))))))))))))))))))))))
     ·
      obtain ⟨v5, hv13, h⟩ := bnd_some h
      refine .sr [oo, oo, ([5001], [5001]), oo] mx (.cA (.re hv13 (.buildF (y := (⟨(0 : Int), (0 : Int), (0 : Int), (0 : Int)⟩ : Box)) .none bu38 zc38 rfl .nil .nil)) (.mvA rfl (.s0 5001 ty38 rfl rfl rfl (.asnA rfl (.nil (.fb 5001 [4] rfl (.cons (t := 4) rfl trivial .nil) (.ret (.thenRet (.blkRet (.thenRet (.thenRet (.blkRet (.thenRet ?_)))))))))))))
      replace h := resd_ab hK9 (some_eq h)
      replace h := hD7 _ (some_eq h)
      replace h := resb_ab hK6 (some_eq h)
      obtain rfl := some_eq h
      exact Ends.r2 Tryz.results31 ty38 rfl rfl
     ·
      obtain ⟨hn14, h⟩ := need_some h
      exact .skip (.then (.rg [oo, oo, oo, ([5003], [52, 5003]), ([52], [7, 52])] mx (.mvA rfl (.ldA ty38 rfl (.cA (.buildSlice (xs := [_]) .none sl64 ty38 hz38 (.cons (.s rfl) .nil) rfl (by decide)) (.cW (.append (k := 5003) rk64 rfl (.told (.s rfl) rfl) (.s rfl) hn14) (.cW (.passRow rfl (.tmp rfl)) (.nil (.blkNormal (Ends.j _ (some_eq h)))))))))))
    ·
     have h := resd_nx hK9 hj9
     exact .nameRow (t := 7) (g := 5004) rfl rfl rfl (fun s5004 => (.rn mx (.adi rfl (.mv rfl (.nil (.anon (t := 7) (g := 5004) rfl rfl trivial rfl (Ends.ag (some_eq h))))))))
   ·
    refine .exit (.thenExit (.thenExit (.blkExit (.anon (t := 7) (g := 5003) rfl rfl trivial rfl ?_))))
    replace h := hD7 _ (some_eq h)
    exact Ends.j _ (some_eq h)
  ·
   have h := resb_nx hK6 hj6
   obtain ⟨r2, hv15, h⟩ := bind_some h
   refine .freezeRowA (t := 7) rfl rfl (.k 5001 rfl .nil) rfl (.sr [oo, oo, oo, oo, oo, ([], [12]), ([12], [12]), oo] mx (.mvA rfl (.cA (.call .none (geom_Hull_ok hv15) (.cons (.s rfl) .nil)) (.mvA rfl (.exA rfl rfl (.exA rfl rfl (.al zo38 rfl (.st ty38 rfl rfl rfl (.asnA rfl (.nil (.freeze (t := 12) rfl rfl (.k 5001 rfl .nil) rfl (.seq (.sn mx (.mv rfl (.nei rfl (.nil (.cb rfl h (fun _ h => ?_) fun _ h => ?_)))))))))))))))))
   ·
    obtain ⟨v6, hv17, h⟩ := bnd_some h
    refine .sr [oo, oo, ([5001], [5001]), oo] mx (.cA (.re hv17 (.buildF (y := (⟨(0 : Int), (0 : Int), (0 : Int), (0 : Int)⟩ : Box)) .none bu38 zc38 rfl .nil .nil)) (.mvA rfl (.s0 5001 ty38 rfl rfl rfl (.asnA rfl (.nil (.fb 5001 [4] rfl (.cons (t := 4) rfl trivial .nil) (.ret (.thenRet ?_))))))))
    obtain rfl := some_eq h
    exact Ends.r2 Tryz.results31 ty38 rfl rfl
   ·
    obtain ⟨r3, hv18, h⟩ := bind_some h
    refine .skip (.then (.sr [oo, oo, oo, oo, ([5001], [5001]), oo] mx (.ldA ty38 rfl (.cA (.call .none (geom_Grow_ok hv18) (.cons (.s rfl) (.cons .i .nil))) (.exA rfl rfl (.exA rfl rfl (.s0 5001 ty38 rfl rfl rfl (.asnA rfl (.nil (.fb 5001 [4] rfl (.cons (t := 4) rfl trivial .nil) (.ret ?_)))))))))))
    obtain rfl := some_eq h
    exact Ends.r2 Tryz.results31 ty38 rfl rfl
theorem page_view_boxOf_okN : ∀ (k : Nat)  (x : (Page_view × Int)) (r : (Box × Int)) (h : fixN page_view_boxOf_body k x = some r), FSpec Tryz.prog 31 [ref x.1, rep x.2] (tup [rep r.1, rep r.2])
 | 0, x, r, h => by simp [fixN] at h
 | k + 1, x, r, h => page_view_boxOf_okS (page_view_boxOf_okN k) h
theorem page_view_boxOf_ok {v1 : Page_view} {i1 : Int} {r : (Box × Int)}  (h : page_view_boxOf v1 i1 = some r) : FSpec Tryz.prog 31 [ref v1, rep i1] (tup [rep r.1, rep r.2]) :=
 let ⟨k, hk⟩ := fixp_some h
 page_view_boxOf_okN k (v1, i1) r hk

theorem page_Check_ok {d1 : Doc} {r : Int}  (h : page_Check d1 = some r) : FSpec Tryz.prog 13 [rep d1] (rep r) := by
 unfold page_Check at h
 refine FSpec.i Tryz.func13 rfl Tryz.ntmps13 rfl (fun F => (.sn mx (.c (.box .none (.s rfl)) (.asi (.nil (.seq (.sn mx (.fa fd25_0 hfd25_0 rfl (.ld ty22 rfl (.ln sl22 rfl (.c (.gt .none (.s rfl) .i) (.mv rfl (.fg fd25_1 hfd25_1 rfl rfl rfl (.lg ty23 rfl rfl rfl (.c (.len (.at rfl rfl) sl23 (.tmp rfl id)) (.c (.gt (.at rfl rfl) (.tmp rfl id) .i) (.po rfl rfl (.nil (.cb rfl h (fun _ h => ?_) fun _ h => ?_)))))))))))))))))))
 ·
  refine .sn mx (.asi (.nil (.ret (.thenRet ?_))))
  obtain rfl := some_eq h
  exact Ends.rt Tryz.results13 rfl
 ·
  obtain ⟨known1, hv2, h⟩ := bnd_some h
  refine .skip (.then (.sr [([], [25]), ([25], [3, 25])] mx (.cW (.makeMap (K := Str) (V := Bool) rfl) (.cW (.passRow rfl (.tmp rfl)) (.nil (.reB (t := 3) rfl (congrArg mapV hv2) (.nameMap (t := 3) (g := 5001) rfl rfl rfl (fun s5001 => (.seq (.sn mx (.fa fd25_0 hfd25_0 rfl (.ld ty22 rfl (.ln sl22 rfl (.mvi (.nil ?_)))))))))))))))
  obtain ⟨o_3, h, hK3⟩ := bindR_some h
  refine .thenJ (ι := (GMap Str Bool)) (fun j_3 => []) (fun j_3 => [(5001, some (CPred.at s5001 (mapV j_3)))]) (fun s => o_3 = Res.nx s) (.k2 1 3 rfl rfl .nil) SubB.nil ?_ (fun j_3 hj3 => ?_)
  ·
   refine .block (.rforEL h (fun p4_ => [(29, ⟨True, rep p4_.1⟩)]) (fun p4_ => [(5001, some (CPred.at s5001 (mapV p4_.2)))]) (.k 29 rfl .nil) (.k 5001 rfl .nil) (.k4 1 3 27 28 rfl rfl rfl rfl .nil) SubB.nil (fun p4_ o_4 h hD4 => (.sn mx (.lt rfl rfl (.nil (.seq (.cb rfl h (fun _ h => ?_) fun _ h => ?_)))))))
   ·
    refine .skip (.then (.seq ?_))
    obtain ⟨o_6, h, hK6⟩ := bindD_some h
    unfold page_Check_L1 at h
    refine .thenJ (ι := (GMap Str Bool)) (fun j_6 => []) (fun j_6 => [(5001, some (CPred.at s5001 (mapV j_6)))]) (fun s => o_6 = Res.nx s) (.k4 1 3 27 28 rfl rfl rfl rfl (.k 29 rfl .nil)) SubB.nil ?_ (fun j_6 hj6 => ?_)
    ·
     obtain ⟨hn7, h⟩ := need_some h
     obtain ⟨v1, hv8, h⟩ := bnd_some h
     obtain ⟨e1, hv9, h⟩ := bind_some h
     refine .block (.sr [oo, oo, ([], [5]), ([5], [5])] mx (.ixA sl22 ty40 rfl rfl hn7 (.rlA hv8 ty40 rfl (.al zo40 rfl (.st ty40 rfl rfl rfl (.nil (.freeze (t := 5) rfl rfl (.k 5001 rfl .nil) rfl (.seq (.sr [oo, oo, oo, oo, ([5001], []), oo, oo] mx (.ldA ty40 rfl (.mvA rfl (.faA fd40_0 hfd40_0 rfl (.ldA ty9 rfl (.cA (.lookupO (q := 5001) .none mo70 zo4 ownMap_self (.told (.s rfl) rfl) (.s rfl)) (.cA (.call .none (page_checkNode_ok hv9) (.cons (.s rfl) (.cons (.s rfl) .nil))) (.asnA rfl (.nil (.sn mx (.mv rfl (.nei rfl (.nil (.cb rfl h (fun _ h => ?_) fun _ h => ?_))))))))))))))))))))))
     ·
      refine .sn mx (.mv rfl (.asn rfl (.nil (.ret (.thenRet (.blkRet (.thenRet (.thenRet (.blkRet (.thenRet ?_))))))))))
      replace h := resd_ab hK6 (some_eq h)
      replace h := hD4 _ (some_eq h)
      replace h := resb_ab hK3 (some_eq h)
      obtain rfl := some_eq h
      exact Ends.rt Tryz.results13 rfl
     ·
      exact .skip (.then (.rg [oo, oo, oo, ([5001], [5001])] mx (.mvA rfl (.faA fd40_0 hfd40_0 rfl (.ldA ty9 rfl (.cN (.mapUpdate (q := 5001) mo70 (.s rfl) rfl (.s rfl) .bool) (.nil (.blkNormal (Ends.j _ (some_eq h))))))))))
    ·
     have h := resd_nx hK6 hj6
     exact .rn mx (.adi rfl (.mv rfl (.nil (Ends.ag (some_eq h)))))
   ·
    refine .exit (.thenExit (.thenExit (.blkExit ?_)))
    replace h := hD4 _ (some_eq h)
    exact Ends.j _ (some_eq h)
  ·
   have h := resb_nx hK3 hj3
   obtain ⟨v2, hv11, h⟩ := bind_some h
   obtain ⟨p1, hv12, h⟩ := bind_some h
   obtain ⟨e2, hv13, h⟩ := bind_some h
   refine .sn mx (.ld ty25 rfl (.c (.isRef hv12 (.call .none (page_viewOf_ok hv11) (.cons (.s rfl) .nil))) (.asn rfl (.nil (.seq (.sn mx (.mv rfl (.c (.call .none (page_view_checkGroups_ok hv13) (.cons (.s rfl) .nil)) (.asn rfl (.nil (.sn mx (.mv rfl (.nei rfl (.nil (.cb rfl h (fun _ h => ?_) fun _ h => ?_)))))))))))))))
   ·
    refine .sn mx (.mv rfl (.asn rfl (.nil (.ret (.thenRet ?_)))))
    obtain rfl := some_eq h
    exact Ends.rt Tryz.results13 rfl
   ·
    refine .skip (.then (.seq (.sn mx (.fa fd25_1 hfd25_1 rfl (.ld ty23 rfl (.ln sl23 rfl (.mvi (.nil ?_))))))))
    obtain ⟨o_15, h, hK15⟩ := bindR_some h
    refine .thenJ (ι := (GMap Str Bool)) (fun j_15 => []) (fun j_15 => [(5001, some (CPred.at s5001 (mapV j_15)))]) (fun s => o_15 = Res.nx s) (.k2 1 3 rfl rfl (.k 7 rfl .nil)) SubB.nil ?_ (fun j_15 hj15 => ?_)
    ·
     refine .block (.rforEL h (fun p16_ => [(56, ⟨True, rep p16_.1⟩)]) (fun p16_ => [(5001, some (CPred.at s5001 (mapV p16_.2)))]) (.k 56 rfl .nil) (.k 5001 rfl .nil) (.k4 1 3 7 54 rfl rfl rfl rfl (.k 55 rfl .nil)) SubB.nil (fun p16_ o_16 h hD16 => (.sn mx (.lt rfl rfl (.nil (.seq (.cb rfl h (fun _ h => ?_) fun _ h => ?_)))))))
     ·
      refine .skip (.then (.seq ?_))
      obtain ⟨o_18, h, hK18⟩ := bindD_some h
      unfold page_Check_L2 at h
      refine .thenJ (ι := (GMap Str Bool)) (fun j_18 => []) (fun j_18 => [(5001, some (CPred.at s5001 (mapV j_18)))]) (fun s => o_18 = Res.nx s) (.k4 1 3 7 54 rfl rfl rfl rfl (.k2 55 56 rfl rfl .nil)) SubB.nil ?_ (fun j_18 hj18 => ?_)
      ·
       obtain ⟨hn19, h⟩ := need_some h
       obtain ⟨v3, hv20, h⟩ := bnd_some h
       obtain ⟨e3, hv21, h⟩ := bind_some h
       refine .block (.sr [oo, oo, ([], [10]), ([10], [10])] mx (.ixA sl23 ty79 rfl rfl hn19 (.rlA hv20 ty79 rfl (.al zo79 rfl (.st ty79 rfl rfl rfl (.nil (.freeze (t := 10) rfl rfl (.k 5001 rfl .nil) rfl (.seq (.sr [oo, oo, oo, oo, oo, ([5001], []), oo, oo] mx (.mvA rfl (.ldA ty79 rfl (.mvA rfl (.faA fd79_0 hfd79_0 rfl (.ldA ty9 rfl (.cA (.lookupO (q := 5001) .none mo70 zo4 ownMap_self (.told (.s rfl) rfl) (.s rfl)) (.cA (.call .none (page_view_checkEdge_ok hv21) (.cons (.s rfl) (.cons (.s rfl) (.cons (.s rfl) .nil)))) (.asnA rfl (.nil (.sn mx (.mv rfl (.nei rfl (.nil (.cb rfl h (fun _ h => ?_) fun _ h => ?_)))))))))))))))))))))))
       ·
        refine .sn mx (.mv rfl (.asn rfl (.nil (.ret (.thenRet (.blkRet (.thenRet (.thenRet (.blkRet (.thenRet ?_))))))))))
        replace h := resd_ab hK18 (some_eq h)
        replace h := hD16 _ (some_eq h)
        replace h := resb_ab hK15 (some_eq h)
        obtain rfl := some_eq h
        exact Ends.rt Tryz.results13 rfl
       ·
        exact .skip (.then (.rg [oo, oo, oo, ([5001], [5001])] mx (.mvA rfl (.faA fd79_0 hfd79_0 rfl (.ldA ty9 rfl (.cN (.mapUpdate (q := 5001) mo70 (.s rfl) rfl (.s rfl) .bool) (.nil (.blkNormal (Ends.j _ (some_eq h))))))))))
      ·
       have h := resd_nx hK18 hj18
       exact .rn mx (.adi rfl (.mv rfl (.nil (Ends.ag (some_eq h)))))
     ·
      refine .exit (.thenExit (.thenExit (.blkExit ?_)))
      replace h := hD16 _ (some_eq h)
      exact Ends.j _ (some_eq h)
    ·
     have h := resb_nx hK15 hj15
     refine .seq (.sn mx (.fa fd25_0 hfd25_0 rfl (.ld ty22 rfl (.ln sl22 rfl (.mvi (.nil ?_))))))
     obtain ⟨o_23, h, hK23⟩ := bindR_some h
     refine .tJ (fun s => o_23 = Res.nx s) Sub.nil SubB.nil ?_ (fun j_23 hj23 => ?_)
     ·
      refine .block (.rforEL h (fun p24_ => [(77, ⟨True, rep p24_.1⟩)]) (fun p24_ => []) (.k 77 rfl .nil) SubB.nil (.k2 7 76 rfl rfl .nil) SubB.nil (fun p24_ o_24 h hD24 => (.sn mx (.lt rfl rfl (.nil (.seq (.cb rfl h (fun _ h => ?_) fun _ h => ?_)))))))
      ·
       refine .skip (.then (.seq ?_))
       obtain ⟨o_26, h, hK26⟩ := bindD_some h
       unfold page_Check_L3 at h
       refine .tJ (fun s => o_26 = Res.nx s) (.k2 7 76 rfl rfl (.k 77 rfl .nil)) SubB.nil ?_ (fun j_26 hj26 => ?_)
       ·
        obtain ⟨r1, hv27, h⟩ := bind_some h
        refine .block (.sn mx (.mv rfl (.asn rfl (.nil (.sr [oo, oo, oo, oo, oo, oo, ([], [13]), ([13], [13]), oo] mx (.mvA rfl (.mvA rfl (.cA (.call .none (page_view_boxOf_ok hv27) (.cons (.s rfl) (.cons (.s rfl) .nil))) (.mvA rfl (.exA rfl rfl (.exA rfl rfl (.al zo38 rfl (.st ty38 rfl rfl rfl (.asnA rfl (.nil (.sn mx (.mv rfl (.nei rfl (.nil (.cb rfl h (fun _ h => ?_) fun _ h => ?_))))))))))))))))))))
        ·
         refine .sn mx (.mv rfl (.asn rfl (.nil (.ret (.blkRet (.thenRet (.thenRet (.blkRet (.thenRet ?_)))))))))
         replace h := resd_ab hK26 (some_eq h)
         replace h := hD24 _ (some_eq h)
         replace h := resb_ab hK23 (some_eq h)
         obtain rfl := some_eq h
         exact Ends.rt Tryz.results13 rfl
        ·
         exact .skip (.blkNormal (Ends.j _ (some_eq h)))
       ·
        have h := resd_nx hK26 hj26
        exact .rn mx (.adi rfl (.mv rfl (.nil (Ends.ag (some_eq h)))))
      ·
       refine .exit (.thenExit (.thenExit (.blkExit ?_)))
       replace h := hD24 _ (some_eq h)
       exact Ends.j _ (some_eq h)
     ·
      have h := resb_nx hK23 hj23
      refine .sn mx (.asi (.nil (.ret ?_)))
      obtain rfl := some_eq h
      exact Ends.rt Tryz.results13 rfl

theorem page_look_ok {d1 : Doc} {r : ((Option Page_view) × Int)}  (h : page_look d1 = some r) : FSpec Tryz.prog 72 [rep d1] (tup [rep r.1, rep r.2]) := by
 unfold page_look at h
 obtain ⟨e1, hv1, h⟩ := bind_some h
 refine FSpec.i Tryz.func72 rfl Tryz.ntmps72 rfl (fun F => (.sn mx (.c (.box .none (.s rfl)) (.c (.assign .none (.const (x := (none : (Option Page_view))) (fun M w => ⟨_, ptr_zero, rfl⟩))) (.asi (.nil (.seq (.sn mx (.ld ty25 rfl (.c (.call .none (page_Check_ok hv1) (.cons (.s rfl) .nil)) (.asn rfl (.nil (.sn mx (.mv rfl (.nei rfl (.nil (.cb rfl h (fun _ h => ?_) fun _ h => ?_)))))))))))))))))
 ·
  refine .sn mx (.mv rfl (.c (.assign .none (.const (x := (none : (Option Page_view))) (fun M w => ⟨_, ptr_zero, rfl⟩))) (.asn rfl (.nil (.ret (.thenRet ?_))))))
  obtain rfl := some_eq h
  exact Ends.ret2 (.inl rfl) Tryz.results72 (ResOK.tmp rfl trivial Imp.refl) (ResOK.tmp rfl trivial Imp.refl)
 ·
  obtain ⟨r1, hv3, h⟩ := bind_some h
  obtain ⟨p1, hv4, h⟩ := bind_some h
  refine .skip (.then (.sn mx (.ld ty25 rfl (.c (.isRef hv4 (.call .none (page_viewOf_ok hv3) (.cons (.s rfl) .nil))) (.asn rfl (.asi (.nil (.ret ?_))))))))
  obtain rfl := some_eq h
  exact Ends.ret2 (.inl rfl) Tryz.results72 (ResOK.tmp rfl trivial Imp.refSome) (ResOK.tmp rfl trivial Imp.refl)

theorem page_Line_1_ok {x1 : DEdge} {c0_1 : Str} {r : Bool}  (h : page_Line_1 x1 c0_1 = some r) : FSpec Tryz.prog 74 [rep x1, ref c0_1] (rep r) := by
 unfold page_Line_1 at h
 refine FSpec.i Tryz.func74 rfl Tryz.ntmps74 rfl (fun F => (.sn mx (.c (.box .none (.s rfl)) (.asb (.nil (.sn mx (.fa fd79_0 hfd79_0 rfl (.ld ty9 rfl (.ld ty9 rfl (.c (.eqS .none (eqAt_str Tryz.underlying9) (.s rfl) (.s rfl)) (.asn rfl (.nil (.ret ?_)))))))))))))
 obtain rfl := some_eq h
 exact Ends.rt Tryz.results74 rfl

theorem slices_IndexFunc_Edge_ok {s1 : (List DEdge)} {f1 : (DEdge → Option Bool)} {r : Int}  (h : slices_IndexFunc_Edge s1 f1 = some r) : FSpec Tryz.prog 73 [rep s1, fn1 Tryz.prog (rep (α := Bool)) f1] (rep r) := by
 unfold slices_IndexFunc_Edge at h
 refine FSpec.i Tryz.func73 rfl Tryz.ntmps73 rfl (fun F => (.sn mx (.asi (.nil (.seq (.sn mx (.mv rfl (.ln sl23 rfl (.mvi (.nil ?_))))))))))
 obtain ⟨o_1, h, hK1⟩ := bindR_some h
 refine .tJ (fun s => o_1 = Res.nx s) Sub.nil SubB.nil ?_ (fun j_1 hj1 => ?_)
 ·
  refine .block (.rforEL h (fun p2_ => [(8, ⟨True, rep p2_.1⟩)]) (fun p2_ => []) (.k 8 rfl .nil) SubB.nil (.k2 0 1 rfl rfl (.k 7 rfl .nil)) SubB.nil (fun p2_ o_2 h hD2 => (.sn mx (.lt rfl rfl (.nil (.seq (.cb rfl h (fun _ h => ?_) fun _ h => ?_)))))))
  ·
   refine .skip (.then (.seq ?_))
   obtain ⟨o_4, h, hK4⟩ := bindD_some h
   unfold slices_IndexFunc_Edge_L1 at h
   refine .tJ (fun s => o_4 = Res.nx s) (.k4 0 1 7 8 rfl rfl rfl rfl .nil) SubB.nil ?_ (fun j_4 hj4 => ?_)
   ·
    obtain ⟨hn5, h⟩ := need_some h
    obtain ⟨r1, hv6, h⟩ := bind_some h
    refine .block (.sn mx (.mv rfl (.asn rfl (.nil (.sn mx (.mv rfl (.mv rfl (.mv rfl (.ix sl23 ty79 rfl rfl hn5 (.ld ty79 rfl (.c (.callV (gx s1 p2_.1, r1) .none (.s rfl) (fun _ => hv6) (.cons (.s rfl) .nil)) (.nil (.cb rfl h (fun _ h => ?_) fun _ h => ?_)))))))))))))
    ·
     refine .sn mx (.mv rfl (.asn rfl (.nil (.ret (.blkRet (.thenRet (.thenRet (.blkRet (.thenRet ?_)))))))))
     replace h := resd_ab hK4 (some_eq h)
     replace h := hD2 _ (some_eq h)
     replace h := resb_ab hK1 (some_eq h)
     obtain rfl := some_eq h
     exact Ends.rt Tryz.results73 rfl
    ·
     exact .skip (.blkNormal (Ends.j _ (some_eq h)))
   ·
    have h := resd_nx hK4 hj4
    exact .rn mx (.adi rfl (.mv rfl (.nil (Ends.ag (some_eq h)))))
  ·
   refine .exit (.thenExit (.thenExit (.blkExit ?_)))
   replace h := hD2 _ (some_eq h)
   exact Ends.j _ (some_eq h)
 ·
  have h := resb_nx hK1 hj1
  refine .sn mx (.asi (.nil (.ret ?_)))
  obtain rfl := some_eq h
  exact Ends.rt Tryz.results73 rfl

theorem shape_isKind_ok {kind1 : Int} {r : Bool}  (h : shape_isKind kind1 = some r) : FSpec Tryz.prog 78 [rep kind1] (rep r) := by
 unfold shape_isKind at h
 refine FSpec.i Tryz.func78 rfl Tryz.ntmps78 rfl (fun F => (.sn mx (.asb (.nil (.sn mx (.mv rfl (.c (.ge .none (.s rfl) .i) (.mv rfl (.mg rfl rfl rfl (.c (.le (.at rfl rfl) (.tmp rfl id) .i) (.pa rfl rfl (.asn rfl (.nil (.ret ?_))))))))))))))
 obtain rfl := some_eq h
 exact Ends.rt Tryz.results78 rfl

theorem shape_than_ok {n1 : Int} {limit1 : Int} {r : Int}  (h : shape_than n1 limit1 = some r) : FSpec Tryz.prog 96 [rep n1, rep limit1] (rep r) := by
 unfold shape_than at h
 refine FSpec.i Tryz.func96 rfl Tryz.ntmps96 rfl (fun F => (.sn mx (.asi (.nil (.seq (.block (.sn mx (.mv rfl (.mv rfl (.lt rfl rfl (.asn rfl (.nil (.cb rfl h (fun _ h => ?_) fun _ h => ?_)))))))))))))
 ·
  refine .sn mx (.asi (.nil (.ret (.blkRet (.thenRet ?_)))))
  obtain rfl := some_eq h
  exact Ends.rt Tryz.results96 rfl
 ·
  refine .sn mx (.mv rfl (.mv rfl (.c (.eqI .none (.s rfl) (.s rfl)) (.asn rfl (.nil (.cb rfl h (fun _ h => ?_) fun _ h => ?_))))))
  ·
   refine .sn mx (.asi (.nil (.ret (.blkRet (.thenRet ?_)))))
   obtain rfl := some_eq h
   exact Ends.rt Tryz.results96 rfl
  ·
   refine .skip (.blkNormal (.then (.sn mx (.asi (.nil (.ret ?_))))))
   obtain rfl := some_eq h
   exact Ends.rt Tryz.results96 rfl

theorem shape_size_ok {n1 : Int} {r : Int}  (h : shape_size n1 = some r) : FSpec Tryz.prog 97 [rep n1] (rep r) := by
 unfold shape_size at h
 refine FSpec.i Tryz.func97 rfl Tryz.ntmps97 rfl (fun F => (.sn mx (.asi (.nil (.sn mx (.mv rfl (.mv rfl (.c (.negW .none (.s rfl)) (.c (.max2 .none (.s rfl) (.s rfl)) (.asn rfl (.nil (.ret ?_))))))))))))
 obtain rfl := some_eq h
 exact Ends.rt Tryz.results97 rfl

theorem shape_has_ok {kind1 : Int} {b1 : Box} {p1 : Point} {r : Int}  (h : shape_has kind1 b1 p1 = some r) : FSpec Tryz.prog 80 [rep kind1, rep b1, rep p1] (rep r) := by
 unfold shape_has at h
 obtain ⟨x1, hv1, h⟩ := bnd_some h
 obtain ⟨y1, hv2, h⟩ := bnd_some h
 refine FSpec.i Tryz.func80 rfl Tryz.ntmps80 rfl (fun F => (.sn mx (.c (.box .none (.s rfl)) (.c (.box .none (.s rfl)) (.asi (.nil (.sn mx (.fa fd47_0 hfd47_0 rfl (.ld ty3 rfl (.fa fd38_0 hfd38_0 rfl (.ld ty3 rfl (.sub rfl rfl (.fa fd47_1 hfd47_1 rfl (.ld ty3 rfl (.fa fd38_1 hfd38_1 rfl (.ld ty3 rfl (.sub rfl rfl (.ra hv1 rfl (.ra hv2 rfl (.nil (.seq (.sn mx (.mv rfl (.c (.lt .none (.s rfl) .i) (.mv rfl (.mg rfl rfl rfl (.fg fd38_2 hfd38_2 rfl rfl rfl (.lg ty3 rfl rfl rfl (.c (.gt (.at rfl rfl) (.tmp rfl id) (.tmp rfl id)) (.po rfl rfl (.mv rfl (.mg rfl rfl rfl (.c (.lt (.at rfl rfl) (.tmp rfl id) .i) (.po rfl rfl (.mv rfl (.mg rfl rfl rfl (.fg fd38_3 hfd38_3 rfl rfl rfl (.lg ty3 rfl rfl rfl (.c (.gt (.at rfl rfl) (.tmp rfl id) (.tmp rfl id)) (.po rfl rfl (.nil (.cb rfl h (fun _ h => ?_) fun _ h => ?_))))))))))))))))))))))))))))))))))))))))))
 ·
  refine .sn mx (.asi (.nil (.ret (.thenRet ?_))))
  obtain rfl := some_eq h
  exact Ends.rt Tryz.results80 rfl
 ·
  obtain ⟨u1, hv4, h⟩ := bnd_some h
  obtain ⟨v1, hv5, h⟩ := bnd_some h
  refine .skip (.then (.sn mx (.mv rfl (.c (.mulW .none .i (.s rfl)) (.fa fd38_2 hfd38_2 rfl (.ld ty3 rfl (.sub rfl rfl (.mv rfl (.c (.mulW .none .i (.s rfl)) (.fa fd38_3 hfd38_3 rfl (.ld ty3 rfl (.sub rfl rfl (.fa fd38_2 hfd38_2 rfl (.ld ty3 rfl (.fa fd38_3 hfd38_3 rfl (.ld ty3 rfl (.ra hv4 rfl (.ra hv5 rfl (.asn rfl (.asn rfl (.nil (.sn mx (.asi (.nil (.seq (.sn mx (.mv rfl (.eqi rfl (.mv rfl (.mg rfl rfl rfl (.mg rfl rfl rfl (.c (.eqI (.at rfl rfl) (.tmp rfl id) (.tmp rfl id)) (.po rfl rfl (.mv rfl (.mg rfl rfl rfl (.c (.eqI (.at rfl rfl) (.tmp rfl id) .i) (.po rfl rfl (.mv rfl (.mg rfl rfl rfl (.mg rfl rfl rfl (.c (.eqI (.at rfl rfl) (.tmp rfl id) (.tmp rfl id)) (.po rfl rfl (.nil ?_)))))))))))))))))))))))))))))))))))))))))))
  obtain ⟨j_6, h, hK6⟩ := bind_some h
  refine .thenJ (ι := Int) (fun j_6 => [(13, ⟨True, rep j_6⟩)]) (fun j_6 => []) (fun s => j_6 = s) (.k4 0 7 8 9 rfl rfl rfl rfl (.k2 10 11 rfl rfl (.k 12 rfl .nil))) SubB.nil ?_ (fun j_6' hj6 => ?_)
  ·
   refine .cb rfl h (fun _ h => ?_) fun _ h => ?_
   ·
    exact .rn mx (.asi (.nil (Ends.j _ (some_eq h))))
   ·
    exact .skip (Ends.j _ (some_eq h))
  ·
   subst hj6; have h := hK6; clear hK6
   refine .seq (.sn mx (.mv rfl (.nil ?_)))
   obtain ⟨o_8, h, hK8⟩ := bindR_some h
   refine .tJ (fun s => o_8 = Res.nx s) (.k 13 rfl .nil) SubB.nil ?_ (fun j_8 hj8 => ?_)
   ·
    refine .block (.sn mx (.eqi rfl (.asn rfl (.nil (.cb rfl h (fun _ h => ?_) fun _ h => ?_)))))
    ·
     obtain ⟨r1, hv10, h⟩ := bind_some h
     refine .sn mx (.mv rfl (.mv rfl (.c (.mulW .none (.s rfl) (.s rfl)) (.mv rfl (.c (.mulW .none (.s rfl) (.s rfl)) (.mv rfl (.c (.mulW .none (.s rfl) (.s rfl)) (.mv rfl (.mv rfl (.c (.mulW .none (.s rfl) (.s rfl)) (.mv rfl (.c (.mulW .none (.s rfl) (.s rfl)) (.mv rfl (.c (.mulW .none (.s rfl) (.s rfl)) (.add rfl rfl (.mv rfl (.mv rfl (.c (.mulW .none (.s rfl) (.s rfl)) (.mv rfl (.c (.mulW .none (.s rfl) (.s rfl)) (.mv rfl (.c (.mulW .none (.s rfl) (.s rfl)) (.c (.call .none (shape_than_ok hv10) (.cons (.s rfl) (.cons (.s rfl) .nil))) (.asn rfl (.nil (.ret (.blkRet (.thenRet ?_))))))))))))))))))))))))))))
     replace h := resb_ab hK8 (some_eq h)
     obtain rfl := some_eq h
     exact Ends.rt Tryz.results80 rfl
    ·
     refine .sn mx (.eqi rfl (.asn rfl (.nil (.cb rfl h (fun _ h => ?_) fun _ h => ?_))))
     ·
      obtain ⟨r2, hv12, h⟩ := bind_some h
      obtain ⟨r3, hv13, h⟩ := bind_some h
      obtain ⟨r4, hv14, h⟩ := bind_some h
      refine .sn mx (.mv rfl (.c (.call .none (shape_size_ok hv12) (.cons (.s rfl) .nil)) (.mv rfl (.c (.mulW .none (.s rfl) (.s rfl)) (.mv rfl (.c (.call .none (shape_size_ok hv13) (.cons (.s rfl) .nil)) (.mv rfl (.c (.mulW .none (.s rfl) (.s rfl)) (.add rfl rfl (.mv rfl (.mv rfl (.c (.mulW .none (.s rfl) (.s rfl)) (.c (.call .none (shape_than_ok hv14) (.cons (.s rfl) (.cons (.s rfl) .nil))) (.asn rfl (.nil (.ret (.blkRet (.thenRet ?_))))))))))))))))))
      replace h := resb_ab hK8 (some_eq h)
      obtain rfl := some_eq h
      exact Ends.rt Tryz.results80 rfl
     ·
      refine .sn mx (.eqi rfl (.asn rfl (.nil (.cb rfl h (fun _ h => ?_) fun _ h => ?_))))
      ·
       refine .seq (.sn mx (.mv rfl (.mv rfl (.lt rfl rfl (.nil ?_)))))
       obtain ⟨j_16, h, hK16⟩ := bind_some h
       refine .thenJ (ι := (Int × Int × Int × Int)) (fun j_16 => [(9, ⟨True, rep j_16.1⟩), (10, ⟨True, rep j_16.2.1⟩), (11, ⟨True, rep j_16.2.2.1⟩), (12, ⟨True, rep j_16.2.2.2⟩)]) (fun j_16 => []) (fun s => j_16 = s) Sub.nil SubB.nil ?_ (fun j_16' hj16 => ?_)
       ·
        refine .cb rfl h (fun _ h => ?_) fun _ h => ?_
        ·
         exact .rn mx (.mv rfl (.mv rfl (.mv rfl (.mv rfl (.asn rfl (.asn rfl (.asn rfl (.asn rfl (.nil (Ends.j _ (some_eq h)))))))))))
        ·
         exact .skip (Ends.j _ (some_eq h))
       ·
        subst hj16; have h := hK16; clear hK16
        obtain ⟨r5, hv18, h⟩ := bind_some h
        obtain ⟨m1, hv19, h⟩ := bnd_some h
        obtain ⟨r6, hv20, h⟩ := bind_some h
        refine .sn mx (.mv rfl (.c (.call .none (shape_size_ok hv18) (.cons (.s rfl) .nil)) (.mv rfl (.mv rfl (.sub rfl rfl (.sub rfl rfl (.c (.max2 .none (.s rfl) .i) (.ra hv19 rfl (.nil (.sn mx (.mv rfl (.mv rfl (.c (.mulW .none (.s rfl) (.s rfl)) (.mv rfl (.mv rfl (.c (.mulW .none (.s rfl) (.s rfl)) (.add rfl rfl (.mv rfl (.mv rfl (.c (.mulW .none (.s rfl) (.s rfl)) (.c (.call .none (shape_than_ok hv20) (.cons (.s rfl) (.cons (.s rfl) .nil))) (.asn rfl (.nil (.ret (.blkRet (.thenRet ?_))))))))))))))))))))))))))
        replace h := resb_ab hK8 (some_eq h)
        obtain rfl := some_eq h
        exact Ends.rt Tryz.results80 rfl
      ·
       refine .sn mx (.eqi rfl (.asn rfl (.nil (.cb rfl h (fun _ h => ?_) fun _ h => ?_))))
       ·
        obtain ⟨n1, hv22, h⟩ := bnd_some h
        refine .sn mx (.mv rfl (.mv rfl (.c (.min2 .none (.s rfl) (.s rfl)) (.c (.quo .none (.s rfl) .i (fun _ => by decide)) (.ra hv22 rfl (.nil (.seq (.sn mx (.mv rfl (.eqi rfl (.nil (.cb rfl h (fun _ h => ?_) fun _ h => ?_))))))))))))
        ·
         refine .sn mx (.mv rfl (.asn rfl (.nil (.ret (.thenRet (.blkRet (.thenRet ?_)))))))
         replace h := resb_ab hK8 (some_eq h)
         obtain rfl := some_eq h
         exact Ends.rt Tryz.results80 rfl
        ·
         obtain ⟨k1, hv24, h⟩ := bnd_some h
         refine .skip (.then (.sn mx (.mv rfl (.mv rfl (.sub rfl rfl (.mv rfl (.add rfl rfl (.mv rfl (.sub rfl rfl (.ra hv24 rfl (.nil (.block (.sn mx (.mv rfl (.c (.gt .none (.s rfl) .i) (.asn rfl (.nil (.cb rfl h (fun _ h => ?_) fun _ h => ?_))))))))))))))))))
         ·
          refine .sn mx (.asi (.nil (.ret (.blkRet (.blkRet (.thenRet ?_))))))
          replace h := resb_ab hK8 (some_eq h)
          obtain rfl := some_eq h
          exact Ends.rt Tryz.results80 rfl
         ·
          refine .sn mx (.mv rfl (.eqi rfl (.asn rfl (.nil (.cb rfl h (fun _ h => ?_) fun _ h => ?_)))))
          ·
           refine .sn mx (.asi (.nil (.ret (.blkRet (.blkRet (.thenRet ?_))))))
           replace h := resb_ab hK8 (some_eq h)
           obtain rfl := some_eq h
           exact Ends.rt Tryz.results80 rfl
          ·
           exact .skip (.blkNormal (.blkNormal (Ends.j _ (some_eq h))))
       ·
        exact .skip (.blkNormal (Ends.j _ (some_eq h)))
   ·
    have h := resb_nx hK8 hj8
    refine .sn mx (.mv rfl (.asn rfl (.nil (.ret ?_))))
    obtain rfl := some_eq h
    exact Ends.rt Tryz.results80 rfl

theorem shape_Port_1_ok {p1 : Point} {c0_1 : Int} {c1_1 : Box} {r : Bool}  (h : shape_Port_1 p1 c0_1 c1_1 = some r) : FSpec Tryz.prog 111 [rep p1, ref c0_1, ref c1_1] (rep r) := by
 unfold shape_Port_1 at h
 obtain ⟨r1, hv1, h⟩ := bind_some h
 refine FSpec.i Tryz.func111 rfl Tryz.ntmps111 rfl (fun F => (.sn mx (.c (.box .none (.s rfl)) (.asb (.nil (.sn mx (.ld ty3 rfl (.ld ty38 rfl (.ld ty47 rfl (.c (.call .none (shape_has_ok hv1) (.cons (.s rfl) (.cons (.s rfl) (.cons (.s rfl) .nil)))) (.c (.ge .none (.s rfl) .i) (.asn rfl (.nil (.ret ?_))))))))))))))
 obtain rfl := some_eq h
 exact Ends.rt Tryz.results111 rfl

theorem shape_Port_2_ok {n1 : Int} {c0_1 : (Point → Option Bool)} {c1_1 : Point} {r : Bool}  (h : shape_Port_2 n1 c0_1 c1_1 = some r) : FSpec Tryz.prog 113 [rep n1, refS (fn1 Tryz.prog (rep (α := Bool)) c0_1), ref c1_1] (rep r) := by
 unfold shape_Port_2 at h
 obtain ⟨r1, hv1, h⟩ := bind_some h
 refine FSpec.i Tryz.func113 rfl Tryz.ntmps113 rfl (fun F => (.sn mx (.asb (.nil (.sn mx (.c (.loadF .none tr163 (.s rfl)) (.fa fd47_0 hfd47_0 rfl (.ld ty3 rfl (.mv rfl (.c (.buildF (y := (⟨c1_1.X, n1⟩ : Point)) .none bu47 zc47 rfl (.cons (.s rfl) (.cons (.s rfl) .nil)) (.cons rfl sf47_0 (.cons rfl sf47_1 .nil))) (.c (.callV ((⟨c1_1.X, n1⟩ : Point), r1) .none (.s rfl) (fun _ => hv1) (.cons (.s rfl) .nil)) (.asn rfl (.nil (.ret ?_))))))))))))))
 obtain rfl := some_eq h
 exact Ends.rt Tryz.results113 rfl

theorem shape_edge_ok {from1 : Int} {to1 : Int} {holds1 : (Int → Option Bool)} {r : (Int × Bool)}  (h : shape_edge from1 to1 holds1 = some r) : FSpec Tryz.prog 112 [rep from1, rep to1, fn1 Tryz.prog (rep (α := Bool)) holds1] (tup [rep r.1, rep r.2]) := by
 unfold shape_edge at h
 refine FSpec.i Tryz.func112 rfl Tryz.ntmps112 rfl (fun F => (.sn mx (.asi (.asb (.nil (.sn mx (.asi (.nil (.seq (.sn mx (.mv rfl (.mv rfl (.lt rfl rfl (.nil ?_))))))))))))))
 obtain ⟨j_1, h, hK1⟩ := bind_some h
 refine .thenJ (ι := Int) (fun j_1 => [(8, ⟨True, rep j_1⟩)]) (fun j_1 => []) (fun s => j_1 = s) (.k2 0 1 rfl rfl (.k 2 rfl .nil)) SubB.nil ?_ (fun j_1' hj1 => ?_)
 ·
  refine .cb rfl h (fun _ h => ?_) fun _ h => ?_
  ·
   exact .rn mx (.asi (.nil (Ends.j _ (some_eq h))))
  ·
   exact .skip (Ends.j _ (some_eq h))
 ·
  subst hj1; have h := hK1; clear hK1
  refine .sn mx (.mv rfl (.asn rfl (.nil (.block (.loopL h (fun s3_ => [(9, ⟨True, rep s3_⟩)]) (fun s3_ => []) (.k 9 rfl .nil) SubB.nil (.k2 1 2 rfl rfl (.k 8 rfl .nil)) SubB.nil (fun s3_ o_3 h hD3 => ?_))))))
  unfold shape_edge_L1 at h
  obtain ⟨r1, hv4, h⟩ := bind_some h
  refine .seq (.block (.seq (.sn mx (.mv rfl (.mv rfl (.c (.callV (s3_, r1) .none (.s rfl) (fun _ => hv4) (.cons (.s rfl) .nil)) (.nil (.cb rfl h (fun _ h => ?_) fun _ h => ?_))))))))
  ·
   refine .sn mx (.mv rfl (.asn rfl (.asb (.nil (.ret (.thenRet (.blkRet (.thenRet (.thenRet (.blkRet ?_))))))))))
   replace h := hD3 _ (some_eq h)
   obtain rfl := some_eq h
   exact Ends.ret2 (.inl rfl) Tryz.results112 (ResOK.tmp rfl trivial Imp.refl) (ResOK.tmp rfl trivial Imp.refl)
  ·
   refine .skip (.then (.sn mx (.mv rfl (.mv rfl (.c (.eqI .none (.s rfl) (.s rfl)) (.nil (.cb rfl h (fun _ h => ?_) fun _ h => ?_)))))))
   ·
    refine .sn mx (.asi (.asb (.nil (.ret (.blkRet (.thenRet (.thenRet (.blkRet ?_))))))))
    replace h := hD3 _ (some_eq h)
    obtain rfl := some_eq h
    exact Ends.ret2 (.inl rfl) Tryz.results112 (ResOK.tmp rfl trivial Imp.refl) (ResOK.tmp rfl trivial Imp.refl)
   ·
    obtain ⟨n1, hv7, h⟩ := bnd_some h
    exact .skip (.blkNormal (.then (.rn mx (.mv rfl (.mv rfl (.add rfl rfl (.ra hv7 rfl (.nil (Ends.ag (some_eq h))))))))))

theorem shape_Port_3_ok {n1 : Int} {c0_1 : (Point → Option Bool)} {c1_1 : Point} {r : Bool}  (h : shape_Port_3 n1 c0_1 c1_1 = some r) : FSpec Tryz.prog 114 [rep n1, refS (fn1 Tryz.prog (rep (α := Bool)) c0_1), ref c1_1] (rep r) := by
 unfold shape_Port_3 at h
 obtain ⟨r1, hv1, h⟩ := bind_some h
 refine FSpec.i Tryz.func114 rfl Tryz.ntmps114 rfl (fun F => (.sn mx (.asb (.nil (.sn mx (.c (.loadF .none tr163 (.s rfl)) (.mv rfl (.fa fd47_1 hfd47_1 rfl (.ld ty3 rfl (.c (.buildF (y := (⟨n1, c1_1.Y⟩ : Point)) .none bu47 zc47 rfl (.cons (.s rfl) (.cons (.s rfl) .nil)) (.cons rfl sf47_0 (.cons rfl sf47_1 .nil))) (.c (.callV ((⟨n1, c1_1.Y⟩ : Point), r1) .none (.s rfl) (fun _ => hv1) (.cons (.s rfl) .nil)) (.asn rfl (.nil (.ret ?_))))))))))))))
 obtain rfl := some_eq h
 exact Ends.rt Tryz.results114 rfl

theorem shape_Port_ok {kind1 : Int} {b1 : Box} {side1 : Int} {at1 : Int} {r : (Point × Int)}  (h : shape_Port kind1 b1 side1 at1 = some r) : FSpec Tryz.prog 95 [rep kind1, rep b1, rep side1, rep at1] (tup [rep r.1, rep r.2]) := by
 unfold shape_Port at h
 obtain ⟨v1, hv1, h⟩ := bnd_some h
 obtain ⟨r1, hv2, h⟩ := bind_some h
 refine FSpec.i Tryz.func95 rfl Tryz.ntmps95 rfl (fun F => (.sr [oo, oo, ([], [8]), oo] mx (.cA (.box .none (.s rfl)) (.cA (.box .none (.s rfl)) (.al zo47 rfl (.cA (.assign .none .i) (.nil (.reB (t := 8) rfl (congrArg (cont 47) hv1) (.nameBox (t := 8) (g := 5001) rfl rfl (fun m5001 => (.seq (.sn mx (.ld ty3 rfl (.c (.call .none (shape_isKind_ok hv2) (.cons (.s rfl) .nil)) (.c (.not .none (.s rfl)) (.nil (.cb rfl h (fun _ h => ?_) fun _ h => ?_)))))))))))))))))
 ·
  obtain ⟨v2, hv4, h⟩ := bnd_some h
  refine .sr [oo, ([5001], [5001]), oo] mx (.cA (.re hv4 (.buildF (y := (⟨(0 : Int), (0 : Int)⟩ : Point)) .none bu47 zc47 rfl .nil .nil)) (.s0 5001 ty47 rfl rfl rfl (.cA (.assign .none .i) (.nil (.fb 5001 [8] rfl (.cons (t := 8) rfl trivial .nil) (.ret (.thenRet ?_)))))))
  obtain rfl := some_eq h
  exact Ends.r2 Tryz.results95 ty47 rfl rfl
 ·
  obtain ⟨e1, hv5, h⟩ := bind_some h
  refine .skip (.then (.seq (.sn mx (.ld ty38 rfl (.c (.call .none (geom_CheckBox_ok hv5) (.cons (.s rfl) .nil)) (.asn rfl (.nil (.sn mx (.mv rfl (.nei rfl (.nil (.cb rfl h (fun _ h => ?_) fun _ h => ?_))))))))))))
  ·
   obtain ⟨v3, hv7, h⟩ := bnd_some h
   refine .sr [oo, oo, ([5001], [5001]), oo] mx (.cA (.re hv7 (.buildF (y := (⟨(0 : Int), (0 : Int)⟩ : Point)) .none bu47 zc47 rfl .nil .nil)) (.mvA rfl (.s0 5001 ty47 rfl rfl rfl (.asnA rfl (.nil (.fb 5001 [8] rfl (.cons (t := 8) rfl trivial .nil) (.ret (.thenRet ?_))))))))
   obtain rfl := some_eq h
   exact Ends.r2 Tryz.results95 ty47 rfl rfl
  ·
   refine .skip (.then (.seq (.sn mx (.mv rfl (.c (.lt .none (.s rfl) .i) (.mv rfl (.mg rfl rfl rfl (.c (.gt (.at rfl rfl) (.tmp rfl id) .i) (.po rfl rfl (.mv rfl (.mg rfl rfl rfl (.c (.lt (.at rfl rfl) (.tmp rfl id) .i) (.po rfl rfl (.mv rfl (.mg rfl rfl rfl (.c (.gt (.at rfl rfl) (.tmp rfl id) .i) (.po rfl rfl (.nil (.cb rfl h (fun _ h => ?_) fun _ h => ?_)))))))))))))))))))
   ·
    obtain ⟨v4, hv9, h⟩ := bnd_some h
    refine .sr [oo, ([5001], [5001]), oo] mx (.cA (.re hv9 (.buildF (y := (⟨(0 : Int), (0 : Int)⟩ : Point)) .none bu47 zc47 rfl .nil .nil)) (.s0 5001 ty47 rfl rfl rfl (.cA (.assign .none .i) (.nil (.fb 5001 [8] rfl (.cons (t := 8) rfl trivial .nil) (.ret (.thenRet ?_)))))))
    obtain rfl := some_eq h
    exact Ends.r2 Tryz.results95 ty47 rfl rfl
   ·
    obtain ⟨v5, hv10, h⟩ := bnd_some h
    refine .skip (.then (.sr [oo, oo, oo, oo, oo, oo, oo, oo, oo, oo, oo, oo, oo, oo, oo, oo, oo, ([], [11]), ([11], [11])] mx (.faA fd38_0 hfd38_0 rfl (.ldA ty3 rfl (.faA fd38_2 hfd38_2 rfl (.ldA ty3 rfl (.mvA rfl (.cA (.mulW .none (.s rfl) (.s rfl)) (.cA (.quo .none (.s rfl) .i (fun _ => by decide)) (.addA rfl rfl (.faA fd38_1 hfd38_1 rfl (.ldA ty3 rfl (.faA fd38_3 hfd38_3 rfl (.ldA ty3 rfl (.mvA rfl (.cA (.mulW .none (.s rfl) (.s rfl)) (.cA (.quo .none (.s rfl) .i (fun _ => by decide)) (.addA rfl rfl (.cA (.re hv10 (.buildF (y := (⟨W (b1.X + ((W (b1.W_ * at1)).tdiv 1000)), W (b1.Y + ((W (b1.H * at1)).tdiv 1000))⟩ : Point)) .none bu47 zc47 rfl (.cons (.s rfl) (.cons (.s rfl) .nil)) (.cons rfl sf47_0 (.cons rfl sf47_1 .nil)))) (.al zo47 rfl (.st ty47 rfl rfl rfl (.nil (.freeze (t := 11) rfl rfl (.k 5001 rfl .nil) rfl (.sr [oo, ([], [12]), ([12], [12])] mx (.cA (.makeFunc (ι := Point × Bool) (pre := fun i => (fun x0 => shape_Port_1 x0 kind1 b1) i.1 = some i.2) (Ss := fun i => [rep i.1]) (S := fun i => rep i.2) .none fnok111 (fun i h => shape_Port_1_ok h) (.cons (.s rfl) (.cons (.s rfl) .nil))) (.al zr163 rfl (.cN (.storeS0 (S := fn1 Tryz.prog (rep (α := Bool)) (fun x0 => shape_Port_1 x0 kind1 b1)) tr163 rfl rfl (.s rfl) fnv_one) (.nil (.freezeKey (t := 12) (S := refS (fn1 Tryz.prog (rep (α := Bool)) (fun x0 => shape_Port_1 x0 kind1 b1))) rfl rfl (.k 5001 rfl .nil) rfl (fun M D w s h hms => contS_ref fnv_one h hms) (.seq (.sn mx (.mv rfl (.eqi rfl (.mv rfl (.mg rfl rfl rfl (.c (.eqI (.at rfl rfl) (.tmp rfl id) .i) (.po rfl rfl (.nil (.cb rfl h (fun _ h => ?_) fun _ h => ?_)))))))))))))))))))))))))))))))))))))))
    ·
     obtain ⟨to1, hv12, h⟩ := bnd_some h
     refine .sn mx (.fa fd38_1 hfd38_1 rfl (.ld ty3 rfl (.fa fd38_1 hfd38_1 rfl (.ld ty3 rfl (.fa fd38_3 hfd38_3 rfl (.ld ty3 rfl (.add rfl rfl (.asn rfl (.ra hv12 rfl (.nil (.seq (.sn mx (.mv rfl (.eqi rfl (.nil ?_)))))))))))))))
     obtain ⟨j_13, h, hK13⟩ := bind_some h
     refine .thenJ (ι := (Int × Int)) (fun j_13 => [(13, ⟨True, rep j_13.1⟩), (14, ⟨True, rep j_13.2⟩)]) (fun j_13 => []) (fun s => j_13 = s) (.k4 5 8 11 12 rfl rfl rfl rfl .nil) (.k 5001 rfl .nil) ?_ (fun j_13' hj13 => ?_)
     ·
      refine .cb rfl h (fun _ h => ?_) fun _ h => ?_
      ·
       exact .rn mx (.mv rfl (.mv rfl (.asn rfl (.asn rfl (.nil (Ends.j _ (some_eq h)))))))
      ·
       exact .skip (Ends.j _ (some_eq h))
     ·
      subst hj13; have h := hK13; clear hK13
      refine .sn mx (.mv rfl (.mv rfl (.c (.makeFunc (ι := Int × Bool) (pre := fun i => (fun x0 => shape_Port_2 x0 (fun x0 => shape_Port_1 x0 kind1 b1) v5) i.1 = some i.2) (Ss := fun i => [rep i.1]) (S := fun i => rep i.2) .none fnok113 (fun i h => shape_Port_2_ok h) (.cons (.s rfl) (.cons (.s rfl) .nil))) ?_)))
      obtain ⟨r2, hv15, h⟩ := bind_some h
      refine .c (.call .none (shape_edge_ok hv15) (.cons (.s rfl) (.cons (.s rfl) (.cons (.s rfl) .nil)))) (.mv rfl (.ex rfl rfl (.ex rfl rfl (.asn rfl (.asn rfl (.nil (.seq (.sn mx (.mv rfl (.c (.not .none (.s rfl)) (.nil ?_)))))))))))
      obtain ⟨j_16, h, hK16⟩ := bind_some h
      refine .thenJ (ι := Int) (fun j_16 => [(15, ⟨True, rep j_16⟩)]) (fun j_16 => []) (fun s => j_16 = s) (.k2 8 11 rfl rfl .nil) (.k 5001 rfl .nil) ?_ (fun j_16' hj16 => ?_)
      ·
       refine .cb rfl h (fun _ h => ?_) fun _ h => ?_
       ·
        exact .rn mx (.fa fd38_1 hfd38_1 rfl (.ld ty3 rfl (.fa fd38_3 hfd38_3 rfl (.ld ty3 rfl (.c (.quo .none (.s rfl) .i (fun _ => by decide)) (.add rfl rfl (.asn rfl (.nil (Ends.j _ (some_eq h))))))))))
       ·
        exact .skip (Ends.j _ (some_eq h))
      ·
       subst hj16; have h := hK16; clear hK16
       obtain ⟨v6, hv18, h⟩ := bnd_some h
       refine .sr [oo, oo, oo, oo, ([5001], [5001]), oo] mx (.faA fd47_0 hfd47_0 rfl (.ldA ty3 rfl (.mvA rfl (.cA (.re hv18 (.buildF (y := (⟨v5.X, j_16⟩ : Point)) .none bu47 zc47 rfl (.cons (.s rfl) (.cons (.s rfl) .nil)) (.cons rfl sf47_0 (.cons rfl sf47_1 .nil)))) (.s0 5001 ty47 rfl rfl rfl (.cA (.assign .none .i) (.nil (.fb 5001 [8] rfl (.cons (t := 8) rfl trivial .nil) (.ret (.thenRet ?_))))))))))
       obtain rfl := some_eq h
       exact Ends.r2 Tryz.results95 ty47 rfl rfl
    ·
     obtain ⟨to2, hv19, h⟩ := bnd_some h
     refine .skip (.then (.sn mx (.fa fd38_0 hfd38_0 rfl (.ld ty3 rfl (.fa fd38_0 hfd38_0 rfl (.ld ty3 rfl (.fa fd38_2 hfd38_2 rfl (.ld ty3 rfl (.add rfl rfl (.asn rfl (.ra hv19 rfl (.nil (.seq (.sn mx (.mv rfl (.eqi rfl (.nil ?_)))))))))))))))))
     obtain ⟨j_20, h, hK20⟩ := bind_some h
     refine .thenJ (ι := (Int × Int)) (fun j_20 => [(17, ⟨True, rep j_20.1⟩), (18, ⟨True, rep j_20.2⟩)]) (fun j_20 => []) (fun s => j_20 = s) (.k4 5 8 11 12 rfl rfl rfl rfl .nil) (.k 5001 rfl .nil) ?_ (fun j_20' hj20 => ?_)
     ·
      refine .cb rfl h (fun _ h => ?_) fun _ h => ?_
      ·
       exact .rn mx (.mv rfl (.mv rfl (.asn rfl (.asn rfl (.nil (Ends.j _ (some_eq h)))))))
      ·
       exact .skip (Ends.j _ (some_eq h))
     ·
      subst hj20; have h := hK20; clear hK20
      refine .sn mx (.mv rfl (.mv rfl (.c (.makeFunc (ι := Int × Bool) (pre := fun i => (fun x0 => shape_Port_3 x0 (fun x0 => shape_Port_1 x0 kind1 b1) v5) i.1 = some i.2) (Ss := fun i => [rep i.1]) (S := fun i => rep i.2) .none fnok114 (fun i h => shape_Port_3_ok h) (.cons (.s rfl) (.cons (.s rfl) .nil))) ?_)))
      obtain ⟨r3, hv22, h⟩ := bind_some h
      refine .c (.call .none (shape_edge_ok hv22) (.cons (.s rfl) (.cons (.s rfl) (.cons (.s rfl) .nil)))) (.mv rfl (.ex rfl rfl (.ex rfl rfl (.asn rfl (.asn rfl (.nil (.seq (.sn mx (.mv rfl (.c (.not .none (.s rfl)) (.nil ?_)))))))))))
      obtain ⟨j_23, h, hK23⟩ := bind_some h
      refine .thenJ (ι := Int) (fun j_23 => [(19, ⟨True, rep j_23⟩)]) (fun j_23 => []) (fun s => j_23 = s) (.k2 8 11 rfl rfl .nil) (.k 5001 rfl .nil) ?_ (fun j_23' hj23 => ?_)
      ·
       refine .cb rfl h (fun _ h => ?_) fun _ h => ?_
       ·
        exact .rn mx (.fa fd38_0 hfd38_0 rfl (.ld ty3 rfl (.fa fd38_2 hfd38_2 rfl (.ld ty3 rfl (.c (.quo .none (.s rfl) .i (fun _ => by decide)) (.add rfl rfl (.asn rfl (.nil (Ends.j _ (some_eq h))))))))))
       ·
        exact .skip (Ends.j _ (some_eq h))
      ·
       subst hj23; have h := hK23; clear hK23
       obtain ⟨v7, hv25, h⟩ := bnd_some h
       refine .sr [oo, oo, oo, oo, ([5001], [5001]), oo] mx (.mvA rfl (.faA fd47_1 hfd47_1 rfl (.ldA ty3 rfl (.cA (.re hv25 (.buildF (y := (⟨j_23, v5.Y⟩ : Point)) .none bu47 zc47 rfl (.cons (.s rfl) (.cons (.s rfl) .nil)) (.cons rfl sf47_0 (.cons rfl sf47_1 .nil)))) (.s0 5001 ty47 rfl rfl rfl (.cA (.assign .none .i) (.nil (.fb 5001 [8] rfl (.cons (t := 8) rfl trivial .nil) (.ret ?_)))))))))
       obtain rfl := some_eq h
       exact Ends.r2 Tryz.results95 ty47 rfl rfl

theorem page_view_port_ok {v1 : Page_view} {x1 : DEnd} {r : Point}  (h : page_view_port v1 x1 = some r) : FSpec Tryz.prog 76 [ref v1, rep x1] (rep r) := by
 unfold page_view_port at h
 obtain ⟨v2, hv1, h⟩ := bnd_some h
 obtain ⟨r1, hv2, h⟩ := bind_some h
 obtain ⟨r2, hv3, h⟩ := bind_some h
 refine FSpec.i Tryz.func76 rfl Tryz.ntmps76 rfl (fun F => (.sr [oo, ([], [4])] mx (.cA (.box .none (.s rfl)) (.al zo47 rfl (.nil (.reB (t := 4) rfl (congrArg (cont 47) hv1) (.nameBox (t := 4) (g := 5001) rfl rfl (fun m5001 => (.sr [oo, oo, oo, oo, ([], [5]), ([5], [5])] mx (.mvA rfl (.faA fd76_0 hfd76_0 rfl (.ldA ty9 rfl (.cA (.call .none (page_view_node_ok hv2) (.cons (.s rfl) (.cons (.s rfl) .nil))) (.al zo40 rfl (.st ty40 rfl rfl rfl (.nil (.freeze (t := 5) rfl rfl (.k 5001 rfl .nil) rfl (.sr [oo, oo, oo, oo, oo, oo, oo, oo, oo, oo, oo, oo, ([], [6]), ([6], [6]), oo] mx (.faA fd40_1 hfd40_1 rfl (.ldA ty3 rfl (.faA fd40_2 hfd40_2 rfl (.ldA ty38 rfl (.faA fd76_1 hfd76_1 rfl (.ldA ty3 rfl (.faA fd76_2 hfd76_2 rfl (.ldA ty3 rfl (.cA (.call .none (shape_Port_ok hv3) (.cons (.s rfl) (.cons (.s rfl) (.cons (.s rfl) (.cons (.s rfl) .nil))))) (.mvA rfl (.exA rfl rfl (.exA rfl rfl (.al zo47 rfl (.st ty47 rfl rfl rfl (.asnA rfl (.nil (.freeze (t := 6) rfl rfl (.k 5001 rfl .nil) rfl (.sr [oo, ([5001], [5001])] mx (.ldA ty47 rfl (.s0 5001 ty47 rfl rfl rfl (.nil (.fb 5001 [4] rfl (.cons (t := 4) rfl trivial .nil) (.ret ?_)))))))))))))))))))))))))))))))))))))))))
 obtain rfl := some_eq h
 exact Ends.ret1 (.inl rfl) Tryz.results76 (ResOK.cellR ty47 rfl trivial Imp.refl)

theorem slices_Concat_Point_ok {slices1 : (List (List Point))} {r : (List Point)}  (h : slices_Concat_Point slices1 = some r) : FSpecO Tryz.prog 75 [rep slices1] [] (anyV) [some (rowV 47 r)] := by
 unfold slices_Concat_Point at h
 refine FSpecO.i Tryz.func75 rfl Tryz.ntmps75 rfl (fun F => (.sn mx (.c (.assign .none (.const (x := ([] : (List Point))) (fun M w => ⟨_, ⟨none, 0, rfl, Nat.le_refl _, by decide, rfl⟩, rfl⟩))) (.nil (.sn mx (.asi (.nil (.seq (.sn mx (.mv rfl (.ln sl144 rfl (.mvi (.nil ?_)))))))))))))
 obtain ⟨j_1, h, hK1⟩ := bind_some h
 refine .thenJ (ι := Int) (fun j_1 => [(3, ⟨True, rep j_1⟩)]) (fun j_1 => []) (fun s => j_1 = s) (.k 0 rfl .nil) SubB.nil ?_ (fun j_1' hj1 => ?_)
 ·
  refine .block (.rforL h (fun p2_ => [(11, ⟨True, rep p2_.1⟩), (3, ⟨True, rep p2_.2⟩)]) (fun p2_ => []) (.k2 11 3 rfl rfl .nil) SubB.nil (.k2 0 9 rfl rfl (.k 10 rfl .nil)) SubB.nil (fun p2_ o_2 h hD2 => (.sn mx (.lt rfl rfl (.nil (.seq (.cb rfl h (fun _ h => ?_) fun _ h => ?_)))))))
  ·
   refine .skip (.then (.seq ?_))
   obtain ⟨j_4, h, hK4⟩ := bind_some h
   unfold slices_Concat_Point_L1 at h
   refine .thenJ (ι := Int) (fun j_4 => [(3, ⟨True, rep j_4⟩)]) (fun j_4 => []) (fun s => j_4 = s) (.k4 0 9 10 11 rfl rfl rfl rfl .nil) SubB.nil ?_ (fun j_4' hj4 => ?_)
   ·
    obtain ⟨hn5, h⟩ := need_some h
    obtain ⟨size1, hv6, h⟩ := bnd_some h
    refine .block (.sn mx (.ix sl144 ty77 rfl rfl hn5 (.ld ty77 rfl (.asn rfl (.nil (.sn mx (.mv rfl (.mv rfl (.ln sl77 rfl (.add rfl rfl (.ra hv6 rfl (.nil (.sn mx (.mv rfl (.c (.lt .none (.s rfl) .i) (.nil (.cb rfl h (fun _ h => ?_) fun _ h => ?_)))))))))))))))))
    ·
     cases h
    ·
     exact .skip (.blkNormal (Ends.j _ (some_eq h)))
   ·
    subst hj4; have h := hK4; clear hK4
    exact .rn mx (.adi rfl (.mv rfl (.nil (Ends.ag (some_eq h)))))
  ·
   refine .exit (.thenExit (.thenExit (.blkExit ?_)))
   replace h := hD2 _ (some_eq h)
   exact Ends.j _ (some_eq h)
 ·
  subst hj1; have h := hK1; clear hK1
  obtain ⟨newslice1, hv8, h⟩ := bind_some h
  refine .sr [oo, ([], [24]), ([24], [6, 24])] mx (.mvA rfl (.cW (.cO [] (slices_Grow_Point_ok hv8) (.cons (.const (fun _ _ => rep_raw.2 ⟨rfl, rfl, rfl⟩)) (.cons (.s rfl) .nil)) .nil rfl) (.cW (.passRow rfl (.tmp rfl)) (.nil (.nameRow (t := 6) (g := 5001) rfl rfl rfl (fun s5001 => (.seq (.sn mx (.mv rfl (.ln sl144 rfl (.mvi (.nil ?_))))))))))))
  obtain ⟨j_9, h, hK9⟩ := bind_some h
  refine .thenJ (ι := (List Point)) (fun j_9 => []) (fun j_9 => [(6, some (rowV 47 j_9))]) (fun s => j_9 = s) Sub.nil SubB.nil ?_ (fun j_9' hj9 => ?_)
  ·
   refine .block (.anon (t := 6) (g := 5001) rfl rfl trivial rfl (.rforL h (fun p10_ => [(27, ⟨True, rep p10_.1⟩)]) (fun p10_ => [(6, some (rowV 47 p10_.2))]) (.k 27 rfl .nil) (.k 6 rfl .nil) (.k2 25 26 rfl rfl .nil) SubB.nil (fun p10_ o_10 h hD10 => (.nameRow (t := 6) (g := 5002) rfl rfl rfl (fun s5002 => (.sn mx (.lt rfl rfl (.nil (.seq (.cb rfl h (fun _ h => ?_) fun _ h => ?_))))))))))
   ·
    refine .skip (.then (.seq ?_))
    obtain ⟨j_12, h, hK12⟩ := bind_some h
    unfold slices_Concat_Point_L2 at h
    refine .thenJ (ι := (List Point)) (fun j_12 => []) (fun j_12 => [(6, some (rowV 47 j_12))]) (fun s => j_12 = s) (.k2 25 26 rfl rfl (.k 27 rfl .nil)) SubB.nil ?_ (fun j_12' hj12 => ?_)
    ·
     obtain ⟨hn13, h⟩ := need_some h
     obtain ⟨hn14, h⟩ := need_some h
     exact .block (.sn mx (.ix sl144 ty77 rfl rfl hn13 (.ld ty77 rfl (.asn rfl (.nil (.rg [oo, oo, ([5002], [33, 5002]), ([33], [6, 33])] mx (.mvA rfl (.mvA rfl (.cW (.append (k := 5002) rk77 rfl (.told (.s rfl) rfl) (.s rfl) hn14) (.consWD (.passRow rfl (.tmp rfl)) rfl rfl (.nil (.blkNormal (Ends.j _ (some_eq h))))))))))))))
    ·
     subst hj12; have h := hK12; clear hK12
     exact .nameRow (t := 6) (g := 5003) rfl rfl rfl (fun s5003 => (.rn mx (.adi rfl (.mv rfl (.nil (.anon (t := 6) (g := 5003) rfl rfl trivial rfl (Ends.ag (some_eq h))))))))
   ·
    refine .exit (.thenExit (.thenExit (.blkExit (.anon (t := 6) (g := 5002) rfl rfl trivial rfl ?_))))
    replace h := hD10 _ (some_eq h)
    exact Ends.j _ (some_eq h)
  ·
   subst hj9; have h := hK9; clear hK9
   refine .nameRow (t := 6) (g := 5004) rfl rfl rfl (fun s5004 => (.sn mx (.mv rfl (.asn rfl (.nil (.ret (.anon (t := 2) (g := 5004) rfl rfl trivial rfl ?_)))))))
   obtain rfl := some_eq h
   exact Ends.ret1O (.inl rfl) [2] Tryz.results75 (by decide) (.res rfl rfl) (ResOK.tmp rfl trivial (fun _ _ _ _ => trivial))

theorem page_Line_ok {d1 : Doc} {id1 : Str} {r : ((List Point) × Int)}  (h : page_Line d1 id1 = some r) : FSpec Tryz.prog 36 [rep d1, rep id1] (tup [rep r.1, rep r.2]) := by
 unfold page_Line at h
 obtain ⟨r1, hv1, h⟩ := bind_some h
 refine FSpec.i Tryz.func36 rfl Tryz.ntmps36 rfl (fun F => (.sn mx (.c (.box .none (.s rfl)) (.c (.box .none (.s rfl)) (.c (.assign .none (.const (x := ([] : (List Point))) (fun M w => ⟨_, ⟨none, 0, rfl, Nat.le_refl _, by decide, rfl⟩, rfl⟩))) (.asi (.nil (.sn mx (.ld ty25 rfl (.c (.call .none (page_look_ok hv1) (.cons (.s rfl) .nil)) (.mv rfl (.ex rfl rfl (.ex rfl rfl (.asn rfl (.asn rfl (.nil (.seq (.sn mx (.mv rfl (.nei rfl (.nil (.cb rfl h (fun _ h => ?_) fun _ h => ?_))))))))))))))))))))))
 ·
  refine .sn mx (.mv rfl (.c (.assign .none (.const (x := ([] : (List Point))) (fun M w => ⟨_, ⟨none, 0, rfl, Nat.le_refl _, by decide, rfl⟩, rfl⟩))) (.asn rfl (.nil (.ret (.thenRet ?_))))))
  obtain rfl := some_eq h
  exact Ends.ret2 (.inl rfl) Tryz.results36 (ResOK.tmp rfl trivial Imp.refl) (ResOK.tmp rfl trivial Imp.refl)
 ·
  refine .skip (.then (.sn mx (.fa fd25_1 hfd25_1 rfl (.ld ty23 rfl (.c (.makeFunc (ι := DEdge × Bool) (pre := fun i => (fun x0 => page_Line_1 x0 id1) i.1 = some i.2) (Ss := fun i => [rep i.1]) (S := fun i => rep i.2) .none fnok74 (fun i h => page_Line_1_ok h) (.cons (.s rfl) .nil)) ?_)))))
  obtain ⟨k1, hv3, h⟩ := bind_some h
  refine .c (.call .none (slices_IndexFunc_Edge_ok hv3) (.cons (.s rfl) (.cons (.s rfl) .nil))) (.asn rfl (.nil (.seq (.sn mx (.mv rfl (.c (.lt .none (.s rfl) .i) (.nil (.cb rfl h (fun _ h => ?_) fun _ h => ?_))))))))
  ·
   refine .sn mx (.c (.assign .none (.const (x := ([] : (List Point))) (fun M w => ⟨_, ⟨none, 0, rfl, Nat.le_refl _, by decide, rfl⟩, rfl⟩))) (.asi (.nil (.ret (.thenRet ?_)))))
   obtain rfl := some_eq h
   exact Ends.ret2 (.inl rfl) Tryz.results36 (ResOK.tmp rfl trivial Imp.refl) (ResOK.tmp rfl trivial Imp.refl)
  ·
   obtain ⟨hn5, h⟩ := need_some h
   obtain ⟨v1, hv6, h⟩ := bnd_some h
   obtain ⟨v2, hv7, h⟩ := bind_some h
   obtain ⟨r2, hv8, h⟩ := bind_some h
   obtain ⟨r3, hv9, h⟩ := bind_some h
   obtain ⟨r4, hv10, h⟩ := bind_some h
   refine .skip (.then (.sr [oo, oo, oo, oo, oo, ([], [9]), ([9], [9])] mx (.faA fd25_1 hfd25_1 rfl (.ldA ty23 rfl (.mvA rfl (.ixA sl23 ty79 rfl rfl hn5 (.rlA hv6 ty79 rfl (.al zo79 rfl (.st ty79 rfl rfl rfl (.nil (.freeze (t := 9) rfl rfl SubB.nil rfl (.seq (.isRef (t := 6) hv7 rfl trivial (.rn mx (.mv rfl (.fa fd79_1 hfd79_1 rfl (.ld ty76 rfl (.c (.call .none (page_view_port_ok hv8) (.cons (.s rfl) (.cons (.s rfl) .nil))) (.c (.buildSlice (xs := [_]) .none sl77 ty47 hz47 (.cons (.s rfl) .nil) rfl (by decide)) (.fa fd79_3 hfd79_3 rfl (.ld ty77 rfl (.mv rfl (.fa fd79_2 hfd79_2 rfl (.ld ty76 rfl (.c (.call .none (page_view_port_ok hv9) (.cons (.s rfl) (.cons (.s rfl) .nil))) (.c (.buildSlice (xs := [_]) .none sl77 ty47 hz47 (.cons (.s rfl) .nil) rfl (by decide)) (.c (.buildSlice (xs := [_, _, _]) .none sl144 ty77 hz77 (.cons (.s rfl) (.cons (.s rfl) (.cons (.s rfl) .nil))) rfl (by decide)) (.c (.call .none (slices_Concat_Point_ok hv10).frz (.cons (.s rfl) .nil)) (.asn rfl (.asi (.nil (.then (.ret ?_)))))))))))))))))))))))))))))))))
   obtain rfl := some_eq h
   exact Ends.ret2 (.inl rfl) Tryz.results36 (ResOK.tmp rfl trivial Imp.refl) (ResOK.tmp rfl trivial Imp.refl)

theorem desk_lanes_ok {d1 : Doc} {r : (List (Arr 1 Point))}  (h : desk_lanes d1 = some r) : FSpec Tryz.prog 15 [rep d1] (rep r) := by
 unfold desk_lanes at h
 refine FSpec.i Tryz.func15 rfl Tryz.ntmps15 rfl (fun F => (.sn mx (.c (.box .none (.s rfl)) (.c (.assign .none (.const (x := ([] : (List (Arr 1 Point)))) (fun M w => ⟨_, ⟨none, 0, rfl, Nat.le_refl _, by decide, rfl⟩, rfl⟩))) (.nil (.sr [([], [3])] mx (.cW (.nilRow (T := 48) (α := (Arr 1 Point)) rfl) (.nil (.nameRow (t := 3) (g := 5001) rfl rfl rfl (fun s5001 => (.seq (.sn mx (.fa fd25_1 hfd25_1 rfl (.ld ty23 rfl (.ln sl23 rfl (.mvi (.nil ?_)))))))))))))))))
 obtain ⟨j_1, h, hK1⟩ := bind_some h
 refine .thenJ (ι := (List (Arr 1 Point))) (fun j_1 => []) (fun j_1 => [(3, some (rowV 48 j_1))]) (fun s => j_1 = s) Sub.nil SubB.nil ?_ (fun j_1' hj1 => ?_)
 ·
  refine .block (.anon (t := 3) (g := 5001) rfl rfl trivial rfl (.rforL h (fun p2_ => [(14, ⟨True, rep p2_.1⟩)]) (fun p2_ => [(3, some (rowV 48 p2_.2))]) (.k 14 rfl .nil) (.k 3 rfl .nil) (.k2 1 12 rfl rfl (.k 13 rfl .nil)) SubB.nil (fun p2_ o_2 h hD2 => (.nameRow (t := 3) (g := 5002) rfl rfl rfl (fun s5002 => (.sn mx (.lt rfl rfl (.nil (.seq (.cb rfl h (fun _ h => ?_) fun _ h => ?_))))))))))
  ·
   refine .skip (.then (.seq ?_))
   obtain ⟨j_4, h, hK4⟩ := bind_some h
   unfold desk_lanes_L1 at h
   refine .thenJ (ι := (List (Arr 1 Point))) (fun j_4 => []) (fun j_4 => [(3, some (rowV 48 j_4))]) (fun s => j_4 = s) (.k4 1 12 13 14 rfl rfl rfl rfl .nil) SubB.nil ?_ (fun j_4' hj4 => ?_)
   ·
    obtain ⟨hn5, h⟩ := need_some h
    obtain ⟨v1, hv6, h⟩ := bnd_some h
    obtain ⟨r1, hv7, h⟩ := bind_some h
    refine .block (.sr [oo, oo, ([], [5]), ([5], [5])] mx (.ixA sl23 ty79 rfl rfl hn5 (.rlA hv6 ty79 rfl (.al zo79 rfl (.st ty79 rfl rfl rfl (.nil (.freeze (t := 5) rfl rfl (.k 5002 rfl .nil) rfl (.sn mx (.ld ty25 rfl (.fa fd79_0 hfd79_0 rfl (.ld ty9 rfl (.c (.call .none (page_Line_ok hv7) (.cons (.s rfl) (.cons (.s rfl) .nil))) (.mv rfl (.ex rfl rfl (.ex rfl rfl (.asn rfl (.asn rfl (.nil (.sn mx (.asi (.nil (.block (.anon (t := 3) (g := 5002) rfl rfl trivial rfl (.loopL h (fun s8_ => [(8, ⟨True, rep s8_.2⟩)]) (fun s8_ => [(3, some (rowV 48 s8_.1))]) (.k 8 rfl .nil) (.k 3 rfl .nil) (.k4 1 6 12 13 rfl rfl rfl rfl (.k 14 rfl .nil)) SubB.nil (fun s8_ o_8 h hD8 => ?_)))))))))))))))))))))))))
    unfold desk_lanes_L2 at h
    refine .nameRow (t := 3) (g := 5003) rfl rfl rfl (fun s5003 => (.seq (.sn mx (.mv rfl (.mv rfl (.ln sl77 rfl (.lt rfl rfl (.nil (.cb rfl h (fun _ h => ?_) fun _ h => ?_)))))))))
    ·
     refine .skip (.then (.seq ?_))
     obtain ⟨j_10, h, hK10⟩ := bind_some h
     refine .thenJ (ι := (List (Arr 1 Point))) (fun j_10 => []) (fun j_10 => [(3, some (rowV 48 j_10))]) (fun s => j_10 = s) (.k4 1 6 8 12 rfl rfl rfl rfl (.k2 13 14 rfl rfl .nil)) SubB.nil ?_ (fun j_10' hj10 => ?_)
     ·
      obtain ⟨hn11, h⟩ := need_some h
      obtain ⟨v2, hv12, h⟩ := bnd_some h
      obtain ⟨hn13, h⟩ := need_some h
      obtain ⟨v3, hv14, h⟩ := bnd_some h
      refine .block (.sr [oo, oo, oo, oo, oo, oo, oo, oo, oo, ([], [9]), ([], [10]), ([9], [9]), ([10], [10])] mx (.mvA rfl (.mvA rfl (.cA (.subW .none (.s rfl) .i) (.ixA sl77 ty47 rfl rfl hn11 (.rlA hv12 ty47 rfl (.mvA rfl (.mvA rfl (.ixA sl77 ty47 rfl rfl hn13 (.rlA hv14 ty47 rfl (.al zo47 rfl (.al zo47 rfl (.st ty47 rfl rfl rfl (.st ty47 rfl rfl rfl (.nil (.freeze (t := 9) rfl rfl (.k2 10 5003 rfl rfl .nil) rfl (.freeze (t := 10) rfl rfl (.k 5003 rfl .nil) rfl (.sn mx (.fa fd47_0 hfd47_0 rfl (.ld ty3 rfl (.fa fd47_0 hfd47_0 rfl (.ld ty3 rfl (.c (.eqI .none (.s rfl) (.s rfl)) (.fa fd47_1 hfd47_1 rfl (.ld ty3 rfl (.fa fd47_1 hfd47_1 rfl (.ld ty3 rfl (.c (.eqI .none (.s rfl) (.s rfl)) (.c (.neS .none (eqAt_bool Tryz.underlying4) (.s rfl) (.s rfl)) (.nil (.cb rfl h (fun _ h => ?_) fun _ h => ?_)))))))))))))))))))))))))))))))
      ·
       obtain ⟨hn16, h⟩ := need_some h
       exact .rg [oo, oo, oo, oo, oo, ([5003], [56, 5003]), ([56], [3, 56])] mx (.mvA rfl (.ldA ty47 rfl (.ldA ty47 rfl (.cA (.buildArr (xs := [_, _]) .none ao48 ty47 az48 (.cons (.s rfl) (.cons (.s rfl) .nil)) rfl) (.cA (.buildSlice (xs := [_]) .none sl44 ty48 hz48 (.cons (.s rfl) .nil) rfl (by decide)) (.cW (.append (k := 5003) rk44 rfl (.told (.s rfl) rfl) (.s rfl) hn16) (.cW (.passRow rfl (.tmp rfl)) (.nil (.blkNormal (Ends.j _ (some_eq h)))))))))))
      ·
       exact .skip (.blkNormal (.anon (t := 3) (g := 5003) rfl rfl trivial rfl (Ends.j _ (some_eq h))))
     ·
      subst hj10; have h := hK10; clear hK10
      obtain ⟨i1, hv17, h⟩ := bnd_some h
      exact .nameRow (t := 3) (g := 5004) rfl rfl rfl (fun s5004 => (.rn mx (.mv rfl (.adi rfl (.ra hv17 rfl (.nil (.anon (t := 3) (g := 5004) rfl rfl trivial rfl (Ends.ag (some_eq h)))))))))
    ·
     refine .exit (.thenExit (.thenExit (.blkExit (.blkNormal (.anon (t := 3) (g := 5003) rfl rfl trivial rfl ?_)))))
     replace h := hD8 _ (some_eq h)
     exact Ends.j _ (some_eq h)
   ·
    subst hj4; have h := hK4; clear hK4
    exact .nameRow (t := 3) (g := 5005) rfl rfl rfl (fun s5005 => (.rn mx (.adi rfl (.mv rfl (.nil (.anon (t := 3) (g := 5005) rfl rfl trivial rfl (Ends.ag (some_eq h))))))))
  ·
   refine .exit (.thenExit (.thenExit (.blkExit (.anon (t := 3) (g := 5002) rfl rfl trivial rfl ?_))))
   replace h := hD2 _ (some_eq h)
   exact Ends.j _ (some_eq h)
 ·
  subst hj1; have h := hK1; clear hK1
  refine .freezeRowA (t := 3) rfl rfl SubB.nil rfl (.sn mx (.mv rfl (.asn rfl (.nil (.ret ?_)))))
  obtain rfl := some_eq h
  exact Ends.rt Tryz.results15 rfl

theorem desk_floor_ok {a1 : Int} {b1 : Int} {r : Int}  (h : desk_floor a1 b1 = some r) : FSpec Tryz.prog 16 [rep a1, rep b1] (rep r) := by
 unfold desk_floor at h
 obtain ⟨hn1, h⟩ := need_some h
 obtain ⟨q1, hv2, h⟩ := bnd_some h
 obtain ⟨hn3, h⟩ := need_some h
 refine FSpec.i Tryz.func16 rfl Tryz.ntmps16 rfl (fun F => (.sn mx (.asi (.nil (.sn mx (.mv rfl (.mv rfl (.c (.quo .none (.s rfl) (.s rfl) (fun _ => hn1)) (.ra hv2 rfl (.nil (.seq (.sn mx (.mv rfl (.mv rfl (.c (.rem .none (.s rfl) (.s rfl) (fun _ => hn3)) (.c (.lt .none (.s rfl) .i) (.nil ?_)))))))))))))))))
 obtain ⟨j_4, h, hK4⟩ := bind_some h
 refine .thenJ (ι := Int) (fun j_4 => [(5, ⟨True, rep j_4⟩)]) (fun j_4 => []) (fun s => j_4 = s) Sub.nil SubB.nil ?_ (fun j_4' hj4 => ?_)
 ·
  refine .cb rfl h (fun _ h => ?_) fun _ h => ?_
  ·
   obtain ⟨q2, hv6, h⟩ := bnd_some h
   exact .rn mx (.mv rfl (.c (.subW .none (.s rfl) .i) (.ra hv6 rfl (.nil (Ends.j _ (some_eq h))))))
  ·
   exact .skip (Ends.j _ (some_eq h))
 ·
  subst hj4; have h := hK4; clear hK4
  refine .sn mx (.mv rfl (.asn rfl (.nil (.ret ?_))))
  obtain rfl := some_eq h
  exact Ends.rt Tryz.results16 rfl

theorem page_view_order_1_okS {self : (Int × (List Int) × (Option Page_view)) → Option (List Int)} (hself : ∀ {m34 : Nat} {s35 : Value} {m36 : Nat} (x : (Int × (List Int) × (Option Page_view))) (r : (List Int)), self x = some r → FSpecO Tryz.prog 77 [rep x.1, isV (ptr m34 0), ref x.2.2, isV (ptr m36 0)] [(ptr m34 0, cont 90 (⟨s35⟩ : Raw)), (s35, rowV 3 x.2.1), (ptr m36 0, contS 86 (cloV 77 [isV (ptr m34 0), ref x.2.2, isV (ptr m36 0)]))] (anyV) [some (deep (fun z0 => cont 90 (⟨z0⟩ : Raw)) (rowV 3 r)), none, some (contS 86 (cloV 77 [isV (ptr m34 0), ref x.2.2, isV (ptr m36 0)]))]) {m34 : Nat} {s35 : Value} {m36 : Nat} {x : (Int × (List Int) × (Option Page_view))} {r : (List Int)} (h : page_view_order_1_body self x = some r) : FSpecO Tryz.prog 77 [rep x.1, isV (ptr m34 0), ref x.2.2, isV (ptr m36 0)] [(ptr m34 0, cont 90 (⟨s35⟩ : Raw)), (s35, rowV 3 x.2.1), (ptr m36 0, contS 86 (cloV 77 [isV (ptr m34 0), ref x.2.2, isV (ptr m36 0)]))] (anyV) [some (deep (fun z0 => cont 90 (⟨z0⟩ : Raw)) (rowV 3 r)), none, some (contS 86 (cloV 77 [isV (ptr m34 0), ref x.2.2, isV (ptr m36 0)]))] := by
 unfold page_view_order_1_body at h
 obtain ⟨hn1, h⟩ := need_some h
 obtain ⟨p1, hv2, h⟩ := bind_some h
 obtain ⟨p2, hv3, h⟩ := bind_some h
 obtain ⟨hn4, h⟩ := need_some h
 obtain ⟨v1, hv5, h⟩ := bnd_some h
 obtain ⟨c1, hv6, h⟩ := bnd_some h
 refine FSpecO.i Tryz.func77 rfl Tryz.ntmps77 rfl (fun F => (.sr [([34], []), oo, oo, ([35], [10, 35]), ([34, 10], [34, 10])] mx (.cA (.loadAt0 (k := 34) .none tr90 rfl (.s rfl)) (.mvA rfl (.cA (.buildSlice (xs := [_]) .none sl90 ty3 hz3 (.cons (.s rfl) .nil) rfl (by decide)) (.cW (.append (k := 35) rk90 rfl (.told (.s rfl) rfl) (.s rfl) hn1) (.cN (.storeRow (k := 34) (t := 10) (set := fun _ z => z) ty90 rfl (.s rfl) .self rfl rfl) (.nil (.open (k := 34) (g := 5001) rfl rfl (fun s5001 => (.sn mx (.c (.isRef hv2 (.load .none ty72 (.s rfl))) (.c (.nilCheckR .none (.s rfl)) (.fa fd116_2 hfd116_2 rfl (.ld ty114 rfl (.c (.isRef hv3 (.load .none ty72 (.s rfl))) (.c (.nilCheckR .none (.s rfl)) (.fa fd116_0 hfd116_0 rfl (.fa fd25_0 hfd25_0 rfl (.ld ty22 rfl (.mv rfl (.ix sl22 ty40 rfl rfl hn4 (.fa fd40_0 hfd40_0 rfl (.ld ty9 rfl (.c (.re hv5 (.lookup .none mo114 zo90 (.s rfl) (.s rfl))) (.ln sl90 rfl (.mvi (.nil (.reB (t := 5001) rfl (congrArg (fun y => CPred.at s5001 (rowV 3 y)) hv6) ?_)))))))))))))))))))))))))))))
 obtain ⟨j_7, h, hK7⟩ := bind_some h
 refine .tailJ (ι := (List Int)) (fun j_7 => []) (fun j_7 => [(34, some (CPred.at (ptr m34 0) (deep (fun z0 => cont 90 (⟨z0⟩ : Raw)) (rowV 3 j_7))))]) (fun s => j_7 = s) (.k2 1 3 rfl rfl .nil) (.k 36 rfl .nil) ?_ (fun j_7' hj7 => ?_)
 ·
  refine .block (.close (k := 34) (g := 5001) (fun z => cont 90 (⟨z⟩ : Raw)) rfl rfl rfl (.rforL h (fun p8_ => [(26, ⟨True, rep p8_.1⟩)]) (fun p8_ => [(34, some (CPred.at (ptr m34 0) (deep (fun z0 => cont 90 (⟨z0⟩ : Raw)) (rowV 3 p8_.2))))]) (.k 26 rfl .nil) (.k 34 rfl .nil) (.k4 1 2 3 24 rfl rfl rfl rfl (.k 25 rfl .nil)) (.k 36 rfl .nil) (fun p8_ o_8 h hD8 => (.open (k := 34) (g := 5002) rfl rfl (fun s5002 => (.sn mx (.lt rfl rfl (.nil (.seq (.cb rfl h (fun _ h => ?_) fun _ h => ?_))))))))))
  ·
   refine .skip (.then (.seq ?_))
   obtain ⟨j_10, h, hK10⟩ := bind_some h
   unfold page_view_order_1_L1 at h
   refine .thenJ (ι := (List Int)) (fun j_10 => []) (fun j_10 => [(34, some (CPred.at (ptr m34 0) (deep (fun z0 => cont 90 (⟨z0⟩ : Raw)) (rowV 3 j_10))))]) (fun s => j_10 = s) (.k4 1 2 3 24 rfl rfl rfl rfl (.k2 25 26 rfl rfl .nil)) (.k 36 rfl .nil) ?_ (fun j_10' hj10 => ?_)
   ·
    obtain ⟨hn11, h⟩ := need_some h
    obtain ⟨r1, hv12, h⟩ := bind_some h
    exact .block (.sn mx (.ix sl90 ty3 rfl rfl hn11 (.ld ty3 rfl (.asn rfl (.nil (.rg [([36], []), oo, ([34, 5002, 36], [34, 5002, 36])] mx (.cA (.loadS (k := 36) .none tr86 rfl (.s rfl) cloV_one) (.mvA rfl (.cW (.callClo [34, 5002, 36] (Ss := [rep (gx v1 p8_.1)]) (Cs := [isV (ptr m34 0), ref x.2.2, isV (ptr m36 0)]) (.s rfl) (hself _ _ hv12) (.cons (.s rfl) .nil) (.cons (k := 34) rfl (.cons (k := 5002) rfl (.cons (k := 36) rfl .nil))) rfl (by decide) (by decide) (by intro d h; cases h; decide)) (.nil (.blkNormal (Ends.j _ (some_eq h)))))))))))))
   ·
    subst hj10; have h := hK10; clear hK10
    exact .open (k := 34) (g := 5003) rfl rfl (fun s5003 => (.rn mx (.adi rfl (.mv rfl (.nil (.close (k := 34) (g := 5003) (fun z => cont 90 (⟨z⟩ : Raw)) rfl rfl rfl (Ends.ag (some_eq h))))))))
  ·
   refine .exit (.thenExit (.thenExit (.blkExit (.close (k := 34) (g := 5002) (fun z => cont 90 (⟨z⟩ : Raw)) rfl rfl rfl ?_))))
   replace h := hD8 _ (some_eq h)
   exact Ends.j _ (some_eq h)
 ·
  subst hj7; have h := hK7; clear hK7
  obtain rfl := some_eq h
  exact Ends.ret0O (.inr rfl) [34, 35, 36] Tryz.results77 (by decide) (.held rfl (.skip (.held rfl .nil)))
theorem page_view_order_1_okN : ∀ (k : Nat) {m34 : Nat} {s35 : Value} {m36 : Nat} (x : (Int × (List Int) × (Option Page_view))) (r : (List Int)) (h : fixN page_view_order_1_body k x = some r), FSpecO Tryz.prog 77 [rep x.1, isV (ptr m34 0), ref x.2.2, isV (ptr m36 0)] [(ptr m34 0, cont 90 (⟨s35⟩ : Raw)), (s35, rowV 3 x.2.1), (ptr m36 0, contS 86 (cloV 77 [isV (ptr m34 0), ref x.2.2, isV (ptr m36 0)]))] (anyV) [some (deep (fun z0 => cont 90 (⟨z0⟩ : Raw)) (rowV 3 r)), none, some (contS 86 (cloV 77 [isV (ptr m34 0), ref x.2.2, isV (ptr m36 0)]))]
 | 0, _, _, _, x, r, h => by simp [fixN] at h
 | k + 1, _, _, _, x, r, h => page_view_order_1_okS (page_view_order_1_okN k) h
theorem page_view_order_1_ok {k1 : Int} {c0_1 : (List Int)} {c1_1 : (Option Page_view)} {r : (List Int)} {m34 : Nat} {s35 : Value} {m36 : Nat} (h : page_view_order_1 k1 c0_1 c1_1 = some r) : FSpecO Tryz.prog 77 [rep k1, isV (ptr m34 0), ref c1_1, isV (ptr m36 0)] [(ptr m34 0, cont 90 (⟨s35⟩ : Raw)), (s35, rowV 3 c0_1), (ptr m36 0, contS 86 (cloV 77 [isV (ptr m34 0), ref c1_1, isV (ptr m36 0)]))] (anyV) [some (deep (fun z0 => cont 90 (⟨z0⟩ : Raw)) (rowV 3 r)), none, some (contS 86 (cloV 77 [isV (ptr m34 0), ref c1_1, isV (ptr m36 0)]))] :=
 let ⟨k, hk⟩ := fixp_some h
 page_view_order_1_okN k (k1, c0_1, c1_1) r hk

theorem page_view_order_ok {v1 : Page_view} {r : (List Int)}  (h : page_view_order v1 = some r) : FSpec Tryz.prog 37 [ref v1] (rep r) := by
 unfold page_view_order at h
 refine FSpec.i Tryz.func37 rfl Tryz.ntmps37 rfl (fun F => (.sn mx (.c (.boxRef .none (.s rfl)) (.c (.assign .none (.const (x := ([] : (List Int))) (fun M w => ⟨_, ⟨none, 0, rfl, Nat.le_refl _, by decide, rfl⟩, rfl⟩))) (.nil (.sr [([], [3])] mx (.al zr90 rfl (.nil (.nameAt (t := 3) (g := 5001) rfl rfl isBox_cont rfl (fun m5001 => (.nilKey (g := 5002) (T := 3) (α := Int) rfl (.sr [([], [4])] mx (.al zr86 rfl (.nil (.nameAt (t := 4) (g := 5003) rfl rfl isBox_cont rfl (fun m5003 => (.sr [oo, ([5003], [5003])] mx (.cA (.makeFuncC (Cs := [isV (ptr m5001 0), ref (some v1), isV (ptr m5003 0)]) .none (.cons (.s rfl) (.cons (.s rfl) (.cons (.s rfl) .nil)))) (.cN (.storeS (k := 5003) (S := cloV 77 [isV (ptr m5001 0), ref (some v1), isV (ptr m5003 0)]) tr86 rfl cont_cells (.s rfl) (.s rfl) cloV_one) (.nil (.seq (.sn mx (.c (.isRef rfl (.load .none ty72 (.s rfl))) (.c (.nilCheckR .none (.s rfl)) (.fa fd116_0 hfd116_0 rfl (.fa fd25_0 hfd25_0 rfl (.ld ty22 rfl (.ln sl22 rfl (.mvi (.nil ?_))))))))))))))))))))))))))))))
 obtain ⟨j_1, h, hK1⟩ := bind_some h
 refine .thenJ (ι := (List Int)) (fun j_1 => []) (fun j_1 => [(5001, some (CPred.at (ptr m5001 0) (deep (fun z0 => cont 90 (⟨z0⟩ : Raw)) (rowV 3 j_1))))]) (fun s => j_1 = s) (.k2 3 4 rfl rfl .nil) (.k 5003 rfl .nil) ?_ (fun j_1' hj1 => ?_)
 ·
  refine .block (.close (k := 5001) (g := 5002) (fun z => cont 90 (⟨z⟩ : Raw)) rfl rfl rfl (.rforL h (fun p2_ => [(14, ⟨True, rep p2_.1⟩)]) (fun p2_ => [(5001, some (CPred.at (ptr m5001 0) (deep (fun z0 => cont 90 (⟨z0⟩ : Raw)) (rowV 3 p2_.2))))]) (.k 14 rfl .nil) (.k 5001 rfl .nil) (.k4 1 3 4 12 rfl rfl rfl rfl (.k 13 rfl .nil)) (.k 5003 rfl .nil) (fun p2_ o_2 h hD2 => (.open (k := 5001) (g := 5004) rfl rfl (fun s5004 => (.sn mx (.lt rfl rfl (.nil (.seq (.cb rfl h (fun _ h => ?_) fun _ h => ?_))))))))))
  ·
   refine .skip (.then (.seq ?_))
   obtain ⟨j_4, h, hK4⟩ := bind_some h
   unfold page_view_order_L1 at h
   refine .thenJ (ι := (List Int)) (fun j_4 => []) (fun j_4 => [(5001, some (CPred.at (ptr m5001 0) (deep (fun z0 => cont 90 (⟨z0⟩ : Raw)) (rowV 3 j_4))))]) (fun s => j_4 = s) (.k4 1 3 4 12 rfl rfl rfl rfl (.k2 13 14 rfl rfl .nil)) (.k 5003 rfl .nil) ?_ (fun j_4' hj4 => ?_)
   ·
    obtain ⟨hn5, h⟩ := need_some h
    obtain ⟨v2, hv6, h⟩ := bnd_some h
    refine .block (.sr [oo, oo, oo, ([], [6]), oo, ([6], [6])] mx (.mvA rfl (.ixA sl22 ty40 rfl rfl hn5 (.rlA hv6 ty40 rfl (.al zo40 rfl (.asnA rfl (.st ty40 rfl rfl rfl (.nil (.freeze (t := 6) rfl rfl (.k2 5001 5003 rfl rfl (.k 5004 rfl .nil)) rfl (.sn mx (.fa fd40_5 hfd40_5 rfl (.ld ty9 rfl (.c (.eqS .none (eqAt_str Tryz.underlying9) (.s rfl) (.str (l := []) (by decide))) (.nil (.cb rfl h (fun _ h => ?_) fun _ h => ?_)))))))))))))))
    ·
     obtain ⟨r1, hv8, h⟩ := bind_some h
     exact .rg [([5003], []), oo, ([5001, 5004, 5003], [5001, 5004, 5003])] mx (.cA (.loadS (k := 5003) .none tr86 rfl (.s rfl) cloV_one) (.mvA rfl (.cW (.callClo [5001, 5004, 5003] (Ss := [rep p2_.1]) (Cs := [isV (ptr m5001 0), ref (some v1), isV (ptr m5003 0)]) (.s rfl) (page_view_order_1_ok hv8) (.cons (.s rfl) .nil) (.cons (k := 5001) rfl (.cons (k := 5004) rfl (.cons (k := 5003) rfl .nil))) rfl (by decide) (by decide) (by intro d h; cases h; decide)) (.nil (.blkNormal (Ends.j _ (some_eq h)))))))
    ·
     exact .skip (.blkNormal (.close (k := 5001) (g := 5004) (fun z => cont 90 (⟨z⟩ : Raw)) rfl rfl rfl (Ends.j _ (some_eq h))))
   ·
    subst hj4; have h := hK4; clear hK4
    exact .open (k := 5001) (g := 5005) rfl rfl (fun s5005 => (.rn mx (.adi rfl (.mv rfl (.nil (.close (k := 5001) (g := 5005) (fun z => cont 90 (⟨z⟩ : Raw)) rfl rfl rfl (Ends.ag (some_eq h))))))))
  ·
   refine .exit (.thenExit (.thenExit (.blkExit (.close (k := 5001) (g := 5004) (fun z => cont 90 (⟨z⟩ : Raw)) rfl rfl rfl ?_))))
   replace h := hD2 _ (some_eq h)
   exact Ends.j _ (some_eq h)
 ·
  subst hj1; have h := hK1; clear hK1
  refine .open (k := 5001) (g := 5006) rfl rfl (fun s5006 => (.sr [([5001], []), oo] mx (.cA (.loadAt0 (k := 5001) .none tr90 rfl (.s rfl)) (.asnA rfl (.nil (.freezeRow (g := 5006) (ts := [2]) rfl (.cons (t := 2) rfl trivial .nil) SubB.nil rfl (.ret ?_)))))))
  obtain rfl := some_eq h
  exact Ends.rt Tryz.results37 rfl

theorem shape_Has_ok {kind1 : Int} {b1 : Box} {p1 : Point} {r : (Int × Int)}  (h : shape_Has kind1 b1 p1 = some r) : FSpec Tryz.prog 39 [rep kind1, rep b1, rep p1] (tup [rep r.1, rep r.2]) := by
 unfold shape_Has at h
 obtain ⟨r1, hv1, h⟩ := bind_some h
 refine FSpec.i Tryz.func39 rfl Tryz.ntmps39 rfl (fun F => (.sn mx (.c (.box .none (.s rfl)) (.c (.box .none (.s rfl)) (.asi (.asi (.nil (.seq (.sn mx (.mv rfl (.c (.call .none (shape_isKind_ok hv1) (.cons (.s rfl) .nil)) (.c (.not .none (.s rfl)) (.nil (.cb rfl h (fun _ h => ?_) fun _ h => ?_))))))))))))))
 ·
  refine .sn mx (.asi (.asi (.nil (.ret (.thenRet ?_)))))
  obtain rfl := some_eq h
  exact Ends.ret2 (.inl rfl) Tryz.results39 (ResOK.tmp rfl trivial Imp.refl) (ResOK.tmp rfl trivial Imp.refl)
 ·
  obtain ⟨e1, hv3, h⟩ := bind_some h
  refine .skip (.then (.seq (.sn mx (.ld ty38 rfl (.c (.call .none (geom_CheckBox_ok hv3) (.cons (.s rfl) .nil)) (.asn rfl (.nil (.sn mx (.mv rfl (.nei rfl (.nil (.cb rfl h (fun _ h => ?_) fun _ h => ?_))))))))))))
  ·
   refine .sn mx (.mv rfl (.asi (.asn rfl (.nil (.ret (.thenRet ?_))))))
   obtain rfl := some_eq h
   exact Ends.ret2 (.inl rfl) Tryz.results39 (ResOK.tmp rfl trivial Imp.refl) (ResOK.tmp rfl trivial Imp.refl)
  ·
   obtain ⟨e2, hv5, h⟩ := bind_some h
   refine .skip (.then (.seq (.sn mx (.ld ty47 rfl (.c (.call .none (geom_CheckPoint_ok hv5) (.cons (.s rfl) .nil)) (.asn rfl (.nil (.sn mx (.mv rfl (.nei rfl (.nil (.cb rfl h (fun _ h => ?_) fun _ h => ?_))))))))))))
   ·
    refine .sn mx (.mv rfl (.asi (.asn rfl (.nil (.ret (.thenRet ?_))))))
    obtain rfl := some_eq h
    exact Ends.ret2 (.inl rfl) Tryz.results39 (ResOK.tmp rfl trivial Imp.refl) (ResOK.tmp rfl trivial Imp.refl)
   ·
    obtain ⟨r2, hv7, h⟩ := bind_some h
    refine .skip (.then (.sn mx (.mv rfl (.ld ty38 rfl (.ld ty47 rfl (.c (.call .none (shape_has_ok hv7) (.cons (.s rfl) (.cons (.s rfl) (.cons (.s rfl) .nil)))) (.asn rfl (.asi (.nil (.ret ?_))))))))))
    obtain rfl := some_eq h
    exact Ends.ret2 (.inl rfl) Tryz.results39 (ResOK.tmp rfl trivial Imp.refl) (ResOK.tmp rfl trivial Imp.refl)

theorem page_Finder_1_ok {p1 : Point} {c0_1 : (List Int)} {c1_1 : Doc} {r : (DNode × Bool)}  (h : page_Finder_1 p1 c0_1 c1_1 = some r) : FSpec Tryz.prog 38 [rep p1, ref c0_1, ref c1_1] (tup [rep r.1, rep r.2]) := by
 unfold page_Finder_1 at h
 obtain ⟨v1, hv1, h⟩ := bnd_some h
 obtain ⟨i1, hv2, h⟩ := bnd_some h
 refine FSpec.i Tryz.func38 rfl Tryz.ntmps38 rfl (fun F => (.sr [oo, ([], [4]), oo] mx (.cA (.box .none (.s rfl)) (.al zo40 rfl (.cA (.assign .none .bool) (.nil (.reB (t := 4) rfl (congrArg (cont 40) hv1) (.nameBox (t := 4) (g := 5001) rfl rfl (fun m5001 => (.seq (.sn mx (.ld ty90 rfl (.ln sl90 rfl (.c (.subW .none (.s rfl) .i) (.ra hv2 rfl (.nil ?_))))))))))))))))
 obtain ⟨o_3, h, hK3⟩ := bindR_some h
 refine .tJ (fun s => o_3 = Res.nx s) (.k 4 rfl .nil) (.k 5001 rfl .nil) ?_ (fun j_3 hj3 => ?_)
 ·
  refine .block (.loopL h (fun s4_ => [(6, ⟨True, rep s4_⟩)]) (fun s4_ => []) (.k 6 rfl .nil) SubB.nil (.k4 1 2 3 4 rfl rfl rfl rfl .nil) (.k 5001 rfl .nil) (fun s4_ o_4 h hD4 => ?_))
  unfold page_Finder_1_L1 at h
  refine .seq (.sn mx (.mv rfl (.c (.ge .none (.s rfl) .i) (.nil (.cb rfl h (fun _ h => ?_) fun _ h => ?_)))))
  ·
   refine .skip (.then (.seq ?_))
   obtain ⟨o_6, h, hK6⟩ := bindR_some h
   refine .tJ (fun s => o_6 = Res.nx s) (.k4 1 2 3 4 rfl rfl rfl rfl (.k 6 rfl .nil)) (.k 5001 rfl .nil) ?_ (fun j_6 hj6 => ?_)
   ·
    obtain ⟨hn7, h⟩ := need_some h
    obtain ⟨hn8, h⟩ := need_some h
    obtain ⟨v2, hv9, h⟩ := bnd_some h
    refine .block (.sr [oo, oo, oo, oo, oo, oo, oo, oo, ([], [7]), ([7], [7])] mx (.faA fd25_0 hfd25_0 rfl (.ldA ty22 rfl (.ldA ty90 rfl (.mvA rfl (.ixA sl90 ty3 rfl rfl hn7 (.ldA ty3 rfl (.ixA sl22 ty40 rfl rfl hn8 (.rlA hv9 ty40 rfl (.al zo40 rfl (.st ty40 rfl rfl rfl (.nil (.freeze (t := 7) rfl rfl (.k 5001 rfl .nil) rfl (.seq (.sn mx (.fa fd40_1 hfd40_1 rfl (.ld ty3 rfl (.eqi rfl (.nil (.cb rfl h (fun _ h => ?_) fun _ h => ?_))))))))))))))))))))
    ·
     exact .exit (.thenExit (.blkExit (Ends.j _ (some_eq h))))
    ·
     obtain ⟨r1, hv11, h⟩ := bind_some h
     refine .skip (.then (.sn mx (.fa fd40_1 hfd40_1 rfl (.ld ty3 rfl (.fa fd40_2 hfd40_2 rfl (.ld ty38 rfl (.ld ty47 rfl (.c (.call .none (shape_Has_ok hv11) (.cons (.s rfl) (.cons (.s rfl) (.cons (.s rfl) .nil)))) (.mv rfl (.ex rfl rfl (.ex rfl rfl (.asn rfl (.asn rfl (.nil (.sn mx (.mv rfl (.eqi rfl (.mv rfl (.mg rfl rfl rfl (.c (.ge (.at rfl rfl) (.tmp rfl id) .i) (.pa rfl rfl (.nil (.cb rfl h (fun _ h => ?_) fun _ h => ?_)))))))))))))))))))))))
     ·
      refine .sr [oo, ([5001], [5001]), oo] mx (.ldA ty40 rfl (.s0 5001 ty40 rfl rfl rfl (.cA (.assign .none .bool) (.nil (.fb 5001 [4] rfl (.cons (t := 4) rfl trivial .nil) (.ret (.blkRet (.thenRet (.thenRet (.blkRet (.thenRet ?_)))))))))))
      replace h := resb_ab hK6 (some_eq h)
      replace h := hD4 _ (some_eq h)
      replace h := resb_ab hK3 (some_eq h)
      obtain rfl := some_eq h
      exact Ends.r2 Tryz.results38 ty40 rfl rfl
     ·
      exact .skip (.blkNormal (Ends.j _ (some_eq h)))
   ·
    have h := resb_nx hK6 hj6
    obtain ⟨i2, hv13, h⟩ := bnd_some h
    exact .rn mx (.mv rfl (.c (.subW .none (.s rfl) .i) (.ra hv13 rfl (.nil (Ends.ag (some_eq h))))))
  ·
   refine .exit (.thenExit (.thenExit (.blkExit ?_)))
   replace h := hD4 _ (some_eq h)
   exact Ends.j _ (some_eq h)
 ·
  have h := resb_nx hK3 hj3
  obtain ⟨v3, hv14, h⟩ := bnd_some h
  refine .sr [oo, ([5001], [5001]), oo] mx (.cA (.re hv14 (.buildF (y := (⟨Str.nil, (0 : Int), (⟨(0 : Int), (0 : Int), (0 : Int), (0 : Int)⟩ : Box), Str.nil, Str.nil, Str.nil, false⟩ : DNode)) .none bu40 zc40 rfl .nil .nil)) (.s0 5001 ty40 rfl rfl rfl (.cA (.assign .none .bool) (.nil (.fb 5001 [4] rfl (.cons (t := 4) rfl trivial .nil) (.ret ?_))))))
  obtain rfl := some_eq h
  exact Ends.r2 Tryz.results38 ty40 rfl rfl

theorem page_Finder_ok {d1 : Doc} {r : (Point → Option (DNode × Bool))}  (h : page_Finder d1 = some r) : FSpec Tryz.prog 17 [rep d1] (fn1 Tryz.prog tup2 r) := by
 unfold page_Finder at h
 obtain ⟨v1, hv1, h⟩ := bind_some h
 obtain ⟨p1, hv2, h⟩ := bind_some h
 obtain ⟨r1, hv3, h⟩ := bind_some h
 refine FSpec.i Tryz.func17 rfl Tryz.ntmps17 rfl (fun F => (.sn mx (.c (.box .none (.s rfl)) (.c (.assign .none Opd.nilF) (.nil (.sn mx (.ld ty25 rfl (.c (.isRef hv2 (.call .none (page_viewOf_ok hv1) (.cons (.s rfl) .nil))) (.asn rfl (.nil (.sr [oo, oo, ([], [4]), ([4], [4])] mx (.mvA rfl (.cA (.call .none (page_view_order_ok hv3) (.cons (.s rfl) .nil)) (.al zo90 rfl (.st ty90 rfl rfl rfl (.nil (.freeze (t := 4) rfl rfl SubB.nil rfl (.sn mx (.c (.makeFunc (ι := Point × (DNode × Bool)) (pre := fun i => (fun x0 => page_Finder_1 x0 r1 d1) i.1 = some i.2) (Ss := fun i => [rep i.1]) (S := fun i => tup2 i.2) .none fnok38 (fun i h => page_Finder_1_ok h) (.cons (.s rfl) (.cons (.s rfl) .nil))) (.asn rfl (.nil (.ret ?_))))))))))))))))))))))
 obtain rfl := some_eq h
 exact Ends.rt Tryz.results17 rfl

set_option maxHeartbeats 4000000 in
theorem desk_Sketch_ok {d1 : Doc} {w1 : Int} {h1 : Int} {r : (Str × Int)}  (h : desk_Sketch d1 w1 h1 = some r) : FSpec Tryz.prog 4 [rep d1, rep w1, rep h1] (tup [rep r.1, rep r.2]) := by
 unfold desk_Sketch at h
 obtain ⟨e1, hv1, h⟩ := bind_some h
 refine FSpec.i Tryz.func4 rfl Tryz.ntmps4 rfl (fun F => (.sn mx (.c (.box .none (.s rfl)) (.c (.assign .none (.str (l := []) (by decide))) (.asi (.nil (.seq (.sn mx (.ld ty25 rfl (.c (.call .none (page_Check_ok hv1) (.cons (.s rfl) .nil)) (.asn rfl (.nil (.sn mx (.mv rfl (.nei rfl (.nil (.cb rfl h (fun _ h => ?_) fun _ h => ?_)))))))))))))))))
 ·
  refine .sn mx (.mv rfl (.c (.assign .none (.str (l := []) (by decide))) (.asn rfl (.nil (.ret (.thenRet ?_))))))
  obtain rfl := some_eq h
  exact Ends.ret2 (.inl rfl) Tryz.results4 (ResOK.tmp rfl trivial Imp.refl) (ResOK.tmp rfl trivial Imp.refl)
 ·
  refine .skip (.then (.seq (.sn mx (.mv rfl (.c (.lt .none (.s rfl) .i) (.mv rfl (.mg rfl rfl rfl (.c (.gt (.at rfl rfl) (.tmp rfl id) .i) (.po rfl rfl (.mv rfl (.mg rfl rfl rfl (.c (.lt (.at rfl rfl) (.tmp rfl id) .i) (.po rfl rfl (.mv rfl (.mg rfl rfl rfl (.c (.gt (.at rfl rfl) (.tmp rfl id) .i) (.po rfl rfl (.nil (.cb rfl h (fun _ h => ?_) fun _ h => ?_)))))))))))))))))))
  ·
   refine .sn mx (.c (.assign .none (.str (l := []) (by decide))) (.asi (.nil (.ret (.thenRet ?_)))))
   obtain rfl := some_eq h
   exact Ends.ret2 (.inl rfl) Tryz.results4 (ResOK.tmp rfl trivial Imp.refl) (ResOK.tmp rfl trivial Imp.refl)
  ·
   refine .skip (.then (.sn mx (.asi (.asi (.asi (.asi (.nil (.sn mx (.asb (.nil (.seq (.sn mx (.fa fd25_0 hfd25_0 rfl (.ld ty22 rfl (.ln sl22 rfl (.mvi (.nil ?_)))))))))))))))))
   obtain ⟨j_4, h, hK4⟩ := bind_some h
   refine .thenJ (ι := (Int × Int × Int × Int × Bool)) (fun j_4 => [(9, ⟨True, rep j_4.1⟩), (10, ⟨True, rep j_4.2.1⟩), (11, ⟨True, rep j_4.2.2.1⟩), (12, ⟨True, rep j_4.2.2.2.1⟩), (13, ⟨True, rep j_4.2.2.2.2⟩)]) (fun j_4 => []) (fun s => j_4 = s) (.k2 1 2 rfl rfl (.k 3 rfl .nil)) SubB.nil ?_ (fun j_4' hj4 => ?_)
   ·
    refine .block (.rforL h (fun p5_ => [(60, ⟨True, rep p5_.1⟩), (9, ⟨True, rep p5_.2.1⟩), (10, ⟨True, rep p5_.2.2.1⟩), (11, ⟨True, rep p5_.2.2.2.1⟩), (12, ⟨True, rep p5_.2.2.2.2.1⟩), (13, ⟨True, rep p5_.2.2.2.2.2⟩)]) (fun p5_ => []) (.k4 60 9 10 11 rfl rfl rfl rfl (.k2 12 13 rfl rfl .nil)) SubB.nil (.k4 1 2 3 58 rfl rfl rfl rfl (.k 59 rfl .nil)) SubB.nil (fun p5_ o_5 h hD5 => (.sn mx (.lt rfl rfl (.nil (.seq (.cb rfl h (fun _ h => ?_) fun _ h => ?_)))))))
    ·
     refine .skip (.then (.seq ?_))
     obtain ⟨j_7, h, hK7⟩ := bind_some h
     unfold desk_Sketch_L1 at h
     refine .thenJ (ι := (Int × Int × Int × Int × Bool)) (fun j_7 => [(9, ⟨True, rep j_7.1⟩), (10, ⟨True, rep j_7.2.1⟩), (11, ⟨True, rep j_7.2.2.1⟩), (12, ⟨True, rep j_7.2.2.2.1⟩), (13, ⟨True, rep j_7.2.2.2.2⟩)]) (fun j_7 => []) (fun s => j_7 = s) (.k4 1 2 3 58 rfl rfl rfl rfl (.k2 59 60 rfl rfl .nil)) SubB.nil ?_ (fun j_7' hj7 => ?_)
     ·
      obtain ⟨hn8, h⟩ := need_some h
      obtain ⟨v1, hv9, h⟩ := bnd_some h
      refine .block (.sr [oo, oo, ([], [15]), ([15], [15])] mx (.ixA sl22 ty40 rfl rfl hn8 (.rlA hv9 ty40 rfl (.al zo40 rfl (.st ty40 rfl rfl rfl (.nil (.freeze (t := 15) rfl rfl SubB.nil rfl (.sr [oo, oo, ([], [16]), ([16], [16])] mx (.faA fd40_2 hfd40_2 rfl (.ldA ty38 rfl (.al zo38 rfl (.st ty38 rfl rfl rfl (.nil (.freeze (t := 16) rfl rfl SubB.nil rfl (.block (.sn mx (.fa fd40_1 hfd40_1 rfl (.ld ty3 rfl (.eqi rfl (.asn rfl (.nil (.cb rfl h (fun _ h => ?_) fun _ h => ?_))))))))))))))))))))))
      ·
       exact .skip (.blkNormal (.blkNormal (Ends.j _ (some_eq h))))
      ·
       refine .sn mx (.mv rfl (.c (.not .none (.s rfl)) (.asn rfl (.nil (.cb rfl h (fun _ h => ?_) fun _ h => ?_)))))
       ·
        obtain ⟨right1, hv12, h⟩ := bnd_some h
        obtain ⟨bottom1, hv13, h⟩ := bnd_some h
        exact .rn mx (.fa fd38_0 hfd38_0 rfl (.ld ty3 rfl (.fa fd38_1 hfd38_1 rfl (.ld ty3 rfl (.fa fd38_0 hfd38_0 rfl (.ld ty3 rfl (.fa fd38_2 hfd38_2 rfl (.ld ty3 rfl (.add rfl rfl (.fa fd38_1 hfd38_1 rfl (.ld ty3 rfl (.fa fd38_3 hfd38_3 rfl (.ld ty3 rfl (.add rfl rfl (.asn rfl (.asn rfl (.ra hv12 rfl (.ra hv13 rfl (.asb (.nil (.blkNormal (.blkNormal (Ends.j _ (some_eq h))))))))))))))))))))))))
       ·
        obtain ⟨left1, hv14, h⟩ := bnd_some h
        obtain ⟨top1, hv15, h⟩ := bnd_some h
        obtain ⟨right2, hv16, h⟩ := bnd_some h
        obtain ⟨bottom2, hv17, h⟩ := bnd_some h
        exact .rn mx (.mv rfl (.fa fd38_0 hfd38_0 rfl (.ld ty3 rfl (.c (.min2 .none (.s rfl) (.s rfl)) (.mv rfl (.fa fd38_1 hfd38_1 rfl (.ld ty3 rfl (.c (.min2 .none (.s rfl) (.s rfl)) (.mv rfl (.fa fd38_0 hfd38_0 rfl (.ld ty3 rfl (.fa fd38_2 hfd38_2 rfl (.ld ty3 rfl (.add rfl rfl (.c (.max2 .none (.s rfl) (.s rfl)) (.mv rfl (.fa fd38_1 hfd38_1 rfl (.ld ty3 rfl (.fa fd38_3 hfd38_3 rfl (.ld ty3 rfl (.add rfl rfl (.c (.max2 .none (.s rfl) (.s rfl)) (.ra hv14 rfl (.ra hv15 rfl (.ra hv16 rfl (.ra hv17 rfl (.nil (.blkNormal (.blkNormal (Ends.j _ (some_eq h)))))))))))))))))))))))))))))))
     ·
      subst hj7; have h := hK7; clear hK7
      exact .rn mx (.adi rfl (.mv rfl (.nil (Ends.ag (some_eq h)))))
    ·
     refine .exit (.thenExit (.thenExit (.blkExit ?_)))
     replace h := hD5 _ (some_eq h)
     exact Ends.j _ (some_eq h)
   ·
    subst hj4; have h := hK4; clear hK4
    refine .seq (.sn mx (.mv rfl (.c (.not .none (.s rfl)) (.nil (.cb rfl h (fun _ h => ?_) fun _ h => ?_)))))
    ·
     refine .sn mx (.c (.assign .none (.str (l := []) (by decide))) (.asi (.nil (.ret (.thenRet ?_)))))
     obtain rfl := some_eq h
     exact Ends.ret2 (.inl rfl) Tryz.results4 (ResOK.tmp rfl trivial Imp.refl) (ResOK.tmp rfl trivial Imp.refl)
    ·
     obtain ⟨hn19, h⟩ := need_some h
     obtain ⟨hn20, h⟩ := need_some h
     obtain ⟨columns1, hv21, h⟩ := bnd_some h
     obtain ⟨rows1, hv22, h⟩ := bnd_some h
     refine .skip (.then (.sn mx (.mv rfl (.mv rfl (.sub rfl rfl (.mv rfl (.add rfl rfl (.c (.subW .none (.s rfl) .i) (.mv rfl (.c (.quo .none (.s rfl) (.s rfl) (fun _ => hn19)) (.mv rfl (.mv rfl (.sub rfl rfl (.mv rfl (.add rfl rfl (.c (.subW .none (.s rfl) .i) (.mv rfl (.c (.quo .none (.s rfl) (.s rfl) (fun _ => hn20)) (.ra hv21 rfl (.ra hv22 rfl (.nil (.seq (.sn mx (.mv rfl (.c (.gt .none (.s rfl) .i) (.mv rfl (.mg rfl rfl rfl (.c (.gt (.at rfl rfl) (.tmp rfl id) .i) (.po rfl rfl (.nil (.cb rfl h (fun _ h => ?_) fun _ h => ?_)))))))))))))))))))))))))))))))
     ·
      refine .sn mx (.c (.assign .none (.str (l := []) (by decide))) (.asi (.nil (.ret (.thenRet ?_)))))
      obtain rfl := some_eq h
      exact Ends.ret2 (.inl rfl) Tryz.results4 (ResOK.tmp rfl trivial Imp.refl) (ResOK.tmp rfl trivial Imp.refl)
     ·
      obtain ⟨hn24, h⟩ := need_some h
      refine .skip (.then (.sr [oo, ([], [135]), ([135], [19, 135])] mx (.mvA rfl (.cW (.post1 (.makeSlice rkraw41 zraw42 rfl (.s rfl) (.s rfl) hn24) (fun M D v w h => rowD_nils (E2 := 5) (mk := mkR) (sub := subR) (a := ([] : (List (KI .u8)))) rfl rfl h)) ?_))))
      obtain ⟨grid1, hv25, h⟩ := bnd_some h
      refine .cW (.passRow rfl (.tmp rfl)) (.nil (.reB (t := 19) rfl (congrArg (rowD 42 5 mkR subR []) hv25) (.nameC (t := 19) (g := 5001) oneRowD rfl rfl rfl (fun s5001 => (.seq (.sr [oo, ([5001], []), oo] mx (.mvA rfl (.cA (.lenD (k := 5001) sl41 (.s rfl) rfl) (.cA (.move .none .i) (.nil ?_))))))))))
      obtain ⟨j_26, h, hK26⟩ := bind_some h
      refine .thenJ (ι := (List (List (KI .u8)))) (fun j_26 => []) (fun j_26 => [(5001, some (CPred.at s5001 (rowD 42 5 mkR subR [] j_26)))]) (fun s => j_26 = s) (.k4 1 2 3 9 rfl rfl rfl rfl (.k4 10 17 18 19 rfl rfl rfl rfl .nil)) SubB.nil ?_ (fun j_26' hj26 => ?_)
      ·
       refine .block (.rforL h (fun p27_ => [(138, ⟨True, rep p27_.1⟩)]) (fun p27_ => [(5001, some (CPred.at s5001 (rowD 42 5 mkR subR [] p27_.2)))]) (.k 138 rfl .nil) (.k 5001 rfl .nil) (.k4 1 2 3 9 rfl rfl rfl rfl (.k4 10 17 18 19 rfl rfl rfl rfl (.k 137 rfl .nil))) SubB.nil (fun p27_ o_27 h hD27 => (.sn mx (.lt rfl rfl (.nil (.seq (.cb rfl h (fun _ h => ?_) fun _ h => ?_)))))))
       ·
        refine .skip (.then (.seq ?_))
        obtain ⟨j_29, h, hK29⟩ := bind_some h
        unfold desk_Sketch_L2 at h
        refine .thenJ (ι := (List (List (KI .u8)))) (fun j_29 => []) (fun j_29 => [(5001, some (CPred.at s5001 (rowD 42 5 mkR subR [] j_29)))]) (fun s => j_29 = s) (.k4 1 2 3 9 rfl rfl rfl rfl (.k4 10 17 18 19 rfl rfl rfl rfl (.k2 137 138 rfl rfl .nil))) SubB.nil ?_ (fun j_29' hj29 => ?_)
        ·
         obtain ⟨r1, hv30, h⟩ := bind_some h
         obtain ⟨hn31, h⟩ := need_some h
         obtain ⟨hn32, h⟩ := need_some h
         exact .block (.sn mx (.mv rfl (.asn rfl (.nil (.rg [oo, oo, oo, oo, ([], [145]), ([5001], []), ([5001, 145], [5001, 145])] mx (.mvA rfl (.mvA rfl (.mvA rfl (.cA (.call .none (strings_Repeat_ok hv30) (.cons (.str (l := [46]) (by decide)) (.cons (.s rfl) .nil))) (.cW (.strBytesO rfl Tryz.underlying9 Tryz.underlying42 Tryz.underlying5 (.s rfl) hn31) (.cA (.indexAddrD (k := 5001) sl41 tr42 (.s rfl) rfl (.s rfl) hn32) (.cN (.storeElemD (k := 5001) (t := 145) (set := fun _ z => z) (hs' := []) (bytesL r1) ty42 (.s rfl) rfl .self rfl hn32 rfl (by simp) (by simp) (fun _ _ => rfl) rfl) (.nil (.blkNormal (Ends.j _ (some_eq h))))))))))))))))
        ·
         subst hj29; have h := hK29; clear hK29
         exact .rn mx (.adi rfl (.mv rfl (.nil (Ends.ag (some_eq h)))))
       ·
        refine .exit (.thenExit (.thenExit (.blkExit ?_)))
        replace h := hD27 _ (some_eq h)
        exact Ends.j _ (some_eq h)
      ·
       subst hj26; have h := hK26; clear hK26
       obtain ⟨r2, hv33, h⟩ := bind_some h
       refine .seq (.sn mx (.ld ty25 rfl (.c (.call .none (desk_lanes_ok hv33) (.cons (.s rfl) .nil)) (.ln sl44 rfl (.mvi (.nil ?_))))))
       obtain ⟨j_34, h, hK34⟩ := bind_some h
       refine .thenJ (ι := (List (List (KI .u8)))) (fun j_34 => []) (fun j_34 => [(5001, some (CPred.at s5001 (rowD 42 5 mkR subR [] j_34)))]) (fun s => j_34 = s) (.k4 1 2 3 9 rfl rfl rfl rfl (.k2 10 19 rfl rfl .nil)) SubB.nil ?_ (fun j_34' hj34 => ?_)
       ·
        refine .block (.rforL h (fun p35_ => [(151, ⟨True, rep p35_.1⟩)]) (fun p35_ => [(5001, some (CPred.at s5001 (rowD 42 5 mkR subR [] p35_.2)))]) (.k 151 rfl .nil) (.k 5001 rfl .nil) (.k4 1 2 3 9 rfl rfl rfl rfl (.k4 10 17 18 19 rfl rfl rfl rfl (.k2 149 150 rfl rfl .nil))) SubB.nil (fun p35_ o_35 h hD35 => (.sn mx (.lt rfl rfl (.nil (.seq (.cb rfl h (fun _ h => ?_) fun _ h => ?_)))))))
        ·
         refine .skip (.then (.seq ?_))
         obtain ⟨j_37, h, hK37⟩ := bind_some h
         unfold desk_Sketch_L3 at h
         refine .thenJ (ι := (List (List (KI .u8)))) (fun j_37 => []) (fun j_37 => [(5001, some (CPred.at s5001 (rowD 42 5 mkR subR [] j_37)))]) (fun s => j_37 = s) (.k4 1 2 3 9 rfl rfl rfl rfl (.k4 10 17 18 19 rfl rfl rfl rfl (.k2 149 150 rfl rfl (.k 151 rfl .nil)))) SubB.nil ?_ (fun j_37' hj37 => ?_)
         ·
          obtain ⟨hn38, h⟩ := need_some h
          obtain ⟨v2, hv39, h⟩ := bnd_some h
          obtain ⟨v3, hv40, h⟩ := bnd_some h
          obtain ⟨v4, hv41, h⟩ := bnd_some h
          obtain ⟨v5, hv42, h⟩ := bnd_some h
          obtain ⟨v6, hv43, h⟩ := bnd_some h
          obtain ⟨r3, hv44, h⟩ := bind_some h
          obtain ⟨i1, hv45, h⟩ := bnd_some h
          refine .block (.sr [oo, oo, ([], [22]), ([22], [22])] mx (.ixA sl44 ty48 rfl rfl hn38 (.rlA hv39 ty48 rfl (.al zo48 rfl (.st ty48 rfl rfl rfl (.nil (.freeze (t := 22) rfl rfl (.k 5001 rfl .nil) rfl (.sr [oo, oo, oo, oo, ([], [23]), ([], [24]), ([23], [23]), ([24], [24])] mx (.cA (.indexAddrA .none ao48 ty47 (.s rfl) .i (fun _ => by decide)) (.rlA hv40 ty47 rfl (.cA (.indexAddrA .none ao48 ty47 (.s rfl) .i (fun _ => by decide)) (.rlA hv41 ty47 rfl (.al zo47 rfl (.al zo47 rfl (.st ty47 rfl rfl rfl (.st ty47 rfl rfl rfl (.nil (.freeze (t := 23) rfl rfl (.k2 24 5001 rfl rfl .nil) rfl (.freeze (t := 24) rfl rfl (.k 5001 rfl .nil) rfl (.sr [oo, oo, oo, oo, oo, oo, oo, oo, oo, oo, oo, ([], [25]), ([25], [25])] mx (.faA fd47_0 hfd47_0 rfl (.ldA ty3 rfl (.faA fd47_0 hfd47_0 rfl (.ldA ty3 rfl (.cA (.min2 .none (.s rfl) (.s rfl)) (.faA fd47_1 hfd47_1 rfl (.ldA ty3 rfl (.faA fd47_1 hfd47_1 rfl (.ldA ty3 rfl (.cA (.min2 .none (.s rfl) (.s rfl)) (.cA (.re hv42 (.buildF (y := (⟨min v3.X v4.X, min v3.Y v4.Y⟩ : Point)) .none bu47 zc47 rfl (.cons (.s rfl) (.cons (.s rfl) .nil)) (.cons rfl sf47_0 (.cons rfl sf47_1 .nil)))) (.al zo47 rfl (.st ty47 rfl rfl rfl (.nil (.freeze (t := 25) rfl rfl (.k 5001 rfl .nil) rfl (.sr [oo, oo, oo, oo, oo, oo, oo, oo, oo, oo, oo, ([], [26]), ([26], [26])] mx (.faA fd47_0 hfd47_0 rfl (.ldA ty3 rfl (.faA fd47_0 hfd47_0 rfl (.ldA ty3 rfl (.cA (.max2 .none (.s rfl) (.s rfl)) (.faA fd47_1 hfd47_1 rfl (.ldA ty3 rfl (.faA fd47_1 hfd47_1 rfl (.ldA ty3 rfl (.cA (.max2 .none (.s rfl) (.s rfl)) (.cA (.re hv43 (.buildF (y := (⟨max v3.X v4.X, max v3.Y v4.Y⟩ : Point)) .none bu47 zc47 rfl (.cons (.s rfl) (.cons (.s rfl) .nil)) (.cons rfl sf47_0 (.cons rfl sf47_1 .nil)))) (.al zo47 rfl (.st ty47 rfl rfl rfl (.nil (.freeze (t := 26) rfl rfl (.k 5001 rfl .nil) rfl ?_)))))))))))))))))))))))))))))))))))))))))))))))))))
          refine .sn mx (.fa fd47_1 hfd47_1 rfl (.ld ty3 rfl (.mv rfl (.sub rfl rfl (.mv rfl (.c (.call .none (desk_floor_ok hv44) (.cons (.s rfl) (.cons (.s rfl) .nil))) (.c (.max2 .none (.s rfl) .i) (.ra hv45 rfl (.nil (.block (.loopL h (fun s46_ => [(27, ⟨True, rep s46_.1⟩)]) (fun s46_ => [(5001, some (CPred.at s5001 (rowD 42 5 mkR subR [] s46_.2)))]) (.k 27 rfl .nil) (.k 5001 rfl .nil) (.k4 1 2 3 9 rfl rfl rfl rfl (.k4 10 17 18 19 rfl rfl rfl rfl (.k4 25 26 149 150 rfl rfl rfl rfl (.k 151 rfl .nil)))) SubB.nil (fun s46_ o_46 h hD46 => ?_))))))))))))
          unfold desk_Sketch_L4 at h
          refine .seq (.sn mx (.mv rfl (.mv rfl (.lt rfl rfl (.mv rfl (.mg rfl rfl rfl (.mg rfl rfl rfl (.mg rfl rfl rfl (.c (.mulW (.at rfl rfl) (.tmp rfl id) (.tmp rfl id)) (.c (.addW (.at rfl rfl) (.tmp rfl id) (.tmp rfl id)) (.fg fd47_1 hfd47_1 rfl rfl rfl (.lg ty3 rfl rfl rfl (.c (.le (.at rfl rfl) (.tmp rfl id) (.tmp rfl id)) (.pa rfl rfl (.nil (.cb rfl h (fun _ h => ?_) fun _ h => ?_))))))))))))))))
          ·
           refine .skip (.then (.seq ?_))
           obtain ⟨j_48, h, hK48⟩ := bind_some h
           refine .thenJ (ι := (List (List (KI .u8)))) (fun j_48 => []) (fun j_48 => [(5001, some (CPred.at s5001 (rowD 42 5 mkR subR [] j_48)))]) (fun s => j_48 = s) (.k4 1 2 3 9 rfl rfl rfl rfl (.k4 10 17 18 19 rfl rfl rfl rfl (.k4 25 26 27 149 rfl rfl rfl rfl (.k2 150 151 rfl rfl .nil)))) SubB.nil ?_ (fun j_48' hj48 => ?_)
           ·
            obtain ⟨r4, hv49, h⟩ := bind_some h
            obtain ⟨k1, hv50, h⟩ := bnd_some h
            refine .block (.sn mx (.fa fd47_0 hfd47_0 rfl (.ld ty3 rfl (.mv rfl (.sub rfl rfl (.mv rfl (.c (.call .none (desk_floor_ok hv49) (.cons (.s rfl) (.cons (.s rfl) .nil))) (.c (.max2 .none (.s rfl) .i) (.ra hv50 rfl (.nil (.block (.loopL h (fun s51_ => [(28, ⟨True, rep s51_.1⟩)]) (fun s51_ => [(5001, some (CPred.at s5001 (rowD 42 5 mkR subR [] s51_.2)))]) (.k 28 rfl .nil) (.k 5001 rfl .nil) (.k4 1 2 3 9 rfl rfl rfl rfl (.k4 10 17 18 19 rfl rfl rfl rfl (.k4 25 26 27 149 rfl rfl rfl rfl (.k2 150 151 rfl rfl .nil)))) SubB.nil (fun s51_ o_51 h hD51 => ?_)))))))))))))
            unfold desk_Sketch_L5 at h
            refine .seq (.sn mx (.mv rfl (.mv rfl (.lt rfl rfl (.mv rfl (.mg rfl rfl rfl (.mg rfl rfl rfl (.mg rfl rfl rfl (.c (.mulW (.at rfl rfl) (.tmp rfl id) (.tmp rfl id)) (.c (.addW (.at rfl rfl) (.tmp rfl id) (.tmp rfl id)) (.fg fd47_0 hfd47_0 rfl rfl rfl (.lg ty3 rfl rfl rfl (.c (.le (.at rfl rfl) (.tmp rfl id) (.tmp rfl id)) (.pa rfl rfl (.nil (.cb rfl h (fun _ h => ?_) fun _ h => ?_))))))))))))))))
            ·
             obtain ⟨hn53, h⟩ := need_some h
             obtain ⟨hn54, h⟩ := need_some h
             obtain ⟨hn55, h⟩ := need_some h
             obtain ⟨grid2, hv56, h⟩ := bnd_some h
             obtain ⟨k2, hv57, h⟩ := bnd_some h
             exact .skip (.then (.seq (.block (.openD (k := 5001) (g := 5002) (i := s46_.1) rfl rfl hn53 noHole (fun s5002 => (.rg [oo, oo, ([5001], []), ([5001], []), oo, ([5002], []), ([5002], [5002])] mx (.mvA rfl (.mvA rfl (.cA (.indexAddrD (k := 5001) sl41 tr42 (.s rfl) rfl (.s rfl) hn54) (.cA (.loadElemD (k := 5001) (proj := fun x => x) (y := (⟨s5002⟩ : Raw)) (z := s5002) tr42 (.s rfl) rfl .id hn54 (by simp) rfl) (.mvA rfl (.ixO 5002 sl42 ty5 rfl rfl rfl hn55 (.cN (.storeElem0 (k := 5002) ty5 (.s rfl) rfl .ki hn55) (.nil (.blkNormal (.then (.closeD (k := 5001) (g := 5002) ((gx s51_.2 s46_.1).set s51_.1.toNat (⟨42⟩ : KI .u8)) rfl rfl rfl hn53 noHole (fun _ => rfl) rfl (.reB (t := 5001) rfl (congrArg (fun y => CPred.at s5001 (rowD 42 5 mkR subR [] y)) hv56) (.rn mx (.mv rfl (.adi rfl (.ra hv57 rfl (.nil (Ends.ag (some_eq h)))))))))))))))))))))))))
            ·
             refine .exit (.thenExit (.thenExit (.blkExit (.blkNormal ?_))))
             replace h := hD51 _ (some_eq h)
             exact Ends.j _ (some_eq h)
           ·
            subst hj48; have h := hK48; clear hK48
            obtain ⟨i2, hv58, h⟩ := bnd_some h
            exact .rn mx (.mv rfl (.adi rfl (.ra hv58 rfl (.nil (Ends.ag (some_eq h))))))
          ·
           refine .exit (.thenExit (.thenExit (.blkExit (.blkNormal ?_))))
           replace h := hD46 _ (some_eq h)
           exact Ends.j _ (some_eq h)
         ·
          subst hj37; have h := hK37; clear hK37
          exact .rn mx (.adi rfl (.mv rfl (.nil (Ends.ag (some_eq h)))))
        ·
         refine .exit (.thenExit (.thenExit (.blkExit ?_)))
         replace h := hD35 _ (some_eq h)
         exact Ends.j _ (some_eq h)
       ·
        subst hj34; have h := hK34; clear hK34
        obtain ⟨find1, hv59, h⟩ := bind_some h
        refine .sn mx (.ld ty25 rfl (.c (.call .none (page_Finder_ok hv59) (.cons (.s rfl) .nil)) (.asn rfl (.nil (.seq (.sr [oo, ([5001], []), oo] mx (.mvA rfl (.cA (.lenD (k := 5001) sl41 (.s rfl) rfl) (.cA (.move .none .i) (.nil ?_))))))))))
        obtain ⟨j_60, h, hK60⟩ := bind_some h
        refine .thenJ (ι := (List (List (KI .u8)))) (fun j_60 => []) (fun j_60 => [(5001, some (CPred.at s5001 (rowD 42 5 mkR subR [] j_60)))]) (fun s => j_60 = s) (.k2 19 234 rfl rfl .nil) SubB.nil ?_ (fun j_60' hj60 => ?_)
        ·
         refine .block (.rforL h (fun p61_ => [(236, ⟨True, rep p61_.1⟩)]) (fun p61_ => [(5001, some (CPred.at s5001 (rowD 42 5 mkR subR [] p61_.2)))]) (.k 236 rfl .nil) (.k 5001 rfl .nil) (.k4 1 2 9 10 rfl rfl rfl rfl (.k4 19 29 234 235 rfl rfl rfl rfl .nil)) SubB.nil (fun p61_ o_61 h hD61 => (.sn mx (.lt rfl rfl (.nil (.seq (.cb rfl h (fun _ h => ?_) fun _ h => ?_)))))))
         ·
          refine .skip (.then (.seq ?_))
          obtain ⟨j_63, h, hK63⟩ := bind_some h
          unfold desk_Sketch_L6 at h
          refine .thenJ (ι := (List (List (KI .u8)))) (fun j_63 => []) (fun j_63 => [(5001, some (CPred.at s5001 (rowD 42 5 mkR subR [] j_63)))]) (fun s => j_63 = s) (.k4 1 2 9 10 rfl rfl rfl rfl (.k4 19 29 234 235 rfl rfl rfl rfl (.k 236 rfl .nil))) SubB.nil ?_ (fun j_63' hj63 => ?_)
          ·
           obtain ⟨hn64, h⟩ := need_some h
           obtain ⟨hn65, h⟩ := need_some h
           obtain ⟨row1, hv66, h⟩ := bnd_some h
           refine .block (.seq (.openD (k := 5001) (g := 5003) (i := p61_.1) rfl rfl hn64 noHole (fun s5003 => (.rg [oo, ([5001], []), ([5001], []), oo, oo] mx (.mvA rfl (.cA (.indexAddrD (k := 5001) sl41 tr42 (.s rfl) rfl (.s rfl) hn65) (.cA (.loadElemD (k := 5001) (proj := fun x => x) (y := (⟨s5003⟩ : Raw)) (z := s5003) tr42 (.s rfl) rfl .id hn65 (by simp) rfl) (.asnA rfl (.asnA rfl (.nil (.then (.reB (t := 5003) rfl (congrArg (fun y => CPred.at s5003 (rowV 5 y)) hv66) (.sr [oo, ([5003], []), oo] mx (.mvA rfl (.cA (.lenO (k := 5003) sl42 (.told (.s rfl) rfl)) (.cA (.move .none .i) (.nil ?_)))))))))))))))))
           obtain ⟨j_67, h, hK67⟩ := bind_some h
           refine .tailJ (ι := (List (KI .u8))) (fun j_67 => []) (fun j_67 => [(5003, some (CPred.at s5003 (rowV 5 j_67)))]) (fun s => j_67 = s) (.k4 1 2 9 10 rfl rfl rfl rfl (.k4 19 29 31 234 rfl rfl rfl rfl (.k2 235 236 rfl rfl .nil))) (.k 5001 rfl .nil) ?_ (fun j_67' hj67 => ?_)
           ·
            refine .block (.rforL h (fun p68_ => [(243, ⟨True, rep p68_.1⟩)]) (fun p68_ => [(5003, some (CPred.at s5003 (rowV 5 p68_.2)))]) (.k 243 rfl .nil) (.k 5003 rfl .nil) (.k4 1 2 9 10 rfl rfl rfl rfl (.k4 19 29 30 31 rfl rfl rfl rfl (.k4 234 235 236 242 rfl rfl rfl rfl .nil))) (.k 5001 rfl .nil) (fun p68_ o_68 h hD68 => (.sn mx (.lt rfl rfl (.nil (.seq (.cb rfl h (fun _ h => ?_) fun _ h => ?_)))))))
            ·
             refine .skip (.then (.seq ?_))
             obtain ⟨j_70, h, hK70⟩ := bind_some h
             unfold desk_Sketch_L7 at h
             refine .thenJ (ι := (List (KI .u8))) (fun j_70 => []) (fun j_70 => [(5003, some (CPred.at s5003 (rowV 5 j_70)))]) (fun s => j_70 = s) (.k4 1 2 9 10 rfl rfl rfl rfl (.k4 19 29 30 31 rfl rfl rfl rfl (.k4 234 235 236 242 rfl rfl rfl rfl (.k 243 rfl .nil)))) (.k 5001 rfl .nil) ?_ (fun j_70' hj70 => ?_)
             ·
              obtain ⟨r5, hv71, h⟩ := bind_some h
              refine .block (.sn mx (.mv rfl (.asn rfl (.nil (.sr [oo, oo, oo, oo, oo, oo, oo, oo, oo, oo, oo, oo, oo, oo, oo, oo, oo, oo, oo, oo, oo, oo, ([], [33]), ([33], [33]), oo] mx (.mvA rfl (.mvA rfl (.mvA rfl (.mvA rfl (.cA (.mulW .none (.s rfl) (.s rfl)) (.addA rfl rfl (.mvA rfl (.cA (.quo .none (.s rfl) .i (fun _ => by decide)) (.addA rfl rfl (.mvA rfl (.mvA rfl (.mvA rfl (.cA (.mulW .none (.s rfl) (.s rfl)) (.addA rfl rfl (.mvA rfl (.cA (.quo .none (.s rfl) .i (fun _ => by decide)) (.addA rfl rfl (.cA (.buildF (y := (⟨W ((W (j_4.1 + (W (w1 * p68_.1)))) + (w1.tdiv 2)), W ((W (j_4.2.1 + (W (h1 * p61_.1)))) + (h1.tdiv 2))⟩ : Point)) .none bu47 zc47 rfl (.cons (.s rfl) (.cons (.s rfl) .nil)) (.cons rfl sf47_0 (.cons rfl sf47_1 .nil))) (.cA (.callV ((⟨W ((W (j_4.1 + (W (w1 * p68_.1)))) + (w1.tdiv 2)), W ((W (j_4.2.1 + (W (h1 * p61_.1)))) + (h1.tdiv 2))⟩ : Point), r5) .none (.s rfl) (fun _ => hv71) (.cons (.s rfl) .nil)) (.mvA rfl (.exA rfl rfl (.exA rfl rfl (.al zo40 rfl (.st ty40 rfl rfl rfl (.asnA rfl (.nil (.freeze (t := 33) rfl rfl (.k2 5001 5003 rfl rfl .nil) rfl (.sn mx (.mv rfl (.nil (.cb rfl h (fun _ h => ?_) fun _ h => ?_))))))))))))))))))))))))))))))))))))
              ·
               obtain ⟨hn73, h⟩ := need_some h
               obtain ⟨v7, hv74, h⟩ := bnd_some h
               obtain ⟨hn75, h⟩ := need_some h
               exact .rg [oo, oo, oo, oo, oo, ([5003], []), ([5003], [5003])] mx (.mvA rfl (.mvA rfl (.faA fd40_0 hfd40_0 rfl (.ldA ty9 rfl (.cA (.re hv74 (.indexStr .none Tryz.underlying9 (.s rfl) .i (fun _ => hn73))) (.ixO 5003 sl42 ty5 rfl rfl rfl hn75 (.cN (.storeElem0 (k := 5003) ty5 (.s rfl) rfl (.s rfl) hn75) (.nil (.blkNormal (Ends.j _ (some_eq h)))))))))))
              ·
               exact .skip (.blkNormal (Ends.j _ (some_eq h)))
             ·
              subst hj70; have h := hK70; clear hK70
              exact .rn mx (.adi rfl (.mv rfl (.nil (Ends.ag (some_eq h)))))
            ·
             refine .exit (.thenExit (.thenExit (.blkExit ?_)))
             replace h := hD68 _ (some_eq h)
             exact Ends.j _ (some_eq h)
           ·
            subst hj67; have h := hK67; clear hK67
            exact .blkNormal (.closeD (k := 5001) (g := 5003) j_67 rfl rfl rfl hn64 noHole (fun _ => rfl) rfl (Ends.j _ (some_eq h)))
          ·
           subst hj63; have h := hK63; clear hK63
           exact .rn mx (.adi rfl (.mv rfl (.nil (Ends.ag (some_eq h)))))
         ·
          refine .exit (.thenExit (.thenExit (.blkExit ?_)))
          replace h := hD61 _ (some_eq h)
          exact Ends.j _ (some_eq h)
        ·
         subst hj60; have h := hK60; clear hK60
         refine .freezeAt (g := 5001) (S := rep j_60) (ts := [19]) rfl (.cons (t := 19) rfl trivial .nil) SubB.nil rfl (fun M D w h hms => rowR_rep h hms) ?_
         obtain ⟨b1, hv76, h⟩ := bnd_some h
         refine .sr [([], [35])] mx (.cW (.post1 (.alloc zbld55 rfl) bld_new) (.nil (.reB (t := 35) rfl (congrArg (bldC 55 5) hv76) (.nameAt (t := 35) (g := 5004) rfl rfl isBox_bld rfl (fun m5004 => (.seq (.sn mx (.mv rfl (.ln sl41 rfl (.mvi (.nil ?_)))))))))))
         obtain ⟨j_77, h, hK77⟩ := bind_some h
         refine .thenJ (ι := Str) (fun j_77 => []) (fun j_77 => [(5004, some (CPred.at (ptr m5004 0) (bldC 55 5 j_77)))]) (fun s => j_77 = s) (.k 35 rfl .nil) SubB.nil ?_ (fun j_77' hj77 => ?_)
         ·
          refine .block (.rforL h (fun p78_ => [(279, ⟨True, rep p78_.1⟩)]) (fun p78_ => [(5004, some (CPred.at (ptr m5004 0) (bldC 55 5 p78_.2)))]) (.k 279 rfl .nil) (.k 5004 rfl .nil) (.k2 35 277 rfl rfl (.k 278 rfl .nil)) SubB.nil (fun p78_ o_78 h hD78 => (.sn mx (.lt rfl rfl (.nil (.seq (.cb rfl h (fun _ h => ?_) fun _ h => ?_)))))))
          ·
           refine .skip (.then (.seq ?_))
           obtain ⟨j_80, h, hK80⟩ := bind_some h
           unfold desk_Sketch_L8 at h
           refine .thenJ (ι := Str) (fun j_80 => []) (fun j_80 => [(5004, some (CPred.at (ptr m5004 0) (bldC 55 5 j_80)))]) (fun s => j_80 = s) (.k4 35 277 278 279 rfl rfl rfl rfl .nil) SubB.nil ?_ (fun j_80' hj80 => ?_)
           ·
            obtain ⟨hn81, h⟩ := need_some h
            obtain ⟨hn82, h⟩ := need_some h
            obtain ⟨r6, hv83, h⟩ := bind_some h
            exact .block (.sn mx (.ix sl41 ty42 rfl rfl hn81 (.ld ty42 rfl (.asn rfl (.nil (.rg [oo, oo, oo, ([5004], [5004])] mx (.mvA rfl (.cA (.bytesStr .none Tryz.underlying42 Tryz.underlying5 Tryz.underlying9 (.s rfl)) (.cA (.addStr .none (.s rfl) (.str (l := [10]) (by decide)) (fun _ => hn82)) (.cW (.cO [5004] (strings_Builder_WriteString_ok hv83) (.cons (.s rfl) (.cons (.s rfl) .nil)) (.cons (k := 5004) rfl .nil) rfl) (.nil (.blkNormal (Ends.j _ (some_eq h))))))))))))))
           ·
            subst hj80; have h := hK80; clear hK80
            exact .rn mx (.adi rfl (.mv rfl (.nil (Ends.ag (some_eq h)))))
          ·
           refine .exit (.thenExit (.thenExit (.blkExit ?_)))
           replace h := hD78 _ (some_eq h)
           exact Ends.j _ (some_eq h)
         ·
          subst hj77; have h := hK77; clear hK77
          obtain ⟨r7, hv84, h⟩ := bind_some h
          refine .sr [([5004], [5004]), oo, oo] mx (.cW (.cO [5004] (strings_Builder_String_ok hv84) (.cons (.s rfl) .nil) (.cons (k := 5004) rfl .nil) rfl) (.asnA rfl (.cA (.assign .none .i) (.nil (.ret ?_)))))
          obtain rfl := some_eq h
          exact Ends.ret2 (.inl rfl) Tryz.results4 (ResOK.tmp rfl trivial Imp.refl) (ResOK.tmp rfl trivial Imp.refl)

theorem ref_nodeError_1_ok {m1 : DNode} {c0_1 : DNode} {r : Bool}  (h : ref_nodeError_1 m1 c0_1 = some r) : FSpec Tryz.prog 42 [rep m1, ref c0_1] (rep r) := by
 unfold ref_nodeError_1 at h
 refine FSpec.i Tryz.func42 rfl Tryz.ntmps42 rfl (fun F => (.sn mx (.c (.box .none (.s rfl)) (.asb (.nil (.sn mx (.fa fd40_0 hfd40_0 rfl (.ld ty9 rfl (.fa fd40_0 hfd40_0 rfl (.ld ty9 rfl (.c (.eqS .none (eqAt_str Tryz.underlying9) (.s rfl) (.s rfl)) (.asn rfl (.nil (.ret ?_))))))))))))))
 obtain rfl := some_eq h
 exact Ends.rt Tryz.results42 rfl

theorem slices_IndexFunc_Node_ok {s1 : (List DNode)} {f1 : (DNode → Option Bool)} {r : Int}  (h : slices_IndexFunc_Node s1 f1 = some r) : FSpec Tryz.prog 82 [rep s1, fn1 Tryz.prog (rep (α := Bool)) f1] (rep r) := by
 unfold slices_IndexFunc_Node at h
 refine FSpec.i Tryz.func82 rfl Tryz.ntmps82 rfl (fun F => (.sn mx (.asi (.nil (.seq (.sn mx (.mv rfl (.ln sl22 rfl (.mvi (.nil ?_))))))))))
 obtain ⟨o_1, h, hK1⟩ := bindR_some h
 refine .tJ (fun s => o_1 = Res.nx s) Sub.nil SubB.nil ?_ (fun j_1 hj1 => ?_)
 ·
  refine .block (.rforEL h (fun p2_ => [(8, ⟨True, rep p2_.1⟩)]) (fun p2_ => []) (.k 8 rfl .nil) SubB.nil (.k2 0 1 rfl rfl (.k 7 rfl .nil)) SubB.nil (fun p2_ o_2 h hD2 => (.sn mx (.lt rfl rfl (.nil (.seq (.cb rfl h (fun _ h => ?_) fun _ h => ?_)))))))
  ·
   refine .skip (.then (.seq ?_))
   obtain ⟨o_4, h, hK4⟩ := bindD_some h
   unfold slices_IndexFunc_Node_L1 at h
   refine .tJ (fun s => o_4 = Res.nx s) (.k4 0 1 7 8 rfl rfl rfl rfl .nil) SubB.nil ?_ (fun j_4 hj4 => ?_)
   ·
    obtain ⟨hn5, h⟩ := need_some h
    obtain ⟨r1, hv6, h⟩ := bind_some h
    refine .block (.sn mx (.mv rfl (.asn rfl (.nil (.sn mx (.mv rfl (.mv rfl (.mv rfl (.ix sl22 ty40 rfl rfl hn5 (.ld ty40 rfl (.c (.callV (gx s1 p2_.1, r1) .none (.s rfl) (fun _ => hv6) (.cons (.s rfl) .nil)) (.nil (.cb rfl h (fun _ h => ?_) fun _ h => ?_)))))))))))))
    ·
     refine .sn mx (.mv rfl (.asn rfl (.nil (.ret (.blkRet (.thenRet (.thenRet (.blkRet (.thenRet ?_)))))))))
     replace h := resd_ab hK4 (some_eq h)
     replace h := hD2 _ (some_eq h)
     replace h := resb_ab hK1 (some_eq h)
     obtain rfl := some_eq h
     exact Ends.rt Tryz.results82 rfl
    ·
     exact .skip (.blkNormal (Ends.j _ (some_eq h)))
   ·
    have h := resd_nx hK4 hj4
    exact .rn mx (.adi rfl (.mv rfl (.nil (Ends.ag (some_eq h)))))
  ·
   refine .exit (.thenExit (.thenExit (.blkExit ?_)))
   replace h := hD2 _ (some_eq h)
   exact Ends.j _ (some_eq h)
 ·
  have h := resb_nx hK1 hj1
  refine .sn mx (.asi (.nil (.ret ?_)))
  obtain rfl := some_eq h
  exact Ends.rt Tryz.results82 rfl

theorem slices_ContainsFunc_Node_ok {s1 : (List DNode)} {f1 : (DNode → Option Bool)} {r : Bool}  (h : slices_ContainsFunc_Node s1 f1 = some r) : FSpec Tryz.prog 41 [rep s1, fn1 Tryz.prog (rep (α := Bool)) f1] (rep r) := by
 unfold slices_ContainsFunc_Node at h
 obtain ⟨r1, hv1, h⟩ := bind_some h
 refine FSpec.i Tryz.func41 rfl Tryz.ntmps41 rfl (fun F => (.sn mx (.asb (.nil (.sn mx (.mv rfl (.mv rfl (.c (.call .none (slices_IndexFunc_Node_ok hv1) (.cons (.s rfl) (.cons (.s rfl) .nil))) (.c (.ge .none (.s rfl) .i) (.asn rfl (.nil (.ret ?_))))))))))))
 obtain rfl := some_eq h
 exact Ends.rt Tryz.results41 rfl

theorem ref_NameOf_ok {s1 : Str} {r : Bool}  (h : ref_NameOf s1 = some r) : FSpec Tryz.prog 43 [rep s1] (rep r) := by
 unfold ref_NameOf at h
 refine FSpec.i Tryz.func43 rfl Tryz.ntmps43 rfl (fun F => (.sn mx (.asb (.nil (.seq (.sn mx (.mv rfl (.c (.lenStr .none Tryz.underlying9 (.s rfl)) (.mvi (.nil ?_))))))))))
 obtain ⟨o_1, h, hK1⟩ := bindR_some h
 refine .tJ (fun s => o_1 = Res.nx s) (.k 0 rfl .nil) SubB.nil ?_ (fun j_1 hj1 => ?_)
 ·
  refine .block (.rforEL h (fun p2_ => [(7, ⟨True, rep p2_.1⟩)]) (fun p2_ => []) (.k 7 rfl .nil) SubB.nil (.k2 0 6 rfl rfl .nil) SubB.nil (fun p2_ o_2 h hD2 => (.sn mx (.lt rfl rfl (.nil (.seq (.cb rfl h (fun _ h => ?_) fun _ h => ?_)))))))
  ·
   refine .skip (.then (.seq ?_))
   obtain ⟨o_4, h, hK4⟩ := bindD_some h
   unfold ref_NameOf_L1 at h
   refine .tJ (fun s => o_4 = Res.nx s) (.k2 0 6 rfl rfl (.k 7 rfl .nil)) SubB.nil ?_ (fun j_4 hj4 => ?_)
   ·
    obtain ⟨hn5, h⟩ := need_some h
    obtain ⟨c1, hv6, h⟩ := bnd_some h
    refine .block (.sn mx (.mv rfl (.asn rfl (.nil (.sn mx (.mv rfl (.mv rfl (.c (.indexStr .none Tryz.underlying9 (.s rfl) (.s rfl) (fun _ => hn5)) (.ra hv6 rfl (.nil (.sn mx (.mv rfl (.c (.kgeq .none (.s rfl) .ki) (.mv rfl (.mg rfl rfl rfl (.c (.kleq (.at rfl rfl) (.tmp rfl id) .ki) (.pa rfl rfl (.c (.not .none (.s rfl)) (.mv rfl (.mg rfl rfl rfl (.c (.eqI (.at rfl rfl) (.tmp rfl id) .i) (.c (.move (.at rfl rfl) (.tmp rfl id)) (.mg rfl rfl rfl (.c (.kgeq (.at rfl rfl) (.tmp rfl id) .ki) (.c (.move (.at rfl rfl) (.tmp rfl id)) (.mg rfl rfl rfl (.c (.kleq (.at rfl rfl) (.tmp rfl id) .ki) (.c (.pickAnd (.at rfl rfl) (.tmp rfl id) (.tmp rfl id)) (.c (.not (.at rfl rfl) (.tmp rfl id)) (.c (.move (.at rfl rfl) (.tmp rfl id)) (.mg rfl rfl rfl (.c (.kneq (.at rfl rfl) (.tmp rfl id) .ki) (.c (.pickAnd (.at rfl rfl) (.tmp rfl id) (.tmp rfl id)) (.c (.pickOr (.at rfl rfl) (.tmp rfl id) (.tmp rfl id)) (.pa rfl rfl (.nil (.cb rfl h (fun _ h => ?_) fun _ h => ?_)))))))))))))))))))))))))))))))))))))
    ·
     refine .sn mx (.asb (.nil (.ret (.blkRet (.thenRet (.thenRet (.blkRet (.thenRet ?_))))))))
     replace h := resd_ab hK4 (some_eq h)
     replace h := hD2 _ (some_eq h)
     replace h := resb_ab hK1 (some_eq h)
     obtain rfl := some_eq h
     exact Ends.rt Tryz.results43 rfl
    ·
     exact .skip (.blkNormal (Ends.j _ (some_eq h)))
   ·
    have h := resd_nx hK4 hj4
    exact .rn mx (.adi rfl (.mv rfl (.nil (Ends.ag (some_eq h)))))
  ·
   refine .exit (.thenExit (.thenExit (.blkExit ?_)))
   replace h := hD2 _ (some_eq h)
   exact Ends.j _ (some_eq h)
 ·
  have h := resb_nx hK1 hj1
  refine .sn mx (.mv rfl (.c (.neS .none (eqAt_str Tryz.underlying9) (.s rfl) (.str (l := []) (by decide))) (.mv rfl (.mg rfl rfl rfl (.c (.lenStr (.at rfl rfl) Tryz.underlying9 (.tmp rfl id)) (.c (.le (.at rfl rfl) (.tmp rfl id) .i) (.pa rfl rfl (.asn rfl (.nil (.ret ?_))))))))))
  obtain rfl := some_eq h
  exact Ends.rt Tryz.results43 rfl

theorem ref_When_ok {is1 : Bool} {e1 : Int} {r : Int}  (h : ref_When is1 e1 = some r) : FSpec Tryz.prog 7 [rep is1, rep e1] (rep r) := by
 unfold ref_When at h
 refine FSpec.i Tryz.func7 rfl Tryz.ntmps7 rfl (fun F => (.sn mx (.asi (.nil (.seq (.sn mx (.mv rfl (.nil (.cb rfl h (fun _ h => ?_) fun _ h => ?_)))))))))
 ·
  refine .sn mx (.mv rfl (.asn rfl (.nil (.ret (.thenRet ?_)))))
  obtain rfl := some_eq h
  exact Ends.rt Tryz.results7 rfl
 ·
  refine .skip (.then (.sn mx (.asi (.nil (.ret ?_)))))
  obtain rfl := some_eq h
  exact Ends.rt Tryz.results7 rfl

theorem ref_In_ok {n1 : Int} {low1 : Int} {high1 : Int} {r : Bool}  (h : ref_In n1 low1 high1 = some r) : FSpec Tryz.prog 8 [rep n1, rep low1, rep high1] (rep r) := by
 unfold ref_In at h
 refine FSpec.i Tryz.func8 rfl Tryz.ntmps8 rfl (fun F => (.sn mx (.asb (.nil (.sn mx (.mv rfl (.mv rfl (.c (.ge .none (.s rfl) (.s rfl)) (.mv rfl (.mg rfl rfl rfl (.mg rfl rfl rfl (.c (.le (.at rfl rfl) (.tmp rfl id) (.tmp rfl id)) (.pa rfl rfl (.asn rfl (.nil (.ret ?_))))))))))))))))
 obtain rfl := some_eq h
 exact Ends.rt Tryz.results8 rfl

theorem ref_First_ok {l1 : (List Int)} {r : Int}  (h : ref_First l1 = some r) : FSpec Tryz.prog 5 [rep l1] (rep r) := by
 unfold ref_First at h
 refine FSpec.i Tryz.func5 rfl Tryz.ntmps5 rfl (fun F => (.sn mx (.asi (.nil (.seq (.sn mx (.mv rfl (.ln sl60 rfl (.mvi (.nil ?_))))))))))
 obtain ⟨o_1, h, hK1⟩ := bindR_some h
 refine .tJ (fun s => o_1 = Res.nx s) Sub.nil SubB.nil ?_ (fun j_1 hj1 => ?_)
 ·
  refine .block (.rforEL h (fun p2_ => [(7, ⟨True, rep p2_.1⟩)]) (fun p2_ => []) (.k 7 rfl .nil) SubB.nil (.k2 5 6 rfl rfl .nil) SubB.nil (fun p2_ o_2 h hD2 => (.sn mx (.lt rfl rfl (.nil (.seq (.cb rfl h (fun _ h => ?_) fun _ h => ?_)))))))
  ·
   refine .skip (.then (.seq ?_))
   obtain ⟨o_4, h, hK4⟩ := bindD_some h
   unfold ref_First_L1 at h
   refine .tJ (fun s => o_4 = Res.nx s) (.k2 5 6 rfl rfl (.k 7 rfl .nil)) SubB.nil ?_ (fun j_4 hj4 => ?_)
   ·
    obtain ⟨hn5, h⟩ := need_some h
    obtain ⟨e1, hv6, h⟩ := bnd_some h
    refine .block (.sn mx (.ix sl60 ty26 rfl rfl hn5 (.ld ty26 rfl (.ra hv6 rfl (.nil (.sn mx (.mv rfl (.nei rfl (.nil (.cb rfl h (fun _ h => ?_) fun _ h => ?_))))))))))
    ·
     refine .sn mx (.mv rfl (.asn rfl (.nil (.ret (.blkRet (.thenRet (.thenRet (.blkRet (.thenRet ?_)))))))))
     replace h := resd_ab hK4 (some_eq h)
     replace h := hD2 _ (some_eq h)
     replace h := resb_ab hK1 (some_eq h)
     obtain rfl := some_eq h
     exact Ends.rt Tryz.results5 rfl
    ·
     exact .skip (.blkNormal (Ends.j _ (some_eq h)))
   ·
    have h := resd_nx hK4 hj4
    exact .rn mx (.adi rfl (.mv rfl (.nil (Ends.ag (some_eq h)))))
  ·
   refine .exit (.thenExit (.thenExit (.blkExit ?_)))
   replace h := hD2 _ (some_eq h)
   exact Ends.j _ (some_eq h)
 ·
  have h := resb_nx hK1 hj1
  refine .sn mx (.asi (.nil (.ret ?_)))
  obtain rfl := some_eq h
  exact Ends.rt Tryz.results5 rfl

theorem ref_PointError_ok {p1 : Point} {r : Int}  (h : ref_PointError p1 = some r) : FSpec Tryz.prog 55 [rep p1] (rep r) := by
 unfold ref_PointError at h
 obtain ⟨r1, hv1, h⟩ := bind_some h
 obtain ⟨r2, hv2, h⟩ := bind_some h
 refine FSpec.i Tryz.func55 rfl Tryz.ntmps55 rfl (fun F => (.sn mx (.c (.box .none (.s rfl)) (.asi (.nil (.sn mx (.fa fd47_0 hfd47_0 rfl (.ld ty3 rfl (.c (.call .none (ref_In_ok hv1) (.cons (.s rfl) (.cons .i (.cons .i .nil)))) (.c (.not .none (.s rfl)) (.mv rfl (.fg fd47_1 hfd47_1 rfl rfl rfl (.lg ty3 rfl rfl rfl (.c (.callIf (.at rfl rfl) fnok8 (fun hg => ref_In_ok ((fun hg => gd_some hv2 ((notT hg.2))) hg)) (.cons (.tmp rfl id) (.cons .i (.cons .i .nil))) (fun h => h)) ?_))))))))))))))
 obtain ⟨r3, hv3, h⟩ := bind_some h
 refine .c (.not (.at rfl rfl) (.tmp rfl id)) (.po rfl rfl (.c (.call .none (ref_When_ok hv3) (.cons (.s rfl) (.cons .i .nil))) (.asn rfl (.nil (.ret ?_)))))
 obtain rfl := some_eq h
 exact Ends.rt Tryz.results55 rfl

theorem ref_BoxError_ok {b1 : Box} {r : Int}  (h : ref_BoxError b1 = some r) : FSpec Tryz.prog 44 [rep b1] (rep r) := by
 unfold ref_BoxError at h
 obtain ⟨r1, hv1, h⟩ := bind_some h
 obtain ⟨r2, hv2, h⟩ := bind_some h
 obtain ⟨r3, hv3, h⟩ := bind_some h
 refine FSpec.i Tryz.func44 rfl Tryz.ntmps44 rfl (fun F => (.sn mx (.c (.box .none (.s rfl)) (.asi (.nil (.sn mx (.fa fd38_0 hfd38_0 rfl (.ld ty3 rfl (.fa fd38_1 hfd38_1 rfl (.ld ty3 rfl (.c (.buildF (y := (⟨b1.X, b1.Y⟩ : Point)) .none bu47 zc47 rfl (.cons (.s rfl) (.cons (.s rfl) .nil)) (.cons rfl sf47_0 (.cons rfl sf47_1 .nil))) (.c (.call .none (ref_PointError_ok hv1) (.cons (.s rfl) .nil)) (.fa fd38_2 hfd38_2 rfl (.ld ty3 rfl (.c (.call .none (ref_In_ok hv2) (.cons (.s rfl) (.cons .i (.cons .i .nil)))) (.c (.not .none (.s rfl)) (.mv rfl (.fg fd38_3 hfd38_3 rfl rfl rfl (.lg ty3 rfl rfl rfl (.c (.callIf (.at rfl rfl) fnok8 (fun hg => ref_In_ok ((fun hg => gd_some hv3 ((notT hg.2))) hg)) (.cons (.tmp rfl id) (.cons .i (.cons .i .nil))) (fun h => h)) ?_))))))))))))))))))))
 obtain ⟨r4, hv4, h⟩ := bind_some h
 obtain ⟨r5, hv5, h⟩ := bind_some h
 refine .c (.not (.at rfl rfl) (.tmp rfl id)) (.po rfl rfl (.c (.call .none (ref_When_ok hv4) (.cons (.s rfl) (.cons .i .nil))) (.c (.buildSlice (xs := [_, _]) .none sl60 ty26 hz26 (.cons (.s rfl) (.cons (.s rfl) .nil)) rfl (by decide)) (.c (.call .none (ref_First_ok hv5) (.cons (.s rfl) .nil)) (.asn rfl (.nil (.ret ?_)))))))
 obtain rfl := some_eq h
 exact Ends.rt Tryz.results44 rfl

theorem ref_TextError_ok {s1 : Str} {r : Int}  (h : ref_TextError s1 = some r) : FSpec Tryz.prog 45 [rep s1] (rep r) := by
 unfold ref_TextError at h
 obtain ⟨r1, hv1, h⟩ := bind_some h
 obtain ⟨bad1, hv2, h⟩ := bnd_some h
 refine FSpec.i Tryz.func45 rfl Tryz.ntmps45 rfl (fun F => (.sn mx (.asi (.nil (.sn mx (.mv rfl (.c (.call .none (utf8_ValidString_ok hv1) (.cons (.s rfl) .nil)) (.c (.not .none (.s rfl)) (.ra hv2 rfl (.nil (.seq (.sn mx (.mv rfl (.c (.lenStr .none Tryz.underlying9 (.s rfl)) (.mvi (.nil ?_))))))))))))))))
 obtain ⟨j_3, h, hK3⟩ := bind_some h
 refine .thenJ (ι := Bool) (fun j_3 => [(3, ⟨True, rep j_3⟩)]) (fun j_3 => []) (fun s => j_3 = s) (.k 0 rfl .nil) SubB.nil ?_ (fun j_3' hj3 => ?_)
 ·
  refine .block (.rforL h (fun p4_ => [(10, ⟨True, rep p4_.1⟩), (3, ⟨True, rep p4_.2⟩)]) (fun p4_ => []) (.k2 10 3 rfl rfl .nil) SubB.nil (.k2 0 9 rfl rfl .nil) SubB.nil (fun p4_ o_4 h hD4 => (.sn mx (.lt rfl rfl (.nil (.seq (.cb rfl h (fun _ h => ?_) fun _ h => ?_)))))))
  ·
   refine .skip (.then (.seq ?_))
   obtain ⟨j_6, h, hK6⟩ := bind_some h
   unfold ref_TextError_L1 at h
   refine .thenJ (ι := Bool) (fun j_6 => [(3, ⟨True, rep j_6⟩)]) (fun j_6 => []) (fun s => j_6 = s) (.k2 0 9 rfl rfl (.k 10 rfl .nil)) SubB.nil ?_ (fun j_6' hj6 => ?_)
   ·
    obtain ⟨hn7, h⟩ := need_some h
    obtain ⟨hn8, h⟩ := need_some h
    obtain ⟨hn9, h⟩ := need_some h
    obtain ⟨bad2, hv10, h⟩ := bnd_some h
    exact .block (.sn mx (.mv rfl (.asn rfl (.nil (.rn mx (.mv rfl (.mv rfl (.mg rfl rfl rfl (.mg rfl rfl rfl (.c (.indexStr (.at rfl rfl) Tryz.underlying9 (.tmp rfl id) (.tmp rfl id) (fun hg => hn7 hg.2)) (.c (.klss (.at rfl rfl) (.tmp rfl id) .ki) (.c (.move (.at rfl rfl) (.tmp rfl id)) (.mg rfl rfl rfl (.mg rfl rfl rfl (.c (.indexStr (.at rfl rfl) Tryz.underlying9 (.tmp rfl id) (.tmp rfl id) (fun hg => hn8 hg.1.2 hg.2)) (.c (.kneq (.at rfl rfl) (.tmp rfl id) .ki) (.c (.pickAnd (.at rfl rfl) (.tmp rfl id) (.tmp rfl id)) (.po rfl rfl (.mv rfl (.mg rfl rfl rfl (.mg rfl rfl rfl (.c (.indexStr (.at rfl rfl) Tryz.underlying9 (.tmp rfl id) (.tmp rfl id) (fun hg => hn9 hg.2)) (.c (.keql (.at rfl rfl) (.tmp rfl id) .ki) (.po rfl rfl (.ra hv10 rfl (.nil (.blkNormal (Ends.j _ (some_eq h)))))))))))))))))))))))))))))
   ·
    subst hj6; have h := hK6; clear hK6
    exact .rn mx (.adi rfl (.mv rfl (.nil (Ends.ag (some_eq h)))))
  ·
   refine .exit (.thenExit (.thenExit (.blkExit ?_)))
   replace h := hD4 _ (some_eq h)
   exact Ends.j _ (some_eq h)
 ·
  subst hj3; have h := hK3; clear hK3
  obtain ⟨r2, hv11, h⟩ := bind_some h
  obtain ⟨r3, hv12, h⟩ := bind_some h
  obtain ⟨r4, hv13, h⟩ := bind_some h
  refine .sn mx (.mv rfl (.c (.lenStr .none Tryz.underlying9 (.s rfl)) (.c (.gt .none (.s rfl) .i) (.c (.call .none (ref_When_ok hv11) (.cons (.s rfl) (.cons .i .nil))) (.mv rfl (.c (.call .none (ref_When_ok hv12) (.cons (.s rfl) (.cons .i .nil))) (.c (.buildSlice (xs := [_, _]) .none sl60 ty26 hz26 (.cons (.s rfl) (.cons (.s rfl) .nil)) rfl (by decide)) (.c (.call .none (ref_First_ok hv13) (.cons (.s rfl) .nil)) (.asn rfl (.nil (.ret ?_)))))))))))
  obtain rfl := some_eq h
  exact Ends.rt Tryz.results45 rfl

theorem ref_classError_ok {s1 : Str} {r : Int}  (h : ref_classError s1 = some r) : FSpec Tryz.prog 46 [rep s1] (rep r) := by
 unfold ref_classError at h
 obtain ⟨r1, hv1, h⟩ := bind_some h
 refine FSpec.i Tryz.func46 rfl Tryz.ntmps46 rfl (fun F => (.sn mx (.asi (.nil (.sn mx (.mv rfl (.c (.neS .none (eqAt_str Tryz.underlying9) (.s rfl) (.str (l := []) (by decide))) (.mv rfl (.mg rfl rfl rfl (.c (.callIf (.at rfl rfl) fnok43 (fun hg => ref_NameOf_ok ((fun hg => gd_some hv1 (hg.2)) hg)) (.cons (.tmp rfl id) .nil) (fun h => h)) ?_))))))))))
 obtain ⟨r2, hv2, h⟩ := bind_some h
 refine .c (.not (.at rfl rfl) (.tmp rfl id)) (.pa rfl rfl (.c (.call .none (ref_When_ok hv2) (.cons (.s rfl) (.cons .i .nil))) (.asn rfl (.nil (.ret ?_)))))
 obtain rfl := some_eq h
 exact Ends.rt Tryz.results46 rfl

theorem ref_nodeError_ok {d1 : Doc} {i1 : Int} {r : Int}  (h : ref_nodeError d1 i1 = some r) : FSpec Tryz.prog 20 [rep d1, rep i1] (rep r) := by
 unfold ref_nodeError at h
 obtain ⟨hn1, h⟩ := need_some h
 obtain ⟨v1, hv2, h⟩ := bnd_some h
 obtain ⟨hn3, h⟩ := need_some h
 refine FSpec.i Tryz.func20 rfl Tryz.ntmps20 rfl (fun F => (.sn mx (.c (.box .none (.s rfl)) (.asi (.nil (.sr [oo, oo, oo, oo, oo, ([], [5]), ([5], [5])] mx (.faA fd25_0 hfd25_0 rfl (.ldA ty22 rfl (.mvA rfl (.ixA sl22 ty40 rfl rfl hn1 (.rlA hv2 ty40 rfl (.al zo40 rfl (.st ty40 rfl rfl rfl (.nil (.freeze (t := 5) rfl rfl SubB.nil rfl (.sn mx (.fa fd25_0 hfd25_0 rfl (.ld ty22 rfl (.mv rfl (.c (.slice .none sl22 ty40 (.s rfl) rfl (.s rfl) (fun _ => hn3)) (.c (.makeFunc (ι := DNode × Bool) (pre := fun i => (fun x0 => ref_nodeError_1 x0 v1) i.1 = some i.2) (Ss := fun i => [rep i.1]) (S := fun i => rep i.2) .none fnok42 (fun i h => ref_nodeError_1_ok h) (.cons (.s rfl) .nil)) ?_)))))))))))))))))))))
 obtain ⟨twice1, hv4, h⟩ := bind_some h
 obtain ⟨r1, hv5, h⟩ := bind_some h
 obtain ⟨r2, hv6, h⟩ := bind_some h
 obtain ⟨r3, hv7, h⟩ := bind_some h
 obtain ⟨r4, hv8, h⟩ := bind_some h
 obtain ⟨r5, hv9, h⟩ := bind_some h
 obtain ⟨e1, hv10, h⟩ := bind_some h
 refine .c (.call .none (slices_ContainsFunc_Node_ok hv4) (.cons (.s rfl) (.cons (.s rfl) .nil))) (.asn rfl (.nil (.seq (.sn mx (.fa fd40_0 hfd40_0 rfl (.ld ty9 rfl (.c (.call .none (ref_NameOf_ok hv5) (.cons (.s rfl) .nil)) (.c (.not .none (.s rfl)) (.c (.call .none (ref_When_ok hv6) (.cons (.s rfl) (.cons .i .nil))) (.mv rfl (.c (.call .none (ref_When_ok hv7) (.cons (.s rfl) (.cons .i .nil))) (.fa fd40_1 hfd40_1 rfl (.ld ty3 rfl (.c (.call .none (ref_In_ok hv8) (.cons (.s rfl) (.cons .i (.cons .i .nil)))) (.c (.not .none (.s rfl)) (.c (.call .none (ref_When_ok hv9) (.cons (.s rfl) (.cons .i .nil))) (.c (.buildSlice (xs := [_, _, _]) .none sl60 ty26 hz26 (.cons (.s rfl) (.cons (.s rfl) (.cons (.s rfl) .nil))) rfl (by decide)) (.c (.call .none (ref_First_ok hv10) (.cons (.s rfl) .nil)) (.asn rfl (.nil (.sn mx (.mv rfl (.nei rfl (.nil (.cb rfl h (fun _ h => ?_) fun _ h => ?_)))))))))))))))))))))))))
 ·
  refine .sn mx (.mv rfl (.asn rfl (.nil (.ret (.thenRet ?_)))))
  obtain rfl := some_eq h
  exact Ends.rt Tryz.results20 rfl
 ·
  obtain ⟨box1, hv12, h⟩ := bind_some h
  refine .skip (.then (.sn mx (.fa fd40_2 hfd40_2 rfl (.ld ty38 rfl (.c (.buildF (y := (⟨(0 : Int), (0 : Int), (0 : Int), (0 : Int)⟩ : Box)) .none bu38 zc38 rfl .nil .nil) (.c (.neS .none eq38 (.s rfl) (.s rfl)) (.c (.call .none (ref_When_ok hv12) (.cons (.s rfl) (.cons .i .nil))) (.asn rfl (.nil (.seq (.sn mx (.fa fd40_1 hfd40_1 rfl (.ld ty3 rfl (.nei rfl (.nil ?_)))))))))))))))
  obtain ⟨j_13, h, hK13⟩ := bind_some h
  refine .thenJ (ι := Int) (fun j_13 => [(8, ⟨True, rep j_13⟩)]) (fun j_13 => []) (fun s => j_13 = s) (.k 5 rfl .nil) SubB.nil ?_ (fun j_13' hj13 => ?_)
  ·
   refine .cb rfl h (fun _ h => ?_) fun _ h => ?_
   ·
    obtain ⟨box2, hv15, h⟩ := bind_some h
    exact .rn mx (.fa fd40_2 hfd40_2 rfl (.ld ty38 rfl (.c (.call .none (ref_BoxError_ok hv15) (.cons (.s rfl) .nil)) (.asn rfl (.nil (Ends.j _ (some_eq h)))))))
   ·
    exact .skip (Ends.j _ (some_eq h))
  ·
   subst hj13; have h := hK13; clear hK13
   obtain ⟨r6, hv16, h⟩ := bind_some h
   obtain ⟨r7, hv17, h⟩ := bind_some h
   obtain ⟨r8, hv18, h⟩ := bind_some h
   refine .sn mx (.mv rfl (.fa fd40_3 hfd40_3 rfl (.ld ty9 rfl (.c (.call .none (ref_TextError_ok hv16) (.cons (.s rfl) .nil)) (.fa fd40_4 hfd40_4 rfl (.ld ty9 rfl (.c (.call .none (ref_classError_ok hv17) (.cons (.s rfl) .nil)) (.c (.buildSlice (xs := [_, _, _]) .none sl60 ty26 hz26 (.cons (.s rfl) (.cons (.s rfl) (.cons (.s rfl) .nil))) rfl (by decide)) (.c (.call .none (ref_First_ok hv18) (.cons (.s rfl) .nil)) (.asn rfl (.nil (.ret ?_))))))))))))
   obtain rfl := some_eq h
   exact Ends.rt Tryz.results20 rfl

theorem ref_NodeAt_1_ok {n1 : DNode} {c0_1 : Str} {r : Bool}  (h : ref_NodeAt_1 n1 c0_1 = some r) : FSpec Tryz.prog 84 [rep n1, ref c0_1] (rep r) := by
 unfold ref_NodeAt_1 at h
 refine FSpec.i Tryz.func84 rfl Tryz.ntmps84 rfl (fun F => (.sn mx (.c (.box .none (.s rfl)) (.asb (.nil (.sn mx (.fa fd40_0 hfd40_0 rfl (.ld ty9 rfl (.ld ty9 rfl (.c (.eqS .none (eqAt_str Tryz.underlying9) (.s rfl) (.s rfl)) (.asn rfl (.nil (.ret ?_)))))))))))))
 obtain rfl := some_eq h
 exact Ends.rt Tryz.results84 rfl

theorem ref_NodeAt_ok {d1 : Doc} {id1 : Str} {r : Int}  (h : ref_NodeAt d1 id1 = some r) : FSpec Tryz.prog 47 [rep d1, rep id1] (rep r) := by
 unfold ref_NodeAt at h
 refine FSpec.i Tryz.func47 rfl Tryz.ntmps47 rfl (fun F => (.sn mx (.c (.box .none (.s rfl)) (.c (.box .none (.s rfl)) (.asi (.nil (.sn mx (.fa fd25_0 hfd25_0 rfl (.ld ty22 rfl (.c (.makeFunc (ι := DNode × Bool) (pre := fun i => (fun x0 => ref_NodeAt_1 x0 id1) i.1 = some i.2) (Ss := fun i => [rep i.1]) (S := fun i => rep i.2) .none fnok84 (fun i h => ref_NodeAt_1_ok h) (.cons (.s rfl) .nil)) ?_))))))))))
 obtain ⟨r1, hv1, h⟩ := bind_some h
 refine .c (.call .none (slices_IndexFunc_Node_ok hv1) (.cons (.s rfl) (.cons (.s rfl) .nil))) (.asn rfl (.nil (.ret ?_)))
 obtain rfl := some_eq h
 exact Ends.rt Tryz.results47 rfl


end Go.Proofs.YtbogpbomhmabhaaGreatDoor
