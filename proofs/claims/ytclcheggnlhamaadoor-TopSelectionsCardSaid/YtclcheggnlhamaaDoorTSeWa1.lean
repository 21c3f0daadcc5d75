/-
  The walks: what a function computes is what its plain function says (printed by a program of one's own).
-/
import Derived.Test.YtclcheggnlhamaaDoorTSeFa
set_option maxRecDepth 100000
set_option linter.unusedSimpArgs false
set_option linter.unusedVariables false
namespace Go.Proofs.YtclcheggnlhamaaDoor
open Go Go.DB Go.RowKit
theorem strings_Trim_ok {s cs : Str} {r : Str} (h : strings_Trim s cs = some r) : FSpec Tryd.prog 112 [rep s, rep cs] (rep r) := by
 obtain ⟨hn, h⟩ := need_some h
 obtain rfl := some_eq h
 exact trimS_spec trimStr_lay (by kernel_rfl) rfl fnok112 hn
theorem utf8_ValidString_ok {s : Str} {r : Bool} (h : utf8_ValidString s = some r) : FSpec Tryd.prog 106 [rep s] (rep r) := by
 obtain rfl := some_eq h
 exact validS_spec validStr_lay rfl rfl rfl fnok106
theorem page_isName_ok {s1 : Str} {r : Bool}  (h : page_isName s1 = some r) : FSpec Tryd.prog 92 [rep s1] (rep r) := by
 unfold page_isName at h
 obtain ⟨hn1, h⟩ := need_some h
 obtain ⟨hn2, h⟩ := need_some h
 obtain ⟨r1, hv3, h⟩ := bind_some h
 refine FSpec.intro (n := 25) fnok92 Tryd.func92 rfl Tryd.ntmps92 rfl (fun F => (.sr [] mixed (.cons (.assign .none .bool) rfl (.nil (.sr [] mixed (.mv rfl (.cons (.neS .none (eqAt_str Tryd.underlying9) (.s rfl) (.str (l := []) (by decide))) rfl (.mv rfl (.cons (.move (.at rfl rfl) (.s rfl)) rfl (.cons (.lenStr (.at rfl rfl) Tryd.underlying9 (.tmp rfl id)) rfl (.cons (.le (.at rfl rfl) (.tmp rfl id) (.int (by decide))) rfl (.cons (.pickAnd .none (.s rfl) (.tmp rfl id)) rfl (.mv rfl (.cons (.move (.at rfl rfl) (.s rfl)) rfl (.cons (.indexStr (.at rfl rfl) Tryd.underlying9 (.tmp rfl id) (.int (by decide)) (fun hg => hn1 hg.2)) rfl (.cons (.kgeq (.at rfl rfl) (.tmp rfl id) .ki) rfl (.cons (.move (.at rfl rfl) (.tmp rfl id)) rfl (.cons (.move (.at rfl rfl) (.s rfl)) rfl (.cons (.indexStr (.at rfl rfl) Tryd.underlying9 (.tmp rfl id) (.int (by decide)) (fun hg => hn2 hg.1.2 hg.2)) rfl (.cons (.kleq (.at rfl rfl) (.tmp rfl id) .ki) rfl (.cons (.pickAnd (.at rfl rfl) (.tmp rfl id) (.tmp rfl id)) rfl (.cons (.pickAnd .none (.s rfl) (.tmp rfl id)) rfl (.mv rfl (.cons (.move (.at rfl rfl) (.s rfl)) rfl (.cons (.callIf (.at rfl rfl) fnok112 (fun hg => strings_Trim_ok ((fun hg => gd_some hv3 (hg.2)) hg)) (.cons (.tmp rfl id) (.cons (.str (l := [97, 98, 99, 100, 101, 102, 103, 104, 105, 106, 107, 108, 109, 110, 111, 112, 113, 114, 115, 116, 117, 118, 119, 120, 121, 122, 48, 49, 50, 51, 52, 53, 54, 55, 56, 57, 45]) (by decide)) .nil)) (fun h => h)) rfl (.cons (.eqS (.at rfl rfl) (eqAt_str Tryd.underlying9) (.tmp rfl id) (.str (l := []) (by decide))) rfl (.cons (.pickAnd .none (.s rfl) (.tmp rfl id)) rfl (.asn rfl (.nil (.ret ?_))))))))))))))))))))))))))))))
 obtain rfl := some_eq h
 exact Ends.rt Tryd.results92 rfl
theorem geom_out_ok {n1 : Int} {r : Bool}  (h : geom_out n1 = some r) : FSpec Tryd.prog 113 [rep n1] (rep r) := by
 unfold geom_out at h
 refine FSpec.intro (n := 9) fnok113 Tryd.func113 rfl Tryd.ntmps113 rfl (fun F => (.sr [] mixed (.cons (.assign .none .bool) rfl (.nil (.sr [] mixed (.mv rfl (.cons (.lt .none (.s rfl) (.int (by decide))) rfl (.mv rfl (.cons (.move (.at rfl rfl) (.s rfl)) rfl (.cons (.gt (.at rfl rfl) (.tmp rfl id) (.int (by decide))) rfl (.cons (.pickOr .none (.s rfl) (.tmp rfl id)) rfl (.asn rfl (.nil (.ret ?_))))))))))))))
 obtain rfl := some_eq h
 exact Ends.rt Tryd.results113 rfl
theorem geom_CheckBox_ok {b1 : Box} {r : Int}  (h : geom_CheckBox b1 = some r) : FSpec Tryd.prog 93 [rep b1] (rep r) := by
 unfold geom_CheckBox at h
 obtain ⟨r1, hv1, h⟩ := bind_some h
 obtain ⟨r2, hv2, h⟩ := bind_some h
 refine FSpec.intro (n := 31) fnok93 Tryd.func93 rfl Tryd.ntmps93 rfl (fun F => (.sr [] mixed (.cons (.box .none (.s rfl)) rfl (.asi (.nil (.seq (.sr [] mixed (.fa fd41_0 hfd41_0 rfl (.ld ty3 rfl (.cons (.call .none (geom_out_ok hv1) (.cons (.s rfl) .nil)) rfl (.mv rfl (.cons (.fieldAddr (.at rfl rfl) fd41_1 hfd41_1 (.s rfl)) rfl (.cons (.load (.at rfl rfl) ty3 (.tmp rfl id)) rfl (.cons (.callIf (.at rfl rfl) fnok113 (fun hg => geom_out_ok ((fun hg => gd_some hv2 ((notT hg.2))) hg)) (.cons (.tmp rfl id) .nil) (fun h => h)) rfl (.cons (.pickOr .none (.s rfl) (.tmp rfl id)) rfl (.mv rfl (.cons (.fieldAddr (.at rfl rfl) fd41_2 hfd41_2 (.s rfl)) rfl (.cons (.load (.at rfl rfl) ty3 (.tmp rfl id)) rfl (.cons (.lt (.at rfl rfl) (.tmp rfl id) (.int (by decide))) rfl (.cons (.pickOr .none (.s rfl) (.tmp rfl id)) rfl (.mv rfl (.cons (.fieldAddr (.at rfl rfl) fd41_2 hfd41_2 (.s rfl)) rfl (.cons (.load (.at rfl rfl) ty3 (.tmp rfl id)) rfl (.cons (.gt (.at rfl rfl) (.tmp rfl id) (.int (by decide))) rfl (.cons (.pickOr .none (.s rfl) (.tmp rfl id)) rfl (.mv rfl (.cons (.fieldAddr (.at rfl rfl) fd41_3 hfd41_3 (.s rfl)) rfl (.cons (.load (.at rfl rfl) ty3 (.tmp rfl id)) rfl (.cons (.lt (.at rfl rfl) (.tmp rfl id) (.int (by decide))) rfl (.cons (.pickOr .none (.s rfl) (.tmp rfl id)) rfl (.mv rfl (.cons (.fieldAddr (.at rfl rfl) fd41_3 hfd41_3 (.s rfl)) rfl (.cons (.load (.at rfl rfl) ty3 (.tmp rfl id)) rfl (.cons (.gt (.at rfl rfl) (.tmp rfl id) (.int (by decide))) rfl (.cons (.pickOr .none (.s rfl) (.tmp rfl id)) rfl (.nil (.cb rfl h (fun _ h => ?_) fun _ h => ?_)))))))))))))))))))))))))))))))))))))
 ·
  refine .sr [] mixed (.asi (.nil (.ret (.thenRet ?_))))
  obtain rfl := some_eq h
  exact Ends.rt Tryd.results93 rfl
 ·
  refine .skip (.then (.sr [] mixed (.asi (.nil (.ret ?_)))))
  obtain rfl := some_eq h
  exact Ends.rt Tryd.results93 rfl
theorem shape_CheckText_ok {s1 : Str} {r : Int}  (h : shape_CheckText s1 = some r) : FSpec Tryd.prog 94 [rep s1] (rep r) := by
 unfold shape_CheckText at h
 refine FSpec.intro (n := 32) fnok94 Tryd.func94 rfl Tryd.ntmps94 rfl (fun F => (.sr [] mixed (.asi (.nil (.seq (.sr [] mixed (.mv rfl (.cons (.lenStr .none Tryd.underlying9 (.s rfl)) rfl (.cons (.gt .none (.s rfl) (.int (by decide))) rfl (.nil (.cb rfl h (fun _ h => ?_) fun _ h => ?_)))))))))))
 ·
  refine .sr [] mixed (.asi (.nil (.ret (.thenRet ?_))))
  obtain rfl := some_eq h
  exact Ends.rt Tryd.results94 rfl
 ·
  obtain ⟨r1, hv2, h⟩ := bind_some h
  refine .skip (.then (.seq (.sr [] mixed (.mv rfl (.cons (.call .none (utf8_ValidString_ok hv2) (.cons (.s rfl) .nil)) rfl (.cons (.not .none (.s rfl)) rfl (.nil (.cb rfl h (fun _ h => ?_) fun _ h => ?_))))))))
  ·
   refine .sr [] mixed (.asi (.nil (.ret (.thenRet ?_))))
   obtain rfl := some_eq h
   exact Ends.rt Tryd.results94 rfl
  ·
   refine .skip (.then (.seq (.sr [] mixed (.mv rfl (.cons (.lenStr .none Tryd.underlying9 (.s rfl)) rfl (.mvi (.nil ?_)))))))
   obtain ⟨o_4, h, hK4⟩ := bindR_some h
   refine .thenJ (ι := Unit) (fun j_4 => []) (fun j_4 => []) (fun s => o_4 = Res.nx s) Sub.nil SubB.nil ?_ (fun j_4 hj4 => ?_)
   ·
    refine .block (.rforEL h (fun p5_ => [(12, ⟨True, rep p5_.1⟩)]) (fun p5_ => []) (.k 12 rfl .nil) SubB.nil (.k 0 rfl (.k 11 rfl .nil)) SubB.nil (fun p5_ o_5 h hD5 => (.sr [] mixed (.cons (.lt .none (.s rfl) (.s rfl)) rfl (.nil (.seq (.cb rfl h (fun _ h => ?_) fun _ h => ?_)))))))
    ·
     refine .skip (.then (.seq ?_))
     obtain ⟨o_7, h, hK7⟩ := bindD_some h
     unfold shape_CheckText_L1 at h
     refine .thenJ (ι := Unit) (fun j_7 => []) (fun j_7 => []) (fun s => o_7 = Res.nx s) (.k 0 rfl (.k 11 rfl (.k 12 rfl .nil))) SubB.nil ?_ (fun j_7 hj7 => ?_)
     ·
      obtain ⟨hn8, h⟩ := need_some h
      obtain ⟨hn9, h⟩ := need_some h
      obtain ⟨hn10, h⟩ := need_some h
      refine .block (.sr [] mixed (.mv rfl (.asn rfl (.nil (.sr [] mixed (.mv rfl (.mv rfl (.cons (.indexStr .none Tryd.underlying9 (.s rfl) (.s rfl) (fun _ => hn8)) rfl (.cons (.klss .none (.s rfl) .ki) rfl (.mv rfl (.cons (.move (.at rfl rfl) (.s rfl)) rfl (.cons (.move (.at rfl rfl) (.s rfl)) rfl (.cons (.indexStr (.at rfl rfl) Tryd.underlying9 (.tmp rfl id) (.tmp rfl id) (fun hg => hn9 hg.2)) rfl (.cons (.kneq (.at rfl rfl) (.tmp rfl id) .ki) rfl (.cons (.pickAnd .none (.s rfl) (.tmp rfl id)) rfl (.mv rfl (.cons (.move (.at rfl rfl) (.s rfl)) rfl (.cons (.move (.at rfl rfl) (.s rfl)) rfl (.cons (.indexStr (.at rfl rfl) Tryd.underlying9 (.tmp rfl id) (.tmp rfl id) (fun hg => hn10 hg.2)) rfl (.cons (.keql (.at rfl rfl) (.tmp rfl id) .ki) rfl (.cons (.pickOr .none (.s rfl) (.tmp rfl id)) rfl (.nil (.cb rfl h (fun _ h => ?_) fun _ h => ?_)))))))))))))))))))))))
      ·
       refine .sr [] mixed (.asi (.nil (.ret (.blkRet (.thenRet (.thenRet (.blkRet (.thenRet ?_))))))))
       replace h := resd_ab hK7 (some_eq h)
       replace h := hD5 _ (some_eq h)
       replace h := resb_ab hK4 (some_eq h)
       obtain rfl := some_eq h
       exact Ends.rt Tryd.results94 rfl
      ·
       exact .skip (.blkNormal (Ends.j _ (some_eq h)))
     ·
      have h := resd_nx hK7 hj7
      exact .rg [] mixed (.cons (.addW .none (.s rfl) (.int (by decide))) rfl (.mv rfl (.nil (Ends.ag (some_eq h)))))
    ·
     refine .exit (.thenExit (.thenExit (.blkExit ?_)))
     replace h := hD5 _ (some_eq h)
     exact Ends.j _ (some_eq h)
   ·
    have h := resb_nx hK4 hj4
    refine .sr [] mixed (.asi (.nil (.ret ?_)))
    obtain rfl := some_eq h
    exact Ends.rt Tryd.results94 rfl
theorem page_checkNode_ok {n1 : DNode} {twice1 : Bool} {r : Int}  (h : page_checkNode n1 twice1 = some r) : FSpec Tryd.prog 48 [rep n1, rep twice1] (rep r) := by
 unfold page_checkNode at h
 obtain ⟨r1, hv1, h⟩ := bind_some h
 refine FSpec.intro (n := 57) fnok48 Tryd.func48 rfl Tryd.ntmps48 rfl (fun F => (.sr [] mixed (.cons (.box .none (.s rfl)) rfl (.asi (.nil (.seq (.block (.sr [] mixed (.fa fd43_0 hfd43_0 rfl (.ld ty9 rfl (.cons (.call .none (page_isName_ok hv1) (.cons (.s rfl) .nil)) rfl (.cons (.not .none (.s rfl)) rfl (.asn rfl (.nil (.cb rfl h (fun _ h => ?_) fun _ h => ?_)))))))))))))))
 ·
  refine .sr [] mixed (.asi (.nil (.ret (.blkRet (.thenRet ?_)))))
  obtain rfl := some_eq h
  exact Ends.rt Tryd.results48 rfl
 ·
  refine .sr [] mixed (.mv rfl (.asn rfl (.nil (.cb rfl h (fun _ h => ?_) fun _ h => ?_))))
  ·
   refine .sr [] mixed (.asi (.nil (.ret (.blkRet (.thenRet ?_)))))
   obtain rfl := some_eq h
   exact Ends.rt Tryd.results48 rfl
  ·
   refine .sr [] mixed (.fa fd43_1 hfd43_1 rfl (.ld ty3 rfl (.cons (.lt .none (.s rfl) (.int (by decide))) rfl (.mv rfl (.cons (.fieldAddr (.at rfl rfl) fd43_1 hfd43_1 (.s rfl)) rfl (.cons (.load (.at rfl rfl) ty3 (.tmp rfl id)) rfl (.cons (.gt (.at rfl rfl) (.tmp rfl id) (.int (by decide))) rfl (.cons (.pickOr .none (.s rfl) (.tmp rfl id)) rfl (.asn rfl (.nil (.cb rfl h (fun _ h => ?_) fun _ h => ?_)))))))))))
   ·
    refine .sr [] mixed (.asi (.nil (.ret (.blkRet (.thenRet ?_)))))
    obtain rfl := some_eq h
    exact Ends.rt Tryd.results48 rfl
   ·
    refine .sr [] mixed (.fa fd43_1 hfd43_1 rfl (.ld ty3 rfl (.cons (.eqI .none (.s rfl) (.int (by decide))) rfl (.mv rfl (.cons (.fieldAddr (.at rfl rfl) fd43_2 hfd43_2 (.s rfl)) rfl (.cons (.load (.at rfl rfl) ty41 (.tmp rfl id)) rfl (.cons (.buildF (y := (⟨(0 : Int), (0 : Int), (0 : Int), (0 : Int)⟩ : Box)) (.at rfl rfl) bu41 zc41 rfl .nil .nil) rfl (.cons (.neS (.at rfl rfl) eq41 (.tmp rfl id) (.tmp rfl id)) rfl (.cons (.pickAnd .none (.s rfl) (.tmp rfl id)) rfl (.asn rfl (.nil (.cb rfl h (fun _ h => ?_) fun _ h => ?_))))))))))))
    ·
     refine .sr [] mixed (.asi (.nil (.ret (.blkRet (.thenRet ?_)))))
     obtain rfl := some_eq h
     exact Ends.rt Tryd.results48 rfl
    ·
     refine .skip (.blkNormal (.then (.seq (.sr [] mixed (.fa fd43_1 hfd43_1 rfl (.ld ty3 rfl (.cons (.neI .none (.s rfl) (.int (by decide))) rfl (.nil ?_))))))))
     obtain ⟨o_6, h, hK6⟩ := bindR_some h
     refine .thenJ (ι := Unit) (fun j_6 => []) (fun j_6 => []) (fun s => o_6 = Res.nx s) (.k 2 rfl .nil) SubB.nil ?_ (fun j_6 hj6 => ?_)
     ·
      refine .cb rfl h (fun _ h => ?_) fun _ h => ?_
      ·
       obtain ⟨e1, hv8, h⟩ := bind_some h
       refine .sr [] mixed (.fa fd43_2 hfd43_2 rfl (.ld ty41 rfl (.cons (.call .none (geom_CheckBox_ok hv8) (.cons (.s rfl) .nil)) rfl (.asn rfl (.nil (.sr [] mixed (.mv rfl (.cons (.neI .none (.s rfl) (.int (by decide))) rfl (.nil (.cb rfl h (fun _ h => ?_) fun _ h => ?_))))))))))
       ·
        refine .sr [] mixed (.mv rfl (.asn rfl (.nil (.ret (.thenRet ?_)))))
        replace h := resb_ab hK6 (some_eq h)
        obtain rfl := some_eq h
        exact Ends.rt Tryd.results48 rfl
       ·
        exact .skip (Ends.j _ (some_eq h))
      ·
       exact .skip (Ends.j _ (some_eq h))
     ·
      have h := resb_nx hK6 hj6
      obtain ⟨e2, hv10, h⟩ := bind_some h
      refine .seq (.sr [] mixed (.fa fd43_3 hfd43_3 rfl (.ld ty9 rfl (.cons (.call .none (shape_CheckText_ok hv10) (.cons (.s rfl) .nil)) rfl (.asn rfl (.nil (.sr [] mixed (.mv rfl (.cons (.neI .none (.s rfl) (.int (by decide))) rfl (.nil (.cb rfl h (fun _ h => ?_) fun _ h => ?_)))))))))))
      ·
       refine .sr [] mixed (.mv rfl (.asn rfl (.nil (.ret (.thenRet ?_)))))
       obtain rfl := some_eq h
       exact Ends.rt Tryd.results48 rfl
      ·
       obtain ⟨r2, hv12, h⟩ := bind_some h
       refine .skip (.then (.seq (.sr [] mixed (.fa fd43_4 hfd43_4 rfl (.ld ty9 rfl (.cons (.neS .none (eqAt_str Tryd.underlying9) (.s rfl) (.str (l := []) (by decide))) rfl (.mv rfl (.cons (.fieldAddr (.at rfl rfl) fd43_4 hfd43_4 (.s rfl)) rfl (.cons (.load (.at rfl rfl) ty9 (.tmp rfl id)) rfl (.cons (.callIf (.at rfl rfl) fnok92 (fun hg => page_isName_ok ((fun hg => gd_some hv12 (hg.2)) hg)) (.cons (.tmp rfl id) .nil) (fun h => h)) rfl (.cons (.not (.at rfl rfl) (.tmp rfl id)) rfl (.cons (.pickAnd .none (.s rfl) (.tmp rfl id)) rfl (.nil (.cb rfl h (fun _ h => ?_) fun _ h => ?_))))))))))))))
       ·
        refine .sr [] mixed (.asi (.nil (.ret (.thenRet ?_))))
        obtain rfl := some_eq h
        exact Ends.rt Tryd.results48 rfl
       ·
        refine .skip (.then (.sr [] mixed (.asi (.nil (.ret ?_)))))
        obtain rfl := some_eq h
        exact Ends.rt Tryd.results48 rfl
theorem page_viewOf_ok {d1 : Doc} {r : (Option Page_view)}  (h : page_viewOf d1 = some r) : FSpec Tryd.prog 49 [rep d1] (rep r) := by
 unfold page_viewOf at h
 obtain ⟨c1, hv1, h⟩ := bnd_some h
 obtain ⟨c2, hv2, h⟩ := bnd_some h
 refine FSpec.intro (n := 47) fnok49 Tryd.func49 rfl Tryd.ntmps49 rfl (fun F => (.sr [] mixed (.cons (.box .none (.s rfl)) rfl (.cons (.assign .none (.const (x := (none : (Option Page_view))) (fun M w => ⟨_, ptr_zero, rfl⟩))) rfl (.nil (.sr [oo, ([], [7]), ([], [8]), ([7, 8], [9, 7, 8]), ([9], [10, 9]), ([10], [3, 10])] mixed (.ldA ty25 rfl (.consW (.makeMap (K := Str) (V := Int) rfl) rfl rfl (.consW (.makeMapW (K := Str) (α := Int) (E := 3) rfl) rfl rfl (.consW (.buildG2 (t1 := 7) (t2 := 8) oneMap oneMapW (mk := (fun z1 z2 => (⟨d1, ⟨z1⟩, ⟨z2⟩⟩ : Page_view_o12))) bu63 zvc_Page_view_o12 rfl rfl rfl rfl rfl rfl rfl rfl rfl (fun _ _ => (.cons (.s rfl) (.cons (.s rfl) (.cons (.s rfl) .nil)))) (fun _ _ => (.cons rfl sv_Page_view_o12_0 (.cons rfl sv_Page_view_o12_1 (.cons rfl sv_Page_view_o12_2 .nil))))) rfl rfl (.consW (.boxG2 (t := 9) rfl rfl) rfl rfl (.consW (.passRow rfl (.tmp rfl)) rfl rfl (.nil (.nameAt (t := 3) (g := 5001) rfl rfl (isBox_deep fun _ => (isBox_deep fun _ => isBox_cont)) rfl (fun m5001 => (.open (k := 5001) (g := 5002) rfl rfl (fun s5002 => (.open (k := 5001) (g := 5003) rfl rfl (fun s5003 => (.seq (.sr [] mixed (.fa fd25_0 hfd25_0 rfl (.ld ty22 rfl (.cons (.len .none sl22 (.s rfl)) rfl (.mvi (.nil (.reB (t := 5002) rfl (congrArg (fun y => CPred.at s5002 (mapV y)) hv1) (.reB (t := 5003) rfl (congrArg (fun y => CPred.at s5003 (mapW 3 y)) hv2) ?_))))))))))))))))))))))))))))
 obtain ⟨j_3, h, hK3⟩ := bind_some h
 refine .thenJ (ι := ((GMap Str Int) × (GMap Str (List Int)))) (fun j_3 => []) (fun j_3 => [(5002, some (CPred.at s5002 (mapV j_3.1))), (5003, some (CPred.at s5003 (mapW 3 j_3.2)))]) (fun s => j_3 = s) (.k 3 rfl .nil) (.k 5001 rfl .nil) ?_ (fun j_3' hj3 => ?_)
 ·
  refine .block (.rforL h (fun p4_ => [(14, ⟨True, rep p4_.1⟩)]) (fun p4_ => [(5002, some (CPred.at s5002 (mapV p4_.2.1))), (5003, some (CPred.at s5003 (mapW 3 p4_.2.2)))]) (.k 14 rfl .nil) (.k 5002 rfl (.k 5003 rfl .nil)) (.k 3 rfl (.k 12 rfl (.k 13 rfl .nil))) (.k 5001 rfl .nil) (fun p4_ o_4 h hD4 => (.sr [] mixed (.cons (.lt .none (.s rfl) (.s rfl)) rfl (.nil (.seq (.cb rfl h (fun _ h => ?_) fun _ h => ?_)))))))
  ·
   refine .skip (.then (.seq ?_))
   obtain ⟨j_6, h, hK6⟩ := bind_some h
   unfold page_viewOf_L1 at h
   refine .thenJ (ι := ((GMap Str Int) × (GMap Str (List Int)))) (fun j_6 => []) (fun j_6 => [(5002, some (CPred.at s5002 (mapV j_6.1))), (5003, some (CPred.at s5003 (mapW 3 j_6.2)))]) (fun s => j_6 = s) (.k 3 rfl (.k 12 rfl (.k 13 rfl (.k 14 rfl .nil)))) (.k 5001 rfl .nil) ?_ (fun j_6' hj6 => ?_)
   ·
    obtain ⟨hn7, h⟩ := need_some h
    obtain ⟨v1, hv8, h⟩ := bnd_some h
    obtain ⟨c3, hv9, h⟩ := bnd_some h
    refine .block (.sr [oo, oo, oo, ([], [5]), oo, ([5], [5])] mixed (.mvA rfl (.consA (.indexAddr .none sl22 ty43 (.s rfl) (.s rfl) (fun _ => hn7)) rfl (.consA (.re hv8 (.load .none ty43 (.s rfl))) rfl (.consW (.alloc zo43 rfl) rfl rfl (.asnA rfl (.consN (.store ty43 rfl rfl (.s rfl)) rfl (.nil (.freeze (t := 5) rfl rfl (.k 5001 rfl (.k 5002 rfl (.k 5003 rfl .nil))) rfl (.sr [oo, oo, oo, ([5001], []), oo, oo, oo, ([5002], [5002])] mixed (.mvA rfl (.consA (.nilCheckP .none (.s rfl)) rfl (.consA (.fieldPtr .none fd63_1 (.s rfl)) rfl (.consA (.loadAt (k := 5001) .none tr60 rfl (.s rfl) hv_Page_view_o12_1) rfl (.faA fd43_0 hfd43_0 rfl (.ldA ty9 rfl (.mvA rfl (.consN (.mapUpdate (q := 5002) mo60 (.s rfl) rfl (.s rfl) (.s rfl)) rfl (.nil (.reB (t := 5002) rfl (congrArg (fun y => CPred.at s5002 (mapV y)) hv9) (.sr [] mixed (.fa fd43_5 hfd43_5 rfl (.ld ty9 rfl (.cons (.neS .none (eqAt_str Tryd.underlying9) (.s rfl) (.str (l := []) (by decide))) rfl (.nil (.cb rfl h (fun _ h => ?_) fun _ h => ?_))))))))))))))))))))))))))
    ·
     obtain ⟨hn11, h⟩ := need_some h
     exact .rg [oo, oo, oo, ([5001], []), oo, oo, oo, oo, oo, ([5001], []), oo, oo, ([5003], [41, 5003]), oo, oo, ([41], [44, 41]), ([5003, 44], [5003, 44])] mixed (.mvA rfl (.consA (.nilCheckP .none (.s rfl)) rfl (.consA (.fieldPtr .none fd63_2 (.s rfl)) rfl (.consA (.loadAt (k := 5001) .none tr61 rfl (.s rfl) hv_Page_view_o12_2) rfl (.faA fd43_5 hfd43_5 rfl (.ldA ty9 rfl (.mvA rfl (.consA (.nilCheckP .none (.s rfl)) rfl (.consA (.fieldPtr .none fd63_2 (.s rfl)) rfl (.consA (.loadAt (k := 5001) .none tr61 rfl (.s rfl) hv_Page_view_o12_2) rfl (.faA fd43_5 hfd43_5 rfl (.ldA ty9 rfl (.consW (.mapTake (q := 5003) mo61 zraw59 rfl rfl (.s rfl) rfl (.s rfl)) rfl rfl (.mvA rfl (.consA (.buildSlice (xs := [_]) .none sl59 ty3 hz3 (.cons (.s rfl) .nil) rfl (by decide)) rfl (.consW (.append (k := 41) rk59 rfl (.tmp rfl) (.s rfl) hn11) rfl rfl (.consN (.mapPut (q := 5003) (t := 44) mo61 rfl (.s rfl) rfl (fun _ h => h) rfl rfl (.s rfl)) rfl (.nil (.blkNormal (Ends.j _ (some_eq h)))))))))))))))))))))
    ·
     exact .skip (.blkNormal (Ends.j _ (some_eq h)))
   ·
    subst hj6; have h := hK6; clear hK6
    exact .rg [] mixed (.cons (.addW .none (.s rfl) (.int (by decide))) rfl (.mv rfl (.nil (Ends.ag (some_eq h)))))
  ·
   refine .exit (.thenExit (.thenExit (.blkExit ?_)))
   replace h := hD4 _ (some_eq h)
   exact Ends.j _ (some_eq h)
 ·
  subst hj3; have h := hK3; clear hK3
  refine .close (k := 5001) (g := 5003) (fun z => cont 63 (⟨d1, ⟨s5002⟩, ⟨z⟩⟩ : Page_view_o12)) rfl rfl rfl (.close (k := 5001) (g := 5002) (fun z => deep (fun z0 => cont 63 (⟨d1, ⟨z⟩, ⟨z0⟩⟩ : Page_view_o12)) (mapW 3 j_3.2)) rfl rfl rfl (.freezeAt (g := 5001) (S := ref ((⟨d1, j_3.1, j_3.2⟩ : Page_view) : Page_view)) (ts := [3]) rfl (.cons (t := 3) rfl trivial .nil) SubB.nil rfl (fun M D w h hms => deep_ref2 (mk := (fun s1_ s2_ => (⟨d1, ⟨s1_⟩, ⟨s2_⟩⟩ : Page_view_o12))) (y := ((⟨d1, j_3.1, j_3.2⟩ : Page_view) : Page_view)) frzMap frzMapW rfl (fun M s1_ s2_ cs w hc g1 g2 => by obtain ⟨c0, q0, e0, h0, c1, q1, e1, h1, h2⟩ := hc; exact ⟨c0, q0, e0, h0, c1, q1, e1, raw_cells rfl rfl h1 g1, raw_cells rfl rfl h2 g2⟩) M D w h hms) (.sr [] mixed (.mv rfl (.asn rfl (.nil (.ret ?_)))))))
  obtain rfl := some_eq h
  exact Ends.ret1 (.inl rfl) Tryd.results49 (ResOK.tmp rfl trivial Imp.refSome)
theorem page_view_node_ok {v1 : Page_view} {id1 : Str} {r : DNode}  (h : page_view_node v1 id1 = some r) : FSpec Tryd.prog 114 [ref v1, rep id1] (rep r) := by
 unfold page_view_node at h
 obtain ⟨v2, hv1, h⟩ := bnd_some h
 obtain ⟨hn2, h⟩ := need_some h
 obtain ⟨v3, hv3, h⟩ := bnd_some h
 refine FSpec.intro (n := 18) fnok114 Tryd.func114 rfl Tryd.ntmps114 rfl (fun F => (.sr [([], [4])] mixed (.consW (.alloc zo43 rfl) rfl rfl (.nil (.reB (t := 4) rfl (congrArg (cont 43) hv1) (.nameBox (t := 4) (g := 5001) rfl rfl (fun m5001 => (.sr [oo, oo, oo, oo, oo, oo, oo, oo, oo, oo, oo, oo, oo, ([5001], [5001])] mixed (.mvA rfl (.consA (.nilCheckR .none (.s rfl)) rfl (.faA fd63_0 hfd63_0 rfl (.faA fd25_0 hfd25_0 rfl (.ldA ty22 rfl (.mvA rfl (.consA (.nilCheckR .none (.s rfl)) rfl (.faA fd63_1 hfd63_1 rfl (.ldA ty60 rfl (.mvA rfl (.consA (.lookup .none mo60 zo3 (.s rfl) (.s rfl)) rfl (.consA (.indexAddr .none sl22 ty43 (.s rfl) (.s rfl) (fun _ => hn2)) rfl (.consA (.re hv3 (.load .none ty43 (.s rfl))) rfl (.consN (.storeAt0 (g := 5001) ty43 rfl (.s rfl) (.s rfl)) rfl (.nil (.freezeBox (g := 5001) (ts := [4]) rfl (.cons (t := 4) rfl trivial .nil) SubB.nil rfl (.ret ?_)))))))))))))))))))))))))
 obtain rfl := some_eq h
 exact Ends.ret1 (.inl rfl) Tryd.results114 (ResOK.cellR ty43 rfl trivial Imp.refl)
theorem page_view_above_ok {v1 : Page_view} {n1 : DNode} {r : (Int × Bool)}  (h : page_view_above v1 n1 = some r) : FSpec Tryd.prog 95 [ref v1, rep n1] (tup [rep r.1, rep r.2]) := by
 unfold page_view_above at h
 refine FSpec.intro (n := 39) fnok95 Tryd.func95 rfl Tryd.ntmps95 rfl (fun F => (.sr [([], [3]), oo, oo] mixed (.consW (.boxO rfl (.s rfl)) rfl rfl (.consA (.assign .none (.int (by decide))) rfl (.consA (.assign .none .bool) rfl (.nil (.nameBox (t := 3) (g := 5001) rfl rfl (fun m5001 => (.sr [oo, ([5001], []), oo, oo] mixed (.consA (.fieldPtr .none fd43_0 (.s rfl)) rfl (.consA (.loadAt (k := 5001) .none ty9 rfl (.s rfl) hfd43_0) rfl (.asnA rfl (.consA (.assign .none (.int (by decide))) rfl (.nil (.seq ?_)))))))))))))))
 obtain ⟨o_1, h, hK1⟩ := bindR_some h
 refine .thenJ (ι := Int) (fun j_1 => [(7, ⟨True, rep j_1⟩)]) (fun j_1 => []) (fun s => o_1 = Res.nx s) Sub.nil SubB.nil ?_ (fun j_1 hj1 => ?_)
 ·
  refine .block (.loopL h (fun s2_ => [(7, ⟨True, rep s2_.1⟩)]) (fun s2_ => [(5001, some (boxAt m5001 43 s2_.2))]) (.k 7 rfl .nil) (.k 5001 rfl .nil) (.k 0 rfl (.k 3 rfl (.k 6 rfl .nil))) SubB.nil (fun s2_ o_2 h hD2 => ?_))
  unfold page_view_above_L1 at h
  refine .seq (.sr [oo, ([5001], []), oo] mixed (.consA (.fieldPtr .none fd43_5 (.s rfl)) rfl (.consA (.loadAt (k := 5001) .none ty9 rfl (.s rfl) hfd43_5) rfl (.consA (.neS .none (eqAt_str Tryd.underlying9) (.s rfl) (.str (l := []) (by decide))) rfl (.nil (.cb rfl h (fun _ h => ?_) fun _ h => ?_))))))
  ·
   obtain ⟨many1, hv4, h⟩ := bnd_some h
   refine .skip (.then (.block (.seq (.sr [] mixed (.mv rfl (.cons (.addW .none (.s rfl) (.int (by decide))) rfl (.cons (.re hv4 (.assign .none (.s rfl))) rfl (.nil (.sr [oo, ([5001], []), oo, oo, oo, oo, oo, oo, oo, oo, oo, oo, oo, oo] mixed (.consA (.fieldPtr .none fd43_5 (.s rfl)) rfl (.consA (.loadAt (k := 5001) .none ty9 rfl (.s rfl) hfd43_5) rfl (.mvA rfl (.consA (.eqS .none (eqAt_str Tryd.underlying9) (.s rfl) (.s rfl)) rfl (.mvA rfl (.consA (.move (.at rfl rfl) (.s rfl)) rfl (.consA (.move (.at rfl rfl) (.s rfl)) rfl (.consA (.nilCheckR (.at rfl rfl) (.tmp rfl id)) rfl (.consA (.fieldAddr (.at rfl rfl) fd63_0 hfd63_0 (.tmp rfl id)) rfl (.consA (.fieldAddr (.at rfl rfl) fd25_0 hfd25_0 (.tmp rfl id)) rfl (.consA (.load (.at rfl rfl) ty22 (.tmp rfl id)) rfl (.consA (.len (.at rfl rfl) sl22 (.tmp rfl id)) rfl (.consA (.gt (.at rfl rfl) (.tmp rfl id) (.tmp rfl id)) rfl (.consA (.pickOr .none (.s rfl) (.tmp rfl id)) rfl (.nil (.cb rfl h (fun _ h => ?_) fun _ h => ?_)))))))))))))))))))))))))
   ·
    refine .sr [oo, oo, ([5001], []), oo, oo, oo, oo] mixed (.mvA rfl (.consA (.fieldPtr .none fd43_5 (.s rfl)) rfl (.consA (.loadAt (k := 5001) .none ty9 rfl (.s rfl) hfd43_5) rfl (.mvA rfl (.consA (.neS .none (eqAt_str Tryd.underlying9) (.s rfl) (.s rfl)) rfl (.asnA rfl (.asnA rfl (.nil (.ret (.thenRet (.blkRet (.thenRet (.blkRet (.thenRet ?_))))))))))))))
    replace h := hD2 _ (some_eq h)
    replace h := resb_ab hK1 (some_eq h)
    obtain rfl := some_eq h
    exact Ends.ret2 (.inl rfl) Tryd.results95 (ResOK.tmp rfl trivial Imp.refl) (ResOK.tmp rfl trivial Imp.refl)
   ·
    obtain ⟨r1, hv6, h⟩ := bind_some h
    exact .skip (.then (.rg [oo, oo, ([5001], []), oo, ([5001], [5001])] mixed (.mvA rfl (.consA (.fieldPtr .none fd43_5 (.s rfl)) rfl (.consA (.loadAt (k := 5001) .none ty9 rfl (.s rfl) hfd43_5) rfl (.consA (.call .none (page_view_node_ok hv6) (.cons (.s rfl) (.cons (.s rfl) .nil))) rfl (.consN (.storeAt0 (g := 5001) ty43 rfl (.s rfl) (.s rfl)) rfl (.nil (.blkNormal (Ends.ag (some_eq h)))))))))))
  ·
   refine .exit (.thenExit (.thenExit (.blkExit ?_)))
   replace h := hD2 _ (some_eq h)
   exact Ends.j _ (some_eq h)
 ·
  have h := resb_nx hK1 hj1
  refine .sr [] mixed (.mv rfl (.asn rfl (.cons (.assign .none .bool) rfl (.nil (.ret ?_)))))
  obtain rfl := some_eq h
  exact Ends.ret2 (.inl rfl) Tryd.results95 (ResOK.tmp rfl trivial Imp.refl) (ResOK.tmp rfl trivial Imp.refl)
theorem page_view_checkGroups_ok {v1 : Page_view} {r : Int}  (h : page_view_checkGroups v1 = some r) : FSpec Tryd.prog 50 [ref v1] (rep r) := by
 unfold page_view_checkGroups at h
 refine FSpec.intro (n := 120) fnok50 Tryd.func50 rfl Tryd.ntmps50 rfl (fun F => (.sr [] mixed (.asi (.nil (.seq (.sr [] mixed (.mv rfl (.cons (.nilCheckR .none (.s rfl)) rfl (.fa fd63_0 hfd63_0 rfl (.fa fd25_0 hfd25_0 rfl (.ld ty22 rfl (.cons (.len .none sl22 (.s rfl)) rfl (.mvi (.nil ?_))))))))))))))
 obtain ⟨o_1, h, hK1⟩ := bindR_some h
 refine .thenJ (ι := Unit) (fun j_1 => []) (fun j_1 => []) (fun s => o_1 = Res.nx s) (.k 0 rfl .nil) SubB.nil ?_ (fun j_1 hj1 => ?_)
 ·
  refine .block (.rforEL h (fun p2_ => [(23, ⟨True, rep p2_.1⟩)]) (fun p2_ => []) (.k 23 rfl .nil) SubB.nil (.k 0 rfl (.k 21 rfl (.k 22 rfl .nil))) SubB.nil (fun p2_ o_2 h hD2 => (.sr [] mixed (.cons (.lt .none (.s rfl) (.s rfl)) rfl (.nil (.seq (.cb rfl h (fun _ h => ?_) fun _ h => ?_)))))))
  ·
   refine .skip (.then (.seq ?_))
   obtain ⟨o_4, h, hK4⟩ := bindD_some h
   unfold page_view_checkGroups_L1 at h
   refine .thenJ (ι := Unit) (fun j_4 => []) (fun j_4 => []) (fun s => o_4 = Res.nx s) (.k 0 rfl (.k 21 rfl (.k 22 rfl (.k 23 rfl .nil)))) SubB.nil ?_ (fun j_4 hj4 => ?_)
   ·
    obtain ⟨hn5, h⟩ := need_some h
    obtain ⟨v2, hv6, h⟩ := bnd_some h
    obtain ⟨hn7, h⟩ := need_some h
    refine .block (.sr [oo, oo, ([], [4]), ([4], [4])] mixed (.consA (.indexAddr .none sl22 ty43 (.s rfl) (.s rfl) (fun _ => hn5)) rfl (.consA (.re hv6 (.load .none ty43 (.s rfl))) rfl (.consW (.alloc zo43 rfl) rfl rfl (.consN (.store ty43 rfl rfl (.s rfl)) rfl (.nil (.freeze (t := 4) rfl rfl SubB.nil rfl (.sr [] mixed (.mv rfl (.cons (.nilCheckR .none (.s rfl)) rfl (.fa fd63_1 hfd63_1 rfl (.ld ty60 rfl (.fa fd43_5 hfd43_5 rfl (.ld ty9 rfl (.cons (.lookupOk .none mo60 zo3 (.s rfl) (.s rfl)) rfl (.mv rfl (.cons (.extract .none (.s rfl) rfl) rfl (.cons (.extract .none (.s rfl) rfl) rfl (.asn rfl (.asn rfl (.nil (.sr [] mixed (.fa fd43_5 hfd43_5 rfl (.ld ty9 rfl (.cons (.neS .none (eqAt_str Tryd.underlying9) (.s rfl) (.str (l := []) (by decide))) rfl (.mv rfl (.cons (.move (.at rfl rfl) (.s rfl)) rfl (.cons (.not (.at rfl rfl) (.tmp rfl id)) rfl (.cons (.move (.at rfl rfl) (.tmp rfl id)) rfl (.cons (.move (.at rfl rfl) (.s rfl)) rfl (.cons (.nilCheckR (.at rfl rfl) (.tmp rfl id)) rfl (.cons (.fieldAddr (.at rfl rfl) fd63_0 hfd63_0 (.tmp rfl id)) rfl (.cons (.fieldAddr (.at rfl rfl) fd25_0 hfd25_0 (.tmp rfl id)) rfl (.cons (.load (.at rfl rfl) ty22 (.tmp rfl id)) rfl (.cons (.move (.at rfl rfl) (.s rfl)) rfl (.cons (.indexAddr (.at rfl rfl) sl22 ty43 (.tmp rfl id) (.tmp rfl id) (fun hg => hn7 hg.1.2 hg.2)) rfl (.cons (.fieldAddr (.at rfl rfl) fd43_1 hfd43_1 (.tmp rfl id)) rfl (.cons (.load (.at rfl rfl) ty3 (.tmp rfl id)) rfl (.cons (.neI (.at rfl rfl) (.tmp rfl id) (.int (by decide))) rfl (.cons (.pickOr (.at rfl rfl) (.tmp rfl id) (.tmp rfl id)) rfl (.cons (.pickAnd .none (.s rfl) (.tmp rfl id)) rfl (.nil (.cb rfl h (fun _ h => ?_) fun _ h => ?_)))))))))))))))))))))))))))))))))))))))))))
    ·
     refine .sr [] mixed (.asi (.nil (.ret (.blkRet (.thenRet (.thenRet (.blkRet (.thenRet ?_))))))))
     replace h := resd_ab hK4 (some_eq h)
     replace h := hD2 _ (some_eq h)
     replace h := resb_ab hK1 (some_eq h)
     obtain rfl := some_eq h
     exact Ends.rt Tryd.results50 rfl
    ·
     exact .skip (.blkNormal (Ends.j _ (some_eq h)))
   ·
    have h := resd_nx hK4 hj4
    exact .rg [] mixed (.cons (.addW .none (.s rfl) (.int (by decide))) rfl (.mv rfl (.nil (Ends.ag (some_eq h)))))
  ·
   refine .exit (.thenExit (.thenExit (.blkExit ?_)))
   replace h := hD2 _ (some_eq h)
   exact Ends.j _ (some_eq h)
 ·
  have h := resb_nx hK1 hj1
  refine .seq (.sr [] mixed (.mv rfl (.cons (.nilCheckR .none (.s rfl)) rfl (.fa fd63_0 hfd63_0 rfl (.fa fd25_0 hfd25_0 rfl (.ld ty22 rfl (.cons (.len .none sl22 (.s rfl)) rfl (.mvi (.nil ?_)))))))))
  obtain ⟨o_9, h, hK9⟩ := bindR_some h
  refine .thenJ (ι := Unit) (fun j_9 => []) (fun j_9 => []) (fun s => o_9 = Res.nx s) (.k 0 rfl .nil) SubB.nil ?_ (fun j_9 hj9 => ?_)
  ·
   refine .block (.rforEL h (fun p10_ => [(63, ⟨True, rep p10_.1⟩)]) (fun p10_ => []) (.k 63 rfl .nil) SubB.nil (.k 0 rfl (.k 61 rfl (.k 62 rfl .nil))) SubB.nil (fun p10_ o_10 h hD10 => (.sr [] mixed (.cons (.lt .none (.s rfl) (.s rfl)) rfl (.nil (.seq (.cb rfl h (fun _ h => ?_) fun _ h => ?_)))))))
   ·
    refine .skip (.then (.seq ?_))
    obtain ⟨o_12, h, hK12⟩ := bindD_some h
    unfold page_view_checkGroups_L2 at h
    refine .thenJ (ι := Unit) (fun j_12 => []) (fun j_12 => []) (fun s => o_12 = Res.nx s) (.k 0 rfl (.k 61 rfl (.k 62 rfl (.k 63 rfl .nil)))) SubB.nil ?_ (fun j_12 hj12 => ?_)
    ·
     obtain ⟨hn13, h⟩ := need_some h
     obtain ⟨v3, hv14, h⟩ := bnd_some h
     obtain ⟨r1, hv15, h⟩ := bind_some h
     refine .block (.sr [oo, oo, ([], [8]), ([8], [8])] mixed (.consA (.indexAddr .none sl22 ty43 (.s rfl) (.s rfl) (fun _ => hn13)) rfl (.consA (.re hv14 (.load .none ty43 (.s rfl))) rfl (.consW (.alloc zo43 rfl) rfl rfl (.consN (.store ty43 rfl rfl (.s rfl)) rfl (.nil (.freeze (t := 8) rfl rfl SubB.nil rfl (.sr [] mixed (.mv rfl (.ld ty43 rfl (.cons (.call .none (page_view_above_ok hv15) (.cons (.s rfl) (.cons (.s rfl) .nil))) rfl (.mv rfl (.cons (.extract .none (.s rfl) rfl) rfl (.cons (.extract .none (.s rfl) rfl) rfl (.asn rfl (.asn rfl (.nil (.sr [] mixed (.mv rfl (.cons (.not .none (.s rfl)) rfl (.nil (.cb rfl h (fun _ h => ?_) fun _ h => ?_))))))))))))))))))))))
     ·
      refine .sr [] mixed (.asi (.nil (.ret (.blkRet (.thenRet (.thenRet (.blkRet (.thenRet ?_))))))))
      replace h := resd_ab hK12 (some_eq h)
      replace h := hD10 _ (some_eq h)
      replace h := resb_ab hK9 (some_eq h)
      obtain rfl := some_eq h
      exact Ends.rt Tryd.results50 rfl
     ·
      exact .skip (.blkNormal (Ends.j _ (some_eq h)))
    ·
     have h := resd_nx hK12 hj12
     exact .rg [] mixed (.cons (.addW .none (.s rfl) (.int (by decide))) rfl (.mv rfl (.nil (Ends.ag (some_eq h)))))
   ·
    refine .exit (.thenExit (.thenExit (.blkExit ?_)))
    replace h := hD10 _ (some_eq h)
    exact Ends.j _ (some_eq h)
  ·
   have h := resb_nx hK9 hj9
   refine .seq (.sr [] mixed (.mv rfl (.cons (.nilCheckR .none (.s rfl)) rfl (.fa fd63_0 hfd63_0 rfl (.fa fd25_0 hfd25_0 rfl (.ld ty22 rfl (.cons (.len .none sl22 (.s rfl)) rfl (.mvi (.nil ?_)))))))))
   obtain ⟨o_17, h, hK17⟩ := bindR_some h
   refine .thenJ (ι := Unit) (fun j_17 => []) (fun j_17 => []) (fun s => o_17 = Res.nx s) (.k 0 rfl .nil) SubB.nil ?_ (fun j_17 hj17 => ?_)
   ·
    refine .block (.rforEL h (fun p18_ => [(82, ⟨True, rep p18_.1⟩)]) (fun p18_ => []) (.k 82 rfl .nil) SubB.nil (.k 0 rfl (.k 80 rfl (.k 81 rfl .nil))) SubB.nil (fun p18_ o_18 h hD18 => (.sr [] mixed (.cons (.lt .none (.s rfl) (.s rfl)) rfl (.nil (.seq (.cb rfl h (fun _ h => ?_) fun _ h => ?_)))))))
    ·
     refine .skip (.then (.seq ?_))
     obtain ⟨o_20, h, hK20⟩ := bindD_some h
     unfold page_view_checkGroups_L3 at h
     refine .thenJ (ι := Unit) (fun j_20 => []) (fun j_20 => []) (fun s => o_20 = Res.nx s) (.k 0 rfl (.k 80 rfl (.k 81 rfl (.k 82 rfl .nil)))) SubB.nil ?_ (fun j_20 hj20 => ?_)
     ·
      obtain ⟨hn21, h⟩ := need_some h
      obtain ⟨v4, hv22, h⟩ := bnd_some h
      obtain ⟨r2, hv23, h⟩ := bind_some h
      refine .block (.sr [oo, oo, ([], [12]), ([12], [12])] mixed (.consA (.indexAddr .none sl22 ty43 (.s rfl) (.s rfl) (fun _ => hn21)) rfl (.consA (.re hv22 (.load .none ty43 (.s rfl))) rfl (.consW (.alloc zo43 rfl) rfl rfl (.consN (.store ty43 rfl rfl (.s rfl)) rfl (.nil (.freeze (t := 12) rfl rfl SubB.nil rfl (.sr [] mixed (.mv rfl (.ld ty43 rfl (.cons (.call .none (page_view_above_ok hv23) (.cons (.s rfl) (.cons (.s rfl) .nil))) rfl (.mv rfl (.cons (.extract .none (.s rfl) rfl) rfl (.cons (.extract .none (.s rfl) rfl) rfl (.asn rfl (.asn rfl (.nil (.sr [] mixed (.mv rfl (.cons (.gt .none (.s rfl) (.int (by decide))) rfl (.nil (.cb rfl h (fun _ h => ?_) fun _ h => ?_))))))))))))))))))))))
      ·
       refine .sr [] mixed (.asi (.nil (.ret (.blkRet (.thenRet (.thenRet (.blkRet (.thenRet ?_))))))))
       replace h := resd_ab hK20 (some_eq h)
       replace h := hD18 _ (some_eq h)
       replace h := resb_ab hK17 (some_eq h)
       obtain rfl := some_eq h
       exact Ends.rt Tryd.results50 rfl
      ·
       exact .skip (.blkNormal (Ends.j _ (some_eq h)))
     ·
      have h := resd_nx hK20 hj20
      exact .rg [] mixed (.cons (.addW .none (.s rfl) (.int (by decide))) rfl (.mv rfl (.nil (Ends.ag (some_eq h)))))
    ·
     refine .exit (.thenExit (.thenExit (.blkExit ?_)))
     replace h := hD18 _ (some_eq h)
     exact Ends.j _ (some_eq h)
   ·
    have h := resb_nx hK17 hj17
    refine .seq (.sr [] mixed (.mv rfl (.cons (.nilCheckR .none (.s rfl)) rfl (.fa fd63_0 hfd63_0 rfl (.fa fd25_0 hfd25_0 rfl (.ld ty22 rfl (.cons (.len .none sl22 (.s rfl)) rfl (.mvi (.nil ?_)))))))))
    obtain ⟨o_25, h, hK25⟩ := bindR_some h
    refine .thenJ (ι := Unit) (fun j_25 => []) (fun j_25 => []) (fun s => o_25 = Res.nx s) Sub.nil SubB.nil ?_ (fun j_25 hj25 => ?_)
    ·
     refine .block (.rforEL h (fun p26_ => [(101, ⟨True, rep p26_.1⟩)]) (fun p26_ => []) (.k 101 rfl .nil) SubB.nil (.k 0 rfl (.k 99 rfl (.k 100 rfl .nil))) SubB.nil (fun p26_ o_26 h hD26 => (.sr [] mixed (.cons (.lt .none (.s rfl) (.s rfl)) rfl (.nil (.seq (.cb rfl h (fun _ h => ?_) fun _ h => ?_)))))))
     ·
      refine .skip (.then (.seq ?_))
      obtain ⟨o_28, h, hK28⟩ := bindD_some h
      unfold page_view_checkGroups_L4 at h
      refine .thenJ (ι := Unit) (fun j_28 => []) (fun j_28 => []) (fun s => o_28 = Res.nx s) (.k 0 rfl (.k 99 rfl (.k 100 rfl (.k 101 rfl .nil)))) SubB.nil ?_ (fun j_28 hj28 => ?_)
      ·
       obtain ⟨hn29, h⟩ := need_some h
       obtain ⟨v5, hv30, h⟩ := bnd_some h
       refine .block (.sr [oo, oo, ([], [16]), ([16], [16])] mixed (.consA (.indexAddr .none sl22 ty43 (.s rfl) (.s rfl) (fun _ => hn29)) rfl (.consA (.re hv30 (.load .none ty43 (.s rfl))) rfl (.consW (.alloc zo43 rfl) rfl rfl (.consN (.store ty43 rfl rfl (.s rfl)) rfl (.nil (.freeze (t := 16) rfl rfl SubB.nil rfl (.sr [] mixed (.fa fd43_1 hfd43_1 rfl (.ld ty3 rfl (.cons (.eqI .none (.s rfl) (.int (by decide))) rfl (.mv rfl (.cons (.move (.at rfl rfl) (.s rfl)) rfl (.cons (.nilCheckR (.at rfl rfl) (.tmp rfl id)) rfl (.cons (.fieldAddr (.at rfl rfl) fd63_2 hfd63_2 (.tmp rfl id)) rfl (.cons (.load (.at rfl rfl) ty61 (.tmp rfl id)) rfl (.cons (.fieldAddr (.at rfl rfl) fd43_0 hfd43_0 (.s rfl)) rfl (.cons (.load (.at rfl rfl) ty9 (.tmp rfl id)) rfl (.cons (.lookup (.at rfl rfl) mo61 zo59 (.tmp rfl id) (.tmp rfl id)) rfl (.cons (.len (.at rfl rfl) sl59 (.tmp rfl id)) rfl (.cons (.eqI (.at rfl rfl) (.tmp rfl id) (.int (by decide))) rfl (.cons (.pickAnd .none (.s rfl) (.tmp rfl id)) rfl (.nil (.cb rfl h (fun _ h => ?_) fun _ h => ?_))))))))))))))))))))))))
       ·
        refine .sr [] mixed (.asi (.nil (.ret (.blkRet (.thenRet (.thenRet (.blkRet (.thenRet ?_))))))))
        replace h := resd_ab hK28 (some_eq h)
        replace h := hD26 _ (some_eq h)
        replace h := resb_ab hK25 (some_eq h)
        obtain rfl := some_eq h
        exact Ends.rt Tryd.results50 rfl
       ·
        exact .skip (.blkNormal (Ends.j _ (some_eq h)))
      ·
       have h := resd_nx hK28 hj28
       exact .rg [] mixed (.cons (.addW .none (.s rfl) (.int (by decide))) rfl (.mv rfl (.nil (Ends.ag (some_eq h)))))
     ·
      refine .exit (.thenExit (.thenExit (.blkExit ?_)))
      replace h := hD26 _ (some_eq h)
      exact Ends.j _ (some_eq h)
    ·
     have h := resb_nx hK25 hj25
     refine .sr [] mixed (.asi (.nil (.ret ?_)))
     obtain rfl := some_eq h
     exact Ends.rt Tryd.results50 rfl
theorem page_view_checkEnd_ok {v1 : Page_view} {x1 : DEnd} {r : Int}  (h : page_view_checkEnd v1 x1 = some r) : FSpec Tryd.prog 96 [ref v1, rep x1] (rep r) := by
 unfold page_view_checkEnd at h
 refine FSpec.intro (n := 50) fnok96 Tryd.func96 rfl Tryd.ntmps96 rfl (fun F => (.sr [] mixed (.cons (.box .none (.s rfl)) rfl (.asi (.nil (.sr [] mixed (.mv rfl (.cons (.nilCheckR .none (.s rfl)) rfl (.fa fd63_1 hfd63_1 rfl (.ld ty60 rfl (.fa fd93_0 hfd93_0 rfl (.ld ty9 rfl (.cons (.lookupOk .none mo60 zo3 (.s rfl) (.s rfl)) rfl (.mv rfl (.cons (.extract .none (.s rfl) rfl) rfl (.cons (.extract .none (.s rfl) rfl) rfl (.asn rfl (.asn rfl (.nil (.seq (.block (.sr [] mixed (.mv rfl (.cons (.not .none (.s rfl)) rfl (.asn rfl (.nil (.cb rfl h (fun _ h => ?_) fun _ h => ?_)))))))))))))))))))))))))))
 ·
  refine .sr [] mixed (.asi (.nil (.ret (.blkRet (.thenRet ?_)))))
  obtain rfl := some_eq h
  exact Ends.rt Tryd.results96 rfl
 ·
  obtain ⟨hn2, h⟩ := need_some h
  refine .sr [] mixed (.mv rfl (.cons (.nilCheckR .none (.s rfl)) rfl (.fa fd63_0 hfd63_0 rfl (.fa fd25_0 hfd25_0 rfl (.ld ty22 rfl (.mv rfl (.cons (.indexAddr .none sl22 ty43 (.s rfl) (.s rfl) (fun _ => hn2)) rfl (.fa fd43_1 hfd43_1 rfl (.ld ty3 rfl (.cons (.eqI .none (.s rfl) (.int (by decide))) rfl (.asn rfl (.nil (.cb rfl h (fun _ h => ?_) fun _ h => ?_)))))))))))))
  ·
   refine .sr [] mixed (.asi (.nil (.ret (.blkRet (.thenRet ?_)))))
   obtain rfl := some_eq h
   exact Ends.rt Tryd.results96 rfl
  ·
   refine .sr [] mixed (.fa fd93_1 hfd93_1 rfl (.ld ty3 rfl (.cons (.lt .none (.s rfl) (.int (by decide))) rfl (.mv rfl (.cons (.fieldAddr (.at rfl rfl) fd93_1 hfd93_1 (.s rfl)) rfl (.cons (.load (.at rfl rfl) ty3 (.tmp rfl id)) rfl (.cons (.gt (.at rfl rfl) (.tmp rfl id) (.int (by decide))) rfl (.cons (.pickOr .none (.s rfl) (.tmp rfl id)) rfl (.mv rfl (.cons (.fieldAddr (.at rfl rfl) fd93_2 hfd93_2 (.s rfl)) rfl (.cons (.load (.at rfl rfl) ty3 (.tmp rfl id)) rfl (.cons (.lt (.at rfl rfl) (.tmp rfl id) (.int (by decide))) rfl (.cons (.pickOr .none (.s rfl) (.tmp rfl id)) rfl (.mv rfl (.cons (.fieldAddr (.at rfl rfl) fd93_2 hfd93_2 (.s rfl)) rfl (.cons (.load (.at rfl rfl) ty3 (.tmp rfl id)) rfl (.cons (.gt (.at rfl rfl) (.tmp rfl id) (.int (by decide))) rfl (.cons (.pickOr .none (.s rfl) (.tmp rfl id)) rfl (.asn rfl (.nil (.cb rfl h (fun _ h => ?_) fun _ h => ?_)))))))))))))))))))))
   ·
    refine .sr [] mixed (.asi (.nil (.ret (.blkRet (.thenRet ?_)))))
    obtain rfl := some_eq h
    exact Ends.rt Tryd.results96 rfl
   ·
    refine .skip (.blkNormal (.then (.sr [] mixed (.asi (.nil (.ret ?_))))))
    obtain rfl := some_eq h
    exact Ends.rt Tryd.results96 rfl
theorem geom_CheckPoint_ok {p1 : Point} {r : Int}  (h : geom_CheckPoint p1 = some r) : FSpec Tryd.prog 127 [rep p1] (rep r) := by
 unfold geom_CheckPoint at h
 obtain ⟨r1, hv1, h⟩ := bind_some h
 obtain ⟨r2, hv2, h⟩ := bind_some h
 refine FSpec.intro (n := 11) fnok127 Tryd.func127 rfl Tryd.ntmps127 rfl (fun F => (.sr [] mixed (.cons (.box .none (.s rfl)) rfl (.asi (.nil (.seq (.sr [] mixed (.fa fd118_0 hfd118_0 rfl (.ld ty3 rfl (.cons (.call .none (geom_out_ok hv1) (.cons (.s rfl) .nil)) rfl (.mv rfl (.cons (.fieldAddr (.at rfl rfl) fd118_1 hfd118_1 (.s rfl)) rfl (.cons (.load (.at rfl rfl) ty3 (.tmp rfl id)) rfl (.cons (.callIf (.at rfl rfl) fnok113 (fun hg => geom_out_ok ((fun hg => gd_some hv2 ((notT hg.2))) hg)) (.cons (.tmp rfl id) .nil) (fun h => h)) rfl (.cons (.pickOr .none (.s rfl) (.tmp rfl id)) rfl (.nil (.cb rfl h (fun _ h => ?_) fun _ h => ?_)))))))))))))))))
 ·
  refine .sr [] mixed (.asi (.nil (.ret (.thenRet ?_))))
  obtain rfl := some_eq h
  exact Ends.rt Tryd.results127 rfl
 ·
  refine .skip (.then (.sr [] mixed (.asi (.nil (.ret ?_)))))
  obtain rfl := some_eq h
  exact Ends.rt Tryd.results127 rfl
theorem geom_points_ok {l1 : (List Point)} {r : Int}  (h : geom_points l1 = some r) : FSpec Tryd.prog 115 [rep l1] (rep r) := by
 unfold geom_points at h
 refine FSpec.intro (n := 18) fnok115 Tryd.func115 rfl Tryd.ntmps115 rfl (fun F => (.sr [] mixed (.asi (.nil (.seq (.sr [] mixed (.mv rfl (.cons (.len .none sl94 (.s rfl)) rfl (.mvi (.nil ?_))))))))))
 obtain ⟨o_1, h, hK1⟩ := bindR_some h
 refine .thenJ (ι := Unit) (fun j_1 => []) (fun j_1 => []) (fun s => o_1 = Res.nx s) Sub.nil SubB.nil ?_ (fun j_1 hj1 => ?_)
 ·
  refine .block (.rforEL h (fun p2_ => [(8, ⟨True, rep p2_.1⟩)]) (fun p2_ => []) (.k 8 rfl .nil) SubB.nil (.k 6 rfl (.k 7 rfl .nil)) SubB.nil (fun p2_ o_2 h hD2 => (.sr [] mixed (.cons (.lt .none (.s rfl) (.s rfl)) rfl (.nil (.seq (.cb rfl h (fun _ h => ?_) fun _ h => ?_)))))))
  ·
   refine .skip (.then (.seq ?_))
   obtain ⟨o_4, h, hK4⟩ := bindD_some h
   unfold geom_points_L1 at h
   refine .thenJ (ι := Unit) (fun j_4 => []) (fun j_4 => []) (fun s => o_4 = Res.nx s) (.k 6 rfl (.k 7 rfl (.k 8 rfl .nil))) SubB.nil ?_ (fun j_4 hj4 => ?_)
   ·
    obtain ⟨hn5, h⟩ := need_some h
    obtain ⟨v1, hv6, h⟩ := bnd_some h
    obtain ⟨e1, hv7, h⟩ := bind_some h
    refine .block (.sr [oo, oo, ([], [4]), ([4], [4])] mixed (.consA (.indexAddr .none sl94 ty118 (.s rfl) (.s rfl) (fun _ => hn5)) rfl (.consA (.re hv6 (.load .none ty118 (.s rfl))) rfl (.consW (.alloc zo118 rfl) rfl rfl (.consN (.store ty118 rfl rfl (.s rfl)) rfl (.nil (.freeze (t := 4) rfl rfl SubB.nil rfl (.sr [] mixed (.ld ty118 rfl (.cons (.call .none (geom_CheckPoint_ok hv7) (.cons (.s rfl) .nil)) rfl (.asn rfl (.nil (.sr [] mixed (.mv rfl (.cons (.neI .none (.s rfl) (.int (by decide))) rfl (.nil (.cb rfl h (fun _ h => ?_) fun _ h => ?_)))))))))))))))))
    ·
     refine .sr [] mixed (.mv rfl (.asn rfl (.nil (.ret (.blkRet (.thenRet (.thenRet (.blkRet (.thenRet ?_)))))))))
     replace h := resd_ab hK4 (some_eq h)
     replace h := hD2 _ (some_eq h)
     replace h := resb_ab hK1 (some_eq h)
     obtain rfl := some_eq h
     exact Ends.rt Tryd.results115 rfl
    ·
     exact .skip (.blkNormal (Ends.j _ (some_eq h)))
   ·
    have h := resd_nx hK4 hj4
    exact .rg [] mixed (.cons (.addW .none (.s rfl) (.int (by decide))) rfl (.mv rfl (.nil (Ends.ag (some_eq h)))))
  ·
   refine .exit (.thenExit (.thenExit (.blkExit ?_)))
   replace h := hD2 _ (some_eq h)
   exact Ends.j _ (some_eq h)
 ·
  have h := resb_nx hK1 hj1
  refine .sr [] mixed (.asi (.nil (.ret ?_)))
  obtain rfl := some_eq h
  exact Ends.rt Tryd.results115 rfl
theorem geom_CheckPoints_ok {l1 : (List Point)} {r : Int}  (h : geom_CheckPoints l1 = some r) : FSpec Tryd.prog 97 [rep l1] (rep r) := by
 unfold geom_CheckPoints at h
 refine FSpec.intro (n := 8) fnok97 Tryd.func97 rfl Tryd.ntmps97 rfl (fun F => (.sr [] mixed (.asi (.nil (.seq (.sr [] mixed (.mv rfl (.cons (.len .none sl94 (.s rfl)) rfl (.cons (.gt .none (.s rfl) (.int (by decide))) rfl (.nil (.cb rfl h (fun _ h => ?_) fun _ h => ?_)))))))))))
 ·
  refine .sr [] mixed (.asi (.nil (.ret (.thenRet ?_))))
  obtain rfl := some_eq h
  exact Ends.rt Tryd.results97 rfl
 ·
  obtain ⟨r1, hv2, h⟩ := bind_some h
  refine .skip (.then (.sr [] mixed (.mv rfl (.cons (.call .none (geom_points_ok hv2) (.cons (.s rfl) .nil)) rfl (.asn rfl (.nil (.ret ?_)))))))
  obtain rfl := some_eq h
  exact Ends.rt Tryd.results97 rfl
theorem page_view_checkEdge_ok {v1 : Page_view} {x1 : DEdge} {twice1 : Bool} {r : Int}  (h : page_view_checkEdge v1 x1 twice1 = some r) : FSpec Tryd.prog 51 [ref v1, rep x1, rep twice1] (rep r) := by
 unfold page_view_checkEdge at h
 obtain ⟨r1, hv1, h⟩ := bind_some h
 refine FSpec.intro (n := 61) fnok51 Tryd.func51 rfl Tryd.ntmps51 rfl (fun F => (.sr [] mixed (.cons (.box .none (.s rfl)) rfl (.asi (.nil (.seq (.block (.sr [] mixed (.fa fd96_0 hfd96_0 rfl (.ld ty9 rfl (.cons (.call .none (page_isName_ok hv1) (.cons (.s rfl) .nil)) rfl (.cons (.not .none (.s rfl)) rfl (.asn rfl (.nil (.cb rfl h (fun _ h => ?_) fun _ h => ?_)))))))))))))))
 ·
  refine .sr [] mixed (.asi (.nil (.ret (.blkRet (.thenRet ?_)))))
  obtain rfl := some_eq h
  exact Ends.rt Tryd.results51 rfl
 ·
  refine .sr [] mixed (.mv rfl (.asn rfl (.nil (.cb rfl h (fun _ h => ?_) fun _ h => ?_))))
  ·
   refine .sr [] mixed (.asi (.nil (.ret (.blkRet (.thenRet ?_)))))
   obtain rfl := some_eq h
   exact Ends.rt Tryd.results51 rfl
  ·
   obtain ⟨v2, hv4, h⟩ := bnd_some h
   refine .skip (.blkNormal (.then (.seq (.sr [] mixed (.fa fd96_1 hfd96_1 rfl (.ld ty93 rfl (.fa fd96_2 hfd96_2 rfl (.ld ty93 rfl (.cons (.re hv4 (.buildSlice (xs := [_, _]) .none sl127 ty93 hz93 (.cons (.s rfl) (.cons (.s rfl) .nil)) rfl (by decide))) rfl (.cons (.len .none sl127 (.s rfl)) rfl (.mvi (.nil ?_))))))))))))
   obtain ⟨o_5, h, hK5⟩ := bindR_some h
   refine .thenJ (ι := Unit) (fun j_5 => []) (fun j_5 => []) (fun s => o_5 = Res.nx s) (.k 4 rfl .nil) SubB.nil ?_ (fun j_5 hj5 => ?_)
   ·
    refine .block (.rforEL h (fun p6_ => [(25, ⟨True, rep p6_.1⟩)]) (fun p6_ => []) (.k 25 rfl .nil) SubB.nil (.k 0 rfl (.k 4 rfl (.k 23 rfl (.k 24 rfl .nil)))) SubB.nil (fun p6_ o_6 h hD6 => (.sr [] mixed (.cons (.lt .none (.s rfl) (.s rfl)) rfl (.nil (.seq (.cb rfl h (fun _ h => ?_) fun _ h => ?_)))))))
    ·
     refine .skip (.then (.seq ?_))
     obtain ⟨o_8, h, hK8⟩ := bindD_some h
     unfold page_view_checkEdge_L1 at h
     refine .thenJ (ι := Unit) (fun j_8 => []) (fun j_8 => []) (fun s => o_8 = Res.nx s) (.k 0 rfl (.k 4 rfl (.k 23 rfl (.k 24 rfl (.k 25 rfl .nil))))) SubB.nil ?_ (fun j_8 hj8 => ?_)
     ·
      obtain ⟨hn9, h⟩ := need_some h
      obtain ⟨v3, hv10, h⟩ := bnd_some h
      obtain ⟨e1, hv11, h⟩ := bind_some h
      refine .block (.sr [oo, oo, ([], [8]), ([8], [8])] mixed (.consA (.indexAddr .none sl127 ty93 (.s rfl) (.s rfl) (fun _ => hn9)) rfl (.consA (.re hv10 (.load .none ty93 (.s rfl))) rfl (.consW (.alloc zo93 rfl) rfl rfl (.consN (.store ty93 rfl rfl (.s rfl)) rfl (.nil (.freeze (t := 8) rfl rfl SubB.nil rfl (.sr [] mixed (.mv rfl (.ld ty93 rfl (.cons (.call .none (page_view_checkEnd_ok hv11) (.cons (.s rfl) (.cons (.s rfl) .nil))) rfl (.asn rfl (.nil (.sr [] mixed (.mv rfl (.cons (.neI .none (.s rfl) (.int (by decide))) rfl (.nil (.cb rfl h (fun _ h => ?_) fun _ h => ?_))))))))))))))))))
      ·
       refine .sr [] mixed (.mv rfl (.asn rfl (.nil (.ret (.blkRet (.thenRet (.thenRet (.blkRet (.thenRet ?_)))))))))
       replace h := resd_ab hK8 (some_eq h)
       replace h := hD6 _ (some_eq h)
       replace h := resb_ab hK5 (some_eq h)
       obtain rfl := some_eq h
       exact Ends.rt Tryd.results51 rfl
      ·
       exact .skip (.blkNormal (Ends.j _ (some_eq h)))
     ·
      have h := resd_nx hK8 hj8
      exact .rg [] mixed (.cons (.addW .none (.s rfl) (.int (by decide))) rfl (.mv rfl (.nil (Ends.ag (some_eq h)))))
    ·
     refine .exit (.thenExit (.thenExit (.blkExit ?_)))
     replace h := hD6 _ (some_eq h)
     exact Ends.j _ (some_eq h)
   ·
    have h := resb_nx hK5 hj5
    refine .seq (.sr [] mixed (.fa fd96_3 hfd96_3 rfl (.ld ty94 rfl (.cons (.len .none sl94 (.s rfl)) rfl (.cons (.gt .none (.s rfl) (.int (by decide))) rfl (.nil (.cb rfl h (fun _ h => ?_) fun _ h => ?_)))))))
    ·
     refine .sr [] mixed (.asi (.nil (.ret (.thenRet ?_))))
     obtain rfl := some_eq h
     exact Ends.rt Tryd.results51 rfl
    ·
     obtain ⟨e2, hv14, h⟩ := bind_some h
     refine .skip (.then (.seq (.sr [] mixed (.fa fd96_3 hfd96_3 rfl (.ld ty94 rfl (.cons (.call .none (geom_CheckPoints_ok hv14) (.cons (.s rfl) .nil)) rfl (.asn rfl (.nil (.sr [] mixed (.mv rfl (.cons (.neI .none (.s rfl) (.int (by decide))) rfl (.nil (.cb rfl h (fun _ h => ?_) fun _ h => ?_)))))))))))))
     ·
      refine .sr [] mixed (.mv rfl (.asn rfl (.nil (.ret (.thenRet ?_)))))
      obtain rfl := some_eq h
      exact Ends.rt Tryd.results51 rfl
     ·
      obtain ⟨e3, hv16, h⟩ := bind_some h
      refine .skip (.then (.seq (.sr [] mixed (.fa fd96_4 hfd96_4 rfl (.ld ty9 rfl (.cons (.call .none (shape_CheckText_ok hv16) (.cons (.s rfl) .nil)) rfl (.asn rfl (.nil (.sr [] mixed (.mv rfl (.cons (.neI .none (.s rfl) (.int (by decide))) rfl (.nil (.cb rfl h (fun _ h => ?_) fun _ h => ?_)))))))))))))
      ·
       refine .sr [] mixed (.mv rfl (.asn rfl (.nil (.ret (.thenRet ?_)))))
       obtain rfl := some_eq h
       exact Ends.rt Tryd.results51 rfl
      ·
       obtain ⟨r2, hv18, h⟩ := bind_some h
       refine .skip (.then (.seq (.sr [] mixed (.fa fd96_5 hfd96_5 rfl (.ld ty9 rfl (.cons (.neS .none (eqAt_str Tryd.underlying9) (.s rfl) (.str (l := []) (by decide))) rfl (.mv rfl (.cons (.fieldAddr (.at rfl rfl) fd96_5 hfd96_5 (.s rfl)) rfl (.cons (.load (.at rfl rfl) ty9 (.tmp rfl id)) rfl (.cons (.callIf (.at rfl rfl) fnok92 (fun hg => page_isName_ok ((fun hg => gd_some hv18 (hg.2)) hg)) (.cons (.tmp rfl id) .nil) (fun h => h)) rfl (.cons (.not (.at rfl rfl) (.tmp rfl id)) rfl (.cons (.pickAnd .none (.s rfl) (.tmp rfl id)) rfl (.nil (.cb rfl h (fun _ h => ?_) fun _ h => ?_))))))))))))))
       ·
        refine .sr [] mixed (.asi (.nil (.ret (.thenRet ?_))))
        obtain rfl := some_eq h
        exact Ends.rt Tryd.results51 rfl
       ·
        refine .skip (.then (.sr [] mixed (.asi (.nil (.ret ?_)))))
        obtain rfl := some_eq h
        exact Ends.rt Tryd.results51 rfl
theorem geom_boxes_ok {l1 : (List Box)} {r : Int}  (h : geom_boxes l1 = some r) : FSpec Tryd.prog 108 [rep l1] (rep r) := by
 unfold geom_boxes at h
 refine FSpec.intro (n := 18) fnok108 Tryd.func108 rfl Tryd.ntmps108 rfl (fun F => (.sr [] mixed (.asi (.nil (.seq (.sr [] mixed (.mv rfl (.cons (.len .none sl51 (.s rfl)) rfl (.mvi (.nil ?_))))))))))
 obtain ⟨o_1, h, hK1⟩ := bindR_some h
 refine .thenJ (ι := Unit) (fun j_1 => []) (fun j_1 => []) (fun s => o_1 = Res.nx s) Sub.nil SubB.nil ?_ (fun j_1 hj1 => ?_)
 ·
  refine .block (.rforEL h (fun p2_ => [(8, ⟨True, rep p2_.1⟩)]) (fun p2_ => []) (.k 8 rfl .nil) SubB.nil (.k 6 rfl (.k 7 rfl .nil)) SubB.nil (fun p2_ o_2 h hD2 => (.sr [] mixed (.cons (.lt .none (.s rfl) (.s rfl)) rfl (.nil (.seq (.cb rfl h (fun _ h => ?_) fun _ h => ?_)))))))
  ·
   refine .skip (.then (.seq ?_))
   obtain ⟨o_4, h, hK4⟩ := bindD_some h
   unfold geom_boxes_L1 at h
   refine .thenJ (ι := Unit) (fun j_4 => []) (fun j_4 => []) (fun s => o_4 = Res.nx s) (.k 6 rfl (.k 7 rfl (.k 8 rfl .nil))) SubB.nil ?_ (fun j_4 hj4 => ?_)
   ·
    obtain ⟨hn5, h⟩ := need_some h
    obtain ⟨v1, hv6, h⟩ := bnd_some h
    obtain ⟨e1, hv7, h⟩ := bind_some h
    refine .block (.sr [oo, oo, ([], [4]), ([4], [4])] mixed (.consA (.indexAddr .none sl51 ty41 (.s rfl) (.s rfl) (fun _ => hn5)) rfl (.consA (.re hv6 (.load .none ty41 (.s rfl))) rfl (.consW (.alloc zo41 rfl) rfl rfl (.consN (.store ty41 rfl rfl (.s rfl)) rfl (.nil (.freeze (t := 4) rfl rfl SubB.nil rfl (.sr [] mixed (.ld ty41 rfl (.cons (.call .none (geom_CheckBox_ok hv7) (.cons (.s rfl) .nil)) rfl (.asn rfl (.nil (.sr [] mixed (.mv rfl (.cons (.neI .none (.s rfl) (.int (by decide))) rfl (.nil (.cb rfl h (fun _ h => ?_) fun _ h => ?_)))))))))))))))))
    ·
     refine .sr [] mixed (.mv rfl (.asn rfl (.nil (.ret (.blkRet (.thenRet (.thenRet (.blkRet (.thenRet ?_)))))))))
     replace h := resd_ab hK4 (some_eq h)
     replace h := hD2 _ (some_eq h)
     replace h := resb_ab hK1 (some_eq h)
     obtain rfl := some_eq h
     exact Ends.rt Tryd.results108 rfl
    ·
     exact .skip (.blkNormal (Ends.j _ (some_eq h)))
   ·
    have h := resd_nx hK4 hj4
    exact .rg [] mixed (.cons (.addW .none (.s rfl) (.int (by decide))) rfl (.mv rfl (.nil (Ends.ag (some_eq h)))))
  ·
   refine .exit (.thenExit (.thenExit (.blkExit ?_)))
   replace h := hD2 _ (some_eq h)
   exact Ends.j _ (some_eq h)
 ·
  have h := resb_nx hK1 hj1
  refine .sr [] mixed (.asi (.nil (.ret ?_)))
  obtain rfl := some_eq h
  exact Ends.rt Tryd.results108 rfl
theorem geom_Hull_ok {l1 : (List Box)} {r : (Box × Int)}  (h : geom_Hull l1 = some r) : FSpec Tryd.prog 84 [rep l1] (tup [rep r.1, rep r.2]) := by
 unfold geom_Hull at h
 obtain ⟨v1, hv1, h⟩ := bnd_some h
 refine FSpec.intro (n := 83) fnok84 Tryd.func84 rfl Tryd.ntmps84 rfl (fun F => (.sr [([], [2]), oo] mixed (.consW (.alloc zo41 rfl) rfl rfl (.consA (.assign .none (.int (by decide))) rfl (.nil (.reB (t := 2) rfl (congrArg (cont 41) hv1) (.nameBox (t := 2) (g := 5001) rfl rfl (fun m5001 => (.seq (.sr [] mixed (.mv rfl (.cons (.len .none sl51 (.s rfl)) rfl (.cons (.gt .none (.s rfl) (.int (by decide))) rfl (.nil (.cb rfl h (fun _ h => ?_) fun _ h => ?_)))))))))))))))
 ·
  obtain ⟨v2, hv3, h⟩ := bnd_some h
  refine .sr [oo, ([5001], [5001]), oo] mixed (.consA (.re hv3 (.buildF (y := (⟨(0 : Int), (0 : Int), (0 : Int), (0 : Int)⟩ : Box)) .none bu41 zc41 rfl .nil .nil)) rfl (.consN (.storeAt0 (g := 5001) ty41 rfl (.s rfl) (.s rfl)) rfl (.consA (.assign .none (.int (by decide))) rfl (.nil (.freezeBox (g := 5001) (ts := [2]) rfl (.cons (t := 2) rfl trivial .nil) SubB.nil rfl (.ret (.thenRet ?_)))))))
  obtain rfl := some_eq h
  exact Ends.ret2 (.inl rfl) Tryd.results84 (ResOK.cellR ty41 rfl trivial Imp.refl) (ResOK.tmp rfl trivial Imp.refl)
 ·
  obtain ⟨e1, hv4, h⟩ := bind_some h
  refine .skip (.then (.seq (.sr [] mixed (.mv rfl (.cons (.call .none (geom_boxes_ok hv4) (.cons (.s rfl) .nil)) rfl (.asn rfl (.nil (.sr [] mixed (.mv rfl (.cons (.neI .none (.s rfl) (.int (by decide))) rfl (.nil (.cb rfl h (fun _ h => ?_) fun _ h => ?_))))))))))))
  ·
   obtain ⟨v3, hv6, h⟩ := bnd_some h
   refine .sr [oo, oo, ([5001], [5001]), oo] mixed (.consA (.re hv6 (.buildF (y := (⟨(0 : Int), (0 : Int), (0 : Int), (0 : Int)⟩ : Box)) .none bu41 zc41 rfl .nil .nil)) rfl (.mvA rfl (.consN (.storeAt0 (g := 5001) ty41 rfl (.s rfl) (.s rfl)) rfl (.asnA rfl (.nil (.freezeBox (g := 5001) (ts := [2]) rfl (.cons (t := 2) rfl trivial .nil) SubB.nil rfl (.ret (.thenRet ?_))))))))
   obtain rfl := some_eq h
   exact Ends.ret2 (.inl rfl) Tryd.results84 (ResOK.cellR ty41 rfl trivial Imp.refl) (ResOK.tmp rfl trivial Imp.refl)
  ·
   refine .skip (.then (.seq (.sr [] mixed (.mv rfl (.cons (.len .none sl51 (.s rfl)) rfl (.cons (.eqI .none (.s rfl) (.int (by decide))) rfl (.nil (.cb rfl h (fun _ h => ?_) fun _ h => ?_))))))))
   ·
    obtain ⟨v4, hv8, h⟩ := bnd_some h
    refine .sr [oo, ([5001], [5001]), oo] mixed (.consA (.re hv8 (.buildF (y := (⟨(0 : Int), (0 : Int), (0 : Int), (0 : Int)⟩ : Box)) .none bu41 zc41 rfl .nil .nil)) rfl (.consN (.storeAt0 (g := 5001) ty41 rfl (.s rfl) (.s rfl)) rfl (.consA (.assign .none (.int (by decide))) rfl (.nil (.freezeBox (g := 5001) (ts := [2]) rfl (.cons (t := 2) rfl trivial .nil) SubB.nil rfl (.ret (.thenRet ?_)))))))
    obtain rfl := some_eq h
    exact Ends.ret2 (.inl rfl) Tryd.results84 (ResOK.cellR ty41 rfl trivial Imp.refl) (ResOK.tmp rfl trivial Imp.refl)
   ·
    obtain ⟨hn9, h⟩ := need_some h
    obtain ⟨v5, hv10, h⟩ := bnd_some h
    refine .skip (.then (.sr [oo, oo, oo, ([], [5]), ([5], [5])] mixed (.mvA rfl (.consA (.indexAddr .none sl51 ty41 (.s rfl) (.int (by decide)) (fun _ => hn9)) rfl (.consA (.re hv10 (.load .none ty41 (.s rfl))) rfl (.consW (.alloc zo41 rfl) rfl rfl (.consN (.store ty41 rfl rfl (.s rfl)) rfl (.nil (.nameBox (t := 5) (g := 5002) rfl rfl (fun m5002 => (.seq (.sr [] mixed (.mv rfl (.cons (.len .none sl51 (.s rfl)) rfl (.mvi (.nil ?_))))))))))))))))
    obtain ⟨j_11, h, hK11⟩ := bind_some h
    refine .thenJ (ι := Box) (fun j_11 => []) (fun j_11 => [(5002, some (boxAt m5002 41 j_11))]) (fun s => j_11 = s) (.k 2 rfl (.k 5 rfl .nil)) (.k 5001 rfl .nil) ?_ (fun j_11' hj11 => ?_)
    ·
     refine .block (.rforL h (fun p12_ => [(29, ⟨True, rep p12_.1⟩)]) (fun p12_ => [(5002, some (boxAt m5002 41 p12_.2))]) (.k 29 rfl .nil) (.k 5002 rfl .nil) (.k 2 rfl (.k 5 rfl (.k 27 rfl (.k 28 rfl .nil)))) (.k 5001 rfl .nil) (fun p12_ o_12 h hD12 => (.sr [] mixed (.cons (.lt .none (.s rfl) (.s rfl)) rfl (.nil (.seq (.cb rfl h (fun _ h => ?_) fun _ h => ?_)))))))
     ·
      refine .skip (.then (.seq ?_))
      obtain ⟨j_14, h, hK14⟩ := bind_some h
      unfold geom_Hull_L1 at h
      refine .thenJ (ι := Box) (fun j_14 => []) (fun j_14 => [(5002, some (boxAt m5002 41 j_14))]) (fun s => j_14 = s) (.k 2 rfl (.k 5 rfl (.k 27 rfl (.k 28 rfl (.k 29 rfl .nil))))) (.k 5001 rfl .nil) ?_ (fun j_14' hj14 => ?_)
      ·
       obtain ⟨hn15, h⟩ := need_some h
       obtain ⟨v6, hv16, h⟩ := bnd_some h
       obtain ⟨x1, hv17, h⟩ := bnd_some h
       obtain ⟨y1, hv18, h⟩ := bnd_some h
       obtain ⟨v7, hv19, h⟩ := bnd_some h
       refine .block (.sr [oo, oo, ([], [7]), ([7], [7])] mixed (.consA (.indexAddr .none sl51 ty41 (.s rfl) (.s rfl) (fun _ => hn15)) rfl (.consA (.re hv16 (.load .none ty41 (.s rfl))) rfl (.consW (.alloc zo41 rfl) rfl rfl (.consN (.store ty41 rfl rfl (.s rfl)) rfl (.nil (.freeze (t := 7) rfl rfl (.k 5001 rfl (.k 5002 rfl .nil)) rfl (.sr [oo, ([5002], []), oo, oo, oo, oo, ([5002], []), oo, oo, oo, oo, oo] mixed (.consA (.fieldPtr .none fd41_0 (.s rfl)) rfl (.consA (.loadAt (k := 5002) .none ty3 rfl (.s rfl) hfd41_0) rfl (.faA fd41_0 hfd41_0 rfl (.ldA ty3 rfl (.consA (.min2 .none (.s rfl) (.s rfl)) rfl (.consA (.fieldPtr .none fd41_1 (.s rfl)) rfl (.consA (.loadAt (k := 5002) .none ty3 rfl (.s rfl) hfd41_1) rfl (.faA fd41_1 hfd41_1 rfl (.ldA ty3 rfl (.consA (.min2 .none (.s rfl) (.s rfl)) rfl (.consA (.re hv17 (.assign .none (.s rfl))) rfl (.consA (.re hv18 (.assign .none (.s rfl))) rfl (.nil (.rg [oo, oo, oo, ([5002], []), oo, ([5002], []), oo, oo, oo, oo, oo, oo, oo, oo, oo, oo, ([5002], []), oo, ([5002], []), oo, oo, oo, oo, oo, oo, oo, oo, oo, oo, ([5002], [5002])] mixed (.mvA rfl (.mvA rfl (.consA (.fieldPtr .none fd41_0 (.s rfl)) rfl (.consA (.loadAt (k := 5002) .none ty3 rfl (.s rfl) hfd41_0) rfl (.consA (.fieldPtr .none fd41_2 (.s rfl)) rfl (.consA (.loadAt (k := 5002) .none ty3 rfl (.s rfl) hfd41_2) rfl (.consA (.addW .none (.s rfl) (.s rfl)) rfl (.faA fd41_0 hfd41_0 rfl (.ldA ty3 rfl (.faA fd41_2 hfd41_2 rfl (.ldA ty3 rfl (.consA (.addW .none (.s rfl) (.s rfl)) rfl (.consA (.max2 .none (.s rfl) (.s rfl)) rfl (.mvA rfl (.consA (.subW .none (.s rfl) (.s rfl)) rfl (.consA (.fieldPtr .none fd41_1 (.s rfl)) rfl (.consA (.loadAt (k := 5002) .none ty3 rfl (.s rfl) hfd41_1) rfl (.consA (.fieldPtr .none fd41_3 (.s rfl)) rfl (.consA (.loadAt (k := 5002) .none ty3 rfl (.s rfl) hfd41_3) rfl ?_)))))))))))))))))))))))))))))))))))))))))
       exact .consA (.addW .none (.s rfl) (.s rfl)) rfl (.faA fd41_1 hfd41_1 rfl (.ldA ty3 rfl (.faA fd41_3 hfd41_3 rfl (.ldA ty3 rfl (.consA (.addW .none (.s rfl) (.s rfl)) rfl (.consA (.max2 .none (.s rfl) (.s rfl)) rfl (.mvA rfl (.consA (.subW .none (.s rfl) (.s rfl)) rfl (.consA (.re hv19 (.buildF (y := (⟨x1, y1, W ((max (W (p12_.2.X + p12_.2.W_)) (W (v6.X + v6.W_))) - x1), W ((max (W (p12_.2.Y + p12_.2.H)) (W (v6.Y + v6.H))) - y1)⟩ : Box)) .none bu41 zc41 rfl (.cons (.s rfl) (.cons (.s rfl) (.cons (.s rfl) (.cons (.s rfl) .nil)))) (.cons rfl sf41_0 (.cons rfl sf41_1 (.cons rfl sf41_2 (.cons rfl sf41_3 .nil)))))) rfl (.consN (.storeAt0 (g := 5002) ty41 rfl (.s rfl) (.s rfl)) rfl (.nil (.blkNormal (Ends.j _ (some_eq h))))))))))))))
      ·
       subst hj14; have h := hK14; clear hK14
       exact .rg [] mixed (.cons (.addW .none (.s rfl) (.int (by decide))) rfl (.mv rfl (.nil (Ends.ag (some_eq h)))))
     ·
      refine .exit (.thenExit (.thenExit (.blkExit ?_)))
      replace h := hD12 _ (some_eq h)
      exact Ends.j _ (some_eq h)
    ·
     subst hj11; have h := hK11; clear hK11
     refine .freezeBox (g := 5002) (ts := [5]) rfl (.cons (t := 5) rfl trivial .nil) (.k 5001 rfl .nil) rfl (.seq (.sr [] mixed (.fa fd41_2 hfd41_2 rfl (.ld ty3 rfl (.cons (.gt .none (.s rfl) (.int (by decide))) rfl (.mv rfl (.cons (.fieldAddr (.at rfl rfl) fd41_3 hfd41_3 (.s rfl)) rfl (.cons (.load (.at rfl rfl) ty3 (.tmp rfl id)) rfl (.cons (.gt (.at rfl rfl) (.tmp rfl id) (.int (by decide))) rfl (.cons (.pickOr .none (.s rfl) (.tmp rfl id)) rfl (.nil (.cb rfl h (fun _ h => ?_) fun _ h => ?_))))))))))))
     ·
      obtain ⟨v8, hv21, h⟩ := bnd_some h
      refine .sr [oo, ([5001], [5001]), oo] mixed (.consA (.re hv21 (.buildF (y := (⟨(0 : Int), (0 : Int), (0 : Int), (0 : Int)⟩ : Box)) .none bu41 zc41 rfl .nil .nil)) rfl (.consN (.storeAt0 (g := 5001) ty41 rfl (.s rfl) (.s rfl)) rfl (.consA (.assign .none (.int (by decide))) rfl (.nil (.freezeBox (g := 5001) (ts := [2]) rfl (.cons (t := 2) rfl trivial .nil) SubB.nil rfl (.ret (.thenRet ?_)))))))
      obtain rfl := some_eq h
      exact Ends.ret2 (.inl rfl) Tryd.results84 (ResOK.cellR ty41 rfl trivial Imp.refl) (ResOK.tmp rfl trivial Imp.refl)
     ·
      refine .skip (.then (.sr [oo, ([5001], [5001]), oo] mixed (.ldA ty41 rfl (.consN (.storeAt0 (g := 5001) ty41 rfl (.s rfl) (.s rfl)) rfl (.consA (.assign .none (.int (by decide))) rfl (.nil (.freezeBox (g := 5001) (ts := [2]) rfl (.cons (t := 2) rfl trivial .nil) SubB.nil rfl (.ret ?_))))))))
      obtain rfl := some_eq h
      exact Ends.ret2 (.inl rfl) Tryd.results84 (ResOK.cellR ty41 rfl trivial Imp.refl) (ResOK.tmp rfl trivial Imp.refl)
theorem geom_Grow_ok {b1 : Box} {n1 : Int} {r : (Box × Int)}  (h : geom_Grow b1 n1 = some r) : FSpec Tryd.prog 98 [rep b1, rep n1] (tup [rep r.1, rep r.2]) := by
 unfold geom_Grow at h
 obtain ⟨v1, hv1, h⟩ := bnd_some h
 obtain ⟨e1, hv2, h⟩ := bind_some h
 refine FSpec.intro (n := 57) fnok98 Tryd.func98 rfl Tryd.ntmps98 rfl (fun F => (.sr [oo, ([], [4]), oo] mixed (.consA (.box .none (.s rfl)) rfl (.consW (.alloc zo41 rfl) rfl rfl (.consA (.assign .none (.int (by decide))) rfl (.nil (.reB (t := 4) rfl (congrArg (cont 41) hv1) (.nameBox (t := 4) (g := 5001) rfl rfl (fun m5001 => (.seq (.sr [] mixed (.ld ty41 rfl (.cons (.call .none (geom_CheckBox_ok hv2) (.cons (.s rfl) .nil)) rfl (.asn rfl (.nil (.sr [] mixed (.mv rfl (.cons (.neI .none (.s rfl) (.int (by decide))) rfl (.nil (.cb rfl h (fun _ h => ?_) fun _ h => ?_))))))))))))))))))))
 ·
  obtain ⟨v2, hv4, h⟩ := bnd_some h
  refine .sr [oo, oo, ([5001], [5001]), oo] mixed (.consA (.re hv4 (.buildF (y := (⟨(0 : Int), (0 : Int), (0 : Int), (0 : Int)⟩ : Box)) .none bu41 zc41 rfl .nil .nil)) rfl (.mvA rfl (.consN (.storeAt0 (g := 5001) ty41 rfl (.s rfl) (.s rfl)) rfl (.asnA rfl (.nil (.freezeBox (g := 5001) (ts := [4]) rfl (.cons (t := 4) rfl trivial .nil) SubB.nil rfl (.ret (.thenRet ?_))))))))
  obtain rfl := some_eq h
  exact Ends.ret2 (.inl rfl) Tryd.results98 (ResOK.cellR ty41 rfl trivial Imp.refl) (ResOK.tmp rfl trivial Imp.refl)
 ·
  refine .skip (.then (.seq (.sr [] mixed (.mv rfl (.cons (.lt .none (.s rfl) (.int (by decide))) rfl (.mv rfl (.cons (.move (.at rfl rfl) (.s rfl)) rfl (.cons (.gt (.at rfl rfl) (.tmp rfl id) (.int (by decide))) rfl (.cons (.pickOr .none (.s rfl) (.tmp rfl id)) rfl (.nil (.cb rfl h (fun _ h => ?_) fun _ h => ?_)))))))))))
  ·
   obtain ⟨v3, hv6, h⟩ := bnd_some h
   refine .sr [oo, ([5001], [5001]), oo] mixed (.consA (.re hv6 (.buildF (y := (⟨(0 : Int), (0 : Int), (0 : Int), (0 : Int)⟩ : Box)) .none bu41 zc41 rfl .nil .nil)) rfl (.consN (.storeAt0 (g := 5001) ty41 rfl (.s rfl) (.s rfl)) rfl (.consA (.assign .none (.int (by decide))) rfl (.nil (.freezeBox (g := 5001) (ts := [4]) rfl (.cons (t := 4) rfl trivial .nil) SubB.nil rfl (.ret (.thenRet ?_)))))))
   obtain rfl := some_eq h
   exact Ends.ret2 (.inl rfl) Tryd.results98 (ResOK.cellR ty41 rfl trivial Imp.refl) (ResOK.tmp rfl trivial Imp.refl)
  ·
   obtain ⟨v4, hv7, h⟩ := bnd_some h
   refine .skip (.then (.sr [oo, oo, oo, oo, oo, oo, oo, oo, oo, oo, oo, oo, oo, oo, oo, oo, oo, oo, oo, ([], [7]), ([7], [7])] mixed (.faA fd41_0 hfd41_0 rfl (.ldA ty3 rfl (.mvA rfl (.consA (.subW .none (.s rfl) (.s rfl)) rfl (.faA fd41_1 hfd41_1 rfl (.ldA ty3 rfl (.mvA rfl (.consA (.subW .none (.s rfl) (.s rfl)) rfl (.faA fd41_2 hfd41_2 rfl (.ldA ty3 rfl (.mvA rfl (.consA (.mulW .none (.int (by decide)) (.s rfl)) rfl (.consA (.addW .none (.s rfl) (.s rfl)) rfl (.faA fd41_3 hfd41_3 rfl (.ldA ty3 rfl (.mvA rfl (.consA (.mulW .none (.int (by decide)) (.s rfl)) rfl (.consA (.addW .none (.s rfl) (.s rfl)) rfl (.consA (.re hv7 (.buildF (y := (⟨W (b1.X - n1), W (b1.Y - n1), W (b1.W_ + (W (2 * n1))), W (b1.H + (W (2 * n1)))⟩ : Box)) .none bu41 zc41 rfl (.cons (.s rfl) (.cons (.s rfl) (.cons (.s rfl) (.cons (.s rfl) .nil)))) (.cons rfl sf41_0 (.cons rfl sf41_1 (.cons rfl sf41_2 (.cons rfl sf41_3 .nil)))))) rfl (.consW (.alloc zo41 rfl) rfl rfl (.consN (.store ty41 rfl rfl (.s rfl)) rfl (.nil (.freeze (t := 7) rfl rfl (.k 5001 rfl .nil) rfl (.seq (.sr [] mixed (.fa fd41_2 hfd41_2 rfl (.ld ty3 rfl (.cons (.lt .none (.s rfl) (.int (by decide))) rfl (.mv rfl (.cons (.fieldAddr (.at rfl rfl) fd41_3 hfd41_3 (.s rfl)) rfl (.cons (.load (.at rfl rfl) ty3 (.tmp rfl id)) rfl (.cons (.lt (.at rfl rfl) (.tmp rfl id) (.int (by decide))) rfl (.cons (.pickOr .none (.s rfl) (.tmp rfl id)) rfl (.nil (.cb rfl h (fun _ h => ?_) fun _ h => ?_)))))))))))))))))))))))))))))))))))))
   ·
    obtain ⟨v5, hv9, h⟩ := bnd_some h
    refine .sr [oo, ([5001], [5001]), oo] mixed (.consA (.re hv9 (.buildF (y := (⟨(0 : Int), (0 : Int), (0 : Int), (0 : Int)⟩ : Box)) .none bu41 zc41 rfl .nil .nil)) rfl (.consN (.storeAt0 (g := 5001) ty41 rfl (.s rfl) (.s rfl)) rfl (.consA (.assign .none (.int (by decide))) rfl (.nil (.freezeBox (g := 5001) (ts := [4]) rfl (.cons (t := 4) rfl trivial .nil) SubB.nil rfl (.ret (.thenRet ?_)))))))
    obtain rfl := some_eq h
    exact Ends.ret2 (.inl rfl) Tryd.results98 (ResOK.cellR ty41 rfl trivial Imp.refl) (ResOK.tmp rfl trivial Imp.refl)
   ·
    obtain ⟨e2, hv10, h⟩ := bind_some h
    refine .skip (.then (.seq (.sr [] mixed (.ld ty41 rfl (.cons (.call .none (geom_CheckBox_ok hv10) (.cons (.s rfl) .nil)) rfl (.asn rfl (.nil (.sr [] mixed (.mv rfl (.cons (.neI .none (.s rfl) (.int (by decide))) rfl (.nil (.cb rfl h (fun _ h => ?_) fun _ h => ?_))))))))))))
    ·
     obtain ⟨v6, hv12, h⟩ := bnd_some h
     refine .sr [oo, oo, ([5001], [5001]), oo] mixed (.consA (.re hv12 (.buildF (y := (⟨(0 : Int), (0 : Int), (0 : Int), (0 : Int)⟩ : Box)) .none bu41 zc41 rfl .nil .nil)) rfl (.mvA rfl (.consN (.storeAt0 (g := 5001) ty41 rfl (.s rfl) (.s rfl)) rfl (.asnA rfl (.nil (.freezeBox (g := 5001) (ts := [4]) rfl (.cons (t := 4) rfl trivial .nil) SubB.nil rfl (.ret (.thenRet ?_))))))))
     obtain rfl := some_eq h
     exact Ends.ret2 (.inl rfl) Tryd.results98 (ResOK.cellR ty41 rfl trivial Imp.refl) (ResOK.tmp rfl trivial Imp.refl)
    ·
     refine .skip (.then (.sr [oo, ([5001], [5001]), oo] mixed (.ldA ty41 rfl (.consN (.storeAt0 (g := 5001) ty41 rfl (.s rfl) (.s rfl)) rfl (.consA (.assign .none (.int (by decide))) rfl (.nil (.freezeBox (g := 5001) (ts := [4]) rfl (.cons (t := 4) rfl trivial .nil) SubB.nil rfl (.ret ?_))))))))
     obtain rfl := some_eq h
     exact Ends.ret2 (.inl rfl) Tryd.results98 (ResOK.cellR ty41 rfl trivial Imp.refl) (ResOK.tmp rfl trivial Imp.refl)
theorem page_view_boxOf_okS {self : (Page_view × Int) → Option (Box × Int)} (hself : ∀  (x : (Page_view × Int)) (r : (Box × Int)), self x = some r → FSpec Tryd.prog 52 [ref x.1, rep x.2] (tup [rep r.1, rep r.2]))  {x : (Page_view × Int)} {r : (Box × Int)} (h : page_view_boxOf_body self x = some r) : FSpec Tryd.prog 52 [ref x.1, rep x.2] (tup [rep r.1, rep r.2]) := by
 unfold page_view_boxOf_body at h
 obtain ⟨v2, hv1, h⟩ := bnd_some h
 obtain ⟨hn2, h⟩ := need_some h
 obtain ⟨v3, hv3, h⟩ := bnd_some h
 refine FSpec.intro (n := 67) fnok52 Tryd.func52 rfl Tryd.ntmps52 rfl (fun F => (.sr [([], [4]), oo] mixed (.consW (.alloc zo41 rfl) rfl rfl (.consA (.assign .none (.int (by decide))) rfl (.nil (.reB (t := 4) rfl (congrArg (cont 41) hv1) (.nameBox (t := 4) (g := 5001) rfl rfl (fun m5001 => (.sr [oo, oo, oo, oo, oo, oo, oo, oo, ([], [6]), ([6], [6])] mixed (.mvA rfl (.consA (.nilCheckR .none (.s rfl)) rfl (.faA fd63_0 hfd63_0 rfl (.faA fd25_0 hfd25_0 rfl (.ldA ty22 rfl (.mvA rfl (.consA (.indexAddr .none sl22 ty43 (.s rfl) (.s rfl) (fun _ => hn2)) rfl (.consA (.re hv3 (.load .none ty43 (.s rfl))) rfl (.consW (.alloc zo43 rfl) rfl rfl (.consN (.store ty43 rfl rfl (.s rfl)) rfl (.nil (.freeze (t := 6) rfl rfl (.k 5001 rfl .nil) rfl (.seq (.sr [] mixed (.fa fd43_1 hfd43_1 rfl (.ld ty3 rfl (.cons (.neI .none (.s rfl) (.int (by decide))) rfl (.nil (.cb rfl h (fun _ h => ?_) fun _ h => ?_))))))))))))))))))))))))))))
 ·
  refine .sr [oo, oo, ([5001], [5001]), oo] mixed (.faA fd43_2 hfd43_2 rfl (.ldA ty41 rfl (.consN (.storeAt0 (g := 5001) ty41 rfl (.s rfl) (.s rfl)) rfl (.consA (.assign .none (.int (by decide))) rfl (.nil (.freezeBox (g := 5001) (ts := [4]) rfl (.cons (t := 4) rfl trivial .nil) SubB.nil rfl (.ret (.thenRet ?_))))))))
  obtain rfl := some_eq h
  exact Ends.ret2 (.inl rfl) Tryd.results52 (ResOK.cellR ty41 rfl trivial Imp.refl) (ResOK.tmp rfl trivial Imp.refl)
 ·
  obtain ⟨v4, hv5, h⟩ := bnd_some h
  refine .skip (.then (.sr [([], [7])] mixed (.consW (.nilRow (T := 41) (α := Box) rfl) rfl rfl (.nil (.nameRow (t := 7) (g := 5002) rfl rfl rfl (fun s5002 => (.seq (.sr [] mixed (.mv rfl (.cons (.nilCheckR .none (.s rfl)) rfl (.fa fd63_2 hfd63_2 rfl (.ld ty61 rfl (.fa fd43_0 hfd43_0 rfl (.ld ty9 rfl (.cons (.re hv5 (.lookup .none mo61 zo59 (.s rfl) (.s rfl))) rfl (.cons (.len .none sl59 (.s rfl)) rfl (.mvi (.nil ?_))))))))))))))))))
  obtain ⟨o_6, h, hK6⟩ := bindR_some h
  refine .thenJ (ι := (List Box)) (fun j_6 => []) (fun j_6 => [(7, some (rowV 41 j_6))]) (fun s => o_6 = Res.nx s) (.k 4 rfl .nil) (.k 5001 rfl .nil) ?_ (fun j_6 hj6 => ?_)
  ·
   refine .block (.anon (t := 7) (g := 5002) rfl rfl trivial rfl (.rforEL h (fun p7_ => [(35, ⟨True, rep p7_.1⟩)]) (fun p7_ => [(7, some (rowV 41 p7_.2))]) (.k 35 rfl .nil) (.k 7 rfl .nil) (.k 0 rfl (.k 4 rfl (.k 33 rfl (.k 34 rfl .nil)))) (.k 5001 rfl .nil) (fun p7_ o_7 h hD7 => (.nameRow (t := 7) (g := 5003) rfl rfl rfl (fun s5003 => (.sr [] mixed (.cons (.lt .none (.s rfl) (.s rfl)) rfl (.nil (.seq (.cb rfl h (fun _ h => ?_) fun _ h => ?_))))))))))
   ·
    refine .skip (.then (.seq ?_))
    obtain ⟨o_9, h, hK9⟩ := bindD_some h
    unfold page_view_boxOf_L1 at h
    refine .thenJ (ι := (List Box)) (fun j_9 => []) (fun j_9 => [(7, some (rowV 41 j_9))]) (fun s => o_9 = Res.nx s) (.k 0 rfl (.k 4 rfl (.k 33 rfl (.k 34 rfl (.k 35 rfl .nil))))) (.k 5001 rfl .nil) ?_ (fun j_9 hj9 => ?_)
    ·
     obtain ⟨hn10, h⟩ := need_some h
     obtain ⟨r1, hv11, h⟩ := bind_some h
     refine .block (.sr [] mixed (.cons (.indexAddr .none sl59 ty3 (.s rfl) (.s rfl) (fun _ => hn10)) rfl (.ld ty3 rfl (.asn rfl (.nil (.sr [oo, oo, oo, oo, oo, oo, ([], [10]), ([10], [10]), oo] mixed (.mvA rfl (.mvA rfl (.consA (.call .none (hself _ _ hv11) (.cons (.s rfl) (.cons (.s rfl) .nil))) rfl (.mvA rfl (.consA (.extract .none (.s rfl) rfl) rfl (.consA (.extract .none (.s rfl) rfl) rfl (.consW (.alloc zo41 rfl) rfl rfl (.consN (.store ty41 rfl rfl (.s rfl)) rfl (.asnA rfl (.nil (.freeze (t := 10) rfl rfl (.k 5001 rfl (.k 5003 rfl .nil)) rfl (.seq (.sr [] mixed (.mv rfl (.cons (.neI .none (.s rfl) (.int (by decide))) rfl (.nil (.cb rfl h (fun _ h => ?_) fun _ h => ?_)))))))))))))))))))))))
     ·
      obtain ⟨v5, hv13, h⟩ := bnd_some h
      refine .sr [oo, oo, ([5001], [5001]), oo] mixed (.consA (.re hv13 (.buildF (y := (⟨(0 : Int), (0 : Int), (0 : Int), (0 : Int)⟩ : Box)) .none bu41 zc41 rfl .nil .nil)) rfl (.mvA rfl (.consN (.storeAt0 (g := 5001) ty41 rfl (.s rfl) (.s rfl)) rfl (.asnA rfl (.nil (.freezeBox (g := 5001) (ts := [4]) rfl (.cons (t := 4) rfl trivial .nil) SubB.nil rfl (.ret (.thenRet (.blkRet (.thenRet (.thenRet (.blkRet (.thenRet ?_)))))))))))))
      replace h := resd_ab hK9 (some_eq h)
      replace h := hD7 _ (some_eq h)
      replace h := resb_ab hK6 (some_eq h)
      obtain rfl := some_eq h
      exact Ends.ret2 (.inl rfl) Tryd.results52 (ResOK.cellR ty41 rfl trivial Imp.refl) (ResOK.tmp rfl trivial Imp.refl)
     ·
      obtain ⟨hn14, h⟩ := need_some h
      exact .skip (.then (.rg [oo, oo, oo, ([5003], [52, 5003]), ([52], [7, 52])] mixed (.mvA rfl (.ldA ty41 rfl (.consA (.buildSlice (xs := [_]) .none sl51 ty41 hz41 (.cons (.s rfl) .nil) rfl (by decide)) rfl (.consW (.append (k := 5003) rk51 rfl (.told (.s rfl) rfl) (.s rfl) hn14) rfl rfl (.consW (.passRow rfl (.tmp rfl)) rfl rfl (.nil (.blkNormal (Ends.j _ (some_eq h)))))))))))
    ·
     have h := resd_nx hK9 hj9
     exact .nameRow (t := 7) (g := 5004) rfl rfl rfl (fun s5004 => (.rg [] mixed (.cons (.addW .none (.s rfl) (.int (by decide))) rfl (.mv rfl (.nil (.anon (t := 7) (g := 5004) rfl rfl trivial rfl (Ends.ag (some_eq h))))))))
   ·
    refine .exit (.thenExit (.thenExit (.blkExit (.anon (t := 7) (g := 5003) rfl rfl trivial rfl ?_))))
    replace h := hD7 _ (some_eq h)
    exact Ends.j _ (some_eq h)
  ·
   have h := resb_nx hK6 hj6
   obtain ⟨r2, hv15, h⟩ := bind_some h
   refine .freezeRowA (t := 7) rfl rfl (.k 5001 rfl .nil) rfl (.sr [oo, oo, oo, oo, oo, ([], [12]), ([12], [12]), oo] mixed (.mvA rfl (.consA (.call .none (geom_Hull_ok hv15) (.cons (.s rfl) .nil)) rfl (.mvA rfl (.consA (.extract .none (.s rfl) rfl) rfl (.consA (.extract .none (.s rfl) rfl) rfl (.consW (.alloc zo41 rfl) rfl rfl (.consN (.store ty41 rfl rfl (.s rfl)) rfl (.asnA rfl (.nil (.freeze (t := 12) rfl rfl (.k 5001 rfl .nil) rfl (.seq (.sr [] mixed (.mv rfl (.cons (.neI .none (.s rfl) (.int (by decide))) rfl (.nil (.cb rfl h (fun _ h => ?_) fun _ h => ?_)))))))))))))))))
   ·
    obtain ⟨v6, hv17, h⟩ := bnd_some h
    refine .sr [oo, oo, ([5001], [5001]), oo] mixed (.consA (.re hv17 (.buildF (y := (⟨(0 : Int), (0 : Int), (0 : Int), (0 : Int)⟩ : Box)) .none bu41 zc41 rfl .nil .nil)) rfl (.mvA rfl (.consN (.storeAt0 (g := 5001) ty41 rfl (.s rfl) (.s rfl)) rfl (.asnA rfl (.nil (.freezeBox (g := 5001) (ts := [4]) rfl (.cons (t := 4) rfl trivial .nil) SubB.nil rfl (.ret (.thenRet ?_))))))))
    obtain rfl := some_eq h
    exact Ends.ret2 (.inl rfl) Tryd.results52 (ResOK.cellR ty41 rfl trivial Imp.refl) (ResOK.tmp rfl trivial Imp.refl)
   ·
    obtain ⟨r3, hv18, h⟩ := bind_some h
    refine .skip (.then (.sr [oo, oo, oo, oo, ([5001], [5001]), oo] mixed (.ldA ty41 rfl (.consA (.call .none (geom_Grow_ok hv18) (.cons (.s rfl) (.cons (.int (by decide)) .nil))) rfl (.consA (.extract .none (.s rfl) rfl) rfl (.consA (.extract .none (.s rfl) rfl) rfl (.consN (.storeAt0 (g := 5001) ty41 rfl (.s rfl) (.s rfl)) rfl (.asnA rfl (.nil (.freezeBox (g := 5001) (ts := [4]) rfl (.cons (t := 4) rfl trivial .nil) SubB.nil rfl (.ret ?_)))))))))))
    obtain rfl := some_eq h
    exact Ends.ret2 (.inl rfl) Tryd.results52 (ResOK.cellR ty41 rfl trivial Imp.refl) (ResOK.tmp rfl trivial Imp.refl)
theorem page_view_boxOf_okN : ∀ (k : Nat)  (x : (Page_view × Int)) (r : (Box × Int)) (h : fixN page_view_boxOf_body k x = some r), FSpec Tryd.prog 52 [ref x.1, rep x.2] (tup [rep r.1, rep r.2])
 | 0, x, r, h => by simp [fixN] at h
 | k + 1, x, r, h => page_view_boxOf_okS (page_view_boxOf_okN k) h
theorem page_view_boxOf_ok {v1 : Page_view} {i1 : Int} {r : (Box × Int)}  (h : page_view_boxOf v1 i1 = some r) : FSpec Tryd.prog 52 [ref v1, rep i1] (tup [rep r.1, rep r.2]) :=
 let ⟨k, hk⟩ := fixp_some h
 page_view_boxOf_okN k (v1, i1) r hk
theorem page_Check_ok {d1 : Doc} {r : Int}  (h : page_Check d1 = some r) : FSpec Tryd.prog 16 [rep d1] (rep r) := by
 unfold page_Check at h
 refine FSpec.intro (n := 90) fnok16 Tryd.func16 rfl Tryd.ntmps16 rfl (fun F => (.sr [] mixed (.cons (.box .none (.s rfl)) rfl (.asi (.nil (.seq (.sr [] mixed (.fa fd25_0 hfd25_0 rfl (.ld ty22 rfl (.cons (.len .none sl22 (.s rfl)) rfl (.cons (.gt .none (.s rfl) (.int (by decide))) rfl (.mv rfl (.cons (.fieldAddr (.at rfl rfl) fd25_1 hfd25_1 (.s rfl)) rfl (.cons (.load (.at rfl rfl) ty23 (.tmp rfl id)) rfl (.cons (.len (.at rfl rfl) sl23 (.tmp rfl id)) rfl (.cons (.gt (.at rfl rfl) (.tmp rfl id) (.int (by decide))) rfl (.cons (.pickOr .none (.s rfl) (.tmp rfl id)) rfl (.nil (.cb rfl h (fun _ h => ?_) fun _ h => ?_)))))))))))))))))))
 ·
  refine .sr [] mixed (.asi (.nil (.ret (.thenRet ?_))))
  obtain rfl := some_eq h
  exact Ends.rt Tryd.results16 rfl
 ·
  obtain ⟨known1, hv2, h⟩ := bnd_some h
  refine .skip (.then (.sr [([], [25]), ([25], [3, 25])] mixed (.consW (.makeMap (K := Str) (V := Bool) rfl) rfl rfl (.consW (.passRow rfl (.tmp rfl)) rfl rfl (.nil (.reB (t := 3) rfl (congrArg mapV hv2) (.nameMap (t := 3) (g := 5001) rfl rfl rfl (fun s5001 => (.seq (.sr [] mixed (.fa fd25_0 hfd25_0 rfl (.ld ty22 rfl (.cons (.len .none sl22 (.s rfl)) rfl (.mvi (.nil ?_)))))))))))))))
  obtain ⟨o_3, h, hK3⟩ := bindR_some h
  refine .thenJ (ι := (GMap Str Bool)) (fun j_3 => []) (fun j_3 => [(5001, some (CPred.at s5001 (mapV j_3)))]) (fun s => o_3 = Res.nx s) (.k 1 rfl (.k 3 rfl .nil)) SubB.nil ?_ (fun j_3 hj3 => ?_)
  ·
   refine .block (.rforEL h (fun p4_ => [(29, ⟨True, rep p4_.1⟩)]) (fun p4_ => [(5001, some (CPred.at s5001 (mapV p4_.2)))]) (.k 29 rfl .nil) (.k 5001 rfl .nil) (.k 1 rfl (.k 3 rfl (.k 27 rfl (.k 28 rfl .nil)))) SubB.nil (fun p4_ o_4 h hD4 => (.sr [] mixed (.cons (.lt .none (.s rfl) (.s rfl)) rfl (.nil (.seq (.cb rfl h (fun _ h => ?_) fun _ h => ?_)))))))
   ·
    refine .skip (.then (.seq ?_))
    obtain ⟨o_6, h, hK6⟩ := bindD_some h
    unfold page_Check_L1 at h
    refine .thenJ (ι := (GMap Str Bool)) (fun j_6 => []) (fun j_6 => [(5001, some (CPred.at s5001 (mapV j_6)))]) (fun s => o_6 = Res.nx s) (.k 1 rfl (.k 3 rfl (.k 27 rfl (.k 28 rfl (.k 29 rfl .nil))))) SubB.nil ?_ (fun j_6 hj6 => ?_)
    ·
     obtain ⟨hn7, h⟩ := need_some h
     obtain ⟨v1, hv8, h⟩ := bnd_some h
     obtain ⟨e1, hv9, h⟩ := bind_some h
     refine .block (.sr [oo, oo, ([], [5]), ([5], [5])] mixed (.consA (.indexAddr .none sl22 ty43 (.s rfl) (.s rfl) (fun _ => hn7)) rfl (.consA (.re hv8 (.load .none ty43 (.s rfl))) rfl (.consW (.alloc zo43 rfl) rfl rfl (.consN (.store ty43 rfl rfl (.s rfl)) rfl (.nil (.freeze (t := 5) rfl rfl (.k 5001 rfl .nil) rfl (.seq (.sr [oo, oo, oo, oo, ([5001], []), oo, oo] mixed (.ldA ty43 rfl (.mvA rfl (.faA fd43_0 hfd43_0 rfl (.ldA ty9 rfl (.consA (.lookupO (q := 5001) .none mo84 zo4 ownMap_self (.told (.s rfl) rfl) (.s rfl)) rfl (.consA (.call .none (page_checkNode_ok hv9) (.cons (.s rfl) (.cons (.s rfl) .nil))) rfl (.asnA rfl (.nil (.sr [] mixed (.mv rfl (.cons (.neI .none (.s rfl) (.int (by decide))) rfl (.nil (.cb rfl h (fun _ h => ?_) fun _ h => ?_))))))))))))))))))))))
     ·
      refine .sr [] mixed (.mv rfl (.asn rfl (.nil (.ret (.thenRet (.blkRet (.thenRet (.thenRet (.blkRet (.thenRet ?_))))))))))
      replace h := resd_ab hK6 (some_eq h)
      replace h := hD4 _ (some_eq h)
      replace h := resb_ab hK3 (some_eq h)
      obtain rfl := some_eq h
      exact Ends.rt Tryd.results16 rfl
     ·
      exact .skip (.then (.rg [oo, oo, oo, ([5001], [5001])] mixed (.mvA rfl (.faA fd43_0 hfd43_0 rfl (.ldA ty9 rfl (.consN (.mapUpdate (q := 5001) mo84 (.s rfl) rfl (.s rfl) .bool) rfl (.nil (.blkNormal (Ends.j _ (some_eq h))))))))))
    ·
     have h := resd_nx hK6 hj6
     exact .rg [] mixed (.cons (.addW .none (.s rfl) (.int (by decide))) rfl (.mv rfl (.nil (Ends.ag (some_eq h)))))
   ·
    refine .exit (.thenExit (.thenExit (.blkExit ?_)))
    replace h := hD4 _ (some_eq h)
    exact Ends.j _ (some_eq h)
  ·
   have h := resb_nx hK3 hj3
   obtain ⟨v2, hv11, h⟩ := bind_some h
   obtain ⟨p1, hv12, h⟩ := bind_some h
   obtain ⟨e2, hv13, h⟩ := bind_some h
   refine .sr [] mixed (.ld ty25 rfl (.cons (.isRef hv12 (.call .none (page_viewOf_ok hv11) (.cons (.s rfl) .nil))) rfl (.asn rfl (.nil (.seq (.sr [] mixed (.mv rfl (.cons (.call .none (page_view_checkGroups_ok hv13) (.cons (.s rfl) .nil)) rfl (.asn rfl (.nil (.sr [] mixed (.mv rfl (.cons (.neI .none (.s rfl) (.int (by decide))) rfl (.nil (.cb rfl h (fun _ h => ?_) fun _ h => ?_)))))))))))))))
   ·
    refine .sr [] mixed (.mv rfl (.asn rfl (.nil (.ret (.thenRet ?_)))))
    obtain rfl := some_eq h
    exact Ends.rt Tryd.results16 rfl
   ·
    refine .skip (.then (.seq (.sr [] mixed (.fa fd25_1 hfd25_1 rfl (.ld ty23 rfl (.cons (.len .none sl23 (.s rfl)) rfl (.mvi (.nil ?_))))))))
    obtain ⟨o_15, h, hK15⟩ := bindR_some h
    refine .thenJ (ι := (GMap Str Bool)) (fun j_15 => []) (fun j_15 => [(5001, some (CPred.at s5001 (mapV j_15)))]) (fun s => o_15 = Res.nx s) (.k 1 rfl (.k 3 rfl (.k 7 rfl .nil))) SubB.nil ?_ (fun j_15 hj15 => ?_)
    ·
     refine .block (.rforEL h (fun p16_ => [(56, ⟨True, rep p16_.1⟩)]) (fun p16_ => [(5001, some (CPred.at s5001 (mapV p16_.2)))]) (.k 56 rfl .nil) (.k 5001 rfl .nil) (.k 1 rfl (.k 3 rfl (.k 7 rfl (.k 54 rfl (.k 55 rfl .nil))))) SubB.nil (fun p16_ o_16 h hD16 => (.sr [] mixed (.cons (.lt .none (.s rfl) (.s rfl)) rfl (.nil (.seq (.cb rfl h (fun _ h => ?_) fun _ h => ?_)))))))
     ·
      refine .skip (.then (.seq ?_))
      obtain ⟨o_18, h, hK18⟩ := bindD_some h
      unfold page_Check_L2 at h
      refine .thenJ (ι := (GMap Str Bool)) (fun j_18 => []) (fun j_18 => [(5001, some (CPred.at s5001 (mapV j_18)))]) (fun s => o_18 = Res.nx s) (.k 1 rfl (.k 3 rfl (.k 7 rfl (.k 54 rfl (.k 55 rfl (.k 56 rfl .nil)))))) SubB.nil ?_ (fun j_18 hj18 => ?_)
      ·
       obtain ⟨hn19, h⟩ := need_some h
       obtain ⟨v3, hv20, h⟩ := bnd_some h
       obtain ⟨e3, hv21, h⟩ := bind_some h
       refine .block (.sr [oo, oo, ([], [10]), ([10], [10])] mixed (.consA (.indexAddr .none sl23 ty96 (.s rfl) (.s rfl) (fun _ => hn19)) rfl (.consA (.re hv20 (.load .none ty96 (.s rfl))) rfl (.consW (.alloc zo96 rfl) rfl rfl (.consN (.store ty96 rfl rfl (.s rfl)) rfl (.nil (.freeze (t := 10) rfl rfl (.k 5001 rfl .nil) rfl (.seq (.sr [oo, oo, oo, oo, oo, ([5001], []), oo, oo] mixed (.mvA rfl (.ldA ty96 rfl (.mvA rfl (.faA fd96_0 hfd96_0 rfl (.ldA ty9 rfl (.consA (.lookupO (q := 5001) .none mo84 zo4 ownMap_self (.told (.s rfl) rfl) (.s rfl)) rfl (.consA (.call .none (page_view_checkEdge_ok hv21) (.cons (.s rfl) (.cons (.s rfl) (.cons (.s rfl) .nil)))) rfl (.asnA rfl (.nil (.sr [] mixed (.mv rfl (.cons (.neI .none (.s rfl) (.int (by decide))) rfl (.nil (.cb rfl h (fun _ h => ?_) fun _ h => ?_)))))))))))))))))))))))
       ·
        refine .sr [] mixed (.mv rfl (.asn rfl (.nil (.ret (.thenRet (.blkRet (.thenRet (.thenRet (.blkRet (.thenRet ?_))))))))))
        replace h := resd_ab hK18 (some_eq h)
        replace h := hD16 _ (some_eq h)
        replace h := resb_ab hK15 (some_eq h)
        obtain rfl := some_eq h
        exact Ends.rt Tryd.results16 rfl
       ·
        exact .skip (.then (.rg [oo, oo, oo, ([5001], [5001])] mixed (.mvA rfl (.faA fd96_0 hfd96_0 rfl (.ldA ty9 rfl (.consN (.mapUpdate (q := 5001) mo84 (.s rfl) rfl (.s rfl) .bool) rfl (.nil (.blkNormal (Ends.j _ (some_eq h))))))))))
      ·
       have h := resd_nx hK18 hj18
       exact .rg [] mixed (.cons (.addW .none (.s rfl) (.int (by decide))) rfl (.mv rfl (.nil (Ends.ag (some_eq h)))))
     ·
      refine .exit (.thenExit (.thenExit (.blkExit ?_)))
      replace h := hD16 _ (some_eq h)
      exact Ends.j _ (some_eq h)
    ·
     have h := resb_nx hK15 hj15
     refine .seq (.sr [] mixed (.fa fd25_0 hfd25_0 rfl (.ld ty22 rfl (.cons (.len .none sl22 (.s rfl)) rfl (.mvi (.nil ?_))))))
     obtain ⟨o_23, h, hK23⟩ := bindR_some h
     refine .thenJ (ι := Unit) (fun j_23 => []) (fun j_23 => []) (fun s => o_23 = Res.nx s) Sub.nil SubB.nil ?_ (fun j_23 hj23 => ?_)
     ·
      refine .block (.rforEL h (fun p24_ => [(77, ⟨True, rep p24_.1⟩)]) (fun p24_ => []) (.k 77 rfl .nil) SubB.nil (.k 7 rfl (.k 76 rfl .nil)) SubB.nil (fun p24_ o_24 h hD24 => (.sr [] mixed (.cons (.lt .none (.s rfl) (.s rfl)) rfl (.nil (.seq (.cb rfl h (fun _ h => ?_) fun _ h => ?_)))))))
      ·
       refine .skip (.then (.seq ?_))
       obtain ⟨o_26, h, hK26⟩ := bindD_some h
       unfold page_Check_L3 at h
       refine .thenJ (ι := Unit) (fun j_26 => []) (fun j_26 => []) (fun s => o_26 = Res.nx s) (.k 7 rfl (.k 76 rfl (.k 77 rfl .nil))) SubB.nil ?_ (fun j_26 hj26 => ?_)
       ·
        obtain ⟨r1, hv27, h⟩ := bind_some h
        refine .block (.sr [] mixed (.mv rfl (.asn rfl (.nil (.sr [oo, oo, oo, oo, oo, oo, ([], [13]), ([13], [13]), oo] mixed (.mvA rfl (.mvA rfl (.consA (.call .none (page_view_boxOf_ok hv27) (.cons (.s rfl) (.cons (.s rfl) .nil))) rfl (.mvA rfl (.consA (.extract .none (.s rfl) rfl) rfl (.consA (.extract .none (.s rfl) rfl) rfl (.consW (.alloc zo41 rfl) rfl rfl (.consN (.store ty41 rfl rfl (.s rfl)) rfl (.asnA rfl (.nil (.sr [] mixed (.mv rfl (.cons (.neI .none (.s rfl) (.int (by decide))) rfl (.nil (.cb rfl h (fun _ h => ?_) fun _ h => ?_))))))))))))))))))))
        ·
         refine .sr [] mixed (.mv rfl (.asn rfl (.nil (.ret (.blkRet (.thenRet (.thenRet (.blkRet (.thenRet ?_)))))))))
         replace h := resd_ab hK26 (some_eq h)
         replace h := hD24 _ (some_eq h)
         replace h := resb_ab hK23 (some_eq h)
         obtain rfl := some_eq h
         exact Ends.rt Tryd.results16 rfl
        ·
         exact .skip (.blkNormal (Ends.j _ (some_eq h)))
       ·
        have h := resd_nx hK26 hj26
        exact .rg [] mixed (.cons (.addW .none (.s rfl) (.int (by decide))) rfl (.mv rfl (.nil (Ends.ag (some_eq h)))))
      ·
       refine .exit (.thenExit (.thenExit (.blkExit ?_)))
       replace h := hD24 _ (some_eq h)
       exact Ends.j _ (some_eq h)
     ·
      have h := resb_nx hK23 hj23
      refine .sr [] mixed (.asi (.nil (.ret ?_)))
      obtain rfl := some_eq h
      exact Ends.rt Tryd.results16 rfl
theorem page_look_ok {d1 : Doc} {r : ((Option Page_view) × Int)}  (h : page_look d1 = some r) : FSpec Tryd.prog 63 [rep d1] (tup [rep r.1, rep r.2]) := by
 unfold page_look at h
 obtain ⟨e1, hv1, h⟩ := bind_some h
 refine FSpec.intro (n := 12) fnok63 Tryd.func63 rfl Tryd.ntmps63 rfl (fun F => (.sr [] mixed (.cons (.box .none (.s rfl)) rfl (.cons (.assign .none (.const (x := (none : (Option Page_view))) (fun M w => ⟨_, ptr_zero, rfl⟩))) rfl (.asi (.nil (.seq (.sr [] mixed (.ld ty25 rfl (.cons (.call .none (page_Check_ok hv1) (.cons (.s rfl) .nil)) rfl (.asn rfl (.nil (.sr [] mixed (.mv rfl (.cons (.neI .none (.s rfl) (.int (by decide))) rfl (.nil (.cb rfl h (fun _ h => ?_) fun _ h => ?_)))))))))))))))))
 ·
  refine .sr [] mixed (.mv rfl (.cons (.assign .none (.const (x := (none : (Option Page_view))) (fun M w => ⟨_, ptr_zero, rfl⟩))) rfl (.asn rfl (.nil (.ret (.thenRet ?_))))))
  obtain rfl := some_eq h
  exact Ends.ret2 (.inl rfl) Tryd.results63 (ResOK.tmp rfl trivial Imp.refl) (ResOK.tmp rfl trivial Imp.refl)
 ·
  obtain ⟨r1, hv3, h⟩ := bind_some h
  obtain ⟨p1, hv4, h⟩ := bind_some h
  refine .skip (.then (.sr [] mixed (.ld ty25 rfl (.cons (.isRef hv4 (.call .none (page_viewOf_ok hv3) (.cons (.s rfl) .nil))) rfl (.asn rfl (.asi (.nil (.ret ?_))))))))
  obtain rfl := some_eq h
  exact Ends.ret2 (.inl rfl) Tryd.results63 (ResOK.tmp rfl trivial Imp.refSome) (ResOK.tmp rfl trivial Imp.refl)
theorem page_selected_ok {d1 : Doc} {ids1 : (List Str)} {r : ((Option Page_view) × (List Int) × Int)}  (h : page_selected d1 ids1 = some r) : FSpec Tryd.prog 35 [rep d1, rep ids1] (tup [rep r.1, rep r.2.1, rep r.2.2]) := by
 unfold page_selected at h
 obtain ⟨r1, hv1, h⟩ := bind_some h
 refine FSpec.intro (n := 106) fnok35 Tryd.func35 rfl Tryd.ntmps35 rfl (fun F => (.sr [] mixed (.cons (.box .none (.s rfl)) rfl (.cons (.assign .none (.const (x := (none : (Option Page_view))) (fun M w => ⟨_, ptr_zero, rfl⟩))) rfl (.cons (.assign .none (.const (x := ([] : (List Int))) (fun M w => ⟨_, ⟨none, 0, rfl, Nat.le_refl _, by decide, rfl⟩, rfl⟩))) rfl (.asi (.nil (.sr [] mixed (.ld ty25 rfl (.cons (.call .none (page_look_ok hv1) (.cons (.s rfl) .nil)) rfl (.mv rfl (.cons (.extract .none (.s rfl) rfl) rfl (.cons (.extract .none (.s rfl) rfl) rfl (.asn rfl (.asn rfl (.nil (.seq (.sr [] mixed (.mv rfl (.cons (.neI .none (.s rfl) (.int (by decide))) rfl (.nil (.cb rfl h (fun _ h => ?_) fun _ h => ?_))))))))))))))))))))))
 ·
  refine .sr [] mixed (.mv rfl (.cons (.assign .none (.const (x := (none : (Option Page_view))) (fun M w => ⟨_, ptr_zero, rfl⟩))) rfl (.cons (.assign .none (.const (x := ([] : (List Int))) (fun M w => ⟨_, ⟨none, 0, rfl, Nat.le_refl _, by decide, rfl⟩, rfl⟩))) rfl (.asn rfl (.nil (.ret (.thenRet ?_)))))))
  obtain rfl := some_eq h
  exact Ends.ret3 (.inl rfl) Tryd.results35 (ResOK.tmp rfl trivial Imp.refl) (ResOK.tmp rfl trivial Imp.refl) (ResOK.tmp rfl trivial Imp.refl)
 ·
  obtain ⟨v1, hv3, h⟩ := bnd_some h
  obtain ⟨hn4, h⟩ := need_some h
  obtain ⟨chosen1, hv5, h⟩ := bnd_some h
  obtain ⟨v2, hv6, h⟩ := bind_some h
  refine .skip (.then (.sr [oo, oo, oo, ([], [31]), ([31], [9, 31])] mixed (.faA fd25_0 hfd25_0 rfl (.ldA ty22 rfl (.consA (.re hv3 (.len .none sl22 (.s rfl))) rfl (.consW (.makeSlice rk73 zo4 rfl (.s rfl) (.s rfl) hn4) rfl rfl (.consW (.passRow rfl (.tmp rfl)) rfl rfl (.nil (.reB (t := 9) rfl (congrArg (rowV 4) hv5) (.nameRow (t := 9) (g := 5001) rfl rfl rfl (fun s5001 => (.seq (.sr [] mixed (.mv rfl (.cons (.len .none sl35 (.s rfl)) rfl (.mvi (.nil (.isRef (t := 7) hv6 rfl trivial ?_))))))))))))))))))
  obtain ⟨o_7, h, hK7⟩ := bindR_some h
  refine .thenJ (ι := (List Bool)) (fun j_7 => []) (fun j_7 => [(5001, some (CPred.at s5001 (rowV 4 j_7)))]) (fun s => o_7 = Res.nx s) (.k 2 rfl (.k 7 rfl (.k 9 rfl .nil))) SubB.nil ?_ (fun j_7 hj7 => ?_)
  ·
   refine .block (.rforEL h (fun p8_ => [(34, ⟨True, rep p8_.1⟩)]) (fun p8_ => [(5001, some (CPred.at s5001 (rowV 4 p8_.2)))]) (.k 34 rfl .nil) (.k 5001 rfl .nil) (.k 2 rfl (.k 7 rfl (.k 9 rfl (.k 32 rfl (.k 33 rfl .nil))))) SubB.nil (fun p8_ o_8 h hD8 => (.sr [] mixed (.cons (.lt .none (.s rfl) (.s rfl)) rfl (.nil (.seq (.cb rfl h (fun _ h => ?_) fun _ h => ?_)))))))
   ·
    refine .skip (.then (.seq ?_))
    obtain ⟨o_10, h, hK10⟩ := bindD_some h
    unfold page_selected_L1 at h
    refine .thenJ (ι := (List Bool)) (fun j_10 => []) (fun j_10 => [(5001, some (CPred.at s5001 (rowV 4 j_10)))]) (fun s => o_10 = Res.nx s) (.k 2 rfl (.k 7 rfl (.k 9 rfl (.k 32 rfl (.k 33 rfl (.k 34 rfl .nil)))))) SubB.nil ?_ (fun j_10 hj10 => ?_)
    ·
     obtain ⟨hn11, h⟩ := need_some h
     obtain ⟨k1, hv12, h⟩ := bnd_some h
     refine .block (.sr [] mixed (.cons (.indexAddr .none sl35 ty9 (.s rfl) (.s rfl) (fun _ => hn11)) rfl (.ld ty9 rfl (.asn rfl (.nil (.sr [] mixed (.mv rfl (.cons (.nilCheckR .none (.s rfl)) rfl (.fa fd63_1 hfd63_1 rfl (.ld ty60 rfl (.mv rfl (.cons (.lookupOk .none mo60 zo3 (.s rfl) (.s rfl)) rfl (.mv rfl (.cons (.extract .none (.s rfl) rfl) rfl (.cons (.extract .none (.s rfl) rfl) rfl (.cons (.re hv12 (.assign .none (.s rfl))) rfl (.asn rfl (.nil (.seq (.block (.sr [] mixed (.mv rfl (.cons (.not .none (.s rfl)) rfl (.asn rfl (.nil (.cb rfl h (fun _ h => ?_) fun _ h => ?_))))))))))))))))))))))))))
     ·
      refine .sr [] mixed (.cons (.assign .none (.const (x := (none : (Option Page_view))) (fun M w => ⟨_, ptr_zero, rfl⟩))) rfl (.cons (.assign .none (.const (x := ([] : (List Int))) (fun M w => ⟨_, ⟨none, 0, rfl, Nat.le_refl _, by decide, rfl⟩, rfl⟩))) rfl (.asi (.nil (.ret (.blkRet (.thenRet (.blkRet (.thenRet (.thenRet (.blkRet (.thenRet ?_))))))))))))
      replace h := resd_ab hK10 (some_eq h)
      replace h := hD8 _ (some_eq h)
      replace h := resb_ab hK7 (some_eq h)
      obtain rfl := some_eq h
      exact Ends.ret3 (.inl rfl) Tryd.results35 (ResOK.tmp rfl trivial Imp.refl) (ResOK.tmp rfl trivial Imp.refl) (ResOK.tmp rfl trivial Imp.refl)
     ·
      obtain ⟨hn14, h⟩ := need_some h
      refine .sr [oo, oo, ([5001], []), ([5001], []), oo] mixed (.mvA rfl (.mvA rfl (.consA (.indexAddrO (k := 5001) .none sl73 ty4 (.s rfl) rfl (.s rfl) (fun _ => hn14)) rfl (.consA (.loadElem0 (k := 5001) .none ty4 (.s rfl) rfl (fun _ => hn14)) rfl (.asnA rfl (.nil (.cb rfl h (fun _ h => ?_) fun _ h => ?_)))))))
      ·
       refine .sr [] mixed (.cons (.assign .none (.const (x := (none : (Option Page_view))) (fun M w => ⟨_, ptr_zero, rfl⟩))) rfl (.cons (.assign .none (.const (x := ([] : (List Int))) (fun M w => ⟨_, ⟨none, 0, rfl, Nat.le_refl _, by decide, rfl⟩, rfl⟩))) rfl (.asi (.nil (.ret (.blkRet (.thenRet (.blkRet (.thenRet (.thenRet (.blkRet (.thenRet ?_))))))))))))
       replace h := resd_ab hK10 (some_eq h)
       replace h := hD8 _ (some_eq h)
       replace h := resb_ab hK7 (some_eq h)
       obtain rfl := some_eq h
       exact Ends.ret3 (.inl rfl) Tryd.results35 (ResOK.tmp rfl trivial Imp.refl) (ResOK.tmp rfl trivial Imp.refl) (ResOK.tmp rfl trivial Imp.refl)
      ·
       obtain ⟨hn16, h⟩ := need_some h
       exact .skip (.blkNormal (.then (.rg [oo, oo, ([5001], []), ([5001], [5001])] mixed (.mvA rfl (.mvA rfl (.consA (.indexAddrO (k := 5001) .none sl73 ty4 (.s rfl) rfl (.s rfl) (fun _ => hn16)) rfl (.consN (.storeElem0 (k := 5001) ty4 (.s rfl) rfl .bool hn16) rfl (.nil (.blkNormal (Ends.j _ (some_eq h)))))))))))
    ·
     have h := resd_nx hK10 hj10
     exact .rg [] mixed (.cons (.addW .none (.s rfl) (.int (by decide))) rfl (.mv rfl (.nil (Ends.ag (some_eq h)))))
   ·
    refine .exit (.thenExit (.thenExit (.blkExit ?_)))
    replace h := hD8 _ (some_eq h)
    exact Ends.j _ (some_eq h)
  ·
   have h := resb_nx hK7 hj7
   refine .freezeRow (g := 5001) (ts := [9]) rfl (.cons (t := 9) rfl trivial .nil) SubB.nil rfl (.sr [([], [14])] mixed (.consW (.nilRow (T := 3) (α := Int) rfl) rfl rfl (.nil (.nameRow (t := 14) (g := 5002) rfl rfl rfl (fun s5002 => (.seq (.sr [] mixed (.fa fd25_0 hfd25_0 rfl (.ld ty22 rfl (.cons (.len .none sl22 (.s rfl)) rfl (.mvi (.nil ?_))))))))))))
   obtain ⟨j_17, h, hK17⟩ := bind_some h
   refine .thenJ (ι := (List Int)) (fun j_17 => []) (fun j_17 => [(14, some (rowV 3 j_17))]) (fun s => j_17 = s) (.k 7 rfl .nil) SubB.nil ?_ (fun j_17' hj17 => ?_)
   ·
    refine .block (.anon (t := 14) (g := 5002) rfl rfl trivial rfl (.rforL h (fun p18_ => [(62, ⟨True, rep p18_.1⟩)]) (fun p18_ => [(14, some (rowV 3 p18_.2))]) (.k 62 rfl .nil) (.k 14 rfl .nil) (.k 2 rfl (.k 7 rfl (.k 9 rfl (.k 60 rfl (.k 61 rfl .nil))))) SubB.nil (fun p18_ o_18 h hD18 => (.nameRow (t := 14) (g := 5003) rfl rfl rfl (fun s5003 => (.sr [] mixed (.cons (.lt .none (.s rfl) (.s rfl)) rfl (.nil (.seq (.cb rfl h (fun _ h => ?_) fun _ h => ?_))))))))))
    ·
     refine .skip (.then (.seq ?_))
     obtain ⟨j_20, h, hK20⟩ := bind_some h
     unfold page_selected_L2 at h
     refine .thenJ (ι := (List Int)) (fun j_20 => []) (fun j_20 => [(14, some (rowV 3 j_20))]) (fun s => j_20 = s) (.k 2 rfl (.k 7 rfl (.k 9 rfl (.k 60 rfl (.k 61 rfl (.k 62 rfl .nil)))))) SubB.nil ?_ (fun j_20' hj20 => ?_)
     ·
      obtain ⟨hn21, h⟩ := need_some h
      obtain ⟨v3, hv22, h⟩ := bnd_some h
      refine .block (.sr [oo, oo, oo, ([], [16]), oo, ([16], [16])] mixed (.mvA rfl (.consA (.indexAddr .none sl22 ty43 (.s rfl) (.s rfl) (fun _ => hn21)) rfl (.consA (.re hv22 (.load .none ty43 (.s rfl))) rfl (.consW (.alloc zo43 rfl) rfl rfl (.asnA rfl (.consN (.store ty43 rfl rfl (.s rfl)) rfl (.nil (.freeze (t := 16) rfl rfl (.k 5003 rfl .nil) rfl (.sr [] mixed (.cons (.assign .none .bool) rfl (.nil (.seq (.sr [oo, ([], [18]), ([18], [18])] mixed (.ldA ty43 rfl (.consW (.alloc zo43 rfl) rfl rfl (.consN (.store ty43 rfl rfl (.s rfl)) rfl (.nil (.nameBox (t := 18) (g := 5004) rfl rfl (fun m5004 => ?_))))))))))))))))))))
      obtain ⟨j_23, h, hK23⟩ := bind_some h
      refine .thenJ (ι := Bool) (fun j_23 => [(17, ⟨True, rep j_23⟩)]) (fun j_23 => []) (fun s => j_23 = s) (.k 2 rfl (.k 7 rfl (.k 9 rfl (.k 14 rfl (.k 15 rfl (.k 60 rfl (.k 61 rfl (.k 62 rfl .nil)))))))) (.k 5003 rfl .nil) ?_ (fun j_23' hj23 => ?_)
      ·
       refine .block (.anon (t := 18) (g := 5004) rfl rfl trivial rfl (.loopL h (fun s24_ => [(17, ⟨True, rep s24_.1⟩)]) (fun s24_ => [(18, some (cont 43 s24_.2))]) (.k 17 rfl .nil) (.k 18 rfl .nil) (.k 2 rfl (.k 7 rfl (.k 9 rfl (.k 14 rfl (.k 15 rfl (.k 60 rfl (.k 61 rfl (.k 62 rfl .nil)))))))) (.k 5003 rfl .nil) (fun s24_ o_24 h hD24 => ?_)))
       unfold page_selected_L3 at h
       refine .nameBox (t := 18) (g := 5005) rfl rfl (fun m5005 => (.seq (.sr [oo, ([5005], []), oo] mixed (.consA (.fieldPtr .none fd43_5 (.s rfl)) rfl (.consA (.loadAt (k := 5005) .none ty9 rfl (.s rfl) hfd43_5) rfl (.consA (.neS .none (eqAt_str Tryd.underlying9) (.s rfl) (.str (l := []) (by decide))) rfl (.nil (.cb rfl h (fun _ h => ?_) fun _ h => ?_))))))))
       ·
        obtain ⟨k2, hv26, h⟩ := bnd_some h
        obtain ⟨hn27, h⟩ := need_some h
        obtain ⟨under1, hv28, h⟩ := bnd_some h
        obtain ⟨hn29, h⟩ := need_some h
        obtain ⟨v4, hv30, h⟩ := bnd_some h
        exact .skip (.then (.seq (.block (.sr [oo, oo, oo, oo, oo, ([5005], []), oo, oo] mixed (.mvA rfl (.consA (.nilCheckR .none (.s rfl)) rfl (.faA fd63_1 hfd63_1 rfl (.ldA ty60 rfl (.consA (.fieldPtr .none fd43_5 (.s rfl)) rfl (.consA (.loadAt (k := 5005) .none ty9 rfl (.s rfl) hfd43_5) rfl (.consA (.lookup .none mo60 zo3 (.s rfl) (.s rfl)) rfl (.consA (.re hv26 (.assign .none (.s rfl))) rfl (.nil (.sr [] mixed (.mv rfl (.mv rfl (.cons (.move (.at rfl rfl) (.s rfl)) rfl (.cons (.move (.at rfl rfl) (.s rfl)) rfl (.cons (.indexAddr (.at rfl rfl) sl73 ty4 (.tmp rfl id) (.tmp rfl id) (fun hg => hn27 hg.2)) rfl (.cons (.load (.at rfl rfl) ty4 (.tmp rfl id)) rfl (.cons (.pickOr .none (.s rfl) (.tmp rfl id)) rfl (.cons (.re hv28 (.assign .none (.s rfl))) rfl (.nil (.rg [oo, oo, oo, oo, oo, ([5005], [5005])] mixed (.faA fd25_0 hfd25_0 rfl (.ldA ty22 rfl (.mvA rfl (.consA (.indexAddr .none sl22 ty43 (.s rfl) (.s rfl) (fun _ => hn29)) rfl (.consA (.re hv30 (.load .none ty43 (.s rfl))) rfl (.consN (.storeAt0 (g := 5005) ty43 rfl (.s rfl) (.s rfl)) rfl (.nil (.blkNormal (.then (.freezeBox (g := 5005) (ts := [18]) rfl (.cons (t := 18) rfl trivial .nil) (.k 5003 rfl .nil) rfl (.sr [] mixed (.ld ty43 rfl (.nil (.rg [([], [18]), ([18], [18])] mixed (.consW (.alloc zo43 rfl) rfl rfl (.consN (.store ty43 rfl rfl (.s rfl)) rfl (.nil (Ends.ag (some_eq h)))))))))))))))))))))))))))))))))))))))))))
       ·
        refine .exit (.thenExit (.thenExit (.blkExit ?_)))
        replace h := hD24 _ (some_eq h)
        exact Ends.j _ (some_eq h)
      ·
       subst hj23; have h := hK23; clear hK23
       obtain ⟨hn31, h⟩ := need_some h
       refine .sr [] mixed (.mv rfl (.mv rfl (.cons (.indexAddr .none sl73 ty4 (.s rfl) (.s rfl) (fun _ => hn31)) rfl (.ld ty4 rfl (.mv rfl (.cons (.move (.at rfl rfl) (.s rfl)) rfl (.cons (.not (.at rfl rfl) (.tmp rfl id)) rfl (.cons (.pickAnd .none (.s rfl) (.tmp rfl id)) rfl (.nil (.cb rfl h (fun _ h => ?_) fun _ h => ?_))))))))))
       ·
        obtain ⟨hn33, h⟩ := need_some h
        exact .rg [oo, oo, oo, ([5003], [102, 5003]), ([102], [14, 102])] mixed (.mvA rfl (.mvA rfl (.consA (.buildSlice (xs := [_]) .none sl59 ty3 hz3 (.cons (.s rfl) .nil) rfl (by decide)) rfl (.consW (.append (k := 5003) rk59 rfl (.told (.s rfl) rfl) (.s rfl) hn33) rfl rfl (.consW (.passRow rfl (.tmp rfl)) rfl rfl (.nil (.blkNormal (Ends.j _ (some_eq h)))))))))
       ·
        exact .skip (.blkNormal (.anon (t := 14) (g := 5003) rfl rfl trivial rfl (Ends.j _ (some_eq h))))
     ·
      subst hj20; have h := hK20; clear hK20
      exact .nameRow (t := 14) (g := 5006) rfl rfl rfl (fun s5006 => (.rg [] mixed (.cons (.addW .none (.s rfl) (.int (by decide))) rfl (.mv rfl (.nil (.anon (t := 14) (g := 5006) rfl rfl trivial rfl (Ends.ag (some_eq h))))))))
    ·
     refine .exit (.thenExit (.thenExit (.blkExit (.anon (t := 14) (g := 5003) rfl rfl trivial rfl ?_))))
     replace h := hD18 _ (some_eq h)
     exact Ends.j _ (some_eq h)
   ·
    subst hj17; have h := hK17; clear hK17
    refine .freezeRowA (t := 14) rfl rfl SubB.nil rfl (.sr [] mixed (.mv rfl (.mv rfl (.asn rfl (.asn rfl (.asi (.nil (.ret ?_))))))))
    obtain rfl := some_eq h
    exact Ends.ret3 (.inl rfl) Tryd.results35 (ResOK.tmp rfl trivial Imp.refSome) (ResOK.tmp rfl trivial Imp.refl) (ResOK.tmp rfl trivial Imp.refl)
theorem page_Roots_ok {d1 : Doc} {ids1 : (List Str)} {r : ((List Str) × Int)}  (h : page_Roots d1 ids1 = some r) : FSpec Tryd.prog 17 [rep d1, rep ids1] (tup [rep r.1, rep r.2]) := by
 unfold page_Roots at h
 obtain ⟨r1, hv1, h⟩ := bind_some h
 refine FSpec.intro (n := 37) fnok17 Tryd.func17 rfl Tryd.ntmps17 rfl (fun F => (.sr [] mixed (.cons (.box .none (.s rfl)) rfl (.cons (.assign .none (.const (x := ([] : (List Str))) (fun M w => ⟨_, ⟨none, 0, rfl, Nat.le_refl _, by decide, rfl⟩, rfl⟩))) rfl (.asi (.nil (.sr [] mixed (.ld ty25 rfl (.mv rfl (.cons (.call .none (page_selected_ok hv1) (.cons (.s rfl) (.cons (.s rfl) .nil))) rfl (.mv rfl (.cons (.extract .none (.s rfl) rfl) rfl (.cons (.extract .none (.s rfl) rfl) rfl (.cons (.extract .none (.s rfl) rfl) rfl (.asn rfl (.asn rfl (.asn rfl (.nil (.sr [([], [9])] mixed (.consW (.nilRow (T := 9) (α := Str) rfl) rfl rfl (.nil (.nameRow (t := 9) (g := 5001) rfl rfl rfl (fun s5001 => (.seq (.sr [] mixed (.mv rfl (.cons (.len .none sl59 (.s rfl)) rfl (.mvi (.nil ?_)))))))))))))))))))))))))))))
 obtain ⟨j_2, h, hK2⟩ := bind_some h
 refine .thenJ (ι := (List Str)) (fun j_2 => []) (fun j_2 => [(9, some (rowV 9 j_2))]) (fun s => j_2 = s) (.k 8 rfl .nil) SubB.nil ?_ (fun j_2' hj2 => ?_)
 ·
  refine .block (.anon (t := 9) (g := 5001) rfl rfl trivial rfl (.rforL h (fun p3_ => [(21, ⟨True, rep p3_.1⟩)]) (fun p3_ => [(9, some (rowV 9 p3_.2))]) (.k 21 rfl .nil) (.k 9 rfl .nil) (.k 2 rfl (.k 8 rfl (.k 19 rfl (.k 20 rfl .nil)))) SubB.nil (fun p3_ o_3 h hD3 => (.nameRow (t := 9) (g := 5002) rfl rfl rfl (fun s5002 => (.sr [] mixed (.cons (.lt .none (.s rfl) (.s rfl)) rfl (.nil (.seq (.cb rfl h (fun _ h => ?_) fun _ h => ?_))))))))))
  ·
   refine .skip (.then (.seq ?_))
   obtain ⟨j_5, h, hK5⟩ := bind_some h
   unfold page_Roots_L1 at h
   refine .thenJ (ι := (List Str)) (fun j_5 => []) (fun j_5 => [(9, some (rowV 9 j_5))]) (fun s => j_5 = s) (.k 2 rfl (.k 8 rfl (.k 19 rfl (.k 20 rfl (.k 21 rfl .nil))))) SubB.nil ?_ (fun j_5' hj5 => ?_)
   ·
    obtain ⟨hn6, h⟩ := need_some h
    obtain ⟨hn7, h⟩ := need_some h
    obtain ⟨hn8, h⟩ := need_some h
    exact .block (.sr [] mixed (.cons (.indexAddr .none sl59 ty3 (.s rfl) (.s rfl) (fun _ => hn6)) rfl (.ld ty3 rfl (.asn rfl (.nil (.rg [oo, oo, oo, oo, oo, oo, oo, oo, ([5002], [33, 5002]), ([33], [9, 33])] mixed (.mvA rfl (.faA fd25_0 hfd25_0 rfl (.ldA ty22 rfl (.mvA rfl (.consA (.indexAddr .none sl22 ty43 (.s rfl) (.s rfl) (fun _ => hn7)) rfl (.faA fd43_0 hfd43_0 rfl (.ldA ty9 rfl (.consA (.buildSlice (xs := [_]) .none sl35 ty9 hz9 (.cons (.s rfl) .nil) rfl (by decide)) rfl (.consW (.append (k := 5002) rk35 rfl (.told (.s rfl) rfl) (.s rfl) hn8) rfl rfl (.consWD (.passRow rfl (.tmp rfl)) rfl rfl (.nil (.blkNormal (Ends.j _ (some_eq h))))))))))))))))))))
   ·
    subst hj5; have h := hK5; clear hK5
    exact .nameRow (t := 9) (g := 5003) rfl rfl rfl (fun s5003 => (.rg [] mixed (.cons (.addW .none (.s rfl) (.int (by decide))) rfl (.mv rfl (.nil (.anon (t := 9) (g := 5003) rfl rfl trivial rfl (Ends.ag (some_eq h))))))))
  ·
   refine .exit (.thenExit (.thenExit (.blkExit (.anon (t := 9) (g := 5002) rfl rfl trivial rfl ?_))))
   replace h := hD3 _ (some_eq h)
   exact Ends.j _ (some_eq h)
 ·
  subst hj2; have h := hK2; clear hK2
  refine .freezeRowA (t := 9) rfl rfl SubB.nil rfl (.sr [] mixed (.mv rfl (.mv rfl (.asn rfl (.asn rfl (.nil (.ret ?_)))))))
  obtain rfl := some_eq h
  exact Ends.ret2 (.inl rfl) Tryd.results17 (ResOK.tmp rfl trivial Imp.refl) (ResOK.tmp rfl trivial Imp.refl)
theorem top_TopSelections_1_ok {b1 : Box} {c0_1 : Int} {r : Int}  (h : top_TopSelections_1 b1 c0_1 = some r) : FSpec Tryd.prog 18 [rep b1, ref c0_1] (rep r) := by
 unfold top_TopSelections_1 at h
 refine FSpec.intro (n := 27) fnok18 Tryd.func18 rfl Tryd.ntmps18 rfl (fun F => (.sr [] mixed (.cons (.box .none (.s rfl)) rfl (.asi (.nil (.seq (.sr [] mixed (.ld ty3 rfl (.nil (.block (.sr [] mixed (.cons (.eqI .none (.s rfl) (.int (by decide))) rfl (.asn rfl (.nil (.cb rfl h (fun _ h => ?_) fun _ h => ?_)))))))))))))))
 ·
  refine .sr [] mixed (.fa fd41_0 hfd41_0 rfl (.ld ty3 rfl (.asn rfl (.nil (.ret (.blkRet (.thenRet ?_)))))))
  obtain rfl := some_eq h
  exact Ends.rt Tryd.results18 rfl
 ·
  refine .sr [] mixed (.cons (.eqI .none (.s rfl) (.int (by decide))) rfl (.asn rfl (.nil (.cb rfl h (fun _ h => ?_) fun _ h => ?_))))
  ·
   refine .sr [] mixed (.fa fd41_0 hfd41_0 rfl (.ld ty3 rfl (.fa fd41_2 hfd41_2 rfl (.ld ty3 rfl (.cons (.addW .none (.s rfl) (.s rfl)) rfl (.asn rfl (.nil (.ret (.blkRet (.thenRet ?_))))))))))
   obtain rfl := some_eq h
   exact Ends.rt Tryd.results18 rfl
  ·
   refine .sr [] mixed (.cons (.eqI .none (.s rfl) (.int (by decide))) rfl (.asn rfl (.nil (.cb rfl h (fun _ h => ?_) fun _ h => ?_))))
   ·
    refine .sr [] mixed (.fa fd41_1 hfd41_1 rfl (.ld ty3 rfl (.asn rfl (.nil (.ret (.blkRet (.thenRet ?_)))))))
    obtain rfl := some_eq h
    exact Ends.rt Tryd.results18 rfl
   ·
    refine .sr [] mixed (.cons (.eqI .none (.s rfl) (.int (by decide))) rfl (.asn rfl (.nil (.cb rfl h (fun _ h => ?_) fun _ h => ?_))))
    ·
     refine .sr [] mixed (.fa fd41_1 hfd41_1 rfl (.ld ty3 rfl (.fa fd41_3 hfd41_3 rfl (.ld ty3 rfl (.cons (.addW .none (.s rfl) (.s rfl)) rfl (.asn rfl (.nil (.ret (.blkRet (.thenRet ?_))))))))))
     obtain rfl := some_eq h
     exact Ends.rt Tryd.results18 rfl
    ·
     refine .skip (.blkNormal (.then (.sr [] mixed (.asi (.nil (.ret ?_))))))
     obtain rfl := some_eq h
     exact Ends.rt Tryd.results18 rfl
theorem page_view_box_ok {v1 : Page_view} {i1 : Int} {r : Box}  (h : page_view_box v1 i1 = some r) : FSpec Tryd.prog 53 [ref v1, rep i1] (rep r) := by
 unfold page_view_box at h
 obtain ⟨v2, hv1, h⟩ := bnd_some h
 obtain ⟨r1, hv2, h⟩ := bind_some h
 refine FSpec.intro (n := 14) fnok53 Tryd.func53 rfl Tryd.ntmps53 rfl (fun F => (.sr [([], [4])] mixed (.consW (.alloc zo41 rfl) rfl rfl (.nil (.reB (t := 4) rfl (congrArg (cont 41) hv1) (.nameBox (t := 4) (g := 5001) rfl rfl (fun m5001 => (.sr [oo, oo, oo, oo, oo, oo, ([], [5]), ([5], [5]), oo] mixed (.mvA rfl (.mvA rfl (.consA (.call .none (page_view_boxOf_ok hv2) (.cons (.s rfl) (.cons (.s rfl) .nil))) rfl (.mvA rfl (.consA (.extract .none (.s rfl) rfl) rfl (.consA (.extract .none (.s rfl) rfl) rfl (.consW (.alloc zo41 rfl) rfl rfl (.consN (.store ty41 rfl rfl (.s rfl)) rfl (.asnA rfl (.nil (.freeze (t := 5) rfl rfl (.k 5001 rfl .nil) rfl (.sr [oo, ([5001], [5001])] mixed (.ldA ty41 rfl (.consN (.storeAt0 (g := 5001) ty41 rfl (.s rfl) (.s rfl)) rfl (.nil (.freezeBox (g := 5001) (ts := [4]) rfl (.cons (t := 4) rfl trivial .nil) SubB.nil rfl (.ret ?_)))))))))))))))))))))))))
 obtain rfl := some_eq h
 exact Ends.ret1 (.inl rfl) Tryd.results53 (ResOK.cellR ty41 rfl trivial Imp.refl)
theorem page_view_hullOf_ok {v1 : Page_view} {roots1 : (List Int)} {r : (Box × Int)}  (h : page_view_hullOf v1 roots1 = some r) : FSpec Tryd.prog 36 [ref v1, rep roots1] (tup [rep r.1, rep r.2]) := by
 unfold page_view_hullOf at h
 obtain ⟨v2, hv1, h⟩ := bnd_some h
 refine FSpec.intro (n := 26) fnok36 Tryd.func36 rfl Tryd.ntmps36 rfl (fun F => (.sr [([], [4]), oo] mixed (.consW (.alloc zo41 rfl) rfl rfl (.consA (.assign .none (.int (by decide))) rfl (.nil (.reB (t := 4) rfl (congrArg (cont 41) hv1) (.nameBox (t := 4) (g := 5001) rfl rfl (fun m5001 => (.sr [([], [6])] mixed (.consW (.nilRow (T := 41) (α := Box) rfl) rfl rfl (.nil (.nameRow (t := 6) (g := 5002) rfl rfl rfl (fun s5002 => (.seq (.sr [] mixed (.mv rfl (.cons (.len .none sl59 (.s rfl)) rfl (.mvi (.nil ?_)))))))))))))))))))
 obtain ⟨j_2, h, hK2⟩ := bind_some h
 refine .thenJ (ι := (List Box)) (fun j_2 => []) (fun j_2 => [(6, some (rowV 41 j_2))]) (fun s => j_2 = s) (.k 4 rfl .nil) (.k 5001 rfl .nil) ?_ (fun j_2' hj2 => ?_)
 ·
  refine .block (.anon (t := 6) (g := 5002) rfl rfl trivial rfl (.rforL h (fun p3_ => [(11, ⟨True, rep p3_.1⟩)]) (fun p3_ => [(6, some (rowV 41 p3_.2))]) (.k 11 rfl .nil) (.k 6 rfl .nil) (.k 0 rfl (.k 4 rfl (.k 9 rfl (.k 10 rfl .nil)))) (.k 5001 rfl .nil) (fun p3_ o_3 h hD3 => (.nameRow (t := 6) (g := 5003) rfl rfl rfl (fun s5003 => (.sr [] mixed (.cons (.lt .none (.s rfl) (.s rfl)) rfl (.nil (.seq (.cb rfl h (fun _ h => ?_) fun _ h => ?_))))))))))
  ·
   refine .skip (.then (.seq ?_))
   obtain ⟨j_5, h, hK5⟩ := bind_some h
   unfold page_view_hullOf_L1 at h
   refine .thenJ (ι := (List Box)) (fun j_5 => []) (fun j_5 => [(6, some (rowV 41 j_5))]) (fun s => j_5 = s) (.k 0 rfl (.k 4 rfl (.k 9 rfl (.k 10 rfl (.k 11 rfl .nil))))) (.k 5001 rfl .nil) ?_ (fun j_5' hj5 => ?_)
   ·
    obtain ⟨hn6, h⟩ := need_some h
    obtain ⟨r1, hv7, h⟩ := bind_some h
    obtain ⟨hn8, h⟩ := need_some h
    exact .block (.sr [] mixed (.cons (.indexAddr .none sl59 ty3 (.s rfl) (.s rfl) (fun _ => hn6)) rfl (.ld ty3 rfl (.asn rfl (.nil (.rg [oo, oo, oo, oo, oo, ([5003], [20, 5003]), ([20], [6, 20])] mixed (.mvA rfl (.mvA rfl (.mvA rfl (.consA (.call .none (page_view_box_ok hv7) (.cons (.s rfl) (.cons (.s rfl) .nil))) rfl (.consA (.buildSlice (xs := [_]) .none sl51 ty41 hz41 (.cons (.s rfl) .nil) rfl (by decide)) rfl (.consW (.append (k := 5003) rk51 rfl (.told (.s rfl) rfl) (.s rfl) hn8) rfl rfl (.consWD (.passRow rfl (.tmp rfl)) rfl rfl (.nil (.blkNormal (Ends.j _ (some_eq h)))))))))))))))))
   ·
    subst hj5; have h := hK5; clear hK5
    exact .nameRow (t := 6) (g := 5004) rfl rfl rfl (fun s5004 => (.rg [] mixed (.cons (.addW .none (.s rfl) (.int (by decide))) rfl (.mv rfl (.nil (.anon (t := 6) (g := 5004) rfl rfl trivial rfl (Ends.ag (some_eq h))))))))
  ·
   refine .exit (.thenExit (.thenExit (.blkExit (.anon (t := 6) (g := 5003) rfl rfl trivial rfl ?_))))
   replace h := hD3 _ (some_eq h)
   exact Ends.j _ (some_eq h)
 ·
  subst hj2; have h := hK2; clear hK2
  obtain ⟨r2, hv9, h⟩ := bind_some h
  refine .freezeRowA (t := 6) rfl rfl (.k 5001 rfl .nil) rfl (.sr [oo, oo, oo, oo, ([5001], [5001]), oo] mixed (.mvA rfl (.consA (.call .none (geom_Hull_ok hv9) (.cons (.s rfl) .nil)) rfl (.consA (.extract .none (.s rfl) rfl) rfl (.consA (.extract .none (.s rfl) rfl) rfl (.consN (.storeAt0 (g := 5001) ty41 rfl (.s rfl) (.s rfl)) rfl (.asnA rfl (.nil (.freezeBox (g := 5001) (ts := [4]) rfl (.cons (t := 4) rfl trivial .nil) SubB.nil rfl (.ret ?_))))))))))
  obtain rfl := some_eq h
  exact Ends.ret2 (.inl rfl) Tryd.results36 (ResOK.cellR ty41 rfl trivial Imp.refl) (ResOK.tmp rfl trivial Imp.refl)
theorem page_view_below_okS {self : (Page_view × Int × (List Bool)) → Option (List Bool)} (hself : ∀ {s35 : Value} (x : (Page_view × Int × (List Bool))) (r : (List Bool)), self x = some r → FSpecO Tryd.prog 38 [ref x.1, rep x.2.1, isV s35] [(s35, rowV 4 x.2.2)] (anyV) [some (rowV 4 r)]) {s35 : Value} {x : (Page_view × Int × (List Bool))} {r : (List Bool)} (h : page_view_below_body self x = some r) : FSpecO Tryd.prog 38 [ref x.1, rep x.2.1, isV s35] [(s35, rowV 4 x.2.2)] (anyV) [some (rowV 4 r)] := by
 unfold page_view_below_body at h
 obtain ⟨hn1, h⟩ := need_some h
 obtain ⟨marks2, hv2, h⟩ := bnd_some h
 obtain ⟨hn3, h⟩ := need_some h
 obtain ⟨v2, hv4, h⟩ := bnd_some h
 refine FSpecO.intro (n := 35) fnok38 Tryd.func38 rfl Tryd.ntmps38 rfl (fun F => (.sr [oo, oo, ([35], []), ([35], [35])] mixed (.mvA rfl (.mvA rfl (.consA (.indexAddrO (k := 35) .none sl73 ty4 (.s rfl) rfl (.s rfl) (fun _ => hn1)) rfl (.consN (.storeElem0 (k := 35) ty4 (.s rfl) rfl .bool hn1) rfl (.nil (.reB (t := 35) rfl (congrArg (fun y => CPred.at s35 (rowV 4 y)) hv2) (.sr [] mixed (.mv rfl (.cons (.nilCheckR .none (.s rfl)) rfl (.fa fd63_2 hfd63_2 rfl (.ld ty61 rfl (.mv rfl (.cons (.nilCheckR .none (.s rfl)) rfl (.fa fd63_0 hfd63_0 rfl (.fa fd25_0 hfd25_0 rfl (.ld ty22 rfl (.mv rfl (.cons (.indexAddr .none sl22 ty43 (.s rfl) (.s rfl) (fun _ => hn3)) rfl (.fa fd43_0 hfd43_0 rfl (.ld ty9 rfl (.cons (.re hv4 (.lookup .none mo61 zo59 (.s rfl) (.s rfl))) rfl (.cons (.len .none sl59 (.s rfl)) rfl (.mvi (.nil ?_))))))))))))))))))))))))))
 obtain ⟨j_5, h, hK5⟩ := bind_some h
 refine .tailJ (ι := (List Bool)) (fun j_5 => []) (fun j_5 => [(35, some (CPred.at s35 (rowV 4 j_5)))]) (fun s => j_5 = s) (.k 2 rfl .nil) SubB.nil ?_ (fun j_5' hj5 => ?_)
 ·
  refine .block (.rforL h (fun p6_ => [(26, ⟨True, rep p6_.1⟩)]) (fun p6_ => [(35, some (CPred.at s35 (rowV 4 p6_.2)))]) (.k 26 rfl .nil) (.k 35 rfl .nil) (.k 0 rfl (.k 2 rfl (.k 24 rfl (.k 25 rfl .nil)))) SubB.nil (fun p6_ o_6 h hD6 => (.sr [] mixed (.cons (.lt .none (.s rfl) (.s rfl)) rfl (.nil (.seq (.cb rfl h (fun _ h => ?_) fun _ h => ?_)))))))
  ·
   refine .skip (.then (.seq ?_))
   obtain ⟨j_8, h, hK8⟩ := bind_some h
   unfold page_view_below_L1 at h
   refine .thenJ (ι := (List Bool)) (fun j_8 => []) (fun j_8 => [(35, some (CPred.at s35 (rowV 4 j_8)))]) (fun s => j_8 = s) (.k 0 rfl (.k 2 rfl (.k 24 rfl (.k 25 rfl (.k 26 rfl .nil))))) SubB.nil ?_ (fun j_8' hj8 => ?_)
   ·
    obtain ⟨hn9, h⟩ := need_some h
    obtain ⟨r1, hv10, h⟩ := bind_some h
    exact .block (.sr [] mixed (.cons (.indexAddr .none sl59 ty3 (.s rfl) (.s rfl) (fun _ => hn9)) rfl (.ld ty3 rfl (.asn rfl (.nil (.rg [oo, oo, oo, ([35], [35])] mixed (.mvA rfl (.mvA rfl (.mvA rfl (.consW (.callO [35] (hself _ _ hv10) (.cons (.s rfl) (.cons (.s rfl) (.cons (.s rfl) .nil))) (.cons (k := 35) rfl .nil) rfl (by decide) (by decide) (by intro d h; cases h; decide)) rfl rfl (.nil (.blkNormal (Ends.j _ (some_eq h))))))))))))))
   ·
    subst hj8; have h := hK8; clear hK8
    exact .rg [] mixed (.cons (.addW .none (.s rfl) (.int (by decide))) rfl (.mv rfl (.nil (Ends.ag (some_eq h)))))
  ·
   refine .exit (.thenExit (.thenExit (.blkExit ?_)))
   replace h := hD6 _ (some_eq h)
   exact Ends.j _ (some_eq h)
 ·
  subst hj5; have h := hK5; clear hK5
  obtain rfl := some_eq h
  exact Ends.ret0O (.inr rfl) [35] Tryd.results38 (by decide) (.held rfl .nil)
theorem page_view_below_okN : ∀ (k : Nat) {s35 : Value} (x : (Page_view × Int × (List Bool))) (r : (List Bool)) (h : fixN page_view_below_body k x = some r), FSpecO Tryd.prog 38 [ref x.1, rep x.2.1, isV s35] [(s35, rowV 4 x.2.2)] (anyV) [some (rowV 4 r)]
 | 0, _, x, r, h => by simp [fixN] at h
 | k + 1, _, x, r, h => page_view_below_okS (page_view_below_okN k) h
theorem page_view_below_ok {v1 : Page_view} {k1 : Int} {marks1 : (List Bool)} {r : (List Bool)} {s35 : Value} (h : page_view_below v1 k1 marks1 = some r) : FSpecO Tryd.prog 38 [ref v1, rep k1, isV s35] [(s35, rowV 4 marks1)] (anyV) [some (rowV 4 r)] :=
 let ⟨k, hk⟩ := fixp_some h
 page_view_below_okN k (v1, k1, marks1) r hk
theorem page_view_marks_ok {v1 : Page_view} {s1 : Page_step} {r : (List Bool)}  (h : page_view_marks v1 s1 = some r) : FSpec Tryd.prog 99 [ref v1, rep s1] (rep r) := by
 unfold page_view_marks at h
 obtain ⟨v2, hv1, h⟩ := bnd_some h
 obtain ⟨hn2, h⟩ := need_some h
 obtain ⟨marks1, hv3, h⟩ := bnd_some h
 refine FSpec.intro (n := 28) fnok99 Tryd.func99 rfl Tryd.ntmps99 rfl (fun F => (.sr [] mixed (.cons (.box .none (.s rfl)) rfl (.cons (.assign .none (.const (x := ([] : (List Bool))) (fun M w => ⟨_, ⟨none, 0, rfl, Nat.le_refl _, by decide, rfl⟩, rfl⟩))) rfl (.nil (.sr [oo, oo, oo, oo, oo, oo, ([], [14]), ([14], [5, 14])] mixed (.mvA rfl (.consA (.nilCheckR .none (.s rfl)) rfl (.faA fd63_0 hfd63_0 rfl (.faA fd25_0 hfd25_0 rfl (.ldA ty22 rfl (.consA (.re hv1 (.len .none sl22 (.s rfl))) rfl (.consW (.makeSlice rk73 zo4 rfl (.s rfl) (.s rfl) hn2) rfl rfl (.consW (.passRow rfl (.tmp rfl)) rfl rfl (.nil (.reB (t := 5) rfl (congrArg (rowV 4) hv3) (.nameRow (t := 5) (g := 5001) rfl rfl rfl (fun s5001 => (.seq (.sr [] mixed (.fa fd102_0 hfd102_0 rfl (.ld ty59 rfl (.cons (.len .none sl59 (.s rfl)) rfl (.mvi (.nil ?_)))))))))))))))))))))))))
 obtain ⟨j_4, h, hK4⟩ := bind_some h
 refine .thenJ (ι := (List Bool)) (fun j_4 => []) (fun j_4 => [(5001, some (CPred.at s5001 (rowV 4 j_4)))]) (fun s => j_4 = s) (.k 5 rfl .nil) SubB.nil ?_ (fun j_4' hj4 => ?_)
 ·
  refine .block (.rforL h (fun p5_ => [(18, ⟨True, rep p5_.1⟩)]) (fun p5_ => [(5001, some (CPred.at s5001 (rowV 4 p5_.2)))]) (.k 18 rfl .nil) (.k 5001 rfl .nil) (.k 0 rfl (.k 5 rfl (.k 16 rfl (.k 17 rfl .nil)))) SubB.nil (fun p5_ o_5 h hD5 => (.sr [] mixed (.cons (.lt .none (.s rfl) (.s rfl)) rfl (.nil (.seq (.cb rfl h (fun _ h => ?_) fun _ h => ?_)))))))
  ·
   refine .skip (.then (.seq ?_))
   obtain ⟨j_7, h, hK7⟩ := bind_some h
   unfold page_view_marks_L1 at h
   refine .thenJ (ι := (List Bool)) (fun j_7 => []) (fun j_7 => [(5001, some (CPred.at s5001 (rowV 4 j_7)))]) (fun s => j_7 = s) (.k 0 rfl (.k 5 rfl (.k 16 rfl (.k 17 rfl (.k 18 rfl .nil))))) SubB.nil ?_ (fun j_7' hj7 => ?_)
   ·
    obtain ⟨hn8, h⟩ := need_some h
    obtain ⟨r1, hv9, h⟩ := bind_some h
    exact .block (.sr [] mixed (.cons (.indexAddr .none sl59 ty3 (.s rfl) (.s rfl) (fun _ => hn8)) rfl (.ld ty3 rfl (.asn rfl (.nil (.rg [oo, oo, oo, ([5001], [5001])] mixed (.mvA rfl (.mvA rfl (.mvA rfl (.consW (.callO [5001] (page_view_below_ok hv9) (.cons (.s rfl) (.cons (.s rfl) (.cons (.s rfl) .nil))) (.cons (k := 5001) rfl .nil) rfl (by decide) (by decide) (by intro d h; cases h; decide)) rfl rfl (.nil (.blkNormal (Ends.j _ (some_eq h))))))))))))))
   ·
    subst hj7; have h := hK7; clear hK7
    exact .rg [] mixed (.cons (.addW .none (.s rfl) (.int (by decide))) rfl (.mv rfl (.nil (Ends.ag (some_eq h)))))
  ·
   refine .exit (.thenExit (.thenExit (.blkExit ?_)))
   replace h := hD5 _ (some_eq h)
   exact Ends.j _ (some_eq h)
 ·
  subst hj4; have h := hK4; clear hK4
  refine .freezeRow (g := 5001) (ts := [5]) rfl (.cons (t := 5) rfl trivial .nil) SubB.nil rfl (.sr [] mixed (.mv rfl (.asn rfl (.nil (.ret ?_)))))
  obtain rfl := some_eq h
  exact Ends.rt Tryd.results99 rfl
theorem page_far_ok {n1 : Int} {r : Bool}  (h : page_far n1 = some r) : FSpec Tryd.prog 37 [rep n1] (rep r) := by
 unfold page_far at h
 refine FSpec.intro (n := 9) fnok37 Tryd.func37 rfl Tryd.ntmps37 rfl (fun F => (.sr [] mixed (.cons (.assign .none .bool) rfl (.nil (.sr [] mixed (.mv rfl (.cons (.lt .none (.s rfl) (.int (by decide))) rfl (.mv rfl (.cons (.move (.at rfl rfl) (.s rfl)) rfl (.cons (.gt (.at rfl rfl) (.tmp rfl id) (.int (by decide))) rfl (.cons (.pickOr .none (.s rfl) (.tmp rfl id)) rfl (.asn rfl (.nil (.ret ?_))))))))))))))
 obtain rfl := some_eq h
 exact Ends.rt Tryd.results37 rfl
theorem slices_Clone_Node_ok {s1 : (List DNode)} {r : (List DNode)}  (h : slices_Clone_Node s1 = some r) : FSpecO Tryd.prog 64 [rep s1] [] (anyV) [some (rowV 43 r)] := by
 unfold slices_Clone_Node at h
 refine FSpecO.intro (n := 8) fnok64 Tryd.func64 rfl Tryd.ntmps64 rfl (fun F => (.sr [] mixed (.cons (.assign .none (.const (x := ([] : (List DNode))) (fun M w => ⟨_, ⟨none, 0, rfl, Nat.le_refl _, by decide, rfl⟩, rfl⟩))) rfl (.nil (.seq (.sr [] mixed (.mv rfl (.cons (.eqNil .none sl22 (.s rfl)) rfl (.nil (.condNil (t := 4) rfl trivial (fun hb1 => ?_) ?_))))))))))
 ·
  replace h := nilc_t h hb1
  refine .sr [([], [2])] mixed (.consW (.nilRow (T := 43) (α := DNode) rfl) rfl rfl (.nil (.nameRow (t := 2) (g := 5001) rfl rfl rfl (fun s5001 => (.ret (.thenRet (.anon (t := 2) (g := 5001) rfl rfl trivial rfl ?_)))))))
  obtain rfl := some_eq h
  exact Ends.ret1O (.inl rfl) [2] Tryd.results64 (by decide) (.res rfl rfl) (ResOK.tmp rfl trivial (fun _ _ _ _ => trivial))
 ·
  replace h := nilc_f h
  obtain ⟨hn2, h⟩ := need_some h
  obtain ⟨v1, hv3, h⟩ := bnd_some h
  refine .skip (.then (.sr [([], [5]), oo, ([5], [7, 5]), ([7], [2, 7])] mixed (.consW (.buildSliceO (xs := []) rfl sl22 ty43 hz43 .nil rfl (by decide)) rfl rfl (.mvA rfl (.consW (.append (k := 5) rk22 rfl (.tmp rfl) (.s rfl) hn2) rfl rfl (.consW (.passRow rfl (.tmp rfl)) rfl rfl (.nil (.reB (t := 2) rfl (congrArg (rowV 43) hv3) (.nameRow (t := 2) (g := 5002) rfl rfl rfl (fun s5002 => (.ret (.anon (t := 2) (g := 5002) rfl rfl trivial rfl ?_))))))))))))
  obtain rfl := some_eq h
  exact Ends.ret1O (.inl rfl) [2] Tryd.results64 (by decide) (.res rfl rfl) (ResOK.tmp rfl trivial (fun _ _ _ _ => trivial))
theorem slices_Clone_Edge_ok {s1 : (List DEdge)} {r : (List DEdge)}  (h : slices_Clone_Edge s1 = some r) : FSpecO Tryd.prog 65 [rep s1] [] (anyV) [some (rowV 96 r)] := by
 unfold slices_Clone_Edge at h
 refine FSpecO.intro (n := 8) fnok65 Tryd.func65 rfl Tryd.ntmps65 rfl (fun F => (.sr [] mixed (.cons (.assign .none (.const (x := ([] : (List DEdge))) (fun M w => ⟨_, ⟨none, 0, rfl, Nat.le_refl _, by decide, rfl⟩, rfl⟩))) rfl (.nil (.seq (.sr [] mixed (.mv rfl (.cons (.eqNil .none sl23 (.s rfl)) rfl (.nil (.condNil (t := 4) rfl trivial (fun hb1 => ?_) ?_))))))))))
 ·
  replace h := nilc_t h hb1
  refine .sr [([], [2])] mixed (.consW (.nilRow (T := 96) (α := DEdge) rfl) rfl rfl (.nil (.nameRow (t := 2) (g := 5001) rfl rfl rfl (fun s5001 => (.ret (.thenRet (.anon (t := 2) (g := 5001) rfl rfl trivial rfl ?_)))))))
  obtain rfl := some_eq h
  exact Ends.ret1O (.inl rfl) [2] Tryd.results65 (by decide) (.res rfl rfl) (ResOK.tmp rfl trivial (fun _ _ _ _ => trivial))
 ·
  replace h := nilc_f h
  obtain ⟨hn2, h⟩ := need_some h
  obtain ⟨v1, hv3, h⟩ := bnd_some h
  refine .skip (.then (.sr [([], [5]), oo, ([5], [7, 5]), ([7], [2, 7])] mixed (.consW (.buildSliceO (xs := []) rfl sl23 ty96 hz96 .nil rfl (by decide)) rfl rfl (.mvA rfl (.consW (.append (k := 5) rk23 rfl (.tmp rfl) (.s rfl) hn2) rfl rfl (.consW (.passRow rfl (.tmp rfl)) rfl rfl (.nil (.reB (t := 2) rfl (congrArg (rowV 96) hv3) (.nameRow (t := 2) (g := 5002) rfl rfl rfl (fun s5002 => (.ret (.anon (t := 2) (g := 5002) rfl rfl trivial rfl ?_))))))))))))
  obtain rfl := some_eq h
  exact Ends.ret1O (.inl rfl) [2] Tryd.results65 (by decide) (.res rfl rfl) (ResOK.tmp rfl trivial (fun _ _ _ _ => trivial))
theorem slices_Clone_Point_ok {s1 : (List Point)} {r : (List Point)}  (h : slices_Clone_Point s1 = some r) : FSpecO Tryd.prog 66 [rep s1] [] (anyV) [some (rowV 118 r)] := by
 unfold slices_Clone_Point at h
 refine FSpecO.intro (n := 8) fnok66 Tryd.func66 rfl Tryd.ntmps66 rfl (fun F => (.sr [] mixed (.cons (.assign .none (.const (x := ([] : (List Point))) (fun M w => ⟨_, ⟨none, 0, rfl, Nat.le_refl _, by decide, rfl⟩, rfl⟩))) rfl (.nil (.seq (.sr [] mixed (.mv rfl (.cons (.eqNil .none sl94 (.s rfl)) rfl (.nil (.condNil (t := 4) rfl trivial (fun hb1 => ?_) ?_))))))))))
 ·
  replace h := nilc_t h hb1
  refine .sr [([], [2])] mixed (.consW (.nilRow (T := 118) (α := Point) rfl) rfl rfl (.nil (.nameRow (t := 2) (g := 5001) rfl rfl rfl (fun s5001 => (.ret (.thenRet (.anon (t := 2) (g := 5001) rfl rfl trivial rfl ?_)))))))
  obtain rfl := some_eq h
  exact Ends.ret1O (.inl rfl) [2] Tryd.results66 (by decide) (.res rfl rfl) (ResOK.tmp rfl trivial (fun _ _ _ _ => trivial))
 ·
  replace h := nilc_f h
  obtain ⟨hn2, h⟩ := need_some h
  obtain ⟨v1, hv3, h⟩ := bnd_some h
  refine .skip (.then (.sr [([], [5]), oo, ([5], [7, 5]), ([7], [2, 7])] mixed (.consW (.buildSliceO (xs := []) rfl sl94 ty118 hz118 .nil rfl (by decide)) rfl rfl (.mvA rfl (.consW (.append (k := 5) rk94 rfl (.tmp rfl) (.s rfl) hn2) rfl rfl (.consW (.passRow rfl (.tmp rfl)) rfl rfl (.nil (.reB (t := 2) rfl (congrArg (rowV 118) hv3) (.nameRow (t := 2) (g := 5002) rfl rfl rfl (fun s5002 => (.ret (.anon (t := 2) (g := 5002) rfl rfl trivial rfl ?_))))))))))))
  obtain rfl := some_eq h
  exact Ends.ret1O (.inl rfl) [2] Tryd.results66 (by decide) (.res rfl rfl) (ResOK.tmp rfl trivial (fun _ _ _ _ => trivial))
theorem page_cloned_deep_ok {d1 : Doc} {r : Doc}  (h : page_cloned d1 = some r) : FSpecO Tryd.prog 25 [rep d1] [] (anyV) [some (deep (fun z0 => deep (fun z1 => valV (⟨⟨z0⟩, ⟨z1⟩⟩ : Doc_o01)) (rowD 96 118 mk_DEdge_o3 DEdge.Bends [] r.Edges)) (rowV 43 r.Nodes))] := by
 unfold page_cloned at h
 obtain ⟨v1, hv1, h⟩ := bnd_some h
 obtain ⟨r1, hv2, h⟩ := bind_some h
 refine FSpecO.intro (n := 32) fnok25 Tryd.func25 rfl Tryd.ntmps25 rfl (fun F => (.sr [([], [1]), ([], [2])] mixed (.consW (.boxO rfl (.s rfl)) rfl rfl (.consW (.alloc zo25 rfl) rfl rfl (.nil (.reB (t := 2) rfl (congrArg (cont 25) hv1) (.nameBox (t := 1) (g := 5001) rfl rfl (fun m5001 => (.nameBox (t := 2) (g := 5002) rfl rfl (fun m5002 => (.sr [oo, ([5001], []), ([], [6]), oo, ([5001], []), ([], [9]), oo, ([5001, 6], [5001, 6]), oo, ([5001, 9], [5001, 9])] mixed (.consA (.fieldPtr .none fd25_0 (.s rfl)) rfl (.consA (.loadAt (k := 5001) .none ty22 rfl (.s rfl) hfd25_0) rfl (.consW (.callO [] (slices_Clone_Node_ok hv2) (.cons (.s rfl) .nil) .nil rfl (by decide) (by decide) (by intro d h; cases h; decide)) rfl rfl ?_))))))))))))))
 obtain ⟨r2, hv3, h⟩ := bind_some h
 refine .consA (.fieldPtr .none fd25_1 (.s rfl)) rfl (.consA (.loadAt (k := 5001) .none ty23 rfl (.s rfl) hfd25_1) rfl (.consW (.callO [] (slices_Clone_Edge_ok hv3) (.cons (.s rfl) .nil) .nil rfl (by decide) (by decide) (by intro d h; cases h; decide)) rfl rfl (.consA (.fieldPtr .none fd25_0 (.s rfl)) rfl (.consN (.storeRowF (k := 5001) (t := 6) (off := 0) (set := fun s => (⟨⟨s⟩, d1.Edges⟩ : Doc_o0)) ty22 rfl (.s rfl) (by decide) (fun M s cs w hc hs => by obtain ⟨c0, q0, e0, h0, h1⟩ := hc; obtain ⟨v, _, hv⟩ := cells_one rfl rfl h0; exact sv_Doc_o0_0.2 M (⟨⟨v⟩, d1.Edges⟩ : Doc_o0) ⟨s⟩ cs [s] w ⟨c0, q0, e0, hv, h1⟩ hs) rfl rfl) rfl (.consA (.fieldPtr .none fd25_1 (.s rfl)) rfl (.consN (.storeRowD (k := 5001) (t := 9) (off := 1) (mk := fun z => (⟨⟨z⟩, d1.Edges⟩ : Doc_o0)) (set := fun s z => (⟨⟨z⟩, ⟨s⟩⟩ : Doc_o01)) ty23 rfl (.s rfl) (by decide) (fun M z s cs w hc hs => by obtain ⟨c0, q0, e0, h0, h1⟩ := hc; obtain ⟨v, _, hv⟩ := cells_one rfl rfl h1; exact sv_Doc_o01_1.2 M (⟨⟨z⟩, ⟨v⟩⟩ : Doc_o01) ⟨s⟩ cs [s] w ⟨c0, q0, e0, h0, hv⟩ hs) rfl rfl) rfl (.nil (.open (k := 5001) (g := 5003) rfl rfl (fun s5003 => (.open (k := 5001) (g := 5004) rfl rfl (fun s5004 => (.seq (.sr [oo, ([5001], []), ([5003], []), oo] mixed (.consA (.fieldPtr .none fd25_1 (.s rfl)) rfl (.consA (.loadAt (k := 5001) .none tr23 rfl (.s rfl) hv_Doc_o01_1) rfl (.consA (.lenO (k := 5003) sl23 (.told (.s rfl) rfl)) rfl (.consA (.move .none (.int (by decide))) rfl (.nil (.tellK (k := 5003) (C' := CPred.at s5003 (rowP 96 118 mk_DEdge_o3 DEdge.Bends r2.length 0 r2)) rfl (fun M D v w h => by have h' : (rowV 96 r2).p M D s5003 w := h; exact rowP_of rfl parts_mk_DEdge_o3 h') ?_)))))))))))))))))))
 obtain ⟨j_4, h, hK4⟩ := bind_some h
 refine .thenJ (ι := (List DEdge)) (fun j_4 => []) (fun j_4 => [(5003, some (CPred.at s5003 (rowD 96 118 mk_DEdge_o3 DEdge.Bends [] j_4)))]) (fun s => j_4 = s) (.k 1 rfl (.k 2 rfl .nil)) (.k 5001 rfl (.k 5002 rfl (.k 5004 rfl .nil))) ?_ (fun j_4' hj4 => ?_)
 ·
  refine .block (.rforL h (fun p5_ => [(15, ⟨True, rep p5_.1⟩)]) (fun p5_ => [(5003, some (CPred.at s5003 (rowP 96 118 mk_DEdge_o3 DEdge.Bends r2.length p5_.1.toNat p5_.2)))]) (.k 15 rfl .nil) (.k 5003 rfl .nil) (.k 1 rfl (.k 2 rfl (.k 14 rfl .nil))) (.k 5001 rfl (.k 5002 rfl (.k 5004 rfl .nil))) (fun p5_ o_5 h hD5 => (.sr [] mixed (.cons (.lt .none (.s rfl) (.s rfl)) rfl (.nil (.seq (.cb rfl h (fun hb6 h => ?_) fun hb6 h => ?_)))))))
  ·
   refine .skip (.then (.seq ?_))
   obtain ⟨j_7, h, hK7⟩ := bind_some h
   unfold page_cloned_L1 at h
   have hnP : inR p5_.2 p5_.1 := (need_some h).1
   refine .thenJ (ι := (List DEdge)) (fun j_7 => []) (fun j_7 => [(5003, some (CPred.at s5003 (rowP 96 118 mk_DEdge_o3 DEdge.Bends r2.length (p5_.1.toNat + 1) j_7)))]) (fun s => j_7 = s) (.k 1 rfl (.k 2 rfl (.k 14 rfl (.k 15 rfl .nil)))) (.k 5001 rfl (.k 5002 rfl (.k 5004 rfl .nil))) ?_ (fun j_7' hj7 => ?_)
   ·
    obtain ⟨hn8, h⟩ := need_some h
    obtain ⟨r3, hv9, h⟩ := bind_some h
    refine .block (.sr [] mixed (.mv rfl (.asn rfl (.nil (.rg [oo, ([5001], []), oo, oo, ([5001], []), oo, ([5003], []), ([5003], []), ([5003], []), ([], [27]), ([5003], []), ([5003], []), ([5003, 27], [5003, 27])] mixed (.consA (.fieldPtr .none fd25_1 (.s rfl)) rfl (.consA (.loadAt (k := 5001) .none tr23 rfl (.s rfl) hv_Doc_o01_1) rfl (.mvA rfl (.consA (.fieldPtr .none fd25_1 (.s rfl)) rfl (.consA (.loadAt (k := 5001) .none tr23 rfl (.s rfl) hv_Doc_o01_1) rfl (.mvA rfl (.consA (.indexAddrP (k := 5003) sl23 tyv_DEdge_o3 (.s rfl) rfl (.s rfl) hn8) rfl (.consA (.fieldElemP (k := 5003) fd96_3 (.s rfl) rfl hn8) rfl (.consA (.loadElemP (k := 5003) tr94 (.s rfl) rfl hv_DEdge_o3_3 (fun _ _ => rfl) hn8 (Nat.le_refl _)) rfl (.consW (.callO [] (slices_Clone_Point_ok hv9) (.cons (.s rfl) .nil) .nil rfl (by decide) (by decide) (by intro d h; cases h; decide)) rfl rfl ?_)))))))))))))))
    obtain ⟨hn10, h⟩ := need_some h
    exact .consA (.indexAddrP (k := 5003) sl23 tyv_DEdge_o3 (.s rfl) rfl (.s rfl) hn10) rfl (.consA (.fieldElemP (k := 5003) fd96_3 (.s rfl) rfl hn10) rfl (.consN (.storeElemP (k := 5003) (t := 27) { gx p5_.2 p5_.1 with Bends := r3 } ty94 (.s rfl) rfl sv_DEdge_o3_3 rfl hn10 rfl (fun _ _ => rfl) rfl) rfl (.nil (.blkNormal (Ends.j _ (some_eq h))))))
   ·
    subst hj7; have h := hK7; clear hK7
    exact .tellK (k := 5003) (C' := CPred.at s5003 (rowP 96 118 mk_DEdge_o3 DEdge.Bends r2.length (W (p5_.1 + 1)).toNat j_7)) rfl (fun M D v w h => by have h' : (rowP 96 118 mk_DEdge_o3 DEdge.Bends r2.length (p5_.1.toNat + 1) j_7).p M D s5003 w := h; exact rowP_succ hnP.1 (by simpa using hb6) h') (.rg [] mixed (.cons (.addW .none (.s rfl) (.int (by decide))) rfl (.mv rfl (.nil (Ends.ag (some_eq h))))))
  ·
   refine .exit (.thenExit (.thenExit (.blkExit ?_)))
   replace h := hD5 _ (some_eq h)
   exact .tellK (k := 5003) (C' := CPred.at s5003 (rowD 96 118 mk_DEdge_o3 DEdge.Bends [] p5_.2)) rfl (fun M D v w h => by have h' : (rowP 96 118 mk_DEdge_o3 DEdge.Bends r2.length p5_.1.toNat p5_.2).p M D s5003 w := h; exact rowP_all (by have := of_decide_eq_false hb6; omega) h') (Ends.j _ (some_eq h))
 ·
  subst hj4; have h := hK4; clear hK4
  refine .sr [([5001], []), ([5002], [5002])] mixed (.consA (.loadAt0 (k := 5001) .none tyv_Doc_o01 rfl (.s rfl)) rfl (.consN (.storeAtH (g := 5002) tyv_Doc_o01 (by rfl) rfl (.s rfl) (.s rfl)) rfl (.nil (.ret (.close (k := 5002) (g := 5003) (fun z => cont 25 (⟨⟨s5004⟩, ⟨z⟩⟩ : Doc_o01)) rfl rfl rfl (.close (k := 5002) (g := 5004) (fun z => deep (fun z0 => cont 25 (⟨⟨z⟩, ⟨z0⟩⟩ : Doc_o01)) (rowD 96 118 mk_DEdge_o3 DEdge.Bends [] j_4)) rfl rfl rfl ?_))))))
  obtain rfl := some_eq h
  exact Ends.ret1S (K := 5002) (.inl rfl) tyv_Doc_o01 Tryd.results25 rfl trivial rfl
theorem page_view_shift_ok {v1 : Page_view} {d1 : Doc} {marks1 : (List Bool)} {dx1 : Int} {dy1 : Int} {r : ((List DNode) × (List DEdge))} {s119 : Value} {s120 : Value} (h : page_view_shift v1 d1 marks1 dx1 dy1 = some r) : FSpecO Tryd.prog 100 [ref v1, rep (⟨⟨s119⟩, ⟨s120⟩⟩ : Doc_o01), rep marks1, rep dx1, rep dy1] [(s119, rowV 43 d1.Nodes), (s120, rowD 96 118 mk_DEdge_o3 DEdge.Bends [] d1.Edges)] (anyV) [some (rowV 43 r.1), some (rowD 96 118 mk_DEdge_o3 DEdge.Bends [] r.2)] := by
 unfold page_view_shift at h
 refine FSpecO.intro (n := 119) fnok100 Tryd.func100 rfl Tryd.ntmps100 rfl (fun F => (.sr [([], [6])] mixed (.consW (.boxO rfl (.s rfl)) rfl rfl (.nil (.nameAt (t := 6) (g := 5001) rfl rfl isBox_cont rfl (fun m5001 => (.seq (.sr [oo, ([5001], []), ([119], []), oo] mixed (.consA (.fieldPtr .none fd25_0 (.s rfl)) rfl (.consA (.loadAt (k := 5001) .none tr22 rfl (.s rfl) hv_Doc_o01_0) rfl (.consA (.lenO (k := 119) sl22 (.told (.s rfl) rfl)) rfl (.consA (.move .none (.int (by decide))) rfl (.nil ?_)))))))))))))
 obtain ⟨j_1, h, hK1⟩ := bind_some h
 refine .thenJ (ι := (List DNode)) (fun j_1 => []) (fun j_1 => [(119, some (CPred.at s119 (rowV 43 j_1)))]) (fun s => j_1 = s) (.k 0 rfl (.k 2 rfl (.k 3 rfl (.k 4 rfl (.k 6 rfl .nil))))) (.k 120 rfl (.k 5001 rfl .nil)) ?_ (fun j_1' hj1 => ?_)
 ·
  refine .block (.rforL h (fun p2_ => [(18, ⟨True, rep p2_.1⟩)]) (fun p2_ => [(119, some (CPred.at s119 (rowV 43 p2_.2)))]) (.k 18 rfl .nil) (.k 119 rfl .nil) (.k 0 rfl (.k 2 rfl (.k 3 rfl (.k 4 rfl (.k 6 rfl (.k 17 rfl .nil)))))) (.k 120 rfl (.k 5001 rfl .nil)) (fun p2_ o_2 h hD2 => (.sr [] mixed (.cons (.lt .none (.s rfl) (.s rfl)) rfl (.nil (.seq (.cb rfl h (fun _ h => ?_) fun _ h => ?_)))))))
  ·
   refine .skip (.then (.seq ?_))
   obtain ⟨j_4, h, hK4⟩ := bind_some h
   unfold page_view_shift_L1 at h
   refine .thenJ (ι := (List DNode)) (fun j_4 => []) (fun j_4 => [(119, some (CPred.at s119 (rowV 43 j_4)))]) (fun s => j_4 = s) (.k 0 rfl (.k 2 rfl (.k 3 rfl (.k 4 rfl (.k 6 rfl (.k 17 rfl (.k 18 rfl .nil))))))) (.k 120 rfl (.k 5001 rfl .nil)) ?_ (fun j_4' hj4 => ?_)
   ·
    obtain ⟨hn5, h⟩ := need_some h
    obtain ⟨hn6, h⟩ := need_some h
    refine .block (.sr [] mixed (.mv rfl (.asn rfl (.nil (.sr [oo, ([5001], []), oo, ([119], []), oo] mixed (.consA (.fieldPtr .none fd25_0 (.s rfl)) rfl (.consA (.loadAt (k := 5001) .none tr22 rfl (.s rfl) hv_Doc_o01_0) rfl (.mvA rfl (.consA (.indexAddrO (k := 119) .none sl22 ty43 (.s rfl) rfl (.s rfl) (fun _ => hn5)) rfl (.asnA rfl (.nil (.sr [oo, oo, oo, oo, oo, oo, ([119], []), ([119], []), ([119], []), oo, oo] mixed (.mvA rfl (.mvA rfl (.consA (.indexAddr .none sl73 ty4 (.s rfl) (.s rfl) (fun _ => hn6)) rfl (.ldA ty4 rfl (.mvA rfl (.consA (.move (.at rfl rfl) (.s rfl)) rfl (.consA (.nilCheckE (k := 119) (.at rfl rfl) (.tmp rfl id) rfl (fun _ => hn5)) rfl (.consA (.fieldElem (k := 119) (.at rfl rfl) fd43_1 (.tmp rfl id) rfl (fun _ => hn5)) rfl (.consA (.loadElem (k := 119) (.at rfl rfl) ty3 (.tmp rfl id) rfl hfd43_1 (fun _ => hn5)) rfl (.consA (.neI (.at rfl rfl) (.tmp rfl id) (.int (by decide))) rfl (.consA (.pickAnd .none (.s rfl) (.tmp rfl id)) rfl (.nil (.cb rfl h (fun _ h => ?_) fun _ h => ?_)))))))))))))))))))))))))
    ·
     obtain ⟨v2, hv8, h⟩ := bnd_some h
     obtain ⟨v3, hv9, h⟩ := bnd_some h
     obtain ⟨hn10, h⟩ := need_some h
     obtain ⟨hn11, h⟩ := need_some h
     obtain ⟨hn12, h⟩ := need_some h
     obtain ⟨hn13, h⟩ := need_some h
     refine .rg [oo, oo, oo, ([119], []), ([119], []), ([119], []), ([119], []), oo, oo, oo, ([119], []), ([119], []), ([119], []), ([119], []), oo, oo, ([119], []), ([119], []), ([119], []), ([119], [119]), ([119], []), ([119], []), ([119], []), ([119], [119])] mixed (.mvA rfl (.mvA rfl (.mvA rfl (.consA (.nilCheckE (k := 119) .none (.s rfl) rfl (fun _ => hn5)) rfl (.consA (.fieldElem (k := 119) .none fd43_2 (.s rfl) rfl (fun _ => hn5)) rfl (.consA (.fieldElem (k := 119) .none fd41_0 (.s rfl) rfl (fun _ => hn5)) rfl (.consA (.loadElem (k := 119) .none ty3 (.s rfl) rfl (HasField.comp (o2 := 0) hfd43_2 hfd41_0) (fun _ => hn5)) rfl (.mvA rfl (.consA (.re hv8 (.addW .none (.s rfl) (.s rfl))) rfl (.mvA rfl (.consA (.nilCheckE (k := 119) .none (.s rfl) rfl (fun _ => hn5)) rfl (.consA (.fieldElem (k := 119) .none fd43_2 (.s rfl) rfl (fun _ => hn5)) rfl (.consA (.fieldElem (k := 119) .none fd41_1 (.s rfl) rfl (fun _ => hn5)) rfl (.consA (.loadElem (k := 119) .none ty3 (.s rfl) rfl (HasField.comp (o2 := 1) hfd43_2 hfd41_1) (fun _ => hn5)) rfl (.mvA rfl (.consA (.re hv9 (.addW .none (.s rfl) (.s rfl))) rfl (.consA (.nilCheckE (k := 119) .none (.s rfl) rfl (fun _ => hn5)) rfl (.consA (.fieldElem (k := 119) .none fd43_2 (.s rfl) rfl (fun _ => hn5)) rfl (.consA (.fieldElem (k := 119) .none fd41_0 (.s rfl) rfl (fun _ => hn5)) rfl (.consN (.storeElem (k := 119) ty3 (.s rfl) rfl (SetField.comp (o2 := 0) hfd43_2 sf43_2 sf41_0) (.s rfl) hn5) rfl (.consA (.nilCheckE (k := 119) .none (.s rfl) rfl (fun _ => hn10)) rfl (.consA (.fieldElem (k := 119) .none fd43_2 (.s rfl) rfl (fun _ => hn11)) rfl (.consA (.fieldElem (k := 119) .none fd41_1 (.s rfl) rfl (fun _ => hn12)) rfl (.consN (.storeElem (k := 119) ty3 (.s rfl) rfl (SetField.comp (o2 := 1) hfd43_2 sf43_2 sf41_1) (.s rfl) hn13) rfl ?_))))))))))))))))))))))))
     exact .nil (.blkNormal (Ends.j _ (some_eq h)))
    ·
     exact .skip (.blkNormal (Ends.j _ (some_eq h)))
   ·
    subst hj4; have h := hK4; clear hK4
    exact .rg [] mixed (.cons (.addW .none (.s rfl) (.int (by decide))) rfl (.mv rfl (.nil (Ends.ag (some_eq h)))))
  ·
   refine .exit (.thenExit (.thenExit (.blkExit ?_)))
   replace h := hD2 _ (some_eq h)
   exact Ends.j _ (some_eq h)
 ·
  subst hj1; have h := hK1; clear hK1
  refine .sr [oo, ([5001], []), ([120], []), oo] mixed (.consA (.fieldPtr .none fd25_1 (.s rfl)) rfl (.consA (.loadAt (k := 5001) .none tr23 rfl (.s rfl) hv_Doc_o01_1) rfl (.consA (.lenD (k := 120) sl23 (.s rfl) rfl) rfl (.consA (.move .none (.int (by decide))) rfl (.nil ?_)))))
  obtain ⟨j_14, h, hK14⟩ := bind_some h
  refine .tailJ (ι := (List DEdge)) (fun j_14 => []) (fun j_14 => [(120, some (CPred.at s120 (rowD 96 118 mk_DEdge_o3 DEdge.Bends [] j_14)))]) (fun s => j_14 = s) (.k 60 rfl .nil) (.k 119 rfl .nil) ?_ (fun j_14' hj14 => ?_)
  ·
   refine .block (.rforL h (fun p15_ => [(62, ⟨True, rep p15_.1⟩)]) (fun p15_ => [(120, some (CPred.at s120 (rowD 96 118 mk_DEdge_o3 DEdge.Bends [] p15_.2)))]) (.k 62 rfl .nil) (.k 120 rfl .nil) (.k 0 rfl (.k 2 rfl (.k 3 rfl (.k 4 rfl (.k 60 rfl (.k 61 rfl .nil)))))) (.k 119 rfl .nil) (fun p15_ o_15 h hD15 => (.sr [] mixed (.cons (.lt .none (.s rfl) (.s rfl)) rfl (.nil (.seq (.cb rfl h (fun _ h => ?_) fun _ h => ?_)))))))
   ·
    refine .skip (.then (.seq ?_))
    obtain ⟨j_17, h, hK17⟩ := bind_some h
    unfold page_view_shift_L2 at h
    refine .thenJ (ι := (List DEdge)) (fun j_17 => []) (fun j_17 => [(120, some (CPred.at s120 (rowD 96 118 mk_DEdge_o3 DEdge.Bends [] j_17)))]) (fun s => j_17 = s) (.k 0 rfl (.k 2 rfl (.k 3 rfl (.k 4 rfl (.k 60 rfl (.k 61 rfl (.k 62 rfl .nil))))))) (.k 119 rfl .nil) ?_ (fun j_17' hj17 => ?_)
    ·
     obtain ⟨hn18, h⟩ := need_some h
     obtain ⟨hn19, h⟩ := need_some h
     obtain ⟨c1, hv20, h⟩ := bnd_some h
     obtain ⟨hn21, h⟩ := need_some h
     obtain ⟨hn22, h⟩ := need_some h
     refine .block (.seq (.openD (k := 120) (g := 5002) (i := p15_.1) rfl rfl hn18 noHole (fun s5002 => (.rg [([120], []), ([120], []), ([], [13]), ([13], [13])] mixed (.consA (.indexAddrD (k := 120) sl23 tyv_DEdge_o3 (.s rfl) rfl (.s rfl) hn19) rfl (.consA (.loadElemD (k := 120) (proj := fun x => x) (y := (⟨(gx p15_.2 p15_.1).Id, (gx p15_.2 p15_.1).From, (gx p15_.2 p15_.1).To, ⟨s5002⟩, (gx p15_.2 p15_.1).Text, (gx p15_.2 p15_.1).Class⟩ : DEdge_o3)) (z := s5002) tyv_DEdge_o3 (.s rfl) rfl .id hn19 (by simp) rfl) rfl (.consW (.alloc zo96 rfl) rfl rfl (.consN (.storeH tyv_DEdge_o3 rfl (by rfl) rfl (.s rfl)) rfl (.nil (.then (.reB (t := 5002) rfl (congrArg (fun y => CPred.at s5002 (rowV 118 y)) hv20) (.nameAt (t := 13) (g := 5003) rfl rfl isBox_cont rfl (fun m5003 => (.sr [oo, oo, oo, oo, oo, oo, oo, ([5003], []), oo, oo, oo, oo, oo, oo, oo, oo, oo, oo, oo, ([5003], []), oo, oo, oo, oo] mixed (.mvA rfl (.mvA rfl (.consA (.nilCheckR .none (.s rfl)) rfl (.faA fd63_1 hfd63_1 rfl (.ldA ty60 rfl (.consA (.fieldPtr .none fd96_1 (.s rfl)) rfl (.consA (.fieldPtr .none fd93_0 (.s rfl)) rfl (.consA (.loadAt (k := 5003) .none ty9 rfl (.s rfl) (HasField.comp (o2 := 0) hv_DEdge_o3_1 hfd93_0)) rfl (.consA (.lookup .none mo60 zo3 (.s rfl) (.s rfl)) rfl (.consA (.indexAddr .none sl73 ty4 (.s rfl) (.s rfl) (fun _ => hn21)) rfl (.ldA ty4 rfl (.mvA rfl (.consA (.move (.at rfl rfl) (.s rfl)) rfl (.consA (.move (.at rfl rfl) (.s rfl)) rfl (.consA (.nilCheckR (.at rfl rfl) (.tmp rfl id)) rfl (.consA (.fieldAddr (.at rfl rfl) fd63_1 hfd63_1 (.tmp rfl id)) rfl (.consA (.load (.at rfl rfl) ty60 (.tmp rfl id)) rfl (.consA (.fieldPtr (.at rfl rfl) fd96_2 (.s rfl)) rfl (.consA (.fieldPtr (.at rfl rfl) fd93_0 (.tmp rfl id)) rfl (.consA (.loadAt (k := 5003) (.at rfl rfl) ty9 rfl (.tmp rfl id) (HasField.comp (o2 := 0) hv_DEdge_o3_2 hfd93_0)) rfl ?_))))))))))))))))))))))))))))))))))
     refine .consA (.lookup (.at rfl rfl) mo60 zo3 (.tmp rfl id) (.tmp rfl id)) rfl (.consA (.indexAddr (.at rfl rfl) sl73 ty4 (.tmp rfl id) (.tmp rfl id) (fun hg => hn22 hg.2)) rfl (.consA (.load (.at rfl rfl) ty4 (.tmp rfl id)) rfl (.consA (.pickAnd .none (.s rfl) (.tmp rfl id)) rfl (.nil (.cb rfl h (fun _ h => ?_) fun _ h => ?_)))))
     ·
      refine .sr [oo, ([5003], []), ([5002], []), oo] mixed (.consA (.fieldPtr .none fd96_3 (.s rfl)) rfl (.consA (.loadAt (k := 5003) .none tr94 rfl (.s rfl) hv_DEdge_o3_3) rfl (.consA (.lenO (k := 5002) sl94 (.told (.s rfl) rfl)) rfl (.consA (.move .none (.int (by decide))) rfl (.nil ?_)))))
      obtain ⟨j_24, h, hK24⟩ := bind_some h
      refine .tailJ (ι := (List Point)) (fun j_24 => []) (fun j_24 => [(5002, some (CPred.at s5002 (rowV 118 j_24)))]) (fun s => j_24 = s) (.k 0 rfl (.k 2 rfl (.k 3 rfl (.k 4 rfl (.k 13 rfl (.k 60 rfl (.k 61 rfl (.k 62 rfl .nil)))))))) (.k 119 rfl (.k 120 rfl (.k 5003 rfl .nil))) ?_ (fun j_24' hj24 => ?_)
      ·
       refine .block (.rforL h (fun p25_ => [(93, ⟨True, rep p25_.1⟩)]) (fun p25_ => [(5002, some (CPred.at s5002 (rowV 118 p25_.2)))]) (.k 93 rfl .nil) (.k 5002 rfl .nil) (.k 0 rfl (.k 2 rfl (.k 3 rfl (.k 4 rfl (.k 13 rfl (.k 60 rfl (.k 61 rfl (.k 62 rfl (.k 92 rfl .nil))))))))) (.k 119 rfl (.k 120 rfl (.k 5003 rfl .nil))) (fun p25_ o_25 h hD25 => (.sr [] mixed (.cons (.lt .none (.s rfl) (.s rfl)) rfl (.nil (.seq (.cb rfl h (fun _ h => ?_) fun _ h => ?_)))))))
       ·
        refine .skip (.then (.seq ?_))
        obtain ⟨j_27, h, hK27⟩ := bind_some h
        unfold page_view_shift_L3 at h
        refine .thenJ (ι := (List Point)) (fun j_27 => []) (fun j_27 => [(5002, some (CPred.at s5002 (rowV 118 j_27)))]) (fun s => j_27 = s) (.k 0 rfl (.k 2 rfl (.k 3 rfl (.k 4 rfl (.k 13 rfl (.k 60 rfl (.k 61 rfl (.k 62 rfl (.k 92 rfl (.k 93 rfl .nil)))))))))) (.k 119 rfl (.k 120 rfl (.k 5003 rfl .nil))) ?_ (fun j_27' hj27 => ?_)
        ·
         obtain ⟨hn28, h⟩ := need_some h
         obtain ⟨hn29, h⟩ := need_some h
         obtain ⟨v4, hv30, h⟩ := bnd_some h
         obtain ⟨hn31, h⟩ := need_some h
         exact .block (.sr [] mixed (.mv rfl (.asn rfl (.nil (.rg [oo, ([5003], []), oo, oo, ([5003], []), oo, ([5002], []), ([5002], []), ([5002], []), oo, oo, oo, ([5003], []), oo, ([5002], []), ([5002], []), ([5002], []), oo, oo, oo, ([5002], []), ([5002], [5002])] mixed (.consA (.fieldPtr .none fd96_3 (.s rfl)) rfl (.consA (.loadAt (k := 5003) .none tr94 rfl (.s rfl) hv_DEdge_o3_3) rfl (.mvA rfl (.consA (.fieldPtr .none fd96_3 (.s rfl)) rfl (.consA (.loadAt (k := 5003) .none tr94 rfl (.s rfl) hv_DEdge_o3_3) rfl (.mvA rfl (.consA (.indexAddrO (k := 5002) .none sl94 ty118 (.s rfl) rfl (.s rfl) (fun _ => hn28)) rfl (.consA (.fieldElem (k := 5002) .none fd118_0 (.s rfl) rfl (fun _ => hn28)) rfl (.consA (.loadElem (k := 5002) .none ty3 (.s rfl) rfl hfd118_0 (fun _ => hn28)) rfl (.mvA rfl (.consA (.addW .none (.s rfl) (.s rfl)) rfl (.consA (.fieldPtr .none fd96_3 (.s rfl)) rfl (.consA (.loadAt (k := 5003) .none tr94 rfl (.s rfl) hv_DEdge_o3_3) rfl (.mvA rfl (.consA (.indexAddrO (k := 5002) .none sl94 ty118 (.s rfl) rfl (.s rfl) (fun _ => hn29)) rfl (.consA (.fieldElem (k := 5002) .none fd118_1 (.s rfl) rfl (fun _ => hn29)) rfl (.consA (.loadElem (k := 5002) .none ty3 (.s rfl) rfl hfd118_1 (fun _ => hn29)) rfl (.mvA rfl (.consA (.addW .none (.s rfl) (.s rfl)) rfl (.consA (.re hv30 (.buildF (y := (⟨W (((gx p25_.2 p25_.1).X) + dx1), W (((gx p25_.2 p25_.1).Y) + dy1)⟩ : Point)) .none bu118 zc118 rfl (.cons (.s rfl) (.cons (.s rfl) .nil)) (.cons rfl sf118_0 (.cons rfl sf118_1 .nil)))) rfl (.consA (.indexAddrO (k := 5002) .none sl94 ty118 (.s rfl) rfl (.s rfl) (fun _ => hn31)) rfl (.consN (.storeElem0 (k := 5002) ty118 (.s rfl) rfl (.s rfl) hn31) rfl (.nil (.blkNormal (Ends.j _ (some_eq h)))))))))))))))))))))))))))))))
        ·
         subst hj27; have h := hK27; clear hK27
         exact .rg [] mixed (.cons (.addW .none (.s rfl) (.int (by decide))) rfl (.mv rfl (.nil (Ends.ag (some_eq h)))))
       ·
        refine .exit (.thenExit (.thenExit (.blkExit ?_)))
        replace h := hD25 _ (some_eq h)
        exact Ends.j _ (some_eq h)
      ·
       subst hj24; have h := hK24; clear hK24
       exact .blkNormal (.closeD (k := 120) (g := 5002) ({ gx p15_.2 p15_.1 with Bends := j_24 }) rfl rfl rfl hn18 noHole (fun _ => rfl) rfl (Ends.j _ (some_eq h)))
     ·
      exact .skip (.blkNormal (.closeD (k := 120) (g := 5002) ({ gx p15_.2 p15_.1 with Bends := c1 }) rfl rfl rfl hn18 noHole (fun _ => rfl) rfl (Ends.j _ (some_eq h))))
    ·
     subst hj17; have h := hK17; clear hK17
     exact .rg [] mixed (.cons (.addW .none (.s rfl) (.int (by decide))) rfl (.mv rfl (.nil (Ends.ag (some_eq h)))))
   ·
    refine .exit (.thenExit (.thenExit (.blkExit ?_)))
    replace h := hD15 _ (some_eq h)
    exact Ends.j _ (some_eq h)
  ·
   subst hj14; have h := hK14; clear hK14
   obtain rfl := some_eq h
   exact Ends.ret0O (.inr rfl) [119, 120] Tryd.results100 (by decide) (.held rfl (.held rfl .nil))
theorem page_view_moved_ok {v1 : Page_view} {steps1 : (List Page_step)} {r : (Doc × Int)}  (h : page_view_moved v1 steps1 = some r) : FSpec Tryd.prog 54 [ref v1, rep steps1] (tup [rep r.1, rep r.2]) := by
 unfold page_view_moved at h
 obtain ⟨v2, hv1, h⟩ := bnd_some h
 refine FSpec.intro (n := 101) fnok54 Tryd.func54 rfl Tryd.ntmps54 rfl (fun F => (.sr [([], [4]), oo] mixed (.consW (.alloc zo25 rfl) rfl rfl (.consA (.assign .none (.int (by decide))) rfl (.nil (.reB (t := 4) rfl (congrArg (cont 25) hv1) (.nameBox (t := 4) (g := 5001) rfl rfl (fun m5001 => (.seq (.sr [] mixed (.mv rfl (.cons (.len .none sl99 (.s rfl)) rfl (.mvi (.nil ?_))))))))))))))
 obtain ⟨o_2, h, hK2⟩ := bindR_some h
 refine .thenJ (ι := Unit) (fun j_2 => []) (fun j_2 => []) (fun s => o_2 = Res.nx s) (.k 0 rfl (.k 1 rfl (.k 4 rfl .nil))) (.k 5001 rfl .nil) ?_ (fun j_2 hj2 => ?_)
 ·
  refine .block (.rforEL h (fun p3_ => [(19, ⟨True, rep p3_.1⟩)]) (fun p3_ => []) (.k 19 rfl .nil) SubB.nil (.k 0 rfl (.k 1 rfl (.k 4 rfl (.k 17 rfl (.k 18 rfl .nil))))) (.k 5001 rfl .nil) (fun p3_ o_3 h hD3 => (.sr [] mixed (.cons (.lt .none (.s rfl) (.s rfl)) rfl (.nil (.seq (.cb rfl h (fun _ h => ?_) fun _ h => ?_)))))))
  ·
   refine .skip (.then (.seq ?_))
   obtain ⟨o_5, h, hK5⟩ := bindD_some h
   unfold page_view_moved_L1 at h
   refine .thenJ (ι := Unit) (fun j_5 => []) (fun j_5 => []) (fun s => o_5 = Res.nx s) (.k 0 rfl (.k 1 rfl (.k 4 rfl (.k 17 rfl (.k 18 rfl (.k 19 rfl .nil)))))) (.k 5001 rfl .nil) ?_ (fun j_5 hj5 => ?_)
   ·
    obtain ⟨hn6, h⟩ := need_some h
    obtain ⟨v3, hv7, h⟩ := bnd_some h
    refine .block (.sr [oo, oo, ([], [7]), ([7], [7])] mixed (.consA (.indexAddr .none sl99 ty102 (.s rfl) (.s rfl) (fun _ => hn6)) rfl (.consA (.re hv7 (.load .none ty102 (.s rfl))) rfl (.consW (.alloc zo102 rfl) rfl rfl (.consN (.store ty102 rfl rfl (.s rfl)) rfl (.nil (.freeze (t := 7) rfl rfl (.k 5001 rfl .nil) rfl (.seq (.sr [] mixed (.fa fd102_1 hfd102_1 rfl (.ld ty3 rfl (.cons (.eqI .none (.s rfl) (.int (by decide))) rfl (.mv rfl (.cons (.fieldAddr (.at rfl rfl) fd102_2 hfd102_2 (.s rfl)) rfl (.cons (.load (.at rfl rfl) ty3 (.tmp rfl id)) rfl (.cons (.eqI (.at rfl rfl) (.tmp rfl id) (.int (by decide))) rfl (.cons (.pickAnd .none (.s rfl) (.tmp rfl id)) rfl (.nil (.cb rfl h (fun _ h => ?_) fun _ h => ?_)))))))))))))))))))
    ·
     exact .exit (.thenExit (.blkExit (Ends.j _ (some_eq h))))
    ·
     obtain ⟨marks1, hv9, h⟩ := bind_some h
     refine .skip (.then (.sr [] mixed (.mv rfl (.ld ty102 rfl (.cons (.call .none (page_view_marks_ok hv9) (.cons (.s rfl) (.cons (.s rfl) .nil))) rfl (.asn rfl (.nil (.sr [] mixed (.mv rfl (.cons (.nilCheckR .none (.s rfl)) rfl (.fa fd63_0 hfd63_0 rfl (.fa fd25_0 hfd25_0 rfl (.ld ty22 rfl (.cons (.len .none sl22 (.s rfl)) rfl (.mvi (.nil (.block (.rforEL h (fun p10_ => [(40, ⟨True, rep p10_.1⟩)]) (fun p10_ => []) (.k 40 rfl .nil) SubB.nil (.k 0 rfl (.k 1 rfl (.k 4 rfl (.k 8 rfl (.k 17 rfl (.k 18 rfl (.k 19 rfl (.k 38 rfl (.k 39 rfl .nil))))))))) (.k 5001 rfl .nil) (fun p10_ o_10 h hD10 => (.sr [] mixed (.cons (.lt .none (.s rfl) (.s rfl)) rfl (.nil (.seq (.cb rfl h (fun _ h => ?_) fun _ h => ?_))))))))))))))))))))))))
     ·
      refine .skip (.then (.seq ?_))
      obtain ⟨o_12, h, hK12⟩ := bindD_some h
      unfold page_view_moved_L2 at h
      refine .thenJ (ι := Unit) (fun j_12 => []) (fun j_12 => []) (fun s => o_12 = Res.nx s) (.k 0 rfl (.k 1 rfl (.k 4 rfl (.k 8 rfl (.k 17 rfl (.k 18 rfl (.k 19 rfl (.k 38 rfl (.k 39 rfl (.k 40 rfl .nil)))))))))) (.k 5001 rfl .nil) ?_ (fun j_12 hj12 => ?_)
      ·
       obtain ⟨hn13, h⟩ := need_some h
       obtain ⟨v4, hv14, h⟩ := bnd_some h
       obtain ⟨hn15, h⟩ := need_some h
       refine .block (.sr [oo, oo, oo, ([], [10]), oo, ([10], [10])] mixed (.mvA rfl (.consA (.indexAddr .none sl22 ty43 (.s rfl) (.s rfl) (fun _ => hn13)) rfl (.consA (.re hv14 (.load .none ty43 (.s rfl))) rfl (.consW (.alloc zo43 rfl) rfl rfl (.asnA rfl (.consN (.store ty43 rfl rfl (.s rfl)) rfl (.nil (.freeze (t := 10) rfl rfl (.k 5001 rfl .nil) rfl (.sr [] mixed (.mv rfl (.mv rfl (.cons (.indexAddr .none sl73 ty4 (.s rfl) (.s rfl) (fun _ => hn15)) rfl (.ld ty4 rfl (.mv rfl (.cons (.fieldAddr (.at rfl rfl) fd43_6 hfd43_6 (.s rfl)) rfl (.cons (.load (.at rfl rfl) ty4 (.tmp rfl id)) rfl (.cons (.pickAnd .none (.s rfl) (.tmp rfl id)) rfl (.nil (.cb rfl h (fun _ h => ?_) fun _ h => ?_))))))))))))))))))))
       ·
        obtain ⟨v5, hv17, h⟩ := bnd_some h
        refine .sr [oo, ([5001], [5001]), oo] mixed (.consA (.re hv17 (.buildF (y := (⟨([] : (List DNode)), ([] : (List DEdge))⟩ : Doc)) .none bu25 zc25 rfl .nil .nil)) rfl (.consN (.storeAt0 (g := 5001) ty25 rfl (.s rfl) (.s rfl)) rfl (.consA (.assign .none (.int (by decide))) rfl (.nil (.freezeBox (g := 5001) (ts := [4]) rfl (.cons (t := 4) rfl trivial .nil) SubB.nil rfl (.ret (.blkRet (.thenRet (.thenRet (.blkRet (.blkRet (.thenRet (.thenRet (.blkRet (.thenRet ?_)))))))))))))))
        replace h := resd_ab hK12 (some_eq h)
        replace h := hD10 _ (some_eq h)
        replace h := resd_ab hK5 (some_eq h)
        replace h := hD3 _ (some_eq h)
        replace h := resb_ab hK2 (some_eq h)
        obtain rfl := some_eq h
        exact Ends.ret2 (.inl rfl) Tryd.results54 (ResOK.cellR ty25 rfl trivial Imp.refl) (ResOK.tmp rfl trivial Imp.refl)
       ·
        exact .skip (.blkNormal (Ends.j _ (some_eq h)))
      ·
       have h := resd_nx hK12 hj12
       exact .rg [] mixed (.cons (.addW .none (.s rfl) (.int (by decide))) rfl (.mv rfl (.nil (Ends.ag (some_eq h)))))
     ·
      refine .exit (.thenExit (.thenExit (.blkExit (.blkNormal ?_))))
      replace h := hD10 _ (some_eq h)
      exact Ends.j _ (some_eq h)
   ·
    have h := resd_nx hK5 hj5
    exact .rg [] mixed (.cons (.addW .none (.s rfl) (.int (by decide))) rfl (.mv rfl (.nil (Ends.ag (some_eq h)))))
  ·
   refine .exit (.thenExit (.thenExit (.blkExit ?_)))
   replace h := hD3 _ (some_eq h)
   exact Ends.j _ (some_eq h)
 ·
  have h := resb_nx hK2 hj2
  refine .seq (.sr [] mixed (.mv rfl (.cons (.len .none sl99 (.s rfl)) rfl (.mvi (.nil ?_)))))
  obtain ⟨o_18, h, hK18⟩ := bindR_some h
  refine .thenJ (ι := Unit) (fun j_18 => []) (fun j_18 => []) (fun s => o_18 = Res.nx s) (.k 0 rfl (.k 1 rfl (.k 4 rfl .nil))) (.k 5001 rfl .nil) ?_ (fun j_18 hj18 => ?_)
  ·
   refine .block (.rforEL h (fun p19_ => [(58, ⟨True, rep p19_.1⟩)]) (fun p19_ => []) (.k 58 rfl .nil) SubB.nil (.k 0 rfl (.k 1 rfl (.k 4 rfl (.k 56 rfl (.k 57 rfl .nil))))) (.k 5001 rfl .nil) (fun p19_ o_19 h hD19 => (.sr [] mixed (.cons (.lt .none (.s rfl) (.s rfl)) rfl (.nil (.seq (.cb rfl h (fun _ h => ?_) fun _ h => ?_)))))))
   ·
    refine .skip (.then (.seq ?_))
    obtain ⟨o_21, h, hK21⟩ := bindD_some h
    unfold page_view_moved_L3 at h
    refine .thenJ (ι := Unit) (fun j_21 => []) (fun j_21 => []) (fun s => o_21 = Res.nx s) (.k 0 rfl (.k 1 rfl (.k 4 rfl (.k 56 rfl (.k 57 rfl (.k 58 rfl .nil)))))) (.k 5001 rfl .nil) ?_ (fun j_21 hj21 => ?_)
    ·
     obtain ⟨hn22, h⟩ := need_some h
     obtain ⟨v6, hv23, h⟩ := bnd_some h
     obtain ⟨r1, hv24, h⟩ := bind_some h
     obtain ⟨r2, hv25, h⟩ := bind_some h
     refine .block (.sr [oo, oo, ([], [12]), ([12], [12])] mixed (.consA (.indexAddr .none sl99 ty102 (.s rfl) (.s rfl) (fun _ => hn22)) rfl (.consA (.re hv23 (.load .none ty102 (.s rfl))) rfl (.consW (.alloc zo102 rfl) rfl rfl (.consN (.store ty102 rfl rfl (.s rfl)) rfl (.nil (.freeze (t := 12) rfl rfl (.k 5001 rfl .nil) rfl (.sr [] mixed (.fa fd102_1 hfd102_1 rfl (.ld ty3 rfl (.cons (.call .none (page_far_ok hv24) (.cons (.s rfl) .nil)) rfl (.mv rfl (.cons (.fieldAddr (.at rfl rfl) fd102_2 hfd102_2 (.s rfl)) rfl (.cons (.load (.at rfl rfl) ty3 (.tmp rfl id)) rfl (.cons (.callIf (.at rfl rfl) fnok37 (fun hg => page_far_ok ((fun hg => gd_some hv25 ((notT hg.2))) hg)) (.cons (.tmp rfl id) .nil) (fun h => h)) rfl (.cons (.pickOr .none (.s rfl) (.tmp rfl id)) rfl (.nil (.cb rfl h (fun _ h => ?_) fun _ h => ?_))))))))))))))))))
     ·
      obtain ⟨v7, hv27, h⟩ := bnd_some h
      refine .sr [oo, ([5001], [5001]), oo] mixed (.consA (.re hv27 (.buildF (y := (⟨([] : (List DNode)), ([] : (List DEdge))⟩ : Doc)) .none bu25 zc25 rfl .nil .nil)) rfl (.consN (.storeAt0 (g := 5001) ty25 rfl (.s rfl) (.s rfl)) rfl (.consA (.assign .none (.int (by decide))) rfl (.nil (.freezeBox (g := 5001) (ts := [4]) rfl (.cons (t := 4) rfl trivial .nil) SubB.nil rfl (.ret (.blkRet (.thenRet (.thenRet (.blkRet (.thenRet ?_)))))))))))
      replace h := resd_ab hK21 (some_eq h)
      replace h := hD19 _ (some_eq h)
      replace h := resb_ab hK18 (some_eq h)
      obtain rfl := some_eq h
      exact Ends.ret2 (.inl rfl) Tryd.results54 (ResOK.cellR ty25 rfl trivial Imp.refl) (ResOK.tmp rfl trivial Imp.refl)
     ·
      exact .skip (.blkNormal (Ends.j _ (some_eq h)))
    ·
     have h := resd_nx hK21 hj21
     exact .rg [] mixed (.cons (.addW .none (.s rfl) (.int (by decide))) rfl (.mv rfl (.nil (Ends.ag (some_eq h)))))
   ·
    refine .exit (.thenExit (.thenExit (.blkExit ?_)))
    replace h := hD19 _ (some_eq h)
    exact Ends.j _ (some_eq h)
  ·
   have h := resb_nx hK18 hj18
   obtain ⟨r3, hv28, h⟩ := bind_some h
   refine .sr [oo, oo, oo, oo, ([], [76]), ([], [13]), ([13, 76], [13, 76])] mixed (.mvA rfl (.consA (.nilCheckR .none (.s rfl)) rfl (.faA fd63_0 hfd63_0 rfl (.ldA ty25 rfl (.consW (.callO [] (page_cloned_deep_ok hv28) (.cons (.s rfl) .nil) .nil rfl (by decide) (by decide) (by intro d h; cases h; decide)) rfl rfl (.consW (.alloc zo25 rfl) rfl rfl (.consN (.storeG2 (t := 76) (k := 13) (mk := (fun z1 z2 => (⟨⟨z1⟩, ⟨z2⟩⟩ : Doc_o01))) ty25 rfl rfl (by rfl) rfl rfl rfl rfl) rfl (.nil (.nameAt (t := 13) (g := 5002) rfl rfl (isBox_deep fun _ => (isBox_deep fun _ => isBox_cont)) rfl (fun m5002 => (.open (k := 5002) (g := 5003) rfl rfl (fun s5003 => (.open (k := 5002) (g := 5004) rfl rfl (fun s5004 => (.seq (.sr [] mixed (.mv rfl (.cons (.len .none sl99 (.s rfl)) rfl (.mvi (.nil ?_))))))))))))))))))))
   obtain ⟨j_29, h, hK29⟩ := bind_some h
   refine .thenJ (ι := ((List DNode) × (List DEdge))) (fun j_29 => []) (fun j_29 => [(5003, some (CPred.at s5003 (rowV 43 j_29.1))), (5004, some (CPred.at s5004 (rowD 96 118 mk_DEdge_o3 DEdge.Bends [] j_29.2)))]) (fun s => j_29 = s) (.k 4 rfl (.k 13 rfl .nil)) (.k 5001 rfl (.k 5002 rfl .nil)) ?_ (fun j_29' hj29 => ?_)
   ·
    refine .block (.rforL h (fun p30_ => [(79, ⟨True, rep p30_.1⟩)]) (fun p30_ => [(5003, some (CPred.at s5003 (rowV 43 p30_.2.1))), (5004, some (CPred.at s5004 (rowD 96 118 mk_DEdge_o3 DEdge.Bends [] p30_.2.2)))]) (.k 79 rfl .nil) (.k 5003 rfl (.k 5004 rfl .nil)) (.k 0 rfl (.k 4 rfl (.k 13 rfl (.k 77 rfl (.k 78 rfl .nil))))) (.k 5001 rfl (.k 5002 rfl .nil)) (fun p30_ o_30 h hD30 => (.sr [] mixed (.cons (.lt .none (.s rfl) (.s rfl)) rfl (.nil (.seq (.cb rfl h (fun _ h => ?_) fun _ h => ?_)))))))
    ·
     refine .skip (.then (.seq ?_))
     obtain ⟨j_32, h, hK32⟩ := bind_some h
     unfold page_view_moved_L4 at h
     refine .thenJ (ι := ((List DNode) × (List DEdge))) (fun j_32 => []) (fun j_32 => [(5003, some (CPred.at s5003 (rowV 43 j_32.1))), (5004, some (CPred.at s5004 (rowD 96 118 mk_DEdge_o3 DEdge.Bends [] j_32.2)))]) (fun s => j_32 = s) (.k 0 rfl (.k 4 rfl (.k 13 rfl (.k 77 rfl (.k 78 rfl (.k 79 rfl .nil)))))) (.k 5001 rfl (.k 5002 rfl .nil)) ?_ (fun j_32' hj32 => ?_)
     ·
      obtain ⟨hn33, h⟩ := need_some h
      obtain ⟨v8, hv34, h⟩ := bnd_some h
      obtain ⟨r4, hv35, h⟩ := bind_some h
      obtain ⟨r5, hv36, h⟩ := bind_some h
      exact .block (.sr [oo, oo, ([], [15]), ([15], [15])] mixed (.consA (.indexAddr .none sl99 ty102 (.s rfl) (.s rfl) (fun _ => hn33)) rfl (.consA (.re hv34 (.load .none ty102 (.s rfl))) rfl (.consW (.alloc zo102 rfl) rfl rfl (.consN (.store ty102 rfl rfl (.s rfl)) rfl (.nil (.freeze (t := 15) rfl rfl (.k 5001 rfl (.k 5002 rfl (.k 5003 rfl (.k 5004 rfl .nil)))) rfl (.rg [oo, ([5002], []), oo, oo, oo, oo, oo, oo, oo, ([5003, 5004], [5003, 5004])] mixed (.mvA rfl (.consA (.loadAt0 (k := 5002) .none tyv_Doc_o01 rfl (.s rfl)) rfl (.mvA rfl (.ldA ty102 rfl (.consA (.call .none (page_view_marks_ok hv35) (.cons (.s rfl) (.cons (.s rfl) .nil))) rfl (.faA fd102_1 hfd102_1 rfl (.ldA ty3 rfl (.faA fd102_2 hfd102_2 rfl (.ldA ty3 rfl (.consW (.callO [5003, 5004] (page_view_shift_ok hv36) (.cons (.s rfl) (.cons (.s rfl) (.cons (.s rfl) (.cons (.s rfl) (.cons (.s rfl) .nil))))) (.cons (k := 5003) rfl (.cons (k := 5004) rfl .nil)) rfl (by decide) (by decide) (by intro d h; cases h; decide)) rfl rfl (.nil (.blkNormal (Ends.j _ (some_eq h))))))))))))))))))))))
     ·
      subst hj32; have h := hK32; clear hK32
      exact .rg [] mixed (.cons (.addW .none (.s rfl) (.int (by decide))) rfl (.mv rfl (.nil (Ends.ag (some_eq h)))))
    ·
     refine .exit (.thenExit (.thenExit (.blkExit ?_)))
     replace h := hD30 _ (some_eq h)
     exact Ends.j _ (some_eq h)
   ·
    subst hj29; have h := hK29; clear hK29
    refine .close (k := 5002) (g := 5004) (fun z => cont 25 (⟨⟨s5003⟩, ⟨z⟩⟩ : Doc_o01)) rfl rfl rfl (.close (k := 5002) (g := 5003) (fun z => deep (fun z0 => cont 25 (⟨⟨z⟩, ⟨z0⟩⟩ : Doc_o01)) (rowD 96 118 mk_DEdge_o3 DEdge.Bends [] j_29.2)) rfl rfl rfl (.freezeAt (g := 5002) (S := ref ({ r3 with Nodes := j_29.1, Edges := j_29.2 } : Doc)) (ts := [13]) rfl (.cons (t := 13) rfl trivial .nil) (.k 5001 rfl .nil) rfl (fun M D w h hms => deep_ref2 (mk := (fun s1_ s2_ => (⟨⟨s1_⟩, ⟨s2_⟩⟩ : Doc_o01))) (y := ({ r3 with Nodes := j_29.1, Edges := j_29.2 } : Doc)) frzRow frz_mk_DEdge_o3 rfl (fun M s1_ s2_ cs w hc g1 g2 => by obtain ⟨c0, q0, e0, h0, h1⟩ := hc; exact ⟨c0, q0, e0, raw_cells rfl rfl h0 g1, raw_cells rfl rfl h1 g2⟩) M D w h hms) ?_))
    obtain ⟨e1, hv37, h⟩ := bind_some h
    refine .seq (.sr [] mixed (.ld ty25 rfl (.cons (.call .none (page_Check_ok hv37) (.cons (.s rfl) .nil)) rfl (.asn rfl (.nil (.sr [] mixed (.mv rfl (.cons (.neI .none (.s rfl) (.int (by decide))) rfl (.nil (.cb rfl h (fun _ h => ?_) fun _ h => ?_))))))))))
    ·
     obtain ⟨v9, hv39, h⟩ := bnd_some h
     refine .sr [oo, oo, ([5001], [5001]), oo] mixed (.consA (.re hv39 (.buildF (y := (⟨([] : (List DNode)), ([] : (List DEdge))⟩ : Doc)) .none bu25 zc25 rfl .nil .nil)) rfl (.mvA rfl (.consN (.storeAt0 (g := 5001) ty25 rfl (.s rfl) (.s rfl)) rfl (.asnA rfl (.nil (.freezeBox (g := 5001) (ts := [4]) rfl (.cons (t := 4) rfl trivial .nil) SubB.nil rfl (.ret (.thenRet ?_))))))))
     obtain rfl := some_eq h
     exact Ends.ret2 (.inl rfl) Tryd.results54 (ResOK.cellR ty25 rfl trivial Imp.refl) (ResOK.tmp rfl trivial Imp.refl)
    ·
     obtain ⟨v10, hv40, h⟩ := bnd_some h
     refine .skip (.then (.sr [oo, ([5001], [5001]), oo] mixed (.consA (.re hv40 (.load .none ty25 (.s rfl))) rfl (.consN (.storeAt0 (g := 5001) ty25 rfl (.s rfl) (.s rfl)) rfl (.consA (.assign .none (.int (by decide))) rfl (.nil (.freezeBox (g := 5001) (ts := [4]) rfl (.cons (t := 4) rfl trivial .nil) SubB.nil rfl (.ret ?_))))))))
     obtain rfl := some_eq h
     exact Ends.ret2 (.inl rfl) Tryd.results54 (ResOK.cellR ty25 rfl trivial Imp.refl) (ResOK.tmp rfl trivial Imp.refl)
theorem page_Align_ok {d1 : Doc} {ids1 : (List Str)} {how1 : Int} {r : (Doc × Int)}  (h : page_Align d1 ids1 how1 = some r) : FSpec Tryd.prog 19 [rep d1, rep ids1, rep how1] (tup [rep r.1, rep r.2]) := by
 unfold page_Align at h
 obtain ⟨v1, hv1, h⟩ := bnd_some h
 obtain ⟨r1, hv2, h⟩ := bind_some h
 refine FSpec.intro (n := 140) fnok19 Tryd.func19 rfl Tryd.ntmps19 rfl (fun F => (.sr [oo, ([], [6]), oo] mixed (.consA (.box .none (.s rfl)) rfl (.consW (.alloc zo25 rfl) rfl rfl (.consA (.assign .none (.int (by decide))) rfl (.nil (.reB (t := 6) rfl (congrArg (cont 25) hv1) (.nameBox (t := 6) (g := 5001) rfl rfl (fun m5001 => (.sr [] mixed (.ld ty25 rfl (.mv rfl (.cons (.call .none (page_selected_ok hv2) (.cons (.s rfl) (.cons (.s rfl) .nil))) rfl (.mv rfl (.cons (.extract .none (.s rfl) rfl) rfl (.cons (.extract .none (.s rfl) rfl) rfl (.cons (.extract .none (.s rfl) rfl) rfl (.asn rfl (.asn rfl (.asn rfl (.nil (.seq (.sr [] mixed (.mv rfl (.cons (.neI .none (.s rfl) (.int (by decide))) rfl (.nil (.cb rfl h (fun _ h => ?_) fun _ h => ?_)))))))))))))))))))))))))))
 ·
  obtain ⟨v2, hv4, h⟩ := bnd_some h
  refine .sr [oo, oo, ([5001], [5001]), oo] mixed (.consA (.re hv4 (.buildF (y := (⟨([] : (List DNode)), ([] : (List DEdge))⟩ : Doc)) .none bu25 zc25 rfl .nil .nil)) rfl (.mvA rfl (.consN (.storeAt0 (g := 5001) ty25 rfl (.s rfl) (.s rfl)) rfl (.asnA rfl (.nil (.freezeBox (g := 5001) (ts := [6]) rfl (.cons (t := 6) rfl trivial .nil) SubB.nil rfl (.ret (.thenRet ?_))))))))
  obtain rfl := some_eq h
  exact Ends.ret2 (.inl rfl) Tryd.results19 (ResOK.cellR ty25 rfl trivial Imp.refl) (ResOK.tmp rfl trivial Imp.refl)
 ·
  obtain ⟨v3, hv5, h⟩ := bind_some h
  obtain ⟨r2, hv6, h⟩ := bind_some h
  refine .skip (.then (.seq (.isRef (t := 8) hv5 rfl trivial (.rg [oo, oo, oo, oo, oo, oo, ([], [11]), ([11], [11]), oo] mixed (.mvA rfl (.mvA rfl (.consA (.call .none (page_view_hullOf_ok hv6) (.cons (.s rfl) (.cons (.s rfl) .nil))) rfl (.mvA rfl (.consA (.extract .none (.s rfl) rfl) rfl (.consA (.extract .none (.s rfl) rfl) rfl (.consW (.alloc zo41 rfl) rfl rfl (.consN (.store ty41 rfl rfl (.s rfl)) rfl (.asnA rfl (.nil (.then (.freeze (t := 11) rfl rfl (.k 5001 rfl .nil) rfl (.seq (.sr [] mixed (.mv rfl (.cons (.neI .none (.s rfl) (.int (by decide))) rfl (.nil (.cb rfl h (fun _ h => ?_) fun _ h => ?_))))))))))))))))))))))
  ·
   obtain ⟨v4, hv8, h⟩ := bnd_some h
   refine .sr [oo, oo, ([5001], [5001]), oo] mixed (.consA (.re hv8 (.buildF (y := (⟨([] : (List DNode)), ([] : (List DEdge))⟩ : Doc)) .none bu25 zc25 rfl .nil .nil)) rfl (.mvA rfl (.consN (.storeAt0 (g := 5001) ty25 rfl (.s rfl) (.s rfl)) rfl (.asnA rfl (.nil (.freezeBox (g := 5001) (ts := [6]) rfl (.cons (t := 6) rfl trivial .nil) SubB.nil rfl (.ret (.thenRet ?_))))))))
   obtain rfl := some_eq h
   exact Ends.ret2 (.inl rfl) Tryd.results19 (ResOK.cellR ty25 rfl trivial Imp.refl) (ResOK.tmp rfl trivial Imp.refl)
  ·
   refine .skip (.then (.seq (.sr [] mixed (.mv rfl (.cons (.lt .none (.s rfl) (.int (by decide))) rfl (.mv rfl (.cons (.move (.at rfl rfl) (.s rfl)) rfl (.cons (.gt (.at rfl rfl) (.tmp rfl id) (.int (by decide))) rfl (.cons (.pickOr .none (.s rfl) (.tmp rfl id)) rfl (.nil (.cb rfl h (fun _ h => ?_) fun _ h => ?_)))))))))))
   ·
    obtain ⟨v5, hv10, h⟩ := bnd_some h
    refine .sr [oo, ([5001], [5001]), oo] mixed (.consA (.re hv10 (.buildF (y := (⟨([] : (List DNode)), ([] : (List DEdge))⟩ : Doc)) .none bu25 zc25 rfl .nil .nil)) rfl (.consN (.storeAt0 (g := 5001) ty25 rfl (.s rfl) (.s rfl)) rfl (.consA (.assign .none (.int (by decide))) rfl (.nil (.freezeBox (g := 5001) (ts := [6]) rfl (.cons (t := 6) rfl trivial .nil) SubB.nil rfl (.ret (.thenRet ?_)))))))
    obtain rfl := some_eq h
    exact Ends.ret2 (.inl rfl) Tryd.results19 (ResOK.cellR ty25 rfl trivial Imp.refl) (ResOK.tmp rfl trivial Imp.refl)
   ·
    refine .skip (.then (.sr [([], [12])] mixed (.consW (.nilRow (T := 102) (α := Page_step) rfl) rfl rfl (.nil (.nameRow (t := 12) (g := 5002) rfl rfl rfl (fun s5002 => (.seq (.sr [] mixed (.mv rfl (.cons (.len .none sl59 (.s rfl)) rfl (.mvi (.nil ?_))))))))))))
    obtain ⟨j_11, h, hK11⟩ := bind_some h
    refine .thenJ (ι := (List Page_step)) (fun j_11 => []) (fun j_11 => [(12, some (rowV 102 j_11))]) (fun s => j_11 = s) (.k 6 rfl (.k 8 rfl .nil)) (.k 5001 rfl .nil) ?_ (fun j_11' hj11 => ?_)
    ·
     refine .block (.anon (t := 12) (g := 5002) rfl rfl trivial rfl (.rforL h (fun p12_ => [(47, ⟨True, rep p12_.1⟩)]) (fun p12_ => [(12, some (rowV 102 p12_.2))]) (.k 47 rfl .nil) (.k 12 rfl .nil) (.k 2 rfl (.k 6 rfl (.k 8 rfl (.k 11 rfl (.k 45 rfl (.k 46 rfl .nil)))))) (.k 5001 rfl .nil) (fun p12_ o_12 h hD12 => (.nameRow (t := 12) (g := 5003) rfl rfl rfl (fun s5003 => (.sr [] mixed (.cons (.lt .none (.s rfl) (.s rfl)) rfl (.nil (.seq (.cb rfl h (fun _ h => ?_) fun _ h => ?_))))))))))
     ·
      refine .skip (.then (.seq ?_))
      obtain ⟨j_14, h, hK14⟩ := bind_some h
      unfold page_Align_L1 at h
      refine .thenJ (ι := (List Page_step)) (fun j_14 => []) (fun j_14 => [(12, some (rowV 102 j_14))]) (fun s => j_14 = s) (.k 2 rfl (.k 6 rfl (.k 8 rfl (.k 11 rfl (.k 45 rfl (.k 46 rfl (.k 47 rfl .nil))))))) (.k 5001 rfl .nil) ?_ (fun j_14' hj14 => ?_)
      ·
       obtain ⟨hn15, h⟩ := need_some h
       obtain ⟨k1, hv16, h⟩ := bnd_some h
       obtain ⟨r3, hv17, h⟩ := bind_some h
       obtain ⟨v6, hv18, h⟩ := bnd_some h
       refine .block (.sr [] mixed (.cons (.indexAddr .none sl59 ty3 (.s rfl) (.s rfl) (fun _ => hn15)) rfl (.ld ty3 rfl (.cons (.re hv16 (.assign .none (.s rfl))) rfl (.nil (.sr [oo, oo, oo, ([], [15]), ([15], [15])] mixed (.mvA rfl (.mvA rfl (.consA (.call .none (page_view_box_ok hv17) (.cons (.s rfl) (.cons (.s rfl) .nil))) rfl (.consW (.alloc zo41 rfl) rfl rfl (.consN (.store ty41 rfl rfl (.s rfl)) rfl (.nil (.freeze (t := 15) rfl rfl (.k 5001 rfl (.k 5003 rfl .nil)) rfl (.sr [oo, oo, oo, ([], [16]), ([16], [16])] mixed (.mvA rfl (.consA (.buildSlice (xs := [_]) .none sl59 ty3 hz3 (.cons (.s rfl) .nil) rfl (by decide)) rfl (.consA (.re hv18 (.buildF (y := (⟨[k1], (0 : Int), (0 : Int)⟩ : Page_step)) .none bu102 zc102 rfl (.cons (.s rfl) .nil) (.cons rfl sf102_0 .nil))) rfl (.consW (.alloc zo102 rfl) rfl rfl (.consN (.store ty102 rfl rfl (.s rfl)) rfl (.nil (.nameBox (t := 16) (g := 5004) rfl rfl (fun m5004 => (.seq (.sr [] mixed (.mv rfl (.nil ?_))))))))))))))))))))))))))
       obtain ⟨j_19, h, hK19⟩ := bind_some h
       refine .thenJ (ι := Page_step) (fun j_19 => []) (fun j_19 => [(5004, some (boxAt m5004 102 j_19))]) (fun s => j_19 = s) (.k 2 rfl (.k 6 rfl (.k 8 rfl (.k 11 rfl (.k 12 rfl (.k 16 rfl (.k 45 rfl (.k 46 rfl (.k 47 rfl .nil))))))))) (.k 5001 rfl (.k 5003 rfl .nil)) ?_ (fun j_19' hj19 => ?_)
       ·
        refine .block (.sr [] mixed (.cons (.eqI .none (.s rfl) (.int (by decide))) rfl (.asn rfl (.nil (.cb rfl h (fun _ h => ?_) fun _ h => ?_)))))
        ·
         obtain ⟨v7, hv21, h⟩ := bnd_some h
         exact .rg [oo, oo, oo, oo, oo, oo, ([5004], [5004])] mixed (.faA fd41_0 hfd41_0 rfl (.ldA ty3 rfl (.faA fd41_0 hfd41_0 rfl (.ldA ty3 rfl (.consA (.re hv21 (.subW .none (.s rfl) (.s rfl))) rfl (.consA (.fieldPtr .none fd102_1 (.s rfl)) rfl (.consN (.storeAt (g := 5004) ty3 rfl (.s rfl) sf102_1 (.s rfl)) rfl (.nil (.blkNormal (Ends.j _ (some_eq h)))))))))))
        ·
         refine .sr [] mixed (.cons (.eqI .none (.s rfl) (.int (by decide))) rfl (.asn rfl (.nil (.cb rfl h (fun _ h => ?_) fun _ h => ?_))))
         ·
          obtain ⟨v8, hv23, h⟩ := bnd_some h
          exact .rg [oo, oo, oo, oo, oo, oo, oo, oo, oo, oo, oo, oo, oo, ([5004], [5004])] mixed (.faA fd41_0 hfd41_0 rfl (.ldA ty3 rfl (.faA fd41_2 hfd41_2 rfl (.ldA ty3 rfl (.faA fd41_2 hfd41_2 rfl (.ldA ty3 rfl (.consA (.subW .none (.s rfl) (.s rfl)) rfl (.consA (.quo .none (.s rfl) (.int (by decide)) (fun _ => by decide)) rfl (.consA (.addW .none (.s rfl) (.s rfl)) rfl (.faA fd41_0 hfd41_0 rfl (.ldA ty3 rfl (.consA (.re hv23 (.subW .none (.s rfl) (.s rfl))) rfl (.consA (.fieldPtr .none fd102_1 (.s rfl)) rfl (.consN (.storeAt (g := 5004) ty3 rfl (.s rfl) sf102_1 (.s rfl)) rfl (.nil (.blkNormal (Ends.j _ (some_eq h))))))))))))))))))
         ·
          refine .sr [] mixed (.cons (.eqI .none (.s rfl) (.int (by decide))) rfl (.asn rfl (.nil (.cb rfl h (fun _ h => ?_) fun _ h => ?_))))
          ·
           obtain ⟨v9, hv25, h⟩ := bnd_some h
           exact .rg [oo, oo, oo, oo, oo, oo, oo, oo, oo, oo, oo, oo, ([5004], [5004])] mixed (.faA fd41_0 hfd41_0 rfl (.ldA ty3 rfl (.faA fd41_2 hfd41_2 rfl (.ldA ty3 rfl (.consA (.addW .none (.s rfl) (.s rfl)) rfl (.faA fd41_0 hfd41_0 rfl (.ldA ty3 rfl (.consA (.subW .none (.s rfl) (.s rfl)) rfl (.faA fd41_2 hfd41_2 rfl (.ldA ty3 rfl (.consA (.re hv25 (.subW .none (.s rfl) (.s rfl))) rfl (.consA (.fieldPtr .none fd102_1 (.s rfl)) rfl (.consN (.storeAt (g := 5004) ty3 rfl (.s rfl) sf102_1 (.s rfl)) rfl (.nil (.blkNormal (Ends.j _ (some_eq h)))))))))))))))))
          ·
           refine .sr [] mixed (.cons (.eqI .none (.s rfl) (.int (by decide))) rfl (.asn rfl (.nil (.cb rfl h (fun _ h => ?_) fun _ h => ?_))))
           ·
            obtain ⟨v10, hv27, h⟩ := bnd_some h
            exact .rg [oo, oo, oo, oo, oo, oo, ([5004], [5004])] mixed (.faA fd41_1 hfd41_1 rfl (.ldA ty3 rfl (.faA fd41_1 hfd41_1 rfl (.ldA ty3 rfl (.consA (.re hv27 (.subW .none (.s rfl) (.s rfl))) rfl (.consA (.fieldPtr .none fd102_2 (.s rfl)) rfl (.consN (.storeAt (g := 5004) ty3 rfl (.s rfl) sf102_2 (.s rfl)) rfl (.nil (.blkNormal (Ends.j _ (some_eq h)))))))))))
           ·
            refine .sr [] mixed (.cons (.eqI .none (.s rfl) (.int (by decide))) rfl (.asn rfl (.nil (.cb rfl h (fun _ h => ?_) fun _ h => ?_))))
            ·
             obtain ⟨v11, hv29, h⟩ := bnd_some h
             exact .rg [oo, oo, oo, oo, oo, oo, oo, oo, oo, oo, oo, oo, oo, ([5004], [5004])] mixed (.faA fd41_1 hfd41_1 rfl (.ldA ty3 rfl (.faA fd41_3 hfd41_3 rfl (.ldA ty3 rfl (.faA fd41_3 hfd41_3 rfl (.ldA ty3 rfl (.consA (.subW .none (.s rfl) (.s rfl)) rfl (.consA (.quo .none (.s rfl) (.int (by decide)) (fun _ => by decide)) rfl (.consA (.addW .none (.s rfl) (.s rfl)) rfl (.faA fd41_1 hfd41_1 rfl (.ldA ty3 rfl (.consA (.re hv29 (.subW .none (.s rfl) (.s rfl))) rfl (.consA (.fieldPtr .none fd102_2 (.s rfl)) rfl (.consN (.storeAt (g := 5004) ty3 rfl (.s rfl) sf102_2 (.s rfl)) rfl (.nil (.blkNormal (Ends.j _ (some_eq h))))))))))))))))))
            ·
             obtain ⟨v12, hv30, h⟩ := bnd_some h
             exact .rg [oo, oo, oo, oo, oo, oo, oo, oo, oo, oo, oo, oo, ([5004], [5004])] mixed (.faA fd41_1 hfd41_1 rfl (.ldA ty3 rfl (.faA fd41_3 hfd41_3 rfl (.ldA ty3 rfl (.consA (.addW .none (.s rfl) (.s rfl)) rfl (.faA fd41_1 hfd41_1 rfl (.ldA ty3 rfl (.consA (.subW .none (.s rfl) (.s rfl)) rfl (.faA fd41_3 hfd41_3 rfl (.ldA ty3 rfl (.consA (.re hv30 (.subW .none (.s rfl) (.s rfl))) rfl (.consA (.fieldPtr .none fd102_2 (.s rfl)) rfl (.consN (.storeAt (g := 5004) ty3 rfl (.s rfl) sf102_2 (.s rfl)) rfl (.nil (.blkNormal (Ends.j _ (some_eq h)))))))))))))))))
       ·
        subst hj19; have h := hK19; clear hK19
        obtain ⟨hn31, h⟩ := need_some h
        exact .freezeBox (g := 5004) (ts := [16]) rfl (.cons (t := 16) rfl trivial .nil) (.k 5001 rfl (.k 5003 rfl .nil)) rfl (.rg [oo, oo, oo, ([5003], [133, 5003]), ([133], [12, 133])] mixed (.mvA rfl (.ldA ty102 rfl (.consA (.buildSlice (xs := [_]) .none sl99 ty102 hz102 (.cons (.s rfl) .nil) rfl (by decide)) rfl (.consW (.append (k := 5003) rk99 rfl (.told (.s rfl) rfl) (.s rfl) hn31) rfl rfl (.consW (.passRow rfl (.tmp rfl)) rfl rfl (.nil (.blkNormal (Ends.j _ (some_eq h))))))))))
      ·
       subst hj14; have h := hK14; clear hK14
       exact .nameRow (t := 12) (g := 5005) rfl rfl rfl (fun s5005 => (.rg [] mixed (.cons (.addW .none (.s rfl) (.int (by decide))) rfl (.mv rfl (.nil (.anon (t := 12) (g := 5005) rfl rfl trivial rfl (Ends.ag (some_eq h))))))))
     ·
      refine .exit (.thenExit (.thenExit (.blkExit (.anon (t := 12) (g := 5003) rfl rfl trivial rfl ?_))))
      replace h := hD12 _ (some_eq h)
      exact Ends.j _ (some_eq h)
    ·
     subst hj11; have h := hK11; clear hK11
     obtain ⟨r4, hv32, h⟩ := bind_some h
     refine .freezeRowA (t := 12) rfl rfl (.k 5001 rfl .nil) rfl (.sr [oo, oo, oo, oo, oo, ([5001], [5001]), oo] mixed (.mvA rfl (.mvA rfl (.consA (.call .none (page_view_moved_ok hv32) (.cons (.s rfl) (.cons (.s rfl) .nil))) rfl (.consA (.extract .none (.s rfl) rfl) rfl (.consA (.extract .none (.s rfl) rfl) rfl (.consN (.storeAt0 (g := 5001) ty25 rfl (.s rfl) (.s rfl)) rfl (.asnA rfl (.nil (.freezeBox (g := 5001) (ts := [6]) rfl (.cons (t := 6) rfl trivial .nil) SubB.nil rfl (.ret ?_)))))))))))
     obtain rfl := some_eq h
     exact Ends.ret2 (.inl rfl) Tryd.results19 (ResOK.cellR ty25 rfl trivial Imp.refl) (ResOK.tmp rfl trivial Imp.refl)
theorem page_find_ok {d1 : Doc} {id1 : Str} {r : ((Option Page_view) × Int × Int)}  (h : page_find d1 id1 = some r) : FSpec Tryd.prog 24 [rep d1, rep id1] (tup [rep r.1, rep r.2.1, rep r.2.2]) := by
 unfold page_find at h
 obtain ⟨r1, hv1, h⟩ := bind_some h
 refine FSpec.intro (n := 32) fnok24 Tryd.func24 rfl Tryd.ntmps24 rfl (fun F => (.sr [] mixed (.cons (.box .none (.s rfl)) rfl (.cons (.assign .none (.const (x := (none : (Option Page_view))) (fun M w => ⟨_, ptr_zero, rfl⟩))) rfl (.asi (.asi (.nil (.sr [] mixed (.ld ty25 rfl (.cons (.call .none (page_look_ok hv1) (.cons (.s rfl) .nil)) rfl (.mv rfl (.cons (.extract .none (.s rfl) rfl) rfl (.cons (.extract .none (.s rfl) rfl) rfl (.asn rfl (.asn rfl (.nil (.seq (.sr [] mixed (.mv rfl (.cons (.neI .none (.s rfl) (.int (by decide))) rfl (.nil (.cb rfl h (fun _ h => ?_) fun _ h => ?_))))))))))))))))))))))
 ·
  refine .sr [] mixed (.mv rfl (.cons (.assign .none (.const (x := (none : (Option Page_view))) (fun M w => ⟨_, ptr_zero, rfl⟩))) rfl (.asi (.asn rfl (.nil (.ret (.thenRet ?_)))))))
  obtain rfl := some_eq h
  exact Ends.ret3 (.inl rfl) Tryd.results24 (ResOK.tmp rfl trivial Imp.refl) (ResOK.tmp rfl trivial Imp.refl) (ResOK.tmp rfl trivial Imp.refl)
 ·
  obtain ⟨v1, hv3, h⟩ := bind_some h
  refine .skip (.then (.seq (.isRef (t := 7) hv3 rfl trivial (.rg [] mixed (.mv rfl (.cons (.nilCheckR .none (.s rfl)) rfl (.fa fd63_1 hfd63_1 rfl (.ld ty60 rfl (.mv rfl (.cons (.lookupOk .none mo60 zo3 (.s rfl) (.s rfl)) rfl (.mv rfl (.cons (.extract .none (.s rfl) rfl) rfl (.cons (.extract .none (.s rfl) rfl) rfl (.asn rfl (.asn rfl (.nil (.then (.seq (.sr [] mixed (.mv rfl (.cons (.not .none (.s rfl)) rfl (.nil (.cb rfl h (fun _ h => ?_) fun _ h => ?_)))))))))))))))))))))))
  ·
   refine .sr [] mixed (.cons (.assign .none (.const (x := (none : (Option Page_view))) (fun M w => ⟨_, ptr_zero, rfl⟩))) rfl (.asi (.asi (.nil (.ret (.thenRet ?_))))))
   obtain rfl := some_eq h
   exact Ends.ret3 (.inl rfl) Tryd.results24 (ResOK.tmp rfl trivial Imp.refl) (ResOK.tmp rfl trivial Imp.refl) (ResOK.tmp rfl trivial Imp.refl)
  ·
   refine .skip (.then (.sr [] mixed (.mv rfl (.mv rfl (.asn rfl (.asn rfl (.asi (.nil (.ret ?_)))))))))
   obtain rfl := some_eq h
   exact Ends.ret3 (.inl rfl) Tryd.results24 (ResOK.tmp rfl trivial Imp.refSome) (ResOK.tmp rfl trivial Imp.refl) (ResOK.tmp rfl trivial Imp.refl)
end Go.Proofs.YtclcheggnlhamaaDoor
