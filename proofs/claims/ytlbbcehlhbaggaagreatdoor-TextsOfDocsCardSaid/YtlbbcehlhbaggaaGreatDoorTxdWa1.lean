/-
  The walks: what a function computes is what its plain function says (printed by a program of one's own).
-/
import Derived.Test.YtlbbcehlhbaggaaGreatDoorTxdFa
set_option maxRecDepth 100000
set_option linter.unusedSimpArgs false
set_option linter.unusedVariables false
namespace Go.Proofs.YtlbbcehlhbaggaaGreatDoor
open Go Go.DB Go.RowKit

theorem strings_Count_ok {s sep : Str} {r : Int} (h : strings_Count s sep = some r) : FSpec Tryz.prog 17 [rep s, rep sep] (rep r) := by
 obtain ⟨hn, h⟩ := need_some h
 obtain rfl := some_eq h
 exact countByteS_spec countStr_lay rfl fnok17 hn

theorem ref_Quote_ok {s r : Str} (h : ref_Quote s = some r) : FSpec Tryz.prog 107 [rep s] (rep r) := by
 obtain ⟨hn, h⟩ := need_some h
 obtain rfl := some_eq h
 exact quoteS_spec fnok107 (fun w => qt107_at s.b w hn (fun c w => Proofs.Any.strings_Count_one countStr_lay ⟨s.b.toArray⟩ c w))

theorem strconv_Itoa_ok {n : Int} {r : Str} (h : strconv_Itoa n = some r) : FSpec Tryz.prog 97 [rep n] (rep r) := by
 obtain ⟨hn, h⟩ := need_some h
 obtain rfl := some_eq h
 exact itoaS_spec itoaStr_lay rfl rfl fnok97 hn

theorem strings_Fields_ok {s : Str} {r : List Str} (h : strings_Fields s = some r) : FSpecO Tryz.prog 106 [rep s] [] (anyV) [some (rowV 9 r)] := by
 obtain ⟨hn, h⟩ := need_some h
 obtain rfl := some_eq h
 exact fieldsS_spec fieldsStr_lay (by kernel_rfl) (by kernel_rfl) (by kernel_rfl) rfl rfl rfl rfl fnok106 hn

theorem utf8_ValidString_ok {s : Str} {r : Bool} (h : utf8_ValidString s = some r) : FSpec Tryz.prog 103 [rep s] (rep r) := by
 obtain rfl := some_eq h
 exact validS_spec validStr_lay rfl rfl rfl fnok103

theorem strings_Trim_ok {s cs : Str} {r : Str} (h : strings_Trim s cs = some r) : FSpec Tryz.prog 95 [rep s, rep cs] (rep r) := by
 obtain ⟨hn, h⟩ := need_some h
 obtain rfl := some_eq h
 exact trimS_spec trimStr_lay (by kernel_rfl) rfl fnok95 hn

theorem strconv_Atoi_ok {s : Str} {r : Int × ErrB} (h : strconv_Atoi s = some r) : FSpec Tryz.prog 137 [rep s] (tup [rep r.1, rep r.2]) := by
 obtain ⟨hn, h⟩ := need_some h
 obtain rfl := some_eq h
 exact atoiI_spec atoiStr_lay rfl rfl rfl fnok137 hn

theorem strings_Split_ok {s sep : Str} {r : List Str} (h : strings_Split s sep = some r) : FSpecO Tryz.prog 78 [rep s, rep sep] [] (anyV) [some (rowV 9 r)] := by
 obtain ⟨hn, h⟩ := need_some h
 obtain rfl := some_eq h
 exact splitS_spec splitStr_lay (by kernel_rfl) rfl rfl rfl fnok78 hn.1 hn.2

theorem strings_IndexByte_ok {s : Str} {c : KI .u8} {r : Int} (h : strings_IndexByte s c = some r) : FSpec Tryz.prog 109 [rep s, rep c] (rep r) := by
 obtain ⟨hn, h⟩ := need_some h
 obtain rfl := some_eq h
 exact indexByteS_spec indexByteStr_lay rfl fnok109 hn

theorem strings_Cut_ok {s sep : Str} {r : Str × Str × Bool} (h : strings_Cut s sep = some r) : FSpec Tryz.prog 34 [rep s, rep sep] (tup [rep r.1, rep r.2.1, rep r.2.2]) := by
 obtain ⟨hn, h⟩ := need_some h
 obtain rfl := some_eq h
 exact cutS_spec cutStr_lay rfl rfl fnok34 hn

theorem strings_Builder_String_ok {m : Nat} {c r : Str} (h : strings_Builder_String c = some r) : FSpecO Tryz.prog 25 [isV (ptr m 0)] [(ptr m 0, bldC 50 5 c)] (rep r) [none] := by
 obtain ⟨hn, h⟩ := need_some h
 obtain rfl := some_eq h
 exact bldString_spec bldStringL_lay bldStringL_extra rfl rfl rfl fnok25 hn

theorem strings_Builder_Len_ok {m : Nat} {c : Str} {r : Int × Str} (h : strings_Builder_Len c = some r) : FSpecO Tryz.prog 24 [isV (ptr m 0)] [(ptr m 0, bldC 50 5 c)] (rep r.1) [some (bldC 50 5 r.2)] := by
 obtain ⟨hn, h⟩ := need_some h
 obtain rfl := some_eq h
 exact bldLen_spec bldLenL_lay rfl rfl rfl fnok24 hn

theorem strings_Builder_WriteString_ok {m : Nat} {c s r : Str} (h : strings_Builder_WriteString c s = some r) : FSpecO Tryz.prog 20 [isV (ptr m 0), rep s] [(ptr m 0, bldC 50 5 c)] anyV [some (bldC 50 5 r)] := by
 obtain ⟨hn, h⟩ := need_some h
 obtain rfl := some_eq h
 exact bldWrite_spec ws_at fnok20 hn

theorem edit_Quoted_ok {s r : Str} (h : edit_Quoted s = some r) : FSpec Tryz.prog 99 [rep s] (rep r) := by
 obtain ⟨hn, h⟩ := need_some h
 obtain rfl := some_eq h
 exact quoteS_spec fnok99 (fun w => qt99_at s.b w hn (fun c w => Proofs.Any.strings_Count_one countStr_lay ⟨s.b.toArray⟩ c w))

theorem strings_Join_ok {l : List Str} {sep : Str} {r : Str} (h : strings_Join l sep = some r) : FSpec Tryz.prog 98 [rep l, rep sep] (rep r) := by
 obtain ⟨hn, h⟩ := need_some h
 obtain rfl := some_eq h
 exact joinS_spec joinStr_lay joinStr_extra rfl fnok98 hn

theorem page_isName_ok {s1 : Str} {r : Bool}  (h : page_isName s1 = some r) : FSpec Tryz.prog 87 [rep s1] (rep r) := by
 unfold page_isName at h
 obtain ⟨hn1, h⟩ := need_some h
 obtain ⟨hn2, h⟩ := need_some h
 obtain ⟨r1, hv3, h⟩ := bind_some h
 refine FSpec.i Tryz.func87 rfl Tryz.ntmps87 rfl (fun F => (.sn mx (.asb (.nil (.sn mx (.mv rfl (.c (.neS .none (eqAt_str Tryz.underlying9) (.s rfl) (.str (l := []) (by decide))) (.mv rfl (.mg rfl rfl rfl (.c (.lenStr (.at rfl rfl) Tryz.underlying9 (.tmp rfl id)) (.c (.le (.at rfl rfl) (.tmp rfl id) .i) (.pa rfl rfl (.mv rfl (.mg rfl rfl rfl (.c (.indexStr (.at rfl rfl) Tryz.underlying9 (.tmp rfl id) .i (fun hg => hn1 hg.2)) (.c (.kgeq (.at rfl rfl) (.tmp rfl id) .ki) (.c (.move (.at rfl rfl) (.tmp rfl id)) (.mg rfl rfl rfl (.c (.indexStr (.at rfl rfl) Tryz.underlying9 (.tmp rfl id) .i (fun hg => hn2 hg.1.2 hg.2)) (.c (.kleq (.at rfl rfl) (.tmp rfl id) .ki) (.c (.pickAnd (.at rfl rfl) (.tmp rfl id) (.tmp rfl id)) (.pa rfl rfl (.mv rfl (.mg rfl rfl rfl (.c (.callIf (.at rfl rfl) fnok95 (fun hg => strings_Trim_ok ((fun hg => gd_some hv3 (hg.2)) hg)) (.cons (.tmp rfl id) (.cons (.str (l := [97, 98, 99, 100, 101, 102, 103, 104, 105, 106, 107, 108, 109, 110, 111, 112, 113, 114, 115, 116, 117, 118, 119, 120, 121, 122, 48, 49, 50, 51, 52, 53, 54, 55, 56, 57, 45]) (by decide)) .nil)) (fun h => h)) (.c (.eqS (.at rfl rfl) (eqAt_str Tryz.underlying9) (.tmp rfl id) (.str (l := []) (by decide))) (.pa rfl rfl (.asn rfl (.nil (.ret ?_))))))))))))))))))))))))))))))
 obtain rfl := some_eq h
 exact Ends.rt Tryz.results87 rfl

theorem geom_out_ok {n1 : Int} {r : Bool}  (h : geom_out n1 = some r) : FSpec Tryz.prog 117 [rep n1] (rep r) := by
 unfold geom_out at h
 refine FSpec.i Tryz.func117 rfl Tryz.ntmps117 rfl (fun F => (.sn mx (.asb (.nil (.sn mx (.mv rfl (.c (.lt .none (.s rfl) .i) (.mv rfl (.mg rfl rfl rfl (.c (.gt (.at rfl rfl) (.tmp rfl id) .i) (.po rfl rfl (.asn rfl (.nil (.ret ?_))))))))))))))
 obtain rfl := some_eq h
 exact Ends.rt Tryz.results117 rfl

theorem geom_CheckBox_ok {b1 : Box} {r : Int}  (h : geom_CheckBox b1 = some r) : FSpec Tryz.prog 88 [rep b1] (rep r) := by
 unfold geom_CheckBox at h
 obtain ⟨r1, hv1, h⟩ := bind_some h
 obtain ⟨r2, hv2, h⟩ := bind_some h
 refine FSpec.i Tryz.func88 rfl Tryz.ntmps88 rfl (fun F => (.sn mx (.c (.box .none (.s rfl)) (.asi (.nil (.seq (.sn mx (.fa fd57_0 hfd57_0 rfl (.ld ty3 rfl (.c (.call .none (geom_out_ok hv1) (.cons (.s rfl) .nil)) (.mv rfl (.fg fd57_1 hfd57_1 rfl rfl rfl (.lg ty3 rfl rfl rfl (.c (.callIf (.at rfl rfl) fnok117 (fun hg => geom_out_ok ((fun hg => gd_some hv2 ((notT hg.2))) hg)) (.cons (.tmp rfl id) .nil) (fun h => h)) (.po rfl rfl (.mv rfl (.fg fd57_2 hfd57_2 rfl rfl rfl (.lg ty3 rfl rfl rfl (.c (.lt (.at rfl rfl) (.tmp rfl id) .i) (.po rfl rfl (.mv rfl (.fg fd57_2 hfd57_2 rfl rfl rfl (.lg ty3 rfl rfl rfl (.c (.gt (.at rfl rfl) (.tmp rfl id) .i) (.po rfl rfl (.mv rfl (.fg fd57_3 hfd57_3 rfl rfl rfl (.lg ty3 rfl rfl rfl (.c (.lt (.at rfl rfl) (.tmp rfl id) .i) (.po rfl rfl (.mv rfl (.fg fd57_3 hfd57_3 rfl rfl rfl (.lg ty3 rfl rfl rfl (.c (.gt (.at rfl rfl) (.tmp rfl id) .i) (.po rfl rfl (.nil (.cb rfl h (fun _ h => ?_) fun _ h => ?_)))))))))))))))))))))))))))))))))))))
 ·
  refine .sn mx (.asi (.nil (.ret (.thenRet ?_))))
  obtain rfl := some_eq h
  exact Ends.rt Tryz.results88 rfl
 ·
  refine .skip (.then (.sn mx (.asi (.nil (.ret ?_)))))
  obtain rfl := some_eq h
  exact Ends.rt Tryz.results88 rfl

theorem shape_CheckText_ok {s1 : Str} {r : Int}  (h : shape_CheckText s1 = some r) : FSpec Tryz.prog 89 [rep s1] (rep r) := by
 unfold shape_CheckText at h
 refine FSpec.i Tryz.func89 rfl Tryz.ntmps89 rfl (fun F => (.sn mx (.asi (.nil (.seq (.sn mx (.mv rfl (.c (.lenStr .none Tryz.underlying9 (.s rfl)) (.c (.gt .none (.s rfl) .i) (.nil (.cb rfl h (fun _ h => ?_) fun _ h => ?_)))))))))))
 ·
  refine .sn mx (.asi (.nil (.ret (.thenRet ?_))))
  obtain rfl := some_eq h
  exact Ends.rt Tryz.results89 rfl
 ·
  obtain ⟨r1, hv2, h⟩ := bind_some h
  refine .skip (.then (.seq (.sn mx (.mv rfl (.c (.call .none (utf8_ValidString_ok hv2) (.cons (.s rfl) .nil)) (.c (.not .none (.s rfl)) (.nil (.cb rfl h (fun _ h => ?_) fun _ h => ?_))))))))
  ·
   refine .sn mx (.asi (.nil (.ret (.thenRet ?_))))
   obtain rfl := some_eq h
   exact Ends.rt Tryz.results89 rfl
  ·
   refine .skip (.then (.seq (.sn mx (.mv rfl (.c (.lenStr .none Tryz.underlying9 (.s rfl)) (.mvi (.nil ?_)))))))
   obtain ⟨o_4, h, hK4⟩ := bindR_some h
   refine .tJ (fun s => o_4 = Res.nx s) Sub.nil SubB.nil ?_ (fun j_4 hj4 => ?_)
   ·
    refine .block (.rforEL h (fun p5_ => [(12, ⟨True, rep p5_.1⟩)]) (fun p5_ => []) (.k 12 rfl .nil) SubB.nil (.k2 0 11 rfl rfl .nil) SubB.nil (fun p5_ o_5 h hD5 => (.sn mx (.lt rfl rfl (.nil (.seq (.cb rfl h (fun _ h => ?_) fun _ h => ?_)))))))
    ·
     refine .skip (.then (.seq ?_))
     obtain ⟨o_7, h, hK7⟩ := bindD_some h
     unfold shape_CheckText_L1 at h
     refine .tJ (fun s => o_7 = Res.nx s) (.k2 0 11 rfl rfl (.k 12 rfl .nil)) SubB.nil ?_ (fun j_7 hj7 => ?_)
     ·
      obtain ⟨hn8, h⟩ := need_some h
      obtain ⟨hn9, h⟩ := need_some h
      obtain ⟨hn10, h⟩ := need_some h
      refine .block (.sn mx (.mv rfl (.asn rfl (.nil (.sn mx (.mv rfl (.mv rfl (.c (.indexStr .none Tryz.underlying9 (.s rfl) (.s rfl) (fun _ => hn8)) (.c (.klss .none (.s rfl) .ki) (.mv rfl (.mg rfl rfl rfl (.mg rfl rfl rfl (.c (.indexStr (.at rfl rfl) Tryz.underlying9 (.tmp rfl id) (.tmp rfl id) (fun hg => hn9 hg.2)) (.c (.kneq (.at rfl rfl) (.tmp rfl id) .ki) (.pa rfl rfl (.mv rfl (.mg rfl rfl rfl (.mg rfl rfl rfl (.c (.indexStr (.at rfl rfl) Tryz.underlying9 (.tmp rfl id) (.tmp rfl id) (fun hg => hn10 hg.2)) (.c (.keql (.at rfl rfl) (.tmp rfl id) .ki) (.po rfl rfl (.nil (.cb rfl h (fun _ h => ?_) fun _ h => ?_)))))))))))))))))))))))
      ·
       refine .sn mx (.asi (.nil (.ret (.blkRet (.thenRet (.thenRet (.blkRet (.thenRet ?_))))))))
       replace h := resd_ab hK7 (some_eq h)
       replace h := hD5 _ (some_eq h)
       replace h := resb_ab hK4 (some_eq h)
       obtain rfl := some_eq h
       exact Ends.rt Tryz.results89 rfl
      ·
       exact .skip (.blkNormal (Ends.j _ (some_eq h)))
     ·
      have h := resd_nx hK7 hj7
      exact .rn mx (.adi rfl (.mv rfl (.nil (Ends.ag (some_eq h)))))
    ·
     refine .exit (.thenExit (.thenExit (.blkExit ?_)))
     replace h := hD5 _ (some_eq h)
     exact Ends.j _ (some_eq h)
   ·
    have h := resb_nx hK4 hj4
    refine .sn mx (.asi (.nil (.ret ?_)))
    obtain rfl := some_eq h
    exact Ends.rt Tryz.results89 rfl

theorem page_checkNode_ok {n1 : DNode} {twice1 : Bool} {r : Int}  (h : page_checkNode n1 twice1 = some r) : FSpec Tryz.prog 46 [rep n1, rep twice1] (rep r) := by
 unfold page_checkNode at h
 obtain ⟨r1, hv1, h⟩ := bind_some h
 refine FSpec.i Tryz.func46 rfl Tryz.ntmps46 rfl (fun F => (.sn mx (.c (.box .none (.s rfl)) (.asi (.nil (.seq (.block (.sn mx (.fa fd59_0 hfd59_0 rfl (.ld ty9 rfl (.c (.call .none (page_isName_ok hv1) (.cons (.s rfl) .nil)) (.c (.not .none (.s rfl)) (.asn rfl (.nil (.cb rfl h (fun _ h => ?_) fun _ h => ?_)))))))))))))))
 ·
  refine .sn mx (.asi (.nil (.ret (.blkRet (.thenRet ?_)))))
  obtain rfl := some_eq h
  exact Ends.rt Tryz.results46 rfl
 ·
  refine .sn mx (.mv rfl (.asn rfl (.nil (.cb rfl h (fun _ h => ?_) fun _ h => ?_))))
  ·
   refine .sn mx (.asi (.nil (.ret (.blkRet (.thenRet ?_)))))
   obtain rfl := some_eq h
   exact Ends.rt Tryz.results46 rfl
  ·
   refine .sn mx (.fa fd59_1 hfd59_1 rfl (.ld ty3 rfl (.c (.lt .none (.s rfl) .i) (.mv rfl (.fg fd59_1 hfd59_1 rfl rfl rfl (.lg ty3 rfl rfl rfl (.c (.gt (.at rfl rfl) (.tmp rfl id) .i) (.po rfl rfl (.asn rfl (.nil (.cb rfl h (fun _ h => ?_) fun _ h => ?_)))))))))))
   ·
    refine .sn mx (.asi (.nil (.ret (.blkRet (.thenRet ?_)))))
    obtain rfl := some_eq h
    exact Ends.rt Tryz.results46 rfl
   ·
    refine .sn mx (.fa fd59_1 hfd59_1 rfl (.ld ty3 rfl (.eqi rfl (.mv rfl (.fg fd59_2 hfd59_2 rfl rfl rfl (.lg ty57 rfl rfl rfl (.c (.buildF (y := (⟨(0 : Int), (0 : Int), (0 : Int), (0 : Int)⟩ : Box)) (.at rfl rfl) bu57 zc57 rfl .nil .nil) (.c (.neS (.at rfl rfl) eq57 (.tmp rfl id) (.tmp rfl id)) (.pa rfl rfl (.asn rfl (.nil (.cb rfl h (fun _ h => ?_) fun _ h => ?_))))))))))))
    ·
     refine .sn mx (.asi (.nil (.ret (.blkRet (.thenRet ?_)))))
     obtain rfl := some_eq h
     exact Ends.rt Tryz.results46 rfl
    ·
     refine .skip (.blkNormal (.then (.seq (.sn mx (.fa fd59_1 hfd59_1 rfl (.ld ty3 rfl (.nei rfl (.nil ?_))))))))
     obtain ⟨o_6, h, hK6⟩ := bindR_some h
     refine .tJ (fun s => o_6 = Res.nx s) (.k 2 rfl .nil) SubB.nil ?_ (fun j_6 hj6 => ?_)
     ·
      refine .cb rfl h (fun _ h => ?_) fun _ h => ?_
      ·
       obtain ⟨e1, hv8, h⟩ := bind_some h
       refine .sn mx (.fa fd59_2 hfd59_2 rfl (.ld ty57 rfl (.c (.call .none (geom_CheckBox_ok hv8) (.cons (.s rfl) .nil)) (.asn rfl (.nil (.sn mx (.mv rfl (.nei rfl (.nil (.cb rfl h (fun _ h => ?_) fun _ h => ?_))))))))))
       ·
        refine .sn mx (.mv rfl (.asn rfl (.nil (.ret (.thenRet ?_)))))
        replace h := resb_ab hK6 (some_eq h)
        obtain rfl := some_eq h
        exact Ends.rt Tryz.results46 rfl
       ·
        exact .skip (Ends.j _ (some_eq h))
      ·
       exact .skip (Ends.j _ (some_eq h))
     ·
      have h := resb_nx hK6 hj6
      obtain ⟨e2, hv10, h⟩ := bind_some h
      refine .seq (.sn mx (.fa fd59_3 hfd59_3 rfl (.ld ty9 rfl (.c (.call .none (shape_CheckText_ok hv10) (.cons (.s rfl) .nil)) (.asn rfl (.nil (.sn mx (.mv rfl (.nei rfl (.nil (.cb rfl h (fun _ h => ?_) fun _ h => ?_)))))))))))
      ·
       refine .sn mx (.mv rfl (.asn rfl (.nil (.ret (.thenRet ?_)))))
       obtain rfl := some_eq h
       exact Ends.rt Tryz.results46 rfl
      ·
       obtain ⟨r2, hv12, h⟩ := bind_some h
       refine .skip (.then (.seq (.sn mx (.fa fd59_4 hfd59_4 rfl (.ld ty9 rfl (.c (.neS .none (eqAt_str Tryz.underlying9) (.s rfl) (.str (l := []) (by decide))) (.mv rfl (.fg fd59_4 hfd59_4 rfl rfl rfl (.lg ty9 rfl rfl rfl (.c (.callIf (.at rfl rfl) fnok87 (fun hg => page_isName_ok ((fun hg => gd_some hv12 (hg.2)) hg)) (.cons (.tmp rfl id) .nil) (fun h => h)) (.c (.not (.at rfl rfl) (.tmp rfl id)) (.pa rfl rfl (.nil (.cb rfl h (fun _ h => ?_) fun _ h => ?_))))))))))))))
       ·
        refine .sn mx (.asi (.nil (.ret (.thenRet ?_))))
        obtain rfl := some_eq h
        exact Ends.rt Tryz.results46 rfl
       ·
        refine .skip (.then (.sn mx (.asi (.nil (.ret ?_)))))
        obtain rfl := some_eq h
        exact Ends.rt Tryz.results46 rfl

theorem page_viewOf_ok {d1 : Doc} {r : (Option Page_view)}  (h : page_viewOf d1 = some r) : FSpec Tryz.prog 47 [rep d1] (rep r) := by
 unfold page_viewOf at h
 obtain ⟨c1, hv1, h⟩ := bnd_some h
 obtain ⟨c2, hv2, h⟩ := bnd_some h
 refine FSpec.i Tryz.func47 rfl Tryz.ntmps47 rfl (fun F => (.sn mx (.c (.box .none (.s rfl)) (.c (.assign .none (.const (x := (none : (Option Page_view))) (fun M w => ⟨_, ptr_zero, rfl⟩))) (.nil (.sr [oo, ([], [7]), ([], [8]), ([7, 8], [9, 7, 8]), ([9], [10, 9]), ([10], [3, 10])] mx (.ldA ty25 rfl (.cW (.makeMap (K := Str) (V := Int) rfl) (.cW (.makeMapW (K := Str) (α := Int) (E := 3) rfl) (.cW (.buildG2 (t1 := 7) (t2 := 8) oneMap oneMapW (mk := (fun z1 z2 => (⟨d1, ⟨z1⟩, ⟨z2⟩⟩ : Page_view_o12))) bu141 zvc_Page_view_o12 rfl rfl rfl rfl rfl rfl rfl rfl rfl (fun _ _ => (.cons (.s rfl) (.cons (.s rfl) (.cons (.s rfl) .nil)))) (fun _ _ => (.cons rfl sv_Page_view_o12_0 (.cons rfl sv_Page_view_o12_1 (.cons rfl sv_Page_view_o12_2 .nil))))) (.cW (.boxG2 (t := 9) rfl rfl) (.cW (.passRow rfl (.tmp rfl)) (.nil (.nameAt (t := 3) (g := 5001) rfl rfl (isBox_deep fun _ => (isBox_deep fun _ => isBox_cont)) rfl (fun m5001 => (.open (k := 5001) (g := 5002) rfl rfl (fun s5002 => (.open (k := 5001) (g := 5003) rfl rfl (fun s5003 => (.seq (.sn mx (.fa fd25_0 hfd25_0 rfl (.ld ty22 rfl (.ln sl22 rfl (.mvi (.nil (.reB (t := 5002) rfl (congrArg (fun y => CPred.at s5002 (mapV y)) hv1) (.reB (t := 5003) rfl (congrArg (fun y => CPred.at s5003 (mapW 3 y)) hv2) ?_))))))))))))))))))))))))))))
 obtain ⟨j_3, h, hK3⟩ := bind_some h
 refine .thenJ (ι := ((GMap Str Int) × (GMap Str (List Int)))) (fun j_3 => []) (fun j_3 => [(5002, some (CPred.at s5002 (mapV j_3.1))), (5003, some (CPred.at s5003 (mapW 3 j_3.2)))]) (fun s => j_3 = s) (.k 3 rfl .nil) (.k 5001 rfl .nil) ?_ (fun j_3' hj3 => ?_)
 ·
  refine .block (.rforL h (fun p4_ => [(14, ⟨True, rep p4_.1⟩)]) (fun p4_ => [(5002, some (CPred.at s5002 (mapV p4_.2.1))), (5003, some (CPred.at s5003 (mapW 3 p4_.2.2)))]) (.k 14 rfl .nil) (.k2 5002 5003 rfl rfl .nil) (.k2 3 12 rfl rfl (.k 13 rfl .nil)) (.k 5001 rfl .nil) (fun p4_ o_4 h hD4 => (.sn mx (.lt rfl rfl (.nil (.seq (.cb rfl h (fun _ h => ?_) fun _ h => ?_)))))))
  ·
   refine .skip (.then (.seq ?_))
   obtain ⟨j_6, h, hK6⟩ := bind_some h
   unfold page_viewOf_L1 at h
   refine .thenJ (ι := ((GMap Str Int) × (GMap Str (List Int)))) (fun j_6 => []) (fun j_6 => [(5002, some (CPred.at s5002 (mapV j_6.1))), (5003, some (CPred.at s5003 (mapW 3 j_6.2)))]) (fun s => j_6 = s) (.k4 3 12 13 14 rfl rfl rfl rfl .nil) (.k 5001 rfl .nil) ?_ (fun j_6' hj6 => ?_)
   ·
    obtain ⟨hn7, h⟩ := need_some h
    obtain ⟨v1, hv8, h⟩ := bnd_some h
    obtain ⟨c3, hv9, h⟩ := bnd_some h
    refine .block (.sr [oo, oo, oo, ([], [5]), oo, ([5], [5])] mx (.mvA rfl (.ixA sl22 ty59 rfl rfl hn7 (.rlA hv8 ty59 rfl (.al zo59 rfl (.asnA rfl (.st ty59 rfl rfl rfl (.nil (.freeze (t := 5) rfl rfl (.k2 5001 5002 rfl rfl (.k 5003 rfl .nil)) rfl (.sr [oo, oo, oo, ([5001], []), oo, oo, oo, ([5002], [5002])] mx (.mvA rfl (.cA (.nilCheckP .none (.s rfl)) (.cA (.fieldPtr .none fd141_1 (.s rfl)) (.cA (.loadAt (k := 5001) .none tr138 rfl (.s rfl) hv_Page_view_o12_1) (.faA fd59_0 hfd59_0 rfl (.ldA ty9 rfl (.mvA rfl (.cN (.mapUpdate (q := 5002) mo138 (.s rfl) rfl (.s rfl) (.s rfl)) (.nil (.reB (t := 5002) rfl (congrArg (fun y => CPred.at s5002 (mapV y)) hv9) (.sn mx (.fa fd59_5 hfd59_5 rfl (.ld ty9 rfl (.c (.neS .none (eqAt_str Tryz.underlying9) (.s rfl) (.str (l := []) (by decide))) (.nil (.cb rfl h (fun _ h => ?_) fun _ h => ?_))))))))))))))))))))))))))
    ·
     obtain ⟨hn11, h⟩ := need_some h
     exact .rg [oo, oo, oo, ([5001], []), oo, oo, oo, oo, oo, ([5001], []), oo, oo, ([5003], [41, 5003]), oo, oo, ([41], [44, 41]), ([5003, 44], [5003, 44])] mx (.mvA rfl (.cA (.nilCheckP .none (.s rfl)) (.cA (.fieldPtr .none fd141_2 (.s rfl)) (.cA (.loadAt (k := 5001) .none tr139 rfl (.s rfl) hv_Page_view_o12_2) (.faA fd59_5 hfd59_5 rfl (.ldA ty9 rfl (.mvA rfl (.cA (.nilCheckP .none (.s rfl)) (.cA (.fieldPtr .none fd141_2 (.s rfl)) (.cA (.loadAt (k := 5001) .none tr139 rfl (.s rfl) hv_Page_view_o12_2) (.faA fd59_5 hfd59_5 rfl (.ldA ty9 rfl (.cW (.mapTake (q := 5003) mo139 zraw104 rfl rfl (.s rfl) rfl (.s rfl)) (.mvA rfl (.cA (.buildSlice (xs := [_]) .none sl104 ty3 hz3 (.cons (.s rfl) .nil) rfl (by decide)) (.cW (.append (k := 41) rk104 rfl (.tmp rfl) (.s rfl) hn11) (.cN (.mapPut (q := 5003) (t := 44) mo139 rfl (.s rfl) rfl (fun _ h => h) rfl rfl (.s rfl)) (.nil (.blkNormal (Ends.j _ (some_eq h)))))))))))))))))))))
    ·
     exact .skip (.blkNormal (Ends.j _ (some_eq h)))
   ·
    subst hj6; have h := hK6; clear hK6
    exact .rn mx (.adi rfl (.mv rfl (.nil (Ends.ag (some_eq h)))))
  ·
   refine .exit (.thenExit (.thenExit (.blkExit ?_)))
   replace h := hD4 _ (some_eq h)
   exact Ends.j _ (some_eq h)
 ·
  subst hj3; have h := hK3; clear hK3
  refine .close (k := 5001) (g := 5003) (fun z => cont 141 (⟨d1, ⟨s5002⟩, ⟨z⟩⟩ : Page_view_o12)) rfl rfl rfl (.close (k := 5001) (g := 5002) (fun z => deep (fun z0 => cont 141 (⟨d1, ⟨z⟩, ⟨z0⟩⟩ : Page_view_o12)) (mapW 3 j_3.2)) rfl rfl rfl (.freezeAt (g := 5001) (S := ref ((⟨d1, j_3.1, j_3.2⟩ : Page_view) : Page_view)) (ts := [3]) rfl (.cons (t := 3) rfl trivial .nil) SubB.nil rfl (fun M D w h hms => deep_ref2 (mk := (fun s1_ s2_ => (⟨d1, ⟨s1_⟩, ⟨s2_⟩⟩ : Page_view_o12))) (y := ((⟨d1, j_3.1, j_3.2⟩ : Page_view) : Page_view)) frzMap frzMapW rfl (fun M s1_ s2_ cs w hc g1 g2 => by obtain ⟨c0, q0, e0, h0, c1, q1, e1, h1, h2⟩ := hc; exact ⟨c0, q0, e0, h0, c1, q1, e1, raw_cells rfl rfl h1 g1, raw_cells rfl rfl h2 g2⟩) M D w h hms) (.sn mx (.mv rfl (.asn rfl (.nil (.ret ?_)))))))
  obtain rfl := some_eq h
  exact Ends.ret1 (.inl rfl) Tryz.results47 (ResOK.tmp rfl trivial Imp.refSome)

theorem page_view_node_ok {v1 : Page_view} {id1 : Str} {r : DNode}  (h : page_view_node v1 id1 = some r) : FSpec Tryz.prog 118 [ref v1, rep id1] (rep r) := by
 unfold page_view_node at h
 obtain ⟨v2, hv1, h⟩ := bnd_some h
 obtain ⟨hn2, h⟩ := need_some h
 obtain ⟨v3, hv3, h⟩ := bnd_some h
 refine FSpec.i Tryz.func118 rfl Tryz.ntmps118 rfl (fun F => (.sr [([], [4])] mx (.al zo59 rfl (.nil (.reB (t := 4) rfl (congrArg (cont 59) hv1) (.nameBox (t := 4) (g := 5001) rfl rfl (fun m5001 => (.sr [oo, oo, oo, oo, oo, oo, oo, oo, oo, oo, oo, oo, oo, ([5001], [5001])] mx (.mvA rfl (.cA (.nilCheckR .none (.s rfl)) (.faA fd141_0 hfd141_0 rfl (.faA fd25_0 hfd25_0 rfl (.ldA ty22 rfl (.mvA rfl (.cA (.nilCheckR .none (.s rfl)) (.faA fd141_1 hfd141_1 rfl (.ldA ty138 rfl (.mvA rfl (.cA (.lookup .none mo138 zo3 (.s rfl) (.s rfl)) (.ixA sl22 ty59 rfl rfl hn2 (.rlA hv3 ty59 rfl (.s0 5001 ty59 rfl rfl rfl (.nil (.fb 5001 [4] rfl (.cons (t := 4) rfl trivial .nil) (.ret ?_)))))))))))))))))))))))))
 obtain rfl := some_eq h
 exact Ends.ret1 (.inl rfl) Tryz.results118 (ResOK.cellR ty59 rfl trivial Imp.refl)

theorem page_view_above_ok {v1 : Page_view} {n1 : DNode} {r : (Int × Bool)}  (h : page_view_above v1 n1 = some r) : FSpec Tryz.prog 90 [ref v1, rep n1] (tup [rep r.1, rep r.2]) := by
 unfold page_view_above at h
 refine FSpec.i Tryz.func90 rfl Tryz.ntmps90 rfl (fun F => (.sr [([], [3]), oo, oo] mx (.cW (.boxO rfl (.s rfl)) (.cA (.assign .none .i) (.cA (.assign .none .bool) (.nil (.nameBox (t := 3) (g := 5001) rfl rfl (fun m5001 => (.sr [oo, ([5001], []), oo, oo] mx (.cA (.fieldPtr .none fd59_0 (.s rfl)) (.cA (.loadAt (k := 5001) .none ty9 rfl (.s rfl) hfd59_0) (.asnA rfl (.cA (.assign .none .i) (.nil (.seq ?_)))))))))))))))
 obtain ⟨o_1, h, hK1⟩ := bindR_some h
 refine .thenJ (ι := Int) (fun j_1 => [(7, ⟨True, rep j_1⟩)]) (fun j_1 => []) (fun s => o_1 = Res.nx s) Sub.nil SubB.nil ?_ (fun j_1 hj1 => ?_)
 ·
  refine .block (.loopL h (fun s2_ => [(7, ⟨True, rep s2_.1⟩)]) (fun s2_ => [(5001, some (boxAt m5001 59 s2_.2))]) (.k 7 rfl .nil) (.k 5001 rfl .nil) (.k2 0 3 rfl rfl (.k 6 rfl .nil)) SubB.nil (fun s2_ o_2 h hD2 => ?_))
  unfold page_view_above_L1 at h
  refine .seq (.sr [oo, ([5001], []), oo] mx (.cA (.fieldPtr .none fd59_5 (.s rfl)) (.cA (.loadAt (k := 5001) .none ty9 rfl (.s rfl) hfd59_5) (.cA (.neS .none (eqAt_str Tryz.underlying9) (.s rfl) (.str (l := []) (by decide))) (.nil (.cb rfl h (fun _ h => ?_) fun _ h => ?_))))))
  ·
   obtain ⟨many1, hv4, h⟩ := bnd_some h
   refine .skip (.then (.block (.seq (.sn mx (.mv rfl (.adi rfl (.ra hv4 rfl (.nil (.sr [oo, ([5001], []), oo, oo, oo, oo, oo, oo, oo, oo, oo, oo, oo, oo] mx (.cA (.fieldPtr .none fd59_5 (.s rfl)) (.cA (.loadAt (k := 5001) .none ty9 rfl (.s rfl) hfd59_5) (.mvA rfl (.cA (.eqS .none (eqAt_str Tryz.underlying9) (.s rfl) (.s rfl)) (.mvA rfl (.cA (.move (.at rfl rfl) (.s rfl)) (.cA (.move (.at rfl rfl) (.s rfl)) (.cA (.nilCheckR (.at rfl rfl) (.tmp rfl id)) (.cA (.fieldAddr (.at rfl rfl) fd141_0 hfd141_0 (.tmp rfl id)) (.cA (.fieldAddr (.at rfl rfl) fd25_0 hfd25_0 (.tmp rfl id)) (.cA (.load (.at rfl rfl) ty22 (.tmp rfl id)) (.cA (.len (.at rfl rfl) sl22 (.tmp rfl id)) (.cA (.gt (.at rfl rfl) (.tmp rfl id) (.tmp rfl id)) (.cA (.pickOr .none (.s rfl) (.tmp rfl id)) (.nil (.cb rfl h (fun _ h => ?_) fun _ h => ?_)))))))))))))))))))))))))
   ·
    refine .sr [oo, oo, ([5001], []), oo, oo, oo, oo] mx (.mvA rfl (.cA (.fieldPtr .none fd59_5 (.s rfl)) (.cA (.loadAt (k := 5001) .none ty9 rfl (.s rfl) hfd59_5) (.mvA rfl (.cA (.neS .none (eqAt_str Tryz.underlying9) (.s rfl) (.s rfl)) (.asnA rfl (.asnA rfl (.nil (.ret (.thenRet (.blkRet (.thenRet (.blkRet (.thenRet ?_))))))))))))))
    replace h := hD2 _ (some_eq h)
    replace h := resb_ab hK1 (some_eq h)
    obtain rfl := some_eq h
    exact Ends.ret2 (.inl rfl) Tryz.results90 (ResOK.tmp rfl trivial Imp.refl) (ResOK.tmp rfl trivial Imp.refl)
   ·
    obtain ⟨r1, hv6, h⟩ := bind_some h
    exact .skip (.then (.rg [oo, oo, ([5001], []), oo, ([5001], [5001])] mx (.mvA rfl (.cA (.fieldPtr .none fd59_5 (.s rfl)) (.cA (.loadAt (k := 5001) .none ty9 rfl (.s rfl) hfd59_5) (.cA (.call .none (page_view_node_ok hv6) (.cons (.s rfl) (.cons (.s rfl) .nil))) (.s0 5001 ty59 rfl rfl rfl (.nil (.blkNormal (Ends.ag (some_eq h)))))))))))
  ·
   refine .exit (.thenExit (.thenExit (.blkExit ?_)))
   replace h := hD2 _ (some_eq h)
   exact Ends.j _ (some_eq h)
 ·
  have h := resb_nx hK1 hj1
  refine .sn mx (.mv rfl (.asn rfl (.asb (.nil (.ret ?_)))))
  obtain rfl := some_eq h
  exact Ends.ret2 (.inl rfl) Tryz.results90 (ResOK.tmp rfl trivial Imp.refl) (ResOK.tmp rfl trivial Imp.refl)

theorem page_view_checkGroups_ok {v1 : Page_view} {r : Int}  (h : page_view_checkGroups v1 = some r) : FSpec Tryz.prog 48 [ref v1] (rep r) := by
 unfold page_view_checkGroups at h
 refine FSpec.i Tryz.func48 rfl Tryz.ntmps48 rfl (fun F => (.sn mx (.asi (.nil (.seq (.sn mx (.mv rfl (.c (.nilCheckR .none (.s rfl)) (.fa fd141_0 hfd141_0 rfl (.fa fd25_0 hfd25_0 rfl (.ld ty22 rfl (.ln sl22 rfl (.mvi (.nil ?_))))))))))))))
 obtain ⟨o_1, h, hK1⟩ := bindR_some h
 refine .tJ (fun s => o_1 = Res.nx s) (.k 0 rfl .nil) SubB.nil ?_ (fun j_1 hj1 => ?_)
 ·
  refine .block (.rforEL h (fun p2_ => [(23, ⟨True, rep p2_.1⟩)]) (fun p2_ => []) (.k 23 rfl .nil) SubB.nil (.k2 0 21 rfl rfl (.k 22 rfl .nil)) SubB.nil (fun p2_ o_2 h hD2 => (.sn mx (.lt rfl rfl (.nil (.seq (.cb rfl h (fun _ h => ?_) fun _ h => ?_)))))))
  ·
   refine .skip (.then (.seq ?_))
   obtain ⟨o_4, h, hK4⟩ := bindD_some h
   unfold page_view_checkGroups_L1 at h
   refine .tJ (fun s => o_4 = Res.nx s) (.k4 0 21 22 23 rfl rfl rfl rfl .nil) SubB.nil ?_ (fun j_4 hj4 => ?_)
   ·
    obtain ⟨hn5, h⟩ := need_some h
    obtain ⟨v2, hv6, h⟩ := bnd_some h
    obtain ⟨hn7, h⟩ := need_some h
    refine .block (.sr [oo, oo, ([], [4]), ([4], [4])] mx (.ixA sl22 ty59 rfl rfl hn5 (.rlA hv6 ty59 rfl (.al zo59 rfl (.st ty59 rfl rfl rfl (.nil (.freeze (t := 4) rfl rfl SubB.nil rfl (.sn mx (.mv rfl (.c (.nilCheckR .none (.s rfl)) (.fa fd141_1 hfd141_1 rfl (.ld ty138 rfl (.fa fd59_5 hfd59_5 rfl (.ld ty9 rfl (.c (.lookupOk .none mo138 zo3 (.s rfl) (.s rfl)) (.mv rfl (.ex rfl rfl (.ex rfl rfl (.asn rfl (.asn rfl (.nil (.sn mx (.fa fd59_5 hfd59_5 rfl (.ld ty9 rfl (.c (.neS .none (eqAt_str Tryz.underlying9) (.s rfl) (.str (l := []) (by decide))) (.mv rfl (.mg rfl rfl rfl (.c (.not (.at rfl rfl) (.tmp rfl id)) (.c (.move (.at rfl rfl) (.tmp rfl id)) (.mg rfl rfl rfl (.c (.nilCheckR (.at rfl rfl) (.tmp rfl id)) (.c (.fieldAddr (.at rfl rfl) fd141_0 hfd141_0 (.tmp rfl id)) (.c (.fieldAddr (.at rfl rfl) fd25_0 hfd25_0 (.tmp rfl id)) (.lg ty22 rfl rfl rfl (.mg rfl rfl rfl (.c (.indexAddr (.at rfl rfl) sl22 ty59 (.tmp rfl id) (.tmp rfl id) (fun hg => hn7 hg.1.2 hg.2)) (.c (.fieldAddr (.at rfl rfl) fd59_1 hfd59_1 (.tmp rfl id)) (.lg ty3 rfl rfl rfl (.c (.neI (.at rfl rfl) (.tmp rfl id) .i) (.c (.pickOr (.at rfl rfl) (.tmp rfl id) (.tmp rfl id)) (.pa rfl rfl (.nil (.cb rfl h (fun _ h => ?_) fun _ h => ?_)))))))))))))))))))))))))))))))))))))))))))
    ·
     refine .sn mx (.asi (.nil (.ret (.blkRet (.thenRet (.thenRet (.blkRet (.thenRet ?_))))))))
     replace h := resd_ab hK4 (some_eq h)
     replace h := hD2 _ (some_eq h)
     replace h := resb_ab hK1 (some_eq h)
     obtain rfl := some_eq h
     exact Ends.rt Tryz.results48 rfl
    ·
     exact .skip (.blkNormal (Ends.j _ (some_eq h)))
   ·
    have h := resd_nx hK4 hj4
    exact .rn mx (.adi rfl (.mv rfl (.nil (Ends.ag (some_eq h)))))
  ·
   refine .exit (.thenExit (.thenExit (.blkExit ?_)))
   replace h := hD2 _ (some_eq h)
   exact Ends.j _ (some_eq h)
 ·
  have h := resb_nx hK1 hj1
  refine .seq (.sn mx (.mv rfl (.c (.nilCheckR .none (.s rfl)) (.fa fd141_0 hfd141_0 rfl (.fa fd25_0 hfd25_0 rfl (.ld ty22 rfl (.ln sl22 rfl (.mvi (.nil ?_)))))))))
  obtain ⟨o_9, h, hK9⟩ := bindR_some h
  refine .tJ (fun s => o_9 = Res.nx s) (.k 0 rfl .nil) SubB.nil ?_ (fun j_9 hj9 => ?_)
  ·
   refine .block (.rforEL h (fun p10_ => [(63, ⟨True, rep p10_.1⟩)]) (fun p10_ => []) (.k 63 rfl .nil) SubB.nil (.k2 0 61 rfl rfl (.k 62 rfl .nil)) SubB.nil (fun p10_ o_10 h hD10 => (.sn mx (.lt rfl rfl (.nil (.seq (.cb rfl h (fun _ h => ?_) fun _ h => ?_)))))))
   ·
    refine .skip (.then (.seq ?_))
    obtain ⟨o_12, h, hK12⟩ := bindD_some h
    unfold page_view_checkGroups_L2 at h
    refine .tJ (fun s => o_12 = Res.nx s) (.k4 0 61 62 63 rfl rfl rfl rfl .nil) SubB.nil ?_ (fun j_12 hj12 => ?_)
    ·
     obtain ⟨hn13, h⟩ := need_some h
     obtain ⟨v3, hv14, h⟩ := bnd_some h
     obtain ⟨r1, hv15, h⟩ := bind_some h
     refine .block (.sr [oo, oo, ([], [8]), ([8], [8])] mx (.ixA sl22 ty59 rfl rfl hn13 (.rlA hv14 ty59 rfl (.al zo59 rfl (.st ty59 rfl rfl rfl (.nil (.freeze (t := 8) rfl rfl SubB.nil rfl (.sn mx (.mv rfl (.ld ty59 rfl (.c (.call .none (page_view_above_ok hv15) (.cons (.s rfl) (.cons (.s rfl) .nil))) (.mv rfl (.ex rfl rfl (.ex rfl rfl (.asn rfl (.asn rfl (.nil (.sn mx (.mv rfl (.c (.not .none (.s rfl)) (.nil (.cb rfl h (fun _ h => ?_) fun _ h => ?_))))))))))))))))))))))
     ·
      refine .sn mx (.asi (.nil (.ret (.blkRet (.thenRet (.thenRet (.blkRet (.thenRet ?_))))))))
      replace h := resd_ab hK12 (some_eq h)
      replace h := hD10 _ (some_eq h)
      replace h := resb_ab hK9 (some_eq h)
      obtain rfl := some_eq h
      exact Ends.rt Tryz.results48 rfl
     ·
      exact .skip (.blkNormal (Ends.j _ (some_eq h)))
    ·
     have h := resd_nx hK12 hj12
     exact .rn mx (.adi rfl (.mv rfl (.nil (Ends.ag (some_eq h)))))
   ·
    refine .exit (.thenExit (.thenExit (.blkExit ?_)))
    replace h := hD10 _ (some_eq h)
    exact Ends.j _ (some_eq h)
  ·
   have h := resb_nx hK9 hj9
   refine .seq (.sn mx (.mv rfl (.c (.nilCheckR .none (.s rfl)) (.fa fd141_0 hfd141_0 rfl (.fa fd25_0 hfd25_0 rfl (.ld ty22 rfl (.ln sl22 rfl (.mvi (.nil ?_)))))))))
   obtain ⟨o_17, h, hK17⟩ := bindR_some h
   refine .tJ (fun s => o_17 = Res.nx s) (.k 0 rfl .nil) SubB.nil ?_ (fun j_17 hj17 => ?_)
   ·
    refine .block (.rforEL h (fun p18_ => [(82, ⟨True, rep p18_.1⟩)]) (fun p18_ => []) (.k 82 rfl .nil) SubB.nil (.k2 0 80 rfl rfl (.k 81 rfl .nil)) SubB.nil (fun p18_ o_18 h hD18 => (.sn mx (.lt rfl rfl (.nil (.seq (.cb rfl h (fun _ h => ?_) fun _ h => ?_)))))))
    ·
     refine .skip (.then (.seq ?_))
     obtain ⟨o_20, h, hK20⟩ := bindD_some h
     unfold page_view_checkGroups_L3 at h
     refine .tJ (fun s => o_20 = Res.nx s) (.k4 0 80 81 82 rfl rfl rfl rfl .nil) SubB.nil ?_ (fun j_20 hj20 => ?_)
     ·
      obtain ⟨hn21, h⟩ := need_some h
      obtain ⟨v4, hv22, h⟩ := bnd_some h
      obtain ⟨r2, hv23, h⟩ := bind_some h
      refine .block (.sr [oo, oo, ([], [12]), ([12], [12])] mx (.ixA sl22 ty59 rfl rfl hn21 (.rlA hv22 ty59 rfl (.al zo59 rfl (.st ty59 rfl rfl rfl (.nil (.freeze (t := 12) rfl rfl SubB.nil rfl (.sn mx (.mv rfl (.ld ty59 rfl (.c (.call .none (page_view_above_ok hv23) (.cons (.s rfl) (.cons (.s rfl) .nil))) (.mv rfl (.ex rfl rfl (.ex rfl rfl (.asn rfl (.asn rfl (.nil (.sn mx (.mv rfl (.c (.gt .none (.s rfl) .i) (.nil (.cb rfl h (fun _ h => ?_) fun _ h => ?_))))))))))))))))))))))
      ·
       refine .sn mx (.asi (.nil (.ret (.blkRet (.thenRet (.thenRet (.blkRet (.thenRet ?_))))))))
       replace h := resd_ab hK20 (some_eq h)
       replace h := hD18 _ (some_eq h)
       replace h := resb_ab hK17 (some_eq h)
       obtain rfl := some_eq h
       exact Ends.rt Tryz.results48 rfl
      ·
       exact .skip (.blkNormal (Ends.j _ (some_eq h)))
     ·
      have h := resd_nx hK20 hj20
      exact .rn mx (.adi rfl (.mv rfl (.nil (Ends.ag (some_eq h)))))
    ·
     refine .exit (.thenExit (.thenExit (.blkExit ?_)))
     replace h := hD18 _ (some_eq h)
     exact Ends.j _ (some_eq h)
   ·
    have h := resb_nx hK17 hj17
    refine .seq (.sn mx (.mv rfl (.c (.nilCheckR .none (.s rfl)) (.fa fd141_0 hfd141_0 rfl (.fa fd25_0 hfd25_0 rfl (.ld ty22 rfl (.ln sl22 rfl (.mvi (.nil ?_)))))))))
    obtain ⟨o_25, h, hK25⟩ := bindR_some h
    refine .tJ (fun s => o_25 = Res.nx s) Sub.nil SubB.nil ?_ (fun j_25 hj25 => ?_)
    ·
     refine .block (.rforEL h (fun p26_ => [(101, ⟨True, rep p26_.1⟩)]) (fun p26_ => []) (.k 101 rfl .nil) SubB.nil (.k2 0 99 rfl rfl (.k 100 rfl .nil)) SubB.nil (fun p26_ o_26 h hD26 => (.sn mx (.lt rfl rfl (.nil (.seq (.cb rfl h (fun _ h => ?_) fun _ h => ?_)))))))
     ·
      refine .skip (.then (.seq ?_))
      obtain ⟨o_28, h, hK28⟩ := bindD_some h
      unfold page_view_checkGroups_L4 at h
      refine .tJ (fun s => o_28 = Res.nx s) (.k4 0 99 100 101 rfl rfl rfl rfl .nil) SubB.nil ?_ (fun j_28 hj28 => ?_)
      ·
       obtain ⟨hn29, h⟩ := need_some h
       obtain ⟨v5, hv30, h⟩ := bnd_some h
       refine .block (.sr [oo, oo, ([], [16]), ([16], [16])] mx (.ixA sl22 ty59 rfl rfl hn29 (.rlA hv30 ty59 rfl (.al zo59 rfl (.st ty59 rfl rfl rfl (.nil (.freeze (t := 16) rfl rfl SubB.nil rfl (.sn mx (.fa fd59_1 hfd59_1 rfl (.ld ty3 rfl (.eqi rfl (.mv rfl (.mg rfl rfl rfl (.c (.nilCheckR (.at rfl rfl) (.tmp rfl id)) (.c (.fieldAddr (.at rfl rfl) fd141_2 hfd141_2 (.tmp rfl id)) (.lg ty139 rfl rfl rfl (.fg fd59_0 hfd59_0 rfl rfl rfl (.lg ty9 rfl rfl rfl (.c (.lookup (.at rfl rfl) mo139 zo104 (.tmp rfl id) (.tmp rfl id)) (.c (.len (.at rfl rfl) sl104 (.tmp rfl id)) (.c (.eqI (.at rfl rfl) (.tmp rfl id) .i) (.pa rfl rfl (.nil (.cb rfl h (fun _ h => ?_) fun _ h => ?_))))))))))))))))))))))))
       ·
        refine .sn mx (.asi (.nil (.ret (.blkRet (.thenRet (.thenRet (.blkRet (.thenRet ?_))))))))
        replace h := resd_ab hK28 (some_eq h)
        replace h := hD26 _ (some_eq h)
        replace h := resb_ab hK25 (some_eq h)
        obtain rfl := some_eq h
        exact Ends.rt Tryz.results48 rfl
       ·
        exact .skip (.blkNormal (Ends.j _ (some_eq h)))
      ·
       have h := resd_nx hK28 hj28
       exact .rn mx (.adi rfl (.mv rfl (.nil (Ends.ag (some_eq h)))))
     ·
      refine .exit (.thenExit (.thenExit (.blkExit ?_)))
      replace h := hD26 _ (some_eq h)
      exact Ends.j _ (some_eq h)
    ·
     have h := resb_nx hK25 hj25
     refine .sn mx (.asi (.nil (.ret ?_)))
     obtain rfl := some_eq h
     exact Ends.rt Tryz.results48 rfl

theorem page_view_checkEnd_ok {v1 : Page_view} {x1 : DEnd} {r : Int}  (h : page_view_checkEnd v1 x1 = some r) : FSpec Tryz.prog 91 [ref v1, rep x1] (rep r) := by
 unfold page_view_checkEnd at h
 refine FSpec.i Tryz.func91 rfl Tryz.ntmps91 rfl (fun F => (.sn mx (.c (.box .none (.s rfl)) (.asi (.nil (.sn mx (.mv rfl (.c (.nilCheckR .none (.s rfl)) (.fa fd141_1 hfd141_1 rfl (.ld ty138 rfl (.fa fd62_0 hfd62_0 rfl (.ld ty9 rfl (.c (.lookupOk .none mo138 zo3 (.s rfl) (.s rfl)) (.mv rfl (.ex rfl rfl (.ex rfl rfl (.asn rfl (.asn rfl (.nil (.seq (.block (.sn mx (.mv rfl (.c (.not .none (.s rfl)) (.asn rfl (.nil (.cb rfl h (fun _ h => ?_) fun _ h => ?_)))))))))))))))))))))))))))
 ·
  refine .sn mx (.asi (.nil (.ret (.blkRet (.thenRet ?_)))))
  obtain rfl := some_eq h
  exact Ends.rt Tryz.results91 rfl
 ·
  obtain ⟨hn2, h⟩ := need_some h
  refine .sn mx (.mv rfl (.c (.nilCheckR .none (.s rfl)) (.fa fd141_0 hfd141_0 rfl (.fa fd25_0 hfd25_0 rfl (.ld ty22 rfl (.mv rfl (.ix sl22 ty59 rfl rfl hn2 (.fa fd59_1 hfd59_1 rfl (.ld ty3 rfl (.eqi rfl (.asn rfl (.nil (.cb rfl h (fun _ h => ?_) fun _ h => ?_)))))))))))))
  ·
   refine .sn mx (.asi (.nil (.ret (.blkRet (.thenRet ?_)))))
   obtain rfl := some_eq h
   exact Ends.rt Tryz.results91 rfl
  ·
   refine .sn mx (.fa fd62_1 hfd62_1 rfl (.ld ty3 rfl (.c (.lt .none (.s rfl) .i) (.mv rfl (.fg fd62_1 hfd62_1 rfl rfl rfl (.lg ty3 rfl rfl rfl (.c (.gt (.at rfl rfl) (.tmp rfl id) .i) (.po rfl rfl (.mv rfl (.fg fd62_2 hfd62_2 rfl rfl rfl (.lg ty3 rfl rfl rfl (.c (.lt (.at rfl rfl) (.tmp rfl id) .i) (.po rfl rfl (.mv rfl (.fg fd62_2 hfd62_2 rfl rfl rfl (.lg ty3 rfl rfl rfl (.c (.gt (.at rfl rfl) (.tmp rfl id) .i) (.po rfl rfl (.asn rfl (.nil (.cb rfl h (fun _ h => ?_) fun _ h => ?_)))))))))))))))))))))
   ·
    refine .sn mx (.asi (.nil (.ret (.blkRet (.thenRet ?_)))))
    obtain rfl := some_eq h
    exact Ends.rt Tryz.results91 rfl
   ·
    refine .skip (.blkNormal (.then (.sn mx (.asi (.nil (.ret ?_))))))
    obtain rfl := some_eq h
    exact Ends.rt Tryz.results91 rfl

theorem geom_CheckPoint_ok {p1 : Point} {r : Int}  (h : geom_CheckPoint p1 = some r) : FSpec Tryz.prog 140 [rep p1] (rep r) := by
 unfold geom_CheckPoint at h
 obtain ⟨r1, hv1, h⟩ := bind_some h
 obtain ⟨r2, hv2, h⟩ := bind_some h
 refine FSpec.i Tryz.func140 rfl Tryz.ntmps140 rfl (fun F => (.sn mx (.c (.box .none (.s rfl)) (.asi (.nil (.seq (.sn mx (.fa fd89_0 hfd89_0 rfl (.ld ty3 rfl (.c (.call .none (geom_out_ok hv1) (.cons (.s rfl) .nil)) (.mv rfl (.fg fd89_1 hfd89_1 rfl rfl rfl (.lg ty3 rfl rfl rfl (.c (.callIf (.at rfl rfl) fnok117 (fun hg => geom_out_ok ((fun hg => gd_some hv2 ((notT hg.2))) hg)) (.cons (.tmp rfl id) .nil) (fun h => h)) (.po rfl rfl (.nil (.cb rfl h (fun _ h => ?_) fun _ h => ?_)))))))))))))))))
 ·
  refine .sn mx (.asi (.nil (.ret (.thenRet ?_))))
  obtain rfl := some_eq h
  exact Ends.rt Tryz.results140 rfl
 ·
  refine .skip (.then (.sn mx (.asi (.nil (.ret ?_)))))
  obtain rfl := some_eq h
  exact Ends.rt Tryz.results140 rfl

theorem geom_points_ok {l1 : (List Point)} {r : Int}  (h : geom_points l1 = some r) : FSpec Tryz.prog 119 [rep l1] (rep r) := by
 unfold geom_points at h
 refine FSpec.i Tryz.func119 rfl Tryz.ntmps119 rfl (fun F => (.sn mx (.asi (.nil (.seq (.sn mx (.mv rfl (.ln sl63 rfl (.mvi (.nil ?_))))))))))
 obtain ⟨o_1, h, hK1⟩ := bindR_some h
 refine .tJ (fun s => o_1 = Res.nx s) Sub.nil SubB.nil ?_ (fun j_1 hj1 => ?_)
 ·
  refine .block (.rforEL h (fun p2_ => [(8, ⟨True, rep p2_.1⟩)]) (fun p2_ => []) (.k 8 rfl .nil) SubB.nil (.k2 6 7 rfl rfl .nil) SubB.nil (fun p2_ o_2 h hD2 => (.sn mx (.lt rfl rfl (.nil (.seq (.cb rfl h (fun _ h => ?_) fun _ h => ?_)))))))
  ·
   refine .skip (.then (.seq ?_))
   obtain ⟨o_4, h, hK4⟩ := bindD_some h
   unfold geom_points_L1 at h
   refine .tJ (fun s => o_4 = Res.nx s) (.k2 6 7 rfl rfl (.k 8 rfl .nil)) SubB.nil ?_ (fun j_4 hj4 => ?_)
   ·
    obtain ⟨hn5, h⟩ := need_some h
    obtain ⟨v1, hv6, h⟩ := bnd_some h
    obtain ⟨e1, hv7, h⟩ := bind_some h
    refine .block (.sr [oo, oo, ([], [4]), ([4], [4])] mx (.ixA sl63 ty89 rfl rfl hn5 (.rlA hv6 ty89 rfl (.al zo89 rfl (.st ty89 rfl rfl rfl (.nil (.freeze (t := 4) rfl rfl SubB.nil rfl (.sn mx (.ld ty89 rfl (.c (.call .none (geom_CheckPoint_ok hv7) (.cons (.s rfl) .nil)) (.asn rfl (.nil (.sn mx (.mv rfl (.nei rfl (.nil (.cb rfl h (fun _ h => ?_) fun _ h => ?_)))))))))))))))))
    ·
     refine .sn mx (.mv rfl (.asn rfl (.nil (.ret (.blkRet (.thenRet (.thenRet (.blkRet (.thenRet ?_)))))))))
     replace h := resd_ab hK4 (some_eq h)
     replace h := hD2 _ (some_eq h)
     replace h := resb_ab hK1 (some_eq h)
     obtain rfl := some_eq h
     exact Ends.rt Tryz.results119 rfl
    ·
     exact .skip (.blkNormal (Ends.j _ (some_eq h)))
   ·
    have h := resd_nx hK4 hj4
    exact .rn mx (.adi rfl (.mv rfl (.nil (Ends.ag (some_eq h)))))
  ·
   refine .exit (.thenExit (.thenExit (.blkExit ?_)))
   replace h := hD2 _ (some_eq h)
   exact Ends.j _ (some_eq h)
 ·
  have h := resb_nx hK1 hj1
  refine .sn mx (.asi (.nil (.ret ?_)))
  obtain rfl := some_eq h
  exact Ends.rt Tryz.results119 rfl

theorem geom_CheckPoints_ok {l1 : (List Point)} {r : Int}  (h : geom_CheckPoints l1 = some r) : FSpec Tryz.prog 92 [rep l1] (rep r) := by
 unfold geom_CheckPoints at h
 refine FSpec.i Tryz.func92 rfl Tryz.ntmps92 rfl (fun F => (.sn mx (.asi (.nil (.seq (.sn mx (.mv rfl (.ln sl63 rfl (.c (.gt .none (.s rfl) .i) (.nil (.cb rfl h (fun _ h => ?_) fun _ h => ?_)))))))))))
 ·
  refine .sn mx (.asi (.nil (.ret (.thenRet ?_))))
  obtain rfl := some_eq h
  exact Ends.rt Tryz.results92 rfl
 ·
  obtain ⟨r1, hv2, h⟩ := bind_some h
  refine .skip (.then (.sn mx (.mv rfl (.c (.call .none (geom_points_ok hv2) (.cons (.s rfl) .nil)) (.asn rfl (.nil (.ret ?_)))))))
  obtain rfl := some_eq h
  exact Ends.rt Tryz.results92 rfl

theorem page_view_checkEdge_ok {v1 : Page_view} {x1 : DEdge} {twice1 : Bool} {r : Int}  (h : page_view_checkEdge v1 x1 twice1 = some r) : FSpec Tryz.prog 49 [ref v1, rep x1, rep twice1] (rep r) := by
 unfold page_view_checkEdge at h
 obtain ⟨r1, hv1, h⟩ := bind_some h
 refine FSpec.i Tryz.func49 rfl Tryz.ntmps49 rfl (fun F => (.sn mx (.c (.box .none (.s rfl)) (.asi (.nil (.seq (.block (.sn mx (.fa fd65_0 hfd65_0 rfl (.ld ty9 rfl (.c (.call .none (page_isName_ok hv1) (.cons (.s rfl) .nil)) (.c (.not .none (.s rfl)) (.asn rfl (.nil (.cb rfl h (fun _ h => ?_) fun _ h => ?_)))))))))))))))
 ·
  refine .sn mx (.asi (.nil (.ret (.blkRet (.thenRet ?_)))))
  obtain rfl := some_eq h
  exact Ends.rt Tryz.results49 rfl
 ·
  refine .sn mx (.mv rfl (.asn rfl (.nil (.cb rfl h (fun _ h => ?_) fun _ h => ?_))))
  ·
   refine .sn mx (.asi (.nil (.ret (.blkRet (.thenRet ?_)))))
   obtain rfl := some_eq h
   exact Ends.rt Tryz.results49 rfl
  ·
   obtain ⟨v2, hv4, h⟩ := bnd_some h
   refine .skip (.blkNormal (.then (.seq (.sn mx (.fa fd65_1 hfd65_1 rfl (.ld ty62 rfl (.fa fd65_2 hfd65_2 rfl (.ld ty62 rfl (.c (.re hv4 (.buildSlice (xs := [_, _]) .none sl117 ty62 hz62 (.cons (.s rfl) (.cons (.s rfl) .nil)) rfl (by decide))) (.ln sl117 rfl (.mvi (.nil ?_))))))))))))
   obtain ⟨o_5, h, hK5⟩ := bindR_some h
   refine .tJ (fun s => o_5 = Res.nx s) (.k 4 rfl .nil) SubB.nil ?_ (fun j_5 hj5 => ?_)
   ·
    refine .block (.rforEL h (fun p6_ => [(25, ⟨True, rep p6_.1⟩)]) (fun p6_ => []) (.k 25 rfl .nil) SubB.nil (.k4 0 4 23 24 rfl rfl rfl rfl .nil) SubB.nil (fun p6_ o_6 h hD6 => (.sn mx (.lt rfl rfl (.nil (.seq (.cb rfl h (fun _ h => ?_) fun _ h => ?_)))))))
    ·
     refine .skip (.then (.seq ?_))
     obtain ⟨o_8, h, hK8⟩ := bindD_some h
     unfold page_view_checkEdge_L1 at h
     refine .tJ (fun s => o_8 = Res.nx s) (.k4 0 4 23 24 rfl rfl rfl rfl (.k 25 rfl .nil)) SubB.nil ?_ (fun j_8 hj8 => ?_)
     ·
      obtain ⟨hn9, h⟩ := need_some h
      obtain ⟨v3, hv10, h⟩ := bnd_some h
      obtain ⟨e1, hv11, h⟩ := bind_some h
      refine .block (.sr [oo, oo, ([], [8]), ([8], [8])] mx (.ixA sl117 ty62 rfl rfl hn9 (.rlA hv10 ty62 rfl (.al zo62 rfl (.st ty62 rfl rfl rfl (.nil (.freeze (t := 8) rfl rfl SubB.nil rfl (.sn mx (.mv rfl (.ld ty62 rfl (.c (.call .none (page_view_checkEnd_ok hv11) (.cons (.s rfl) (.cons (.s rfl) .nil))) (.asn rfl (.nil (.sn mx (.mv rfl (.nei rfl (.nil (.cb rfl h (fun _ h => ?_) fun _ h => ?_))))))))))))))))))
      ·
       refine .sn mx (.mv rfl (.asn rfl (.nil (.ret (.blkRet (.thenRet (.thenRet (.blkRet (.thenRet ?_)))))))))
       replace h := resd_ab hK8 (some_eq h)
       replace h := hD6 _ (some_eq h)
       replace h := resb_ab hK5 (some_eq h)
       obtain rfl := some_eq h
       exact Ends.rt Tryz.results49 rfl
      ·
       exact .skip (.blkNormal (Ends.j _ (some_eq h)))
     ·
      have h := resd_nx hK8 hj8
      exact .rn mx (.adi rfl (.mv rfl (.nil (Ends.ag (some_eq h)))))
    ·
     refine .exit (.thenExit (.thenExit (.blkExit ?_)))
     replace h := hD6 _ (some_eq h)
     exact Ends.j _ (some_eq h)
   ·
    have h := resb_nx hK5 hj5
    refine .seq (.sn mx (.fa fd65_3 hfd65_3 rfl (.ld ty63 rfl (.ln sl63 rfl (.c (.gt .none (.s rfl) .i) (.nil (.cb rfl h (fun _ h => ?_) fun _ h => ?_)))))))
    ·
     refine .sn mx (.asi (.nil (.ret (.thenRet ?_))))
     obtain rfl := some_eq h
     exact Ends.rt Tryz.results49 rfl
    ·
     obtain ⟨e2, hv14, h⟩ := bind_some h
     refine .skip (.then (.seq (.sn mx (.fa fd65_3 hfd65_3 rfl (.ld ty63 rfl (.c (.call .none (geom_CheckPoints_ok hv14) (.cons (.s rfl) .nil)) (.asn rfl (.nil (.sn mx (.mv rfl (.nei rfl (.nil (.cb rfl h (fun _ h => ?_) fun _ h => ?_)))))))))))))
     ·
      refine .sn mx (.mv rfl (.asn rfl (.nil (.ret (.thenRet ?_)))))
      obtain rfl := some_eq h
      exact Ends.rt Tryz.results49 rfl
     ·
      obtain ⟨e3, hv16, h⟩ := bind_some h
      refine .skip (.then (.seq (.sn mx (.fa fd65_4 hfd65_4 rfl (.ld ty9 rfl (.c (.call .none (shape_CheckText_ok hv16) (.cons (.s rfl) .nil)) (.asn rfl (.nil (.sn mx (.mv rfl (.nei rfl (.nil (.cb rfl h (fun _ h => ?_) fun _ h => ?_)))))))))))))
      ·
       refine .sn mx (.mv rfl (.asn rfl (.nil (.ret (.thenRet ?_)))))
       obtain rfl := some_eq h
       exact Ends.rt Tryz.results49 rfl
      ·
       obtain ⟨r2, hv18, h⟩ := bind_some h
       refine .skip (.then (.seq (.sn mx (.fa fd65_5 hfd65_5 rfl (.ld ty9 rfl (.c (.neS .none (eqAt_str Tryz.underlying9) (.s rfl) (.str (l := []) (by decide))) (.mv rfl (.fg fd65_5 hfd65_5 rfl rfl rfl (.lg ty9 rfl rfl rfl (.c (.callIf (.at rfl rfl) fnok87 (fun hg => page_isName_ok ((fun hg => gd_some hv18 (hg.2)) hg)) (.cons (.tmp rfl id) .nil) (fun h => h)) (.c (.not (.at rfl rfl) (.tmp rfl id)) (.pa rfl rfl (.nil (.cb rfl h (fun _ h => ?_) fun _ h => ?_))))))))))))))
       ·
        refine .sn mx (.asi (.nil (.ret (.thenRet ?_))))
        obtain rfl := some_eq h
        exact Ends.rt Tryz.results49 rfl
       ·
        refine .skip (.then (.sn mx (.asi (.nil (.ret ?_)))))
        obtain rfl := some_eq h
        exact Ends.rt Tryz.results49 rfl

theorem geom_boxes_ok {l1 : (List Box)} {r : Int}  (h : geom_boxes l1 = some r) : FSpec Tryz.prog 120 [rep l1] (rep r) := by
 unfold geom_boxes at h
 refine FSpec.i Tryz.func120 rfl Tryz.ntmps120 rfl (fun F => (.sn mx (.asi (.nil (.seq (.sn mx (.mv rfl (.ln sl120 rfl (.mvi (.nil ?_))))))))))
 obtain ⟨o_1, h, hK1⟩ := bindR_some h
 refine .tJ (fun s => o_1 = Res.nx s) Sub.nil SubB.nil ?_ (fun j_1 hj1 => ?_)
 ·
  refine .block (.rforEL h (fun p2_ => [(8, ⟨True, rep p2_.1⟩)]) (fun p2_ => []) (.k 8 rfl .nil) SubB.nil (.k2 6 7 rfl rfl .nil) SubB.nil (fun p2_ o_2 h hD2 => (.sn mx (.lt rfl rfl (.nil (.seq (.cb rfl h (fun _ h => ?_) fun _ h => ?_)))))))
  ·
   refine .skip (.then (.seq ?_))
   obtain ⟨o_4, h, hK4⟩ := bindD_some h
   unfold geom_boxes_L1 at h
   refine .tJ (fun s => o_4 = Res.nx s) (.k2 6 7 rfl rfl (.k 8 rfl .nil)) SubB.nil ?_ (fun j_4 hj4 => ?_)
   ·
    obtain ⟨hn5, h⟩ := need_some h
    obtain ⟨v1, hv6, h⟩ := bnd_some h
    obtain ⟨e1, hv7, h⟩ := bind_some h
    refine .block (.sr [oo, oo, ([], [4]), ([4], [4])] mx (.ixA sl120 ty57 rfl rfl hn5 (.rlA hv6 ty57 rfl (.al zo57 rfl (.st ty57 rfl rfl rfl (.nil (.freeze (t := 4) rfl rfl SubB.nil rfl (.sn mx (.ld ty57 rfl (.c (.call .none (geom_CheckBox_ok hv7) (.cons (.s rfl) .nil)) (.asn rfl (.nil (.sn mx (.mv rfl (.nei rfl (.nil (.cb rfl h (fun _ h => ?_) fun _ h => ?_)))))))))))))))))
    ·
     refine .sn mx (.mv rfl (.asn rfl (.nil (.ret (.blkRet (.thenRet (.thenRet (.blkRet (.thenRet ?_)))))))))
     replace h := resd_ab hK4 (some_eq h)
     replace h := hD2 _ (some_eq h)
     replace h := resb_ab hK1 (some_eq h)
     obtain rfl := some_eq h
     exact Ends.rt Tryz.results120 rfl
    ·
     exact .skip (.blkNormal (Ends.j _ (some_eq h)))
   ·
    have h := resd_nx hK4 hj4
    exact .rn mx (.adi rfl (.mv rfl (.nil (Ends.ag (some_eq h)))))
  ·
   refine .exit (.thenExit (.thenExit (.blkExit ?_)))
   replace h := hD2 _ (some_eq h)
   exact Ends.j _ (some_eq h)
 ·
  have h := resb_nx hK1 hj1
  refine .sn mx (.asi (.nil (.ret ?_)))
  obtain rfl := some_eq h
  exact Ends.rt Tryz.results120 rfl

theorem geom_Hull_ok {l1 : (List Box)} {r : (Box × Int)}  (h : geom_Hull l1 = some r) : FSpec Tryz.prog 93 [rep l1] (tup [rep r.1, rep r.2]) := by
 unfold geom_Hull at h
 obtain ⟨v1, hv1, h⟩ := bnd_some h
 refine FSpec.i Tryz.func93 rfl Tryz.ntmps93 rfl (fun F => (.sr [([], [2]), oo] mx (.al zo57 rfl (.cA (.assign .none .i) (.nil (.reB (t := 2) rfl (congrArg (cont 57) hv1) (.nameBox (t := 2) (g := 5001) rfl rfl (fun m5001 => (.seq (.sn mx (.mv rfl (.ln sl120 rfl (.c (.gt .none (.s rfl) .i) (.nil (.cb rfl h (fun _ h => ?_) fun _ h => ?_)))))))))))))))
 ·
  obtain ⟨v2, hv3, h⟩ := bnd_some h
  refine .sr [oo, ([5001], [5001]), oo] mx (.cA (.re hv3 (.buildF (y := (⟨(0 : Int), (0 : Int), (0 : Int), (0 : Int)⟩ : Box)) .none bu57 zc57 rfl .nil .nil)) (.s0 5001 ty57 rfl rfl rfl (.cA (.assign .none .i) (.nil (.fb 5001 [2] rfl (.cons (t := 2) rfl trivial .nil) (.ret (.thenRet ?_)))))))
  obtain rfl := some_eq h
  exact Ends.r2 Tryz.results93 ty57 rfl rfl
 ·
  obtain ⟨e1, hv4, h⟩ := bind_some h
  refine .skip (.then (.seq (.sn mx (.mv rfl (.c (.call .none (geom_boxes_ok hv4) (.cons (.s rfl) .nil)) (.asn rfl (.nil (.sn mx (.mv rfl (.nei rfl (.nil (.cb rfl h (fun _ h => ?_) fun _ h => ?_))))))))))))
  ·
   obtain ⟨v3, hv6, h⟩ := bnd_some h
   refine .sr [oo, oo, ([5001], [5001]), oo] mx (.cA (.re hv6 (.buildF (y := (⟨(0 : Int), (0 : Int), (0 : Int), (0 : Int)⟩ : Box)) .none bu57 zc57 rfl .nil .nil)) (.mvA rfl (.s0 5001 ty57 rfl rfl rfl (.asnA rfl (.nil (.fb 5001 [2] rfl (.cons (t := 2) rfl trivial .nil) (.ret (.thenRet ?_))))))))
   obtain rfl := some_eq h
   exact Ends.r2 Tryz.results93 ty57 rfl rfl
  ·
   refine .skip (.then (.seq (.sn mx (.mv rfl (.ln sl120 rfl (.eqi rfl (.nil (.cb rfl h (fun _ h => ?_) fun _ h => ?_))))))))
   ·
    obtain ⟨v4, hv8, h⟩ := bnd_some h
    refine .sr [oo, ([5001], [5001]), oo] mx (.cA (.re hv8 (.buildF (y := (⟨(0 : Int), (0 : Int), (0 : Int), (0 : Int)⟩ : Box)) .none bu57 zc57 rfl .nil .nil)) (.s0 5001 ty57 rfl rfl rfl (.cA (.assign .none .i) (.nil (.fb 5001 [2] rfl (.cons (t := 2) rfl trivial .nil) (.ret (.thenRet ?_)))))))
    obtain rfl := some_eq h
    exact Ends.r2 Tryz.results93 ty57 rfl rfl
   ·
    obtain ⟨hn9, h⟩ := need_some h
    obtain ⟨v5, hv10, h⟩ := bnd_some h
    refine .skip (.then (.sr [oo, oo, oo, ([], [5]), ([5], [5])] mx (.mvA rfl (.cA (.indexAddr .none sl120 ty57 (.s rfl) .i (fun _ => hn9)) (.rlA hv10 ty57 rfl (.al zo57 rfl (.st ty57 rfl rfl rfl (.nil (.nameBox (t := 5) (g := 5002) rfl rfl (fun m5002 => (.seq (.sn mx (.mv rfl (.ln sl120 rfl (.mvi (.nil ?_))))))))))))))))
    obtain ⟨j_11, h, hK11⟩ := bind_some h
    refine .thenJ (ι := Box) (fun j_11 => []) (fun j_11 => [(5002, some (boxAt m5002 57 j_11))]) (fun s => j_11 = s) (.k2 2 5 rfl rfl .nil) (.k 5001 rfl .nil) ?_ (fun j_11' hj11 => ?_)
    ·
     refine .block (.rforL h (fun p12_ => [(29, ⟨True, rep p12_.1⟩)]) (fun p12_ => [(5002, some (boxAt m5002 57 p12_.2))]) (.k 29 rfl .nil) (.k 5002 rfl .nil) (.k4 2 5 27 28 rfl rfl rfl rfl .nil) (.k 5001 rfl .nil) (fun p12_ o_12 h hD12 => (.sn mx (.lt rfl rfl (.nil (.seq (.cb rfl h (fun _ h => ?_) fun _ h => ?_)))))))
     ·
      refine .skip (.then (.seq ?_))
      obtain ⟨j_14, h, hK14⟩ := bind_some h
      unfold geom_Hull_L1 at h
      refine .thenJ (ι := Box) (fun j_14 => []) (fun j_14 => [(5002, some (boxAt m5002 57 j_14))]) (fun s => j_14 = s) (.k4 2 5 27 28 rfl rfl rfl rfl (.k 29 rfl .nil)) (.k 5001 rfl .nil) ?_ (fun j_14' hj14 => ?_)
      ·
       obtain ⟨hn15, h⟩ := need_some h
       obtain ⟨v6, hv16, h⟩ := bnd_some h
       obtain ⟨x1, hv17, h⟩ := bnd_some h
       obtain ⟨y1, hv18, h⟩ := bnd_some h
       obtain ⟨v7, hv19, h⟩ := bnd_some h
       refine .block (.sr [oo, oo, ([], [7]), ([7], [7])] mx (.ixA sl120 ty57 rfl rfl hn15 (.rlA hv16 ty57 rfl (.al zo57 rfl (.st ty57 rfl rfl rfl (.nil (.freeze (t := 7) rfl rfl (.k2 5001 5002 rfl rfl .nil) rfl (.sr [oo, ([5002], []), oo, oo, oo, oo, ([5002], []), oo, oo, oo, oo, oo] mx (.cA (.fieldPtr .none fd57_0 (.s rfl)) (.cA (.loadAt (k := 5002) .none ty3 rfl (.s rfl) hfd57_0) (.faA fd57_0 hfd57_0 rfl (.ldA ty3 rfl (.cA (.min2 .none (.s rfl) (.s rfl)) (.cA (.fieldPtr .none fd57_1 (.s rfl)) (.cA (.loadAt (k := 5002) .none ty3 rfl (.s rfl) hfd57_1) (.faA fd57_1 hfd57_1 rfl (.ldA ty3 rfl (.cA (.min2 .none (.s rfl) (.s rfl)) (.cA (.re hv17 (.assign .none (.s rfl))) (.cA (.re hv18 (.assign .none (.s rfl))) (.nil (.rg [oo, oo, oo, ([5002], []), oo, ([5002], []), oo, oo, oo, oo, oo, oo, oo, oo, oo, oo, ([5002], []), oo, ([5002], []), oo, oo, oo, oo, oo, oo, oo, oo, oo, oo, ([5002], [5002])] mx (.mvA rfl (.mvA rfl (.cA (.fieldPtr .none fd57_0 (.s rfl)) (.cA (.loadAt (k := 5002) .none ty3 rfl (.s rfl) hfd57_0) (.cA (.fieldPtr .none fd57_2 (.s rfl)) (.cA (.loadAt (k := 5002) .none ty3 rfl (.s rfl) hfd57_2) (.addA rfl rfl (.faA fd57_0 hfd57_0 rfl (.ldA ty3 rfl (.faA fd57_2 hfd57_2 rfl (.ldA ty3 rfl (.addA rfl rfl (.cA (.max2 .none (.s rfl) (.s rfl)) (.mvA rfl (.subA rfl rfl (.cA (.fieldPtr .none fd57_1 (.s rfl)) (.cA (.loadAt (k := 5002) .none ty3 rfl (.s rfl) hfd57_1) (.cA (.fieldPtr .none fd57_3 (.s rfl)) (.cA (.loadAt (k := 5002) .none ty3 rfl (.s rfl) hfd57_3) (.addA rfl rfl (.faA fd57_1 hfd57_1 rfl (.ldA ty3 rfl (.faA fd57_3 hfd57_3 rfl (.ldA ty3 rfl (.addA rfl rfl (.cA (.max2 .none (.s rfl) (.s rfl)) (.mvA rfl (.subA rfl rfl (.cA (.re hv19 (.buildF (y := (⟨x1, y1, W ((max (W (p12_.2.X + p12_.2.W_)) (W (v6.X + v6.W_))) - x1), W ((max (W (p12_.2.Y + p12_.2.H)) (W (v6.Y + v6.H))) - y1)⟩ : Box)) .none bu57 zc57 rfl (.cons (.s rfl) (.cons (.s rfl) (.cons (.s rfl) (.cons (.s rfl) .nil)))) (.cons rfl sf57_0 (.cons rfl sf57_1 (.cons rfl sf57_2 (.cons rfl sf57_3 .nil)))))) ?_)))))))))))))))))))))))))))))))))))))))))))))))))))
       exact .s0 5002 ty57 rfl rfl rfl (.nil (.blkNormal (Ends.j _ (some_eq h))))
      ·
       subst hj14; have h := hK14; clear hK14
       exact .rn mx (.adi rfl (.mv rfl (.nil (Ends.ag (some_eq h)))))
     ·
      refine .exit (.thenExit (.thenExit (.blkExit ?_)))
      replace h := hD12 _ (some_eq h)
      exact Ends.j _ (some_eq h)
    ·
     subst hj11; have h := hK11; clear hK11
     refine .freezeBox (g := 5002) (ts := [5]) rfl (.cons (t := 5) rfl trivial .nil) (.k 5001 rfl .nil) rfl (.seq (.sn mx (.fa fd57_2 hfd57_2 rfl (.ld ty3 rfl (.c (.gt .none (.s rfl) .i) (.mv rfl (.fg fd57_3 hfd57_3 rfl rfl rfl (.lg ty3 rfl rfl rfl (.c (.gt (.at rfl rfl) (.tmp rfl id) .i) (.po rfl rfl (.nil (.cb rfl h (fun _ h => ?_) fun _ h => ?_))))))))))))
     ·
      obtain ⟨v8, hv21, h⟩ := bnd_some h
      refine .sr [oo, ([5001], [5001]), oo] mx (.cA (.re hv21 (.buildF (y := (⟨(0 : Int), (0 : Int), (0 : Int), (0 : Int)⟩ : Box)) .none bu57 zc57 rfl .nil .nil)) (.s0 5001 ty57 rfl rfl rfl (.cA (.assign .none .i) (.nil (.fb 5001 [2] rfl (.cons (t := 2) rfl trivial .nil) (.ret (.thenRet ?_)))))))
      obtain rfl := some_eq h
      exact Ends.r2 Tryz.results93 ty57 rfl rfl
     ·
      refine .skip (.then (.sr [oo, ([5001], [5001]), oo] mx (.ldA ty57 rfl (.s0 5001 ty57 rfl rfl rfl (.cA (.assign .none .i) (.nil (.fb 5001 [2] rfl (.cons (t := 2) rfl trivial .nil) (.ret ?_))))))))
      obtain rfl := some_eq h
      exact Ends.r2 Tryz.results93 ty57 rfl rfl

theorem geom_Grow_ok {b1 : Box} {n1 : Int} {r : (Box × Int)}  (h : geom_Grow b1 n1 = some r) : FSpec Tryz.prog 94 [rep b1, rep n1] (tup [rep r.1, rep r.2]) := by
 unfold geom_Grow at h
 obtain ⟨v1, hv1, h⟩ := bnd_some h
 obtain ⟨e1, hv2, h⟩ := bind_some h
 refine FSpec.i Tryz.func94 rfl Tryz.ntmps94 rfl (fun F => (.sr [oo, ([], [4]), oo] mx (.cA (.box .none (.s rfl)) (.al zo57 rfl (.cA (.assign .none .i) (.nil (.reB (t := 4) rfl (congrArg (cont 57) hv1) (.nameBox (t := 4) (g := 5001) rfl rfl (fun m5001 => (.seq (.sn mx (.ld ty57 rfl (.c (.call .none (geom_CheckBox_ok hv2) (.cons (.s rfl) .nil)) (.asn rfl (.nil (.sn mx (.mv rfl (.nei rfl (.nil (.cb rfl h (fun _ h => ?_) fun _ h => ?_))))))))))))))))))))
 ·
  obtain ⟨v2, hv4, h⟩ := bnd_some h
  refine .sr [oo, oo, ([5001], [5001]), oo] mx (.cA (.re hv4 (.buildF (y := (⟨(0 : Int), (0 : Int), (0 : Int), (0 : Int)⟩ : Box)) .none bu57 zc57 rfl .nil .nil)) (.mvA rfl (.s0 5001 ty57 rfl rfl rfl (.asnA rfl (.nil (.fb 5001 [4] rfl (.cons (t := 4) rfl trivial .nil) (.ret (.thenRet ?_))))))))
  obtain rfl := some_eq h
  exact Ends.r2 Tryz.results94 ty57 rfl rfl
 ·
  refine .skip (.then (.seq (.sn mx (.mv rfl (.c (.lt .none (.s rfl) .i) (.mv rfl (.mg rfl rfl rfl (.c (.gt (.at rfl rfl) (.tmp rfl id) .i) (.po rfl rfl (.nil (.cb rfl h (fun _ h => ?_) fun _ h => ?_)))))))))))
  ·
   obtain ⟨v3, hv6, h⟩ := bnd_some h
   refine .sr [oo, ([5001], [5001]), oo] mx (.cA (.re hv6 (.buildF (y := (⟨(0 : Int), (0 : Int), (0 : Int), (0 : Int)⟩ : Box)) .none bu57 zc57 rfl .nil .nil)) (.s0 5001 ty57 rfl rfl rfl (.cA (.assign .none .i) (.nil (.fb 5001 [4] rfl (.cons (t := 4) rfl trivial .nil) (.ret (.thenRet ?_)))))))
   obtain rfl := some_eq h
   exact Ends.r2 Tryz.results94 ty57 rfl rfl
  ·
   obtain ⟨v4, hv7, h⟩ := bnd_some h
   refine .skip (.then (.sr [oo, oo, oo, oo, oo, oo, oo, oo, oo, oo, oo, oo, oo, oo, oo, oo, oo, oo, oo, ([], [7]), ([7], [7])] mx (.faA fd57_0 hfd57_0 rfl (.ldA ty3 rfl (.mvA rfl (.subA rfl rfl (.faA fd57_1 hfd57_1 rfl (.ldA ty3 rfl (.mvA rfl (.subA rfl rfl (.faA fd57_2 hfd57_2 rfl (.ldA ty3 rfl (.mvA rfl (.cA (.mulW .none .i (.s rfl)) (.addA rfl rfl (.faA fd57_3 hfd57_3 rfl (.ldA ty3 rfl (.mvA rfl (.cA (.mulW .none .i (.s rfl)) (.addA rfl rfl (.cA (.re hv7 (.buildF (y := (⟨W (b1.X - n1), W (b1.Y - n1), W (b1.W_ + (W (2 * n1))), W (b1.H + (W (2 * n1)))⟩ : Box)) .none bu57 zc57 rfl (.cons (.s rfl) (.cons (.s rfl) (.cons (.s rfl) (.cons (.s rfl) .nil)))) (.cons rfl sf57_0 (.cons rfl sf57_1 (.cons rfl sf57_2 (.cons rfl sf57_3 .nil)))))) (.al zo57 rfl (.st ty57 rfl rfl rfl (.nil (.freeze (t := 7) rfl rfl (.k 5001 rfl .nil) rfl (.seq (.sn mx (.fa fd57_2 hfd57_2 rfl (.ld ty3 rfl (.c (.lt .none (.s rfl) .i) (.mv rfl (.fg fd57_3 hfd57_3 rfl rfl rfl (.lg ty3 rfl rfl rfl (.c (.lt (.at rfl rfl) (.tmp rfl id) .i) (.po rfl rfl (.nil (.cb rfl h (fun _ h => ?_) fun _ h => ?_)))))))))))))))))))))))))))))))))))))
   ·
    obtain ⟨v5, hv9, h⟩ := bnd_some h
    refine .sr [oo, ([5001], [5001]), oo] mx (.cA (.re hv9 (.buildF (y := (⟨(0 : Int), (0 : Int), (0 : Int), (0 : Int)⟩ : Box)) .none bu57 zc57 rfl .nil .nil)) (.s0 5001 ty57 rfl rfl rfl (.cA (.assign .none .i) (.nil (.fb 5001 [4] rfl (.cons (t := 4) rfl trivial .nil) (.ret (.thenRet ?_)))))))
    obtain rfl := some_eq h
    exact Ends.r2 Tryz.results94 ty57 rfl rfl
   ·
    obtain ⟨e2, hv10, h⟩ := bind_some h
    refine .skip (.then (.seq (.sn mx (.ld ty57 rfl (.c (.call .none (geom_CheckBox_ok hv10) (.cons (.s rfl) .nil)) (.asn rfl (.nil (.sn mx (.mv rfl (.nei rfl (.nil (.cb rfl h (fun _ h => ?_) fun _ h => ?_))))))))))))
    ·
     obtain ⟨v6, hv12, h⟩ := bnd_some h
     refine .sr [oo, oo, ([5001], [5001]), oo] mx (.cA (.re hv12 (.buildF (y := (⟨(0 : Int), (0 : Int), (0 : Int), (0 : Int)⟩ : Box)) .none bu57 zc57 rfl .nil .nil)) (.mvA rfl (.s0 5001 ty57 rfl rfl rfl (.asnA rfl (.nil (.fb 5001 [4] rfl (.cons (t := 4) rfl trivial .nil) (.ret (.thenRet ?_))))))))
     obtain rfl := some_eq h
     exact Ends.r2 Tryz.results94 ty57 rfl rfl
    ·
     refine .skip (.then (.sr [oo, ([5001], [5001]), oo] mx (.ldA ty57 rfl (.s0 5001 ty57 rfl rfl rfl (.cA (.assign .none .i) (.nil (.fb 5001 [4] rfl (.cons (t := 4) rfl trivial .nil) (.ret ?_))))))))
     obtain rfl := some_eq h
     exact Ends.r2 Tryz.results94 ty57 rfl rfl

theorem page_view_boxOf_okS {self : (Page_view × Int) → Option (Box × Int)} (hself : ∀  (x : (Page_view × Int)) (r : (Box × Int)), self x = some r → FSpec Tryz.prog 50 [ref x.1, rep x.2] (tup [rep r.1, rep r.2]))  {x : (Page_view × Int)} {r : (Box × Int)} (h : page_view_boxOf_body self x = some r) : FSpec Tryz.prog 50 [ref x.1, rep x.2] (tup [rep r.1, rep r.2]) := by
 unfold page_view_boxOf_body at h
 obtain ⟨v2, hv1, h⟩ := bnd_some h
 obtain ⟨hn2, h⟩ := need_some h
 obtain ⟨v3, hv3, h⟩ := bnd_some h
 refine FSpec.i Tryz.func50 rfl Tryz.ntmps50 rfl (fun F => (.sr [([], [4]), oo] mx (.al zo57 rfl (.cA (.assign .none .i) (.nil (.reB (t := 4) rfl (congrArg (cont 57) hv1) (.nameBox (t := 4) (g := 5001) rfl rfl (fun m5001 => (.sr [oo, oo, oo, oo, oo, oo, oo, oo, ([], [6]), ([6], [6])] mx (.mvA rfl (.cA (.nilCheckR .none (.s rfl)) (.faA fd141_0 hfd141_0 rfl (.faA fd25_0 hfd25_0 rfl (.ldA ty22 rfl (.mvA rfl (.ixA sl22 ty59 rfl rfl hn2 (.rlA hv3 ty59 rfl (.al zo59 rfl (.st ty59 rfl rfl rfl (.nil (.freeze (t := 6) rfl rfl (.k 5001 rfl .nil) rfl (.seq (.sn mx (.fa fd59_1 hfd59_1 rfl (.ld ty3 rfl (.nei rfl (.nil (.cb rfl h (fun _ h => ?_) fun _ h => ?_))))))))))))))))))))))))))))
 ·
  refine .sr [oo, oo, ([5001], [5001]), oo] mx (.faA fd59_2 hfd59_2 rfl (.ldA ty57 rfl (.s0 5001 ty57 rfl rfl rfl (.cA (.assign .none .i) (.nil (.fb 5001 [4] rfl (.cons (t := 4) rfl trivial .nil) (.ret (.thenRet ?_))))))))
  obtain rfl := some_eq h
  exact Ends.r2 Tryz.results50 ty57 rfl rfl
 ·
  obtain ⟨v4, hv5, h⟩ := bnd_some h
  refine .skip (.then (.sr [([], [7])] mx (.cW (.nilRow (T := 57) (α := Box) rfl) (.nil (.nameRow (t := 7) (g := 5002) rfl rfl rfl (fun s5002 => (.seq (.sn mx (.mv rfl (.c (.nilCheckR .none (.s rfl)) (.fa fd141_2 hfd141_2 rfl (.ld ty139 rfl (.fa fd59_0 hfd59_0 rfl (.ld ty9 rfl (.c (.re hv5 (.lookup .none mo139 zo104 (.s rfl) (.s rfl))) (.ln sl104 rfl (.mvi (.nil ?_))))))))))))))))))
  obtain ⟨o_6, h, hK6⟩ := bindR_some h
  refine .thenJ (ι := (List Box)) (fun j_6 => []) (fun j_6 => [(7, some (rowV 57 j_6))]) (fun s => o_6 = Res.nx s) (.k 4 rfl .nil) (.k 5001 rfl .nil) ?_ (fun j_6 hj6 => ?_)
  ·
   refine .block (.anon (t := 7) (g := 5002) rfl rfl trivial rfl (.rforEL h (fun p7_ => [(35, ⟨True, rep p7_.1⟩)]) (fun p7_ => [(7, some (rowV 57 p7_.2))]) (.k 35 rfl .nil) (.k 7 rfl .nil) (.k4 0 4 33 34 rfl rfl rfl rfl .nil) (.k 5001 rfl .nil) (fun p7_ o_7 h hD7 => (.nameRow (t := 7) (g := 5003) rfl rfl rfl (fun s5003 => (.sn mx (.lt rfl rfl (.nil (.seq (.cb rfl h (fun _ h => ?_) fun _ h => ?_))))))))))
   ·
    refine .skip (.then (.seq ?_))
    obtain ⟨o_9, h, hK9⟩ := bindD_some h
    unfold page_view_boxOf_L1 at h
    refine .thenJ (ι := (List Box)) (fun j_9 => []) (fun j_9 => [(7, some (rowV 57 j_9))]) (fun s => o_9 = Res.nx s) (.k4 0 4 33 34 rfl rfl rfl rfl (.k 35 rfl .nil)) (.k 5001 rfl .nil) ?_ (fun j_9 hj9 => ?_)
    ·
     obtain ⟨hn10, h⟩ := need_some h
     obtain ⟨r1, hv11, h⟩ := bind_some h
     refine .block (.sn mx (.ix sl104 ty3 rfl rfl hn10 (.ld ty3 rfl (.asn rfl (.nil (.sr [oo, oo, oo, oo, oo, oo, ([], [10]), ([10], [10]), oo] mx (.mvA rfl (.mvA rfl (.cA (.call .none (hself _ _ hv11) (.cons (.s rfl) (.cons (.s rfl) .nil))) (.mvA rfl (.exA rfl rfl (.exA rfl rfl (.al zo57 rfl (.st ty57 rfl rfl rfl (.asnA rfl (.nil (.freeze (t := 10) rfl rfl (.k2 5001 5003 rfl rfl .nil) rfl (.seq (.sn mx (.mv rfl (.nei rfl (.nil (.cb rfl h (fun _ h => ?_) fun _ h => ?_)))))))))))))))))))))))
     ·
      obtain ⟨v5, hv13, h⟩ := bnd_some h
      refine .sr [oo, oo, ([5001], [5001]), oo] mx (.cA (.re hv13 (.buildF (y := (⟨(0 : Int), (0 : Int), (0 : Int), (0 : Int)⟩ : Box)) .none bu57 zc57 rfl .nil .nil)) (.mvA rfl (.s0 5001 ty57 rfl rfl rfl (.asnA rfl (.nil (.fb 5001 [4] rfl (.cons (t := 4) rfl trivial .nil) (.ret (.thenRet (.blkRet (.thenRet (.thenRet (.blkRet (.thenRet ?_)))))))))))))
      replace h := resd_ab hK9 (some_eq h)
      replace h := hD7 _ (some_eq h)
      replace h := resb_ab hK6 (some_eq h)
      obtain rfl := some_eq h
      exact Ends.r2 Tryz.results50 ty57 rfl rfl
     ·
      obtain ⟨hn14, h⟩ := need_some h
      exact .skip (.then (.rg [oo, oo, oo, ([5003], [52, 5003]), ([52], [7, 52])] mx (.mvA rfl (.ldA ty57 rfl (.cA (.buildSlice (xs := [_]) .none sl120 ty57 hz57 (.cons (.s rfl) .nil) rfl (by decide)) (.cW (.append (k := 5003) rk120 rfl (.told (.s rfl) rfl) (.s rfl) hn14) (.cW (.passRow rfl (.tmp rfl)) (.nil (.blkNormal (Ends.j _ (some_eq h)))))))))))
    ·
     have h := resd_nx hK9 hj9
     exact .nameRow (t := 7) (g := 5004) rfl rfl rfl (fun s5004 => (.rn mx (.adi rfl (.mv rfl (.nil (.anon (t := 7) (g := 5004) rfl rfl trivial rfl (Ends.ag (some_eq h))))))))
   ·
    refine .exit (.thenExit (.thenExit (.blkExit (.anon (t := 7) (g := 5003) rfl rfl trivial rfl ?_))))
    replace h := hD7 _ (some_eq h)
    exact Ends.j _ (some_eq h)
  ·
   have h := resb_nx hK6 hj6
   obtain ⟨r2, hv15, h⟩ := bind_some h
   refine .freezeRowA (t := 7) rfl rfl (.k 5001 rfl .nil) rfl (.sr [oo, oo, oo, oo, oo, ([], [12]), ([12], [12]), oo] mx (.mvA rfl (.cA (.call .none (geom_Hull_ok hv15) (.cons (.s rfl) .nil)) (.mvA rfl (.exA rfl rfl (.exA rfl rfl (.al zo57 rfl (.st ty57 rfl rfl rfl (.asnA rfl (.nil (.freeze (t := 12) rfl rfl (.k 5001 rfl .nil) rfl (.seq (.sn mx (.mv rfl (.nei rfl (.nil (.cb rfl h (fun _ h => ?_) fun _ h => ?_)))))))))))))))))
   ·
    obtain ⟨v6, hv17, h⟩ := bnd_some h
    refine .sr [oo, oo, ([5001], [5001]), oo] mx (.cA (.re hv17 (.buildF (y := (⟨(0 : Int), (0 : Int), (0 : Int), (0 : Int)⟩ : Box)) .none bu57 zc57 rfl .nil .nil)) (.mvA rfl (.s0 5001 ty57 rfl rfl rfl (.asnA rfl (.nil (.fb 5001 [4] rfl (.cons (t := 4) rfl trivial .nil) (.ret (.thenRet ?_))))))))
    obtain rfl := some_eq h
    exact Ends.r2 Tryz.results50 ty57 rfl rfl
   ·
    obtain ⟨r3, hv18, h⟩ := bind_some h
    refine .skip (.then (.sr [oo, oo, oo, oo, ([5001], [5001]), oo] mx (.ldA ty57 rfl (.cA (.call .none (geom_Grow_ok hv18) (.cons (.s rfl) (.cons .i .nil))) (.exA rfl rfl (.exA rfl rfl (.s0 5001 ty57 rfl rfl rfl (.asnA rfl (.nil (.fb 5001 [4] rfl (.cons (t := 4) rfl trivial .nil) (.ret ?_)))))))))))
    obtain rfl := some_eq h
    exact Ends.r2 Tryz.results50 ty57 rfl rfl
theorem page_view_boxOf_okN : ∀ (k : Nat)  (x : (Page_view × Int)) (r : (Box × Int)) (h : fixN page_view_boxOf_body k x = some r), FSpec Tryz.prog 50 [ref x.1, rep x.2] (tup [rep r.1, rep r.2])
 | 0, x, r, h => by simp [fixN] at h
 | k + 1, x, r, h => page_view_boxOf_okS (page_view_boxOf_okN k) h
theorem page_view_boxOf_ok {v1 : Page_view} {i1 : Int} {r : (Box × Int)}  (h : page_view_boxOf v1 i1 = some r) : FSpec Tryz.prog 50 [ref v1, rep i1] (tup [rep r.1, rep r.2]) :=
 let ⟨k, hk⟩ := fixp_some h
 page_view_boxOf_okN k (v1, i1) r hk

theorem page_Check_ok {d1 : Doc} {r : Int}  (h : page_Check d1 = some r) : FSpec Tryz.prog 18 [rep d1] (rep r) := by
 unfold page_Check at h
 refine FSpec.i Tryz.func18 rfl Tryz.ntmps18 rfl (fun F => (.sn mx (.c (.box .none (.s rfl)) (.asi (.nil (.seq (.sn mx (.fa fd25_0 hfd25_0 rfl (.ld ty22 rfl (.ln sl22 rfl (.c (.gt .none (.s rfl) .i) (.mv rfl (.fg fd25_1 hfd25_1 rfl rfl rfl (.lg ty23 rfl rfl rfl (.c (.len (.at rfl rfl) sl23 (.tmp rfl id)) (.c (.gt (.at rfl rfl) (.tmp rfl id) .i) (.po rfl rfl (.nil (.cb rfl h (fun _ h => ?_) fun _ h => ?_)))))))))))))))))))
 ·
  refine .sn mx (.asi (.nil (.ret (.thenRet ?_))))
  obtain rfl := some_eq h
  exact Ends.rt Tryz.results18 rfl
 ·
  obtain ⟨known1, hv2, h⟩ := bnd_some h
  refine .skip (.then (.sr [([], [25]), ([25], [3, 25])] mx (.cW (.makeMap (K := Str) (V := Bool) rfl) (.cW (.passRow rfl (.tmp rfl)) (.nil (.reB (t := 3) rfl (congrArg mapV hv2) (.nameMap (t := 3) (g := 5001) rfl rfl rfl (fun s5001 => (.seq (.sn mx (.fa fd25_0 hfd25_0 rfl (.ld ty22 rfl (.ln sl22 rfl (.mvi (.nil ?_)))))))))))))))
  obtain ⟨o_3, h, hK3⟩ := bindR_some h
  refine .thenJ (ι := (GMap Str Bool)) (fun j_3 => []) (fun j_3 => [(5001, some (CPred.at s5001 (mapV j_3)))]) (fun s => o_3 = Res.nx s) (.k2 1 3 rfl rfl .nil) SubB.nil ?_ (fun j_3 hj3 => ?_)
  ·
   refine .block (.rforEL h (fun p4_ => [(29, ⟨True, rep p4_.1⟩)]) (fun p4_ => [(5001, some (CPred.at s5001 (mapV p4_.2)))]) (.k 29 rfl .nil) (.k 5001 rfl .nil) (.k4 1 3 27 28 rfl rfl rfl rfl .nil) SubB.nil (fun p4_ o_4 h hD4 => (.sn mx (.lt rfl rfl (.nil (.seq (.cb rfl h (fun _ h => ?_) fun _ h => ?_)))))))
   ·
    refine .skip (.then (.seq ?_))
    obtain ⟨o_6, h, hK6⟩ := bindD_some h
    unfold page_Check_L1 at h
    refine .thenJ (ι := (GMap Str Bool)) (fun j_6 => []) (fun j_6 => [(5001, some (CPred.at s5001 (mapV j_6)))]) (fun s => o_6 = Res.nx s) (.k4 1 3 27 28 rfl rfl rfl rfl (.k 29 rfl .nil)) SubB.nil ?_ (fun j_6 hj6 => ?_)
    ·
     obtain ⟨hn7, h⟩ := need_some h
     obtain ⟨v1, hv8, h⟩ := bnd_some h
     obtain ⟨e1, hv9, h⟩ := bind_some h
     refine .block (.sr [oo, oo, ([], [5]), ([5], [5])] mx (.ixA sl22 ty59 rfl rfl hn7 (.rlA hv8 ty59 rfl (.al zo59 rfl (.st ty59 rfl rfl rfl (.nil (.freeze (t := 5) rfl rfl (.k 5001 rfl .nil) rfl (.seq (.sr [oo, oo, oo, oo, ([5001], []), oo, oo] mx (.ldA ty59 rfl (.mvA rfl (.faA fd59_0 hfd59_0 rfl (.ldA ty9 rfl (.cA (.lookupO (q := 5001) .none mo93 zo4 ownMap_self (.told (.s rfl) rfl) (.s rfl)) (.cA (.call .none (page_checkNode_ok hv9) (.cons (.s rfl) (.cons (.s rfl) .nil))) (.asnA rfl (.nil (.sn mx (.mv rfl (.nei rfl (.nil (.cb rfl h (fun _ h => ?_) fun _ h => ?_))))))))))))))))))))))
     ·
      refine .sn mx (.mv rfl (.asn rfl (.nil (.ret (.thenRet (.blkRet (.thenRet (.thenRet (.blkRet (.thenRet ?_))))))))))
      replace h := resd_ab hK6 (some_eq h)
      replace h := hD4 _ (some_eq h)
      replace h := resb_ab hK3 (some_eq h)
      obtain rfl := some_eq h
      exact Ends.rt Tryz.results18 rfl
     ·
      exact .skip (.then (.rg [oo, oo, oo, ([5001], [5001])] mx (.mvA rfl (.faA fd59_0 hfd59_0 rfl (.ldA ty9 rfl (.cN (.mapUpdate (q := 5001) mo93 (.s rfl) rfl (.s rfl) .bool) (.nil (.blkNormal (Ends.j _ (some_eq h))))))))))
    ·
     have h := resd_nx hK6 hj6
     exact .rn mx (.adi rfl (.mv rfl (.nil (Ends.ag (some_eq h)))))
   ·
    refine .exit (.thenExit (.thenExit (.blkExit ?_)))
    replace h := hD4 _ (some_eq h)
    exact Ends.j _ (some_eq h)
  ·
   have h := resb_nx hK3 hj3
   obtain ⟨v2, hv11, h⟩ := bind_some h
   obtain ⟨p1, hv12, h⟩ := bind_some h
   obtain ⟨e2, hv13, h⟩ := bind_some h
   refine .sn mx (.ld ty25 rfl (.c (.isRef hv12 (.call .none (page_viewOf_ok hv11) (.cons (.s rfl) .nil))) (.asn rfl (.nil (.seq (.sn mx (.mv rfl (.c (.call .none (page_view_checkGroups_ok hv13) (.cons (.s rfl) .nil)) (.asn rfl (.nil (.sn mx (.mv rfl (.nei rfl (.nil (.cb rfl h (fun _ h => ?_) fun _ h => ?_)))))))))))))))
   ·
    refine .sn mx (.mv rfl (.asn rfl (.nil (.ret (.thenRet ?_)))))
    obtain rfl := some_eq h
    exact Ends.rt Tryz.results18 rfl
   ·
    refine .skip (.then (.seq (.sn mx (.fa fd25_1 hfd25_1 rfl (.ld ty23 rfl (.ln sl23 rfl (.mvi (.nil ?_))))))))
    obtain ⟨o_15, h, hK15⟩ := bindR_some h
    refine .thenJ (ι := (GMap Str Bool)) (fun j_15 => []) (fun j_15 => [(5001, some (CPred.at s5001 (mapV j_15)))]) (fun s => o_15 = Res.nx s) (.k2 1 3 rfl rfl (.k 7 rfl .nil)) SubB.nil ?_ (fun j_15 hj15 => ?_)
    ·
     refine .block (.rforEL h (fun p16_ => [(56, ⟨True, rep p16_.1⟩)]) (fun p16_ => [(5001, some (CPred.at s5001 (mapV p16_.2)))]) (.k 56 rfl .nil) (.k 5001 rfl .nil) (.k4 1 3 7 54 rfl rfl rfl rfl (.k 55 rfl .nil)) SubB.nil (fun p16_ o_16 h hD16 => (.sn mx (.lt rfl rfl (.nil (.seq (.cb rfl h (fun _ h => ?_) fun _ h => ?_)))))))
     ·
      refine .skip (.then (.seq ?_))
      obtain ⟨o_18, h, hK18⟩ := bindD_some h
      unfold page_Check_L2 at h
      refine .thenJ (ι := (GMap Str Bool)) (fun j_18 => []) (fun j_18 => [(5001, some (CPred.at s5001 (mapV j_18)))]) (fun s => o_18 = Res.nx s) (.k4 1 3 7 54 rfl rfl rfl rfl (.k2 55 56 rfl rfl .nil)) SubB.nil ?_ (fun j_18 hj18 => ?_)
      ·
       obtain ⟨hn19, h⟩ := need_some h
       obtain ⟨v3, hv20, h⟩ := bnd_some h
       obtain ⟨e3, hv21, h⟩ := bind_some h
       refine .block (.sr [oo, oo, ([], [10]), ([10], [10])] mx (.ixA sl23 ty65 rfl rfl hn19 (.rlA hv20 ty65 rfl (.al zo65 rfl (.st ty65 rfl rfl rfl (.nil (.freeze (t := 10) rfl rfl (.k 5001 rfl .nil) rfl (.seq (.sr [oo, oo, oo, oo, oo, ([5001], []), oo, oo] mx (.mvA rfl (.ldA ty65 rfl (.mvA rfl (.faA fd65_0 hfd65_0 rfl (.ldA ty9 rfl (.cA (.lookupO (q := 5001) .none mo93 zo4 ownMap_self (.told (.s rfl) rfl) (.s rfl)) (.cA (.call .none (page_view_checkEdge_ok hv21) (.cons (.s rfl) (.cons (.s rfl) (.cons (.s rfl) .nil)))) (.asnA rfl (.nil (.sn mx (.mv rfl (.nei rfl (.nil (.cb rfl h (fun _ h => ?_) fun _ h => ?_)))))))))))))))))))))))
       ·
        refine .sn mx (.mv rfl (.asn rfl (.nil (.ret (.thenRet (.blkRet (.thenRet (.thenRet (.blkRet (.thenRet ?_))))))))))
        replace h := resd_ab hK18 (some_eq h)
        replace h := hD16 _ (some_eq h)
        replace h := resb_ab hK15 (some_eq h)
        obtain rfl := some_eq h
        exact Ends.rt Tryz.results18 rfl
       ·
        exact .skip (.then (.rg [oo, oo, oo, ([5001], [5001])] mx (.mvA rfl (.faA fd65_0 hfd65_0 rfl (.ldA ty9 rfl (.cN (.mapUpdate (q := 5001) mo93 (.s rfl) rfl (.s rfl) .bool) (.nil (.blkNormal (Ends.j _ (some_eq h))))))))))
      ·
       have h := resd_nx hK18 hj18
       exact .rn mx (.adi rfl (.mv rfl (.nil (Ends.ag (some_eq h)))))
     ·
      refine .exit (.thenExit (.thenExit (.blkExit ?_)))
      replace h := hD16 _ (some_eq h)
      exact Ends.j _ (some_eq h)
    ·
     have h := resb_nx hK15 hj15
     refine .seq (.sn mx (.fa fd25_0 hfd25_0 rfl (.ld ty22 rfl (.ln sl22 rfl (.mvi (.nil ?_))))))
     obtain ⟨o_23, h, hK23⟩ := bindR_some h
     refine .tJ (fun s => o_23 = Res.nx s) Sub.nil SubB.nil ?_ (fun j_23 hj23 => ?_)
     ·
      refine .block (.rforEL h (fun p24_ => [(77, ⟨True, rep p24_.1⟩)]) (fun p24_ => []) (.k 77 rfl .nil) SubB.nil (.k2 7 76 rfl rfl .nil) SubB.nil (fun p24_ o_24 h hD24 => (.sn mx (.lt rfl rfl (.nil (.seq (.cb rfl h (fun _ h => ?_) fun _ h => ?_)))))))
      ·
       refine .skip (.then (.seq ?_))
       obtain ⟨o_26, h, hK26⟩ := bindD_some h
       unfold page_Check_L3 at h
       refine .tJ (fun s => o_26 = Res.nx s) (.k2 7 76 rfl rfl (.k 77 rfl .nil)) SubB.nil ?_ (fun j_26 hj26 => ?_)
       ·
        obtain ⟨r1, hv27, h⟩ := bind_some h
        refine .block (.sn mx (.mv rfl (.asn rfl (.nil (.sr [oo, oo, oo, oo, oo, oo, ([], [13]), ([13], [13]), oo] mx (.mvA rfl (.mvA rfl (.cA (.call .none (page_view_boxOf_ok hv27) (.cons (.s rfl) (.cons (.s rfl) .nil))) (.mvA rfl (.exA rfl rfl (.exA rfl rfl (.al zo57 rfl (.st ty57 rfl rfl rfl (.asnA rfl (.nil (.sn mx (.mv rfl (.nei rfl (.nil (.cb rfl h (fun _ h => ?_) fun _ h => ?_))))))))))))))))))))
        ·
         refine .sn mx (.mv rfl (.asn rfl (.nil (.ret (.blkRet (.thenRet (.thenRet (.blkRet (.thenRet ?_)))))))))
         replace h := resd_ab hK26 (some_eq h)
         replace h := hD24 _ (some_eq h)
         replace h := resb_ab hK23 (some_eq h)
         obtain rfl := some_eq h
         exact Ends.rt Tryz.results18 rfl
        ·
         exact .skip (.blkNormal (Ends.j _ (some_eq h)))
       ·
        have h := resd_nx hK26 hj26
        exact .rn mx (.adi rfl (.mv rfl (.nil (Ends.ag (some_eq h)))))
      ·
       refine .exit (.thenExit (.thenExit (.blkExit ?_)))
       replace h := hD24 _ (some_eq h)
       exact Ends.j _ (some_eq h)
     ·
      have h := resb_nx hK23 hj23
      refine .sn mx (.asi (.nil (.ret ?_)))
      obtain rfl := some_eq h
      exact Ends.rt Tryz.results18 rfl

theorem desk_isName_ok {s1 : Str} {r : Bool}  (h : desk_isName s1 = some r) : FSpec Tryz.prog 51 [rep s1] (rep r) := by
 unfold desk_isName at h
 obtain ⟨hn1, h⟩ := need_some h
 obtain ⟨hn2, h⟩ := need_some h
 obtain ⟨r1, hv3, h⟩ := bind_some h
 refine FSpec.i Tryz.func51 rfl Tryz.ntmps51 rfl (fun F => (.sn mx (.asb (.nil (.sn mx (.mv rfl (.c (.neS .none (eqAt_str Tryz.underlying9) (.s rfl) (.str (l := []) (by decide))) (.mv rfl (.mg rfl rfl rfl (.c (.lenStr (.at rfl rfl) Tryz.underlying9 (.tmp rfl id)) (.c (.le (.at rfl rfl) (.tmp rfl id) .i) (.pa rfl rfl (.mv rfl (.mg rfl rfl rfl (.c (.indexStr (.at rfl rfl) Tryz.underlying9 (.tmp rfl id) .i (fun hg => hn1 hg.2)) (.c (.kgeq (.at rfl rfl) (.tmp rfl id) .ki) (.pa rfl rfl (.mv rfl (.mg rfl rfl rfl (.c (.indexStr (.at rfl rfl) Tryz.underlying9 (.tmp rfl id) .i (fun hg => hn2 hg.2)) (.c (.kleq (.at rfl rfl) (.tmp rfl id) .ki) (.pa rfl rfl (.mv rfl (.mg rfl rfl rfl (.c (.callIf (.at rfl rfl) fnok95 (fun hg => strings_Trim_ok ((fun hg => gd_some hv3 (hg.2)) hg)) (.cons (.tmp rfl id) (.cons (.str (l := [97, 98, 99, 100, 101, 102, 103, 104, 105, 106, 107, 108, 109, 110, 111, 112, 113, 114, 115, 116, 117, 118, 119, 120, 121, 122, 48, 49, 50, 51, 52, 53, 54, 55, 56, 57, 45]) (by decide)) .nil)) (fun h => h)) (.c (.eqS (.at rfl rfl) (eqAt_str Tryz.underlying9) (.tmp rfl id) (.str (l := []) (by decide))) (.pa rfl rfl (.asn rfl (.nil (.ret ?_))))))))))))))))))))))))))))))
 obtain rfl := some_eq h
 exact Ends.rt Tryz.results51 rfl

theorem desk_isValue_ok {s1 : Str} {r : Bool}  (h : desk_isValue s1 = some r) : FSpec Tryz.prog 52 [rep s1] (rep r) := by
 unfold desk_isValue at h
 refine FSpec.i Tryz.func52 rfl Tryz.ntmps52 rfl (fun F => (.sn mx (.asb (.nil (.seq (.sn mx (.mv rfl (.c (.eqS .none (eqAt_str Tryz.underlying9) (.s rfl) (.str (l := []) (by decide))) (.mv rfl (.mg rfl rfl rfl (.c (.lenStr (.at rfl rfl) Tryz.underlying9 (.tmp rfl id)) (.c (.gt (.at rfl rfl) (.tmp rfl id) .i) (.po rfl rfl (.nil (.cb rfl h (fun _ h => ?_) fun _ h => ?_)))))))))))))))
 ·
  refine .sn mx (.asb (.nil (.ret (.thenRet ?_))))
  obtain rfl := some_eq h
  exact Ends.rt Tryz.results52 rfl
 ·
  refine .skip (.then (.seq (.sn mx (.mv rfl (.c (.lenStr .none Tryz.underlying9 (.s rfl)) (.mvi (.nil ?_)))))))
  obtain ⟨o_2, h, hK2⟩ := bindR_some h
  refine .tJ (fun s => o_2 = Res.nx s) Sub.nil SubB.nil ?_ (fun j_2 hj2 => ?_)
  ·
   refine .block (.rforEL h (fun p3_ => [(13, ⟨True, rep p3_.1⟩)]) (fun p3_ => []) (.k 13 rfl .nil) SubB.nil (.k2 0 12 rfl rfl .nil) SubB.nil (fun p3_ o_3 h hD3 => (.sn mx (.lt rfl rfl (.nil (.seq (.cb rfl h (fun _ h => ?_) fun _ h => ?_)))))))
   ·
    refine .skip (.then (.seq ?_))
    obtain ⟨o_5, h, hK5⟩ := bindD_some h
    unfold desk_isValue_L1 at h
    refine .tJ (fun s => o_5 = Res.nx s) (.k2 0 12 rfl rfl (.k 13 rfl .nil)) SubB.nil ?_ (fun j_5 hj5 => ?_)
    ·
     obtain ⟨hn6, h⟩ := need_some h
     obtain ⟨hn7, h⟩ := need_some h
     obtain ⟨hn8, h⟩ := need_some h
     refine .block (.sn mx (.mv rfl (.asn rfl (.nil (.sn mx (.mv rfl (.mv rfl (.c (.indexStr .none Tryz.underlying9 (.s rfl) (.s rfl) (fun _ => hn6)) (.c (.klss .none (.s rfl) .ki) (.mv rfl (.mg rfl rfl rfl (.mg rfl rfl rfl (.c (.indexStr (.at rfl rfl) Tryz.underlying9 (.tmp rfl id) (.tmp rfl id) (fun hg => hn7 hg.2)) (.c (.kgtr (.at rfl rfl) (.tmp rfl id) .ki) (.po rfl rfl (.mv rfl (.mg rfl rfl rfl (.mg rfl rfl rfl (.c (.indexStr (.at rfl rfl) Tryz.underlying9 (.tmp rfl id) (.tmp rfl id) (fun hg => hn8 hg.2)) (.c (.keql (.at rfl rfl) (.tmp rfl id) .ki) (.po rfl rfl (.nil (.cb rfl h (fun _ h => ?_) fun _ h => ?_)))))))))))))))))))))))
     ·
      refine .sn mx (.asb (.nil (.ret (.blkRet (.thenRet (.thenRet (.blkRet (.thenRet ?_))))))))
      replace h := resd_ab hK5 (some_eq h)
      replace h := hD3 _ (some_eq h)
      replace h := resb_ab hK2 (some_eq h)
      obtain rfl := some_eq h
      exact Ends.rt Tryz.results52 rfl
     ·
      exact .skip (.blkNormal (Ends.j _ (some_eq h)))
    ·
     have h := resd_nx hK5 hj5
     exact .rn mx (.adi rfl (.mv rfl (.nil (Ends.ag (some_eq h)))))
   ·
    refine .exit (.thenExit (.thenExit (.blkExit ?_)))
    replace h := hD3 _ (some_eq h)
    exact Ends.j _ (some_eq h)
  ·
   have h := resb_nx hK2 hj2
   refine .sn mx (.asb (.nil (.ret ?_)))
   obtain rfl := some_eq h
   exact Ends.rt Tryz.results52 rfl

theorem desk_CheckRules_ok {l1 : (List Rule)} {r : Int}  (h : desk_CheckRules l1 = some r) : FSpec Tryz.prog 19 [rep l1] (rep r) := by
 unfold desk_CheckRules at h
 refine FSpec.i Tryz.func19 rfl Tryz.ntmps19 rfl (fun F => (.sn mx (.asi (.nil (.seq (.sn mx (.mv rfl (.ln sl26 rfl (.c (.gt .none (.s rfl) .i) (.nil (.cb rfl h (fun _ h => ?_) fun _ h => ?_)))))))))))
 ·
  refine .sn mx (.asi (.nil (.ret (.thenRet ?_))))
  obtain rfl := some_eq h
  exact Ends.rt Tryz.results19 rfl
 ·
  refine .skip (.then (.seq (.sn mx (.mv rfl (.ln sl26 rfl (.mvi (.nil ?_)))))))
  obtain ⟨o_2, h, hK2⟩ := bindR_some h
  refine .tJ (fun s => o_2 = Res.nx s) Sub.nil SubB.nil ?_ (fun j_2 hj2 => ?_)
  ·
   refine .block (.rforEL h (fun p3_ => [(10, ⟨True, rep p3_.1⟩)]) (fun p3_ => []) (.k 10 rfl .nil) SubB.nil (.k2 8 9 rfl rfl .nil) SubB.nil (fun p3_ o_3 h hD3 => (.sn mx (.lt rfl rfl (.nil (.seq (.cb rfl h (fun _ h => ?_) fun _ h => ?_)))))))
   ·
    refine .skip (.then (.seq ?_))
    obtain ⟨o_5, h, hK5⟩ := bindD_some h
    unfold desk_CheckRules_L1 at h
    refine .tJ (fun s => o_5 = Res.nx s) (.k2 8 9 rfl rfl (.k 10 rfl .nil)) SubB.nil ?_ (fun j_5 hj5 => ?_)
    ·
     obtain ⟨hn6, h⟩ := need_some h
     obtain ⟨v1, hv7, h⟩ := bnd_some h
     obtain ⟨r1, hv8, h⟩ := bind_some h
     refine .block (.sr [oo, oo, ([], [4]), ([4], [4])] mx (.ixA sl26 ty43 rfl rfl hn6 (.rlA hv7 ty43 rfl (.al zo43 rfl (.st ty43 rfl rfl rfl (.nil (.freeze (t := 4) rfl rfl SubB.nil rfl (.block (.seq (.sn mx (.fa fd43_0 hfd43_0 rfl (.ld ty9 rfl (.c (.neS .none (eqAt_str Tryz.underlying9) (.s rfl) (.str (l := []) (by decide))) (.mv rfl (.fg fd43_0 hfd43_0 rfl rfl rfl (.lg ty9 rfl rfl rfl (.c (.callIf (.at rfl rfl) fnok51 (fun hg => desk_isName_ok ((fun hg => gd_some hv8 (hg.2)) hg)) (.cons (.tmp rfl id) .nil) (fun h => h)) ?_)))))))))))))))))
     obtain ⟨v2, hv9, h⟩ := bnd_some h
     refine .c (.not (.at rfl rfl) (.tmp rfl id)) (.pa rfl rfl (.ra hv9 rfl (.nil ?_)))
     obtain ⟨j_10, h, hK10⟩ := bind_some h
     refine .thenJ (ι := Bool) (fun j_10 => [(14, ⟨True, rep j_10⟩)]) (fun j_10 => []) (fun s => j_10 = s) (.k4 4 8 9 10 rfl rfl rfl rfl .nil) SubB.nil ?_ (fun j_10' hj10 => ?_)
     ·
      refine .cb rfl h (fun _ h => ?_) fun _ h => ?_
      ·
       exact .skip (Ends.j _ (some_eq h))
      ·
       obtain ⟨r2, hv12, h⟩ := bind_some h
       obtain ⟨v3, hv13, h⟩ := bnd_some h
       exact .rn mx (.fa fd43_1 hfd43_1 rfl (.ld ty9 rfl (.c (.call .none (desk_isName_ok hv12) (.cons (.s rfl) .nil)) (.c (.not .none (.s rfl)) (.ra hv13 rfl (.nil (Ends.j _ (some_eq h))))))))
     ·
      subst hj10; have h := hK10; clear hK10
      refine .cb rfl h (fun _ h => ?_) fun _ h => ?_
      ·
       refine .sn mx (.asi (.nil (.ret (.blkRet (.blkRet (.thenRet (.thenRet (.blkRet (.thenRet ?_)))))))))
       replace h := resd_ab hK5 (some_eq h)
       replace h := hD3 _ (some_eq h)
       replace h := resb_ab hK2 (some_eq h)
       obtain rfl := some_eq h
       exact Ends.rt Tryz.results19 rfl
      ·
       obtain ⟨r3, hv15, h⟩ := bind_some h
       refine .sn mx (.fa fd43_2 hfd43_2 rfl (.ld ty9 rfl (.c (.call .none (desk_isValue_ok hv15) (.cons (.s rfl) .nil)) (.c (.not .none (.s rfl)) (.asn rfl (.nil (.cb rfl h (fun _ h => ?_) fun _ h => ?_)))))))
       ·
        refine .sn mx (.asi (.nil (.ret (.blkRet (.blkRet (.thenRet (.thenRet (.blkRet (.thenRet ?_)))))))))
        replace h := resd_ab hK5 (some_eq h)
        replace h := hD3 _ (some_eq h)
        replace h := resb_ab hK2 (some_eq h)
        obtain rfl := some_eq h
        exact Ends.rt Tryz.results19 rfl
       ·
        exact .skip (.blkNormal (.blkNormal (Ends.j _ (some_eq h))))
    ·
     have h := resd_nx hK5 hj5
     exact .rn mx (.adi rfl (.mv rfl (.nil (Ends.ag (some_eq h)))))
   ·
    refine .exit (.thenExit (.thenExit (.blkExit ?_)))
    replace h := hD3 _ (some_eq h)
    exact Ends.j _ (some_eq h)
  ·
   have h := resb_nx hK2 hj2
   refine .sn mx (.asi (.nil (.ret ?_)))
   obtain rfl := some_eq h
   exact Ends.rt Tryz.results19 rfl

theorem desk_ruleLine_ok {r1 : Rule} {r : Str}  (h : desk_ruleLine r1 = some r) : FSpec Tryz.prog 21 [rep r1] (rep r) := by
 unfold desk_ruleLine at h
 refine FSpec.i Tryz.func21 rfl Tryz.ntmps21 rfl (fun F => (.sn mx (.c (.box .none (.s rfl)) (.c (.assign .none (.str (l := []) (by decide))) (.nil (.sn mx (.fa fd43_0 hfd43_0 rfl (.ld ty9 rfl (.asn rfl (.nil (.seq (.sn mx (.mv rfl (.c (.eqS .none (eqAt_str Tryz.underlying9) (.s rfl) (.str (l := []) (by decide))) (.nil ?_)))))))))))))))
 obtain ⟨j_1, h, hK1⟩ := bind_some h
 refine .thenJ (ι := Str) (fun j_1 => [(3, ⟨True, rep j_1⟩)]) (fun j_1 => []) (fun s => j_1 = s) (.k 1 rfl .nil) SubB.nil ?_ (fun j_1' hj1 => ?_)
 ·
  refine .cb rfl h (fun _ h => ?_) fun _ h => ?_
  ·
   obtain ⟨class1, hv3, h⟩ := bnd_some h
   exact .rn mx (.c (.re hv3 (.assign .none (.str (l := [42]) (by decide)))) (.nil (Ends.j _ (some_eq h))))
  ·
   exact .skip (Ends.j _ (some_eq h))
 ·
  subst hj1; have h := hK1; clear hK1
  obtain ⟨hn4, h⟩ := need_some h
  obtain ⟨hn5, h⟩ := need_some h
  obtain ⟨hn6, h⟩ := need_some h
  obtain ⟨hn7, h⟩ := need_some h
  obtain ⟨hn8, h⟩ := need_some h
  refine .sn mx (.mv rfl (.c (.addStr .none (.str (l := [115, 116, 121, 108, 101, 32]) (by decide)) (.s rfl) (fun _ => hn4)) (.c (.addStr .none (.s rfl) (.str (l := [32]) (by decide)) (fun _ => hn5)) (.fa fd43_1 hfd43_1 rfl (.ld ty9 rfl (.c (.addStr .none (.s rfl) (.s rfl) (fun _ => hn6)) (.c (.addStr .none (.s rfl) (.str (l := [32]) (by decide)) (fun _ => hn7)) (.fa fd43_2 hfd43_2 rfl (.ld ty9 rfl (.c (.addStr .none (.s rfl) (.s rfl) (fun _ => hn8)) (.asn rfl (.nil (.ret ?_)))))))))))))
  obtain rfl := some_eq h
  exact Ends.rt Tryz.results21 rfl

theorem edit_KindWords_ok  {r : (List Str)}  (h : edit_KindWords  = some r) : FSpec Tryz.prog 54 [] (rep r) := by
 unfold edit_KindWords at h
 refine FSpec.i Tryz.func54 rfl Tryz.ntmps54 rfl (fun F => (.sn mx (.c (.assign .none (.const (x := ([] : (List Str))) (fun M w => ⟨_, ⟨none, 0, rfl, Nat.le_refl _, by decide, rfl⟩, rfl⟩))) (.nil (.sn mx (.c (.buildSlice (xs := [_, _, _, _, _, _, _]) .none sl76 ty9 hz9 (.cons (.str (l := []) (by decide)) (.cons (.str (l := [98, 111, 120]) (by decide)) (.cons (.str (l := [114, 111, 117, 110, 100]) (by decide)) (.cons (.str (l := [111, 118, 97, 108]) (by decide)) (.cons (.str (l := [100, 105, 97, 109, 111, 110, 100]) (by decide)) (.cons (.str (l := [110, 111, 116, 101]) (by decide)) (.cons (.str (l := [103, 114, 111, 117, 112]) (by decide)) .nil))))))) rfl (by decide)) (.asn rfl (.nil (.ret ?_)))))))))
 obtain rfl := some_eq h
 exact Ends.rt Tryz.results54 rfl

theorem edit_Numbers_ok {l1 : (List Int)} {r : Str}  (h : edit_Numbers l1 = some r) : FSpec Tryz.prog 55 [rep l1] (rep r) := by
 unfold edit_Numbers at h
 refine FSpec.i Tryz.func55 rfl Tryz.ntmps55 rfl (fun F => (.sn mx (.c (.assign .none (.str (l := []) (by decide))) (.nil (.sr [([], [3])] mx (.cW (.nilRow (T := 9) (α := Str) rfl) (.nil (.nameRow (t := 3) (g := 5001) rfl rfl rfl (fun s5001 => (.seq (.sn mx (.mv rfl (.ln sl104 rfl (.mvi (.nil ?_)))))))))))))))
 obtain ⟨j_1, h, hK1⟩ := bind_some h
 refine .thenJ (ι := (List Str)) (fun j_1 => []) (fun j_1 => [(3, some (rowV 9 j_1))]) (fun s => j_1 = s) Sub.nil SubB.nil ?_ (fun j_1' hj1 => ?_)
 ·
  refine .block (.anon (t := 3) (g := 5001) rfl rfl trivial rfl (.rforL h (fun p2_ => [(8, ⟨True, rep p2_.1⟩)]) (fun p2_ => [(3, some (rowV 9 p2_.2))]) (.k 8 rfl .nil) (.k 3 rfl .nil) (.k2 6 7 rfl rfl .nil) SubB.nil (fun p2_ o_2 h hD2 => (.nameRow (t := 3) (g := 5002) rfl rfl rfl (fun s5002 => (.sn mx (.lt rfl rfl (.nil (.seq (.cb rfl h (fun _ h => ?_) fun _ h => ?_))))))))))
  ·
   refine .skip (.then (.seq ?_))
   obtain ⟨j_4, h, hK4⟩ := bind_some h
   unfold edit_Numbers_L1 at h
   refine .thenJ (ι := (List Str)) (fun j_4 => []) (fun j_4 => [(3, some (rowV 9 j_4))]) (fun s => j_4 = s) (.k2 6 7 rfl rfl (.k 8 rfl .nil)) SubB.nil ?_ (fun j_4' hj4 => ?_)
   ·
    obtain ⟨hn5, h⟩ := need_some h
    obtain ⟨r1, hv6, h⟩ := bind_some h
    obtain ⟨hn7, h⟩ := need_some h
    exact .block (.sn mx (.ix sl104 ty3 rfl rfl hn5 (.ld ty3 rfl (.asn rfl (.nil (.rg [oo, oo, oo, oo, ([5002], [16, 5002]), ([16], [3, 16])] mx (.mvA rfl (.mvA rfl (.cA (.call .none (strconv_Itoa_ok hv6) (.cons (.s rfl) .nil)) (.cA (.buildSlice (xs := [_]) .none sl76 ty9 hz9 (.cons (.s rfl) .nil) rfl (by decide)) (.cW (.append (k := 5002) rk76 rfl (.told (.s rfl) rfl) (.s rfl) hn7) (.consWD (.passRow rfl (.tmp rfl)) rfl rfl (.nil (.blkNormal (Ends.j _ (some_eq h))))))))))))))))
   ·
    subst hj4; have h := hK4; clear hK4
    exact .nameRow (t := 3) (g := 5003) rfl rfl rfl (fun s5003 => (.rn mx (.adi rfl (.mv rfl (.nil (.anon (t := 3) (g := 5003) rfl rfl trivial rfl (Ends.ag (some_eq h))))))))
  ·
   refine .exit (.thenExit (.thenExit (.blkExit (.anon (t := 3) (g := 5002) rfl rfl trivial rfl ?_))))
   replace h := hD2 _ (some_eq h)
   exact Ends.j _ (some_eq h)
 ·
  subst hj1; have h := hK1; clear hK1
  obtain ⟨r2, hv8, h⟩ := bind_some h
  refine .freezeRowA (t := 3) rfl rfl SubB.nil rfl (.sn mx (.mv rfl (.c (.call .none (strings_Join_ok hv8) (.cons (.s rfl) (.cons (.str (l := [32]) (by decide)) .nil))) (.asn rfl (.nil (.ret ?_))))))
  obtain rfl := some_eq h
  exact Ends.rt Tryz.results55 rfl

theorem desk_tail_ok {class1 : Str} {parent1 : Str} {locked1 : Bool} {text1 : Str} {r : Str}  (h : desk_tail class1 parent1 locked1 text1 = some r) : FSpec Tryz.prog 56 [rep class1, rep parent1, rep locked1, rep text1] (rep r) := by
 unfold desk_tail at h
 refine FSpec.i Tryz.func56 rfl Tryz.ntmps56 rfl (fun F => (.sn mx (.c (.assign .none (.str (l := []) (by decide))) (.nil (.sn mx (.c (.assign .none (.str (l := []) (by decide))) (.nil (.seq (.sn mx (.mv rfl (.c (.neS .none (eqAt_str Tryz.underlying9) (.s rfl) (.str (l := []) (by decide))) (.nil ?_))))))))))))
 obtain ⟨j_1, h, hK1⟩ := bind_some h
 refine .thenJ (ι := Str) (fun j_1 => [(9, ⟨True, rep j_1⟩)]) (fun j_1 => []) (fun s => j_1 = s) (.k2 1 2 rfl rfl (.k 3 rfl .nil)) SubB.nil ?_ (fun j_1' hj1 => ?_)
 ·
  refine .cb rfl h (fun _ h => ?_) fun _ h => ?_
  ·
   obtain ⟨hn3, h⟩ := need_some h
   obtain ⟨hn4, h⟩ := need_some h
   obtain ⟨s1, hv5, h⟩ := bnd_some h
   exact .rn mx (.mv rfl (.mv rfl (.c (.addStr .none (.str (l := [32, 99, 108, 97, 115, 115, 32]) (by decide)) (.s rfl) (fun _ => hn3)) (.c (.addStr .none (.s rfl) (.s rfl) (fun _ => hn4)) (.ra hv5 rfl (.nil (Ends.j _ (some_eq h))))))))
  ·
   exact .skip (Ends.j _ (some_eq h))
 ·
  subst hj1; have h := hK1; clear hK1
  refine .seq (.sn mx (.mv rfl (.c (.neS .none (eqAt_str Tryz.underlying9) (.s rfl) (.str (l := []) (by decide))) (.nil ?_))))
  obtain ⟨j_6, h, hK6⟩ := bind_some h
  refine .thenJ (ι := Str) (fun j_6 => [(9, ⟨True, rep j_6⟩)]) (fun j_6 => []) (fun s => j_6 = s) (.k2 2 3 rfl rfl .nil) SubB.nil ?_ (fun j_6' hj6 => ?_)
  ·
   refine .cb rfl h (fun _ h => ?_) fun _ h => ?_
   ·
    obtain ⟨hn8, h⟩ := need_some h
    obtain ⟨hn9, h⟩ := need_some h
    obtain ⟨s2, hv10, h⟩ := bnd_some h
    exact .rn mx (.mv rfl (.mv rfl (.c (.addStr .none (.str (l := [32, 105, 110, 32]) (by decide)) (.s rfl) (fun _ => hn8)) (.c (.addStr .none (.s rfl) (.s rfl) (fun _ => hn9)) (.ra hv10 rfl (.nil (Ends.j _ (some_eq h))))))))
   ·
    exact .skip (Ends.j _ (some_eq h))
  ·
   subst hj6; have h := hK6; clear hK6
   refine .seq (.sn mx (.mv rfl (.nil ?_)))
   obtain ⟨j_11, h, hK11⟩ := bind_some h
   refine .thenJ (ι := Str) (fun j_11 => [(9, ⟨True, rep j_11⟩)]) (fun j_11 => []) (fun s => j_11 = s) (.k 3 rfl .nil) SubB.nil ?_ (fun j_11' hj11 => ?_)
   ·
    refine .cb rfl h (fun _ h => ?_) fun _ h => ?_
    ·
     obtain ⟨hn13, h⟩ := need_some h
     obtain ⟨s3, hv14, h⟩ := bnd_some h
     exact .rn mx (.mv rfl (.c (.addStr .none (.s rfl) (.str (l := [32, 108, 111, 99, 107, 101, 100]) (by decide)) (fun _ => hn13)) (.ra hv14 rfl (.nil (Ends.j _ (some_eq h))))))
    ·
     exact .skip (Ends.j _ (some_eq h))
   ·
    subst hj11; have h := hK11; clear hK11
    refine .seq (.sn mx (.mv rfl (.c (.neS .none (eqAt_str Tryz.underlying9) (.s rfl) (.str (l := []) (by decide))) (.nil ?_))))
    obtain ⟨j_15, h, hK15⟩ := bind_some h
    refine .thenJ (ι := Str) (fun j_15 => [(9, ⟨True, rep j_15⟩)]) (fun j_15 => []) (fun s => j_15 = s) Sub.nil SubB.nil ?_ (fun j_15' hj15 => ?_)
    ·
     refine .cb rfl h (fun _ h => ?_) fun _ h => ?_
     ·
      obtain ⟨r1, hv17, h⟩ := bind_some h
      obtain ⟨hn18, h⟩ := need_some h
      obtain ⟨hn19, h⟩ := need_some h
      obtain ⟨s4, hv20, h⟩ := bnd_some h
      exact .rn mx (.mv rfl (.mv rfl (.c (.call .none (edit_Quoted_ok hv17) (.cons (.s rfl) .nil)) (.c (.addStr .none (.str (l := [32]) (by decide)) (.s rfl) (fun _ => hn18)) (.c (.addStr .none (.s rfl) (.s rfl) (fun _ => hn19)) (.ra hv20 rfl (.nil (Ends.j _ (some_eq h)))))))))
     ·
      exact .skip (Ends.j _ (some_eq h))
    ·
     subst hj15; have h := hK15; clear hK15
     refine .sn mx (.mv rfl (.asn rfl (.nil (.ret ?_))))
     obtain rfl := some_eq h
     exact Ends.rt Tryz.results56 rfl

theorem desk_nodeLine_ok {n1 : DNode} {r : Str}  (h : desk_nodeLine n1 = some r) : FSpec Tryz.prog 22 [rep n1] (rep r) := by
 unfold desk_nodeLine at h
 obtain ⟨r1, hv1, h⟩ := bind_some h
 obtain ⟨hn2, h⟩ := need_some h
 obtain ⟨hn3, h⟩ := need_some h
 obtain ⟨hn4, h⟩ := need_some h
 obtain ⟨s1, hv5, h⟩ := bnd_some h
 refine FSpec.i Tryz.func22 rfl Tryz.ntmps22 rfl (fun F => (.sn mx (.c (.box .none (.s rfl)) (.c (.assign .none (.str (l := []) (by decide))) (.nil (.sn mx (.c (.call .none (edit_KindWords_ok hv1) .nil) (.fa fd59_1 hfd59_1 rfl (.ld ty3 rfl (.ix sl76 ty9 rfl rfl hn2 (.ld ty9 rfl (.c (.addStr .none (.s rfl) (.str (l := [32]) (by decide)) (fun _ => hn3)) (.fa fd59_0 hfd59_0 rfl (.ld ty9 rfl (.c (.addStr .none (.s rfl) (.s rfl) (fun _ => hn4)) (.ra hv5 rfl (.nil (.seq (.sn mx (.fa fd59_1 hfd59_1 rfl (.ld ty3 rfl (.nei rfl (.nil ?_)))))))))))))))))))))))
 obtain ⟨j_6, h, hK6⟩ := bind_some h
 refine .thenJ (ι := Str) (fun j_6 => [(3, ⟨True, rep j_6⟩)]) (fun j_6 => []) (fun s => j_6 = s) (.k 1 rfl .nil) SubB.nil ?_ (fun j_6' hj6 => ?_)
 ·
  refine .cb rfl h (fun _ h => ?_) fun _ h => ?_
  ·
   obtain ⟨r2, hv8, h⟩ := bind_some h
   obtain ⟨hn9, h⟩ := need_some h
   obtain ⟨hn10, h⟩ := need_some h
   obtain ⟨s2, hv11, h⟩ := bnd_some h
   exact .rn mx (.mv rfl (.fa fd59_2 hfd59_2 rfl (.fa fd57_0 hfd57_0 rfl (.ld ty3 rfl (.fa fd59_2 hfd59_2 rfl (.fa fd57_1 hfd57_1 rfl (.ld ty3 rfl (.fa fd59_2 hfd59_2 rfl (.fa fd57_2 hfd57_2 rfl (.ld ty3 rfl (.fa fd59_2 hfd59_2 rfl (.fa fd57_3 hfd57_3 rfl (.ld ty3 rfl (.c (.buildSlice (xs := [_, _, _, _]) .none sl104 ty3 hz3 (.cons (.s rfl) (.cons (.s rfl) (.cons (.s rfl) (.cons (.s rfl) .nil)))) rfl (by decide)) (.c (.call .none (edit_Numbers_ok hv8) (.cons (.s rfl) .nil)) (.c (.addStr .none (.str (l := [32]) (by decide)) (.s rfl) (fun _ => hn9)) (.c (.addStr .none (.s rfl) (.s rfl) (fun _ => hn10)) (.ra hv11 rfl (.nil (Ends.j _ (some_eq h)))))))))))))))))))))
  ·
   exact .skip (Ends.j _ (some_eq h))
 ·
  subst hj6; have h := hK6; clear hK6
  obtain ⟨r3, hv12, h⟩ := bind_some h
  obtain ⟨hn13, h⟩ := need_some h
  refine .sn mx (.mv rfl (.fa fd59_4 hfd59_4 rfl (.ld ty9 rfl (.fa fd59_5 hfd59_5 rfl (.ld ty9 rfl (.fa fd59_6 hfd59_6 rfl (.ld ty4 rfl (.fa fd59_3 hfd59_3 rfl (.ld ty9 rfl (.c (.call .none (desk_tail_ok hv12) (.cons (.s rfl) (.cons (.s rfl) (.cons (.s rfl) (.cons (.s rfl) .nil))))) (.c (.addStr .none (.s rfl) (.s rfl) (fun _ => hn13)) (.asn rfl (.nil (.ret ?_))))))))))))))
  obtain rfl := some_eq h
  exact Ends.rt Tryz.results22 rfl

theorem edit_SideWords_ok  {r : (List Str)}  (h : edit_SideWords  = some r) : FSpec Tryz.prog 100 [] (rep r) := by
 unfold edit_SideWords at h
 refine FSpec.i Tryz.func100 rfl Tryz.ntmps100 rfl (fun F => (.sn mx (.c (.assign .none (.const (x := ([] : (List Str))) (fun M w => ⟨_, ⟨none, 0, rfl, Nat.le_refl _, by decide, rfl⟩, rfl⟩))) (.nil (.sn mx (.c (.buildSlice (xs := [_, _, _, _, _]) .none sl76 ty9 hz9 (.cons (.str (l := []) (by decide)) (.cons (.str (l := [117, 112]) (by decide)) (.cons (.str (l := [114, 105, 103, 104, 116]) (by decide)) (.cons (.str (l := [100, 111, 119, 110]) (by decide)) (.cons (.str (l := [108, 101, 102, 116]) (by decide)) .nil))))) rfl (by decide)) (.asn rfl (.nil (.ret ?_)))))))))
 obtain rfl := some_eq h
 exact Ends.rt Tryz.results100 rfl

theorem edit_EndText_ok {x1 : DEnd} {r : Str}  (h : edit_EndText x1 = some r) : FSpec Tryz.prog 57 [rep x1] (rep r) := by
 unfold edit_EndText at h
 obtain ⟨hn1, h⟩ := need_some h
 obtain ⟨r1, hv2, h⟩ := bind_some h
 obtain ⟨hn3, h⟩ := need_some h
 obtain ⟨hn4, h⟩ := need_some h
 obtain ⟨hn5, h⟩ := need_some h
 obtain ⟨r2, hv6, h⟩ := bind_some h
 obtain ⟨hn7, h⟩ := need_some h
 refine FSpec.i Tryz.func57 rfl Tryz.ntmps57 rfl (fun F => (.sn mx (.c (.box .none (.s rfl)) (.c (.assign .none (.str (l := []) (by decide))) (.nil (.sn mx (.fa fd62_0 hfd62_0 rfl (.ld ty9 rfl (.c (.addStr .none (.s rfl) (.str (l := [32]) (by decide)) (fun _ => hn1)) (.c (.call .none (edit_SideWords_ok hv2) .nil) (.fa fd62_1 hfd62_1 rfl (.ld ty3 rfl (.ix sl76 ty9 rfl rfl hn3 (.ld ty9 rfl (.c (.addStr .none (.s rfl) (.s rfl) (fun _ => hn4)) (.c (.addStr .none (.s rfl) (.str (l := [32]) (by decide)) (fun _ => hn5)) (.fa fd62_2 hfd62_2 rfl (.ld ty3 rfl (.c (.call .none (strconv_Itoa_ok hv6) (.cons (.s rfl) .nil)) (.c (.addStr .none (.s rfl) (.s rfl) (fun _ => hn7)) (.asn rfl (.nil (.ret ?_)))))))))))))))))))))))
 obtain rfl := some_eq h
 exact Ends.rt Tryz.results57 rfl

theorem edit_Coords_ok {l1 : (List Point)} {r : (List Int)}  (h : edit_Coords l1 = some r) : FSpec Tryz.prog 58 [rep l1] (rep r) := by
 unfold edit_Coords at h
 refine FSpec.i Tryz.func58 rfl Tryz.ntmps58 rfl (fun F => (.sr [([], [2])] mx (.cW (.nilRow (T := 3) (α := Int) rfl) (.nil (.nameRow (t := 2) (g := 5001) rfl rfl rfl (fun s5001 => (.seq (.sn mx (.mv rfl (.ln sl63 rfl (.mvi (.nil ?_))))))))))))
 obtain ⟨j_1, h, hK1⟩ := bind_some h
 refine .thenJ (ι := (List Int)) (fun j_1 => []) (fun j_1 => [(2, some (rowV 3 j_1))]) (fun s => j_1 = s) Sub.nil SubB.nil ?_ (fun j_1' hj1 => ?_)
 ·
  refine .block (.anon (t := 2) (g := 5001) rfl rfl trivial rfl (.rforL h (fun p2_ => [(7, ⟨True, rep p2_.1⟩)]) (fun p2_ => [(2, some (rowV 3 p2_.2))]) (.k 7 rfl .nil) (.k 2 rfl .nil) (.k2 5 6 rfl rfl .nil) SubB.nil (fun p2_ o_2 h hD2 => (.nameRow (t := 2) (g := 5002) rfl rfl rfl (fun s5002 => (.sn mx (.lt rfl rfl (.nil (.seq (.cb rfl h (fun _ h => ?_) fun _ h => ?_))))))))))
  ·
   refine .skip (.then (.seq ?_))
   obtain ⟨j_4, h, hK4⟩ := bind_some h
   unfold edit_Coords_L1 at h
   refine .thenJ (ι := (List Int)) (fun j_4 => []) (fun j_4 => [(2, some (rowV 3 j_4))]) (fun s => j_4 = s) (.k2 5 6 rfl rfl (.k 7 rfl .nil)) SubB.nil ?_ (fun j_4' hj4 => ?_)
   ·
    obtain ⟨hn5, h⟩ := need_some h
    obtain ⟨v1, hv6, h⟩ := bnd_some h
    obtain ⟨hn7, h⟩ := need_some h
    exact .block (.sr [oo, oo, ([], [4]), ([4], [4])] mx (.ixA sl63 ty89 rfl rfl hn5 (.rlA hv6 ty89 rfl (.al zo89 rfl (.st ty89 rfl rfl rfl (.nil (.freeze (t := 4) rfl rfl (.k 5002 rfl .nil) rfl (.rg [oo, oo, oo, oo, oo, oo, ([5002], [17, 5002]), ([17], [2, 17])] mx (.mvA rfl (.faA fd89_0 hfd89_0 rfl (.ldA ty3 rfl (.faA fd89_1 hfd89_1 rfl (.ldA ty3 rfl (.cA (.buildSlice (xs := [_, _]) .none sl104 ty3 hz3 (.cons (.s rfl) (.cons (.s rfl) .nil)) rfl (by decide)) (.cW (.append (k := 5002) rk104 rfl (.told (.s rfl) rfl) (.s rfl) hn7) (.cW (.passRow rfl (.tmp rfl)) (.nil (.blkNormal (Ends.j _ (some_eq h))))))))))))))))))))
   ·
    subst hj4; have h := hK4; clear hK4
    exact .nameRow (t := 2) (g := 5003) rfl rfl rfl (fun s5003 => (.rn mx (.adi rfl (.mv rfl (.nil (.anon (t := 2) (g := 5003) rfl rfl trivial rfl (Ends.ag (some_eq h))))))))
  ·
   refine .exit (.thenExit (.thenExit (.blkExit (.anon (t := 2) (g := 5002) rfl rfl trivial rfl ?_))))
   replace h := hD2 _ (some_eq h)
   exact Ends.j _ (some_eq h)
 ·
  subst hj1; have h := hK1; clear hK1
  refine .freezeRowA (t := 2) rfl rfl SubB.nil rfl (.sn mx (.mv rfl (.asn rfl (.nil (.ret ?_)))))
  obtain rfl := some_eq h
  exact Ends.rt Tryz.results58 rfl

theorem desk_edgeLine_ok {x1 : DEdge} {r : Str}  (h : desk_edgeLine x1 = some r) : FSpec Tryz.prog 23 [rep x1] (rep r) := by
 unfold desk_edgeLine at h
 obtain ⟨hn1, h⟩ := need_some h
 obtain ⟨hn2, h⟩ := need_some h
 obtain ⟨r1, hv3, h⟩ := bind_some h
 obtain ⟨hn4, h⟩ := need_some h
 obtain ⟨hn5, h⟩ := need_some h
 obtain ⟨r2, hv6, h⟩ := bind_some h
 obtain ⟨hn7, h⟩ := need_some h
 obtain ⟨s1, hv8, h⟩ := bnd_some h
 refine FSpec.i Tryz.func23 rfl Tryz.ntmps23 rfl (fun F => (.sn mx (.c (.box .none (.s rfl)) (.c (.assign .none (.str (l := []) (by decide))) (.nil (.sn mx (.fa fd65_0 hfd65_0 rfl (.ld ty9 rfl (.c (.addStr .none (.str (l := [101, 100, 103, 101, 32]) (by decide)) (.s rfl) (fun _ => hn1)) (.c (.addStr .none (.s rfl) (.str (l := [32]) (by decide)) (fun _ => hn2)) (.fa fd65_1 hfd65_1 rfl (.ld ty62 rfl (.c (.call .none (edit_EndText_ok hv3) (.cons (.s rfl) .nil)) (.c (.addStr .none (.s rfl) (.s rfl) (fun _ => hn4)) (.c (.addStr .none (.s rfl) (.str (l := [32]) (by decide)) (fun _ => hn5)) (.fa fd65_2 hfd65_2 rfl (.ld ty62 rfl (.c (.call .none (edit_EndText_ok hv6) (.cons (.s rfl) .nil)) (.c (.addStr .none (.s rfl) (.s rfl) (fun _ => hn7)) (.ra hv8 rfl (.nil (.seq (.sn mx (.fa fd65_3 hfd65_3 rfl (.ld ty63 rfl (.ln sl63 rfl (.c (.gt .none (.s rfl) .i) (.nil ?_))))))))))))))))))))))))))))
 obtain ⟨j_9, h, hK9⟩ := bind_some h
 refine .thenJ (ι := Str) (fun j_9 => [(3, ⟨True, rep j_9⟩)]) (fun j_9 => []) (fun s => j_9 = s) (.k 1 rfl .nil) SubB.nil ?_ (fun j_9' hj9 => ?_)
 ·
  refine .cb rfl h (fun _ h => ?_) fun _ h => ?_
  ·
   obtain ⟨r3, hv11, h⟩ := bind_some h
   obtain ⟨r4, hv12, h⟩ := bind_some h
   obtain ⟨hn13, h⟩ := need_some h
   obtain ⟨hn14, h⟩ := need_some h
   obtain ⟨s2, hv15, h⟩ := bnd_some h
   exact .rn mx (.mv rfl (.fa fd65_3 hfd65_3 rfl (.ld ty63 rfl (.c (.call .none (edit_Coords_ok hv11) (.cons (.s rfl) .nil)) (.c (.call .none (edit_Numbers_ok hv12) (.cons (.s rfl) .nil)) (.c (.addStr .none (.str (l := [32, 98, 121, 32]) (by decide)) (.s rfl) (fun _ => hn13)) (.c (.addStr .none (.s rfl) (.s rfl) (fun _ => hn14)) (.ra hv15 rfl (.nil (Ends.j _ (some_eq h)))))))))))
  ·
   exact .skip (Ends.j _ (some_eq h))
 ·
  subst hj9; have h := hK9; clear hK9
  obtain ⟨r5, hv16, h⟩ := bind_some h
  obtain ⟨hn17, h⟩ := need_some h
  refine .sn mx (.mv rfl (.fa fd65_5 hfd65_5 rfl (.ld ty9 rfl (.fa fd65_4 hfd65_4 rfl (.ld ty9 rfl (.c (.call .none (desk_tail_ok hv16) (.cons (.s rfl) (.cons (.str (l := []) (by decide)) (.cons .bool (.cons (.s rfl) .nil))))) (.c (.addStr .none (.s rfl) (.s rfl) (fun _ => hn17)) (.asn rfl (.nil (.ret ?_))))))))))
  obtain rfl := some_eq h
  exact Ends.rt Tryz.results23 rfl

theorem desk_Print_ok {d1 : Doc} {l1 : (List Rule)} {r : (Str × Int)}  (h : desk_Print d1 l1 = some r) : FSpec Tryz.prog 4 [rep d1, rep l1] (tup [rep r.1, rep r.2]) := by
 unfold desk_Print at h
 obtain ⟨e1, hv1, h⟩ := bind_some h
 refine FSpec.i Tryz.func4 rfl Tryz.ntmps4 rfl (fun F => (.sn mx (.c (.box .none (.s rfl)) (.c (.assign .none (.str (l := []) (by decide))) (.asi (.nil (.seq (.sn mx (.ld ty25 rfl (.c (.call .none (page_Check_ok hv1) (.cons (.s rfl) .nil)) (.asn rfl (.nil (.sn mx (.mv rfl (.nei rfl (.nil (.cb rfl h (fun _ h => ?_) fun _ h => ?_)))))))))))))))))
 ·
  refine .sn mx (.mv rfl (.c (.assign .none (.str (l := []) (by decide))) (.asn rfl (.nil (.ret (.thenRet ?_))))))
  obtain rfl := some_eq h
  exact Ends.ret2 (.inl rfl) Tryz.results4 (ResOK.tmp rfl trivial Imp.refl) (ResOK.tmp rfl trivial Imp.refl)
 ·
  obtain ⟨e2, hv3, h⟩ := bind_some h
  refine .skip (.then (.seq (.sn mx (.mv rfl (.c (.call .none (desk_CheckRules_ok hv3) (.cons (.s rfl) .nil)) (.asn rfl (.nil (.sn mx (.mv rfl (.nei rfl (.nil (.cb rfl h (fun _ h => ?_) fun _ h => ?_))))))))))))
  ·
   refine .sn mx (.mv rfl (.c (.assign .none (.str (l := []) (by decide))) (.asn rfl (.nil (.ret (.thenRet ?_))))))
   obtain rfl := some_eq h
   exact Ends.ret2 (.inl rfl) Tryz.results4 (ResOK.tmp rfl trivial Imp.refl) (ResOK.tmp rfl trivial Imp.refl)
  ·
   obtain ⟨b1, hv5, h⟩ := bnd_some h
   refine .skip (.then (.sr [([], [8])] mx (.cW (.post1 (.alloc zbld50 rfl) bld_new) (.nil (.reB (t := 8) rfl (congrArg (bldC 50 5) hv5) (.nameAt (t := 8) (g := 5001) rfl rfl isBox_bld rfl (fun m5001 => (.seq (.sn mx (.mv rfl (.ln sl26 rfl (.mvi (.nil ?_)))))))))))))
   obtain ⟨j_6, h, hK6⟩ := bind_some h
   refine .thenJ (ι := Str) (fun j_6 => []) (fun j_6 => [(5001, some (CPred.at (ptr m5001 0) (bldC 50 5 j_6)))]) (fun s => j_6 = s) (.k2 2 8 rfl rfl .nil) SubB.nil ?_ (fun j_6' hj6 => ?_)
   ·
    refine .block (.rforL h (fun p7_ => [(27, ⟨True, rep p7_.1⟩)]) (fun p7_ => [(5001, some (CPred.at (ptr m5001 0) (bldC 50 5 p7_.2)))]) (.k 27 rfl .nil) (.k 5001 rfl .nil) (.k4 2 8 25 26 rfl rfl rfl rfl .nil) SubB.nil (fun p7_ o_7 h hD7 => (.sn mx (.lt rfl rfl (.nil (.seq (.cb rfl h (fun _ h => ?_) fun _ h => ?_)))))))
    ·
     refine .skip (.then (.seq ?_))
     obtain ⟨j_9, h, hK9⟩ := bind_some h
     unfold desk_Print_L1 at h
     refine .thenJ (ι := Str) (fun j_9 => []) (fun j_9 => [(5001, some (CPred.at (ptr m5001 0) (bldC 50 5 j_9)))]) (fun s => j_9 = s) (.k4 2 8 25 26 rfl rfl rfl rfl (.k 27 rfl .nil)) SubB.nil ?_ (fun j_9' hj9 => ?_)
     ·
      obtain ⟨hn10, h⟩ := need_some h
      obtain ⟨v1, hv11, h⟩ := bnd_some h
      obtain ⟨r1, hv12, h⟩ := bind_some h
      obtain ⟨hn13, h⟩ := need_some h
      obtain ⟨r2, hv14, h⟩ := bind_some h
      exact .block (.sr [oo, oo, ([], [10]), ([10], [10])] mx (.ixA sl26 ty43 rfl rfl hn10 (.rlA hv11 ty43 rfl (.al zo43 rfl (.st ty43 rfl rfl rfl (.nil (.freeze (t := 10) rfl rfl (.k 5001 rfl .nil) rfl (.rg [oo, oo, oo, ([5001], [5001])] mx (.ldA ty43 rfl (.cA (.call .none (desk_ruleLine_ok hv12) (.cons (.s rfl) .nil)) (.cA (.addStr .none (.s rfl) (.str (l := [10]) (by decide)) (fun _ => hn13)) (.cW (.cO [5001] (strings_Builder_WriteString_ok hv14) (.cons (.s rfl) (.cons (.s rfl) .nil)) (.cons (k := 5001) rfl .nil) rfl) (.nil (.blkNormal (Ends.j _ (some_eq h))))))))))))))))
     ·
      subst hj9; have h := hK9; clear hK9
      exact .rn mx (.adi rfl (.mv rfl (.nil (Ends.ag (some_eq h)))))
    ·
     refine .exit (.thenExit (.thenExit (.blkExit ?_)))
     replace h := hD7 _ (some_eq h)
     exact Ends.j _ (some_eq h)
   ·
    subst hj6; have h := hK6; clear hK6
    refine .seq (.sn mx (.fa fd25_0 hfd25_0 rfl (.ld ty22 rfl (.ln sl22 rfl (.mvi (.nil ?_))))))
    obtain ⟨j_15, h, hK15⟩ := bind_some h
    refine .thenJ (ι := Str) (fun j_15 => []) (fun j_15 => [(5001, some (CPred.at (ptr m5001 0) (bldC 50 5 j_15)))]) (fun s => j_15 = s) (.k2 2 8 rfl rfl .nil) SubB.nil ?_ (fun j_15' hj15 => ?_)
    ·
     refine .block (.rforL h (fun p16_ => [(39, ⟨True, rep p16_.1⟩)]) (fun p16_ => [(5001, some (CPred.at (ptr m5001 0) (bldC 50 5 p16_.2)))]) (.k 39 rfl .nil) (.k 5001 rfl .nil) (.k4 2 8 37 38 rfl rfl rfl rfl .nil) SubB.nil (fun p16_ o_16 h hD16 => (.sn mx (.lt rfl rfl (.nil (.seq (.cb rfl h (fun _ h => ?_) fun _ h => ?_)))))))
     ·
      refine .skip (.then (.seq ?_))
      obtain ⟨j_18, h, hK18⟩ := bind_some h
      unfold desk_Print_L2 at h
      refine .thenJ (ι := Str) (fun j_18 => []) (fun j_18 => [(5001, some (CPred.at (ptr m5001 0) (bldC 50 5 j_18)))]) (fun s => j_18 = s) (.k4 2 8 37 38 rfl rfl rfl rfl (.k 39 rfl .nil)) SubB.nil ?_ (fun j_18' hj18 => ?_)
      ·
       obtain ⟨hn19, h⟩ := need_some h
       obtain ⟨v2, hv20, h⟩ := bnd_some h
       obtain ⟨r3, hv21, h⟩ := bind_some h
       obtain ⟨hn22, h⟩ := need_some h
       obtain ⟨r4, hv23, h⟩ := bind_some h
       exact .block (.sr [oo, oo, ([], [12]), ([12], [12])] mx (.ixA sl22 ty59 rfl rfl hn19 (.rlA hv20 ty59 rfl (.al zo59 rfl (.st ty59 rfl rfl rfl (.nil (.freeze (t := 12) rfl rfl (.k 5001 rfl .nil) rfl (.rg [oo, oo, oo, ([5001], [5001])] mx (.ldA ty59 rfl (.cA (.call .none (desk_nodeLine_ok hv21) (.cons (.s rfl) .nil)) (.cA (.addStr .none (.s rfl) (.str (l := [10]) (by decide)) (fun _ => hn22)) (.cW (.cO [5001] (strings_Builder_WriteString_ok hv23) (.cons (.s rfl) (.cons (.s rfl) .nil)) (.cons (k := 5001) rfl .nil) rfl) (.nil (.blkNormal (Ends.j _ (some_eq h))))))))))))))))
      ·
       subst hj18; have h := hK18; clear hK18
       exact .rn mx (.adi rfl (.mv rfl (.nil (Ends.ag (some_eq h)))))
     ·
      refine .exit (.thenExit (.thenExit (.blkExit ?_)))
      replace h := hD16 _ (some_eq h)
      exact Ends.j _ (some_eq h)
    ·
     subst hj15; have h := hK15; clear hK15
     refine .seq (.sn mx (.fa fd25_1 hfd25_1 rfl (.ld ty23 rfl (.ln sl23 rfl (.mvi (.nil ?_))))))
     obtain ⟨j_24, h, hK24⟩ := bind_some h
     refine .thenJ (ι := Str) (fun j_24 => []) (fun j_24 => [(5001, some (CPred.at (ptr m5001 0) (bldC 50 5 j_24)))]) (fun s => j_24 = s) (.k 8 rfl .nil) SubB.nil ?_ (fun j_24' hj24 => ?_)
     ·
      refine .block (.rforL h (fun p25_ => [(51, ⟨True, rep p25_.1⟩)]) (fun p25_ => [(5001, some (CPred.at (ptr m5001 0) (bldC 50 5 p25_.2)))]) (.k 51 rfl .nil) (.k 5001 rfl .nil) (.k2 8 49 rfl rfl (.k 50 rfl .nil)) SubB.nil (fun p25_ o_25 h hD25 => (.sn mx (.lt rfl rfl (.nil (.seq (.cb rfl h (fun _ h => ?_) fun _ h => ?_)))))))
      ·
       refine .skip (.then (.seq ?_))
       obtain ⟨j_27, h, hK27⟩ := bind_some h
       unfold desk_Print_L3 at h
       refine .thenJ (ι := Str) (fun j_27 => []) (fun j_27 => [(5001, some (CPred.at (ptr m5001 0) (bldC 50 5 j_27)))]) (fun s => j_27 = s) (.k4 8 49 50 51 rfl rfl rfl rfl .nil) SubB.nil ?_ (fun j_27' hj27 => ?_)
       ·
        obtain ⟨hn28, h⟩ := need_some h
        obtain ⟨v3, hv29, h⟩ := bnd_some h
        obtain ⟨r5, hv30, h⟩ := bind_some h
        obtain ⟨hn31, h⟩ := need_some h
        obtain ⟨r6, hv32, h⟩ := bind_some h
        exact .block (.sr [oo, oo, ([], [14]), ([14], [14])] mx (.ixA sl23 ty65 rfl rfl hn28 (.rlA hv29 ty65 rfl (.al zo65 rfl (.st ty65 rfl rfl rfl (.nil (.freeze (t := 14) rfl rfl (.k 5001 rfl .nil) rfl (.rg [oo, oo, oo, ([5001], [5001])] mx (.ldA ty65 rfl (.cA (.call .none (desk_edgeLine_ok hv30) (.cons (.s rfl) .nil)) (.cA (.addStr .none (.s rfl) (.str (l := [10]) (by decide)) (fun _ => hn31)) (.cW (.cO [5001] (strings_Builder_WriteString_ok hv32) (.cons (.s rfl) (.cons (.s rfl) .nil)) (.cons (k := 5001) rfl .nil) rfl) (.nil (.blkNormal (Ends.j _ (some_eq h))))))))))))))))
       ·
        subst hj27; have h := hK27; clear hK27
        exact .rn mx (.adi rfl (.mv rfl (.nil (Ends.ag (some_eq h)))))
      ·
       refine .exit (.thenExit (.thenExit (.blkExit ?_)))
       replace h := hD25 _ (some_eq h)
       exact Ends.j _ (some_eq h)
     ·
      subst hj24; have h := hK24; clear hK24
      obtain ⟨r7, hv33, h⟩ := bind_some h
      refine .seq (.sr [([5001], [5001]), oo] mx (.cW (.cO [5001] (strings_Builder_Len_ok hv33) (.cons (.s rfl) .nil) (.cons (k := 5001) rfl .nil) rfl) (.cA (.gt .none (.s rfl) .i) (.nil (.cb rfl h (fun _ h => ?_) fun _ h => ?_)))))
      ·
       refine .sn mx (.c (.assign .none (.str (l := []) (by decide))) (.asi (.nil (.ret (.thenRet ?_)))))
       obtain rfl := some_eq h
       exact Ends.ret2 (.inl rfl) Tryz.results4 (ResOK.tmp rfl trivial Imp.refl) (ResOK.tmp rfl trivial Imp.refl)
      ·
       obtain ⟨r8, hv35, h⟩ := bind_some h
       refine .skip (.then (.sr [([5001], [5001]), oo, oo] mx (.cW (.cO [5001] (strings_Builder_String_ok hv35) (.cons (.s rfl) .nil) (.cons (k := 5001) rfl .nil) rfl) (.asnA rfl (.cA (.assign .none .i) (.nil (.ret ?_)))))))
       obtain rfl := some_eq h
       exact Ends.ret2 (.inl rfl) Tryz.results4 (ResOK.tmp rfl trivial Imp.refl) (ResOK.tmp rfl trivial Imp.refl)

theorem ref_nodeError_1_ok {m1 : DNode} {c0_1 : DNode} {r : Bool}  (h : ref_nodeError_1 m1 c0_1 = some r) : FSpec Tryz.prog 60 [rep m1, ref c0_1] (rep r) := by
 unfold ref_nodeError_1 at h
 refine FSpec.i Tryz.func60 rfl Tryz.ntmps60 rfl (fun F => (.sn mx (.c (.box .none (.s rfl)) (.asb (.nil (.sn mx (.fa fd59_0 hfd59_0 rfl (.ld ty9 rfl (.fa fd59_0 hfd59_0 rfl (.ld ty9 rfl (.c (.eqS .none (eqAt_str Tryz.underlying9) (.s rfl) (.s rfl)) (.asn rfl (.nil (.ret ?_))))))))))))))
 obtain rfl := some_eq h
 exact Ends.rt Tryz.results60 rfl

theorem slices_IndexFunc_Node_ok {s1 : (List DNode)} {f1 : (DNode → Option Bool)} {r : Int}  (h : slices_IndexFunc_Node s1 f1 = some r) : FSpec Tryz.prog 101 [rep s1, fn1 Tryz.prog (rep (α := Bool)) f1] (rep r) := by
 unfold slices_IndexFunc_Node at h
 refine FSpec.i Tryz.func101 rfl Tryz.ntmps101 rfl (fun F => (.sn mx (.asi (.nil (.seq (.sn mx (.mv rfl (.ln sl22 rfl (.mvi (.nil ?_))))))))))
 obtain ⟨o_1, h, hK1⟩ := bindR_some h
 refine .tJ (fun s => o_1 = Res.nx s) Sub.nil SubB.nil ?_ (fun j_1 hj1 => ?_)
 ·
  refine .block (.rforEL h (fun p2_ => [(8, ⟨True, rep p2_.1⟩)]) (fun p2_ => []) (.k 8 rfl .nil) SubB.nil (.k2 0 1 rfl rfl (.k 7 rfl .nil)) SubB.nil (fun p2_ o_2 h hD2 => (.sn mx (.lt rfl rfl (.nil (.seq (.cb rfl h (fun _ h => ?_) fun _ h => ?_)))))))
  ·
   refine .skip (.then (.seq ?_))
   obtain ⟨o_4, h, hK4⟩ := bindD_some h
   unfold slices_IndexFunc_Node_L1 at h
   refine .tJ (fun s => o_4 = Res.nx s) (.k4 0 1 7 8 rfl rfl rfl rfl .nil) SubB.nil ?_ (fun j_4 hj4 => ?_)
   ·
    obtain ⟨hn5, h⟩ := need_some h
    obtain ⟨r1, hv6, h⟩ := bind_some h
    refine .block (.sn mx (.mv rfl (.asn rfl (.nil (.sn mx (.mv rfl (.mv rfl (.mv rfl (.ix sl22 ty59 rfl rfl hn5 (.ld ty59 rfl (.c (.callV (gx s1 p2_.1, r1) .none (.s rfl) (fun _ => hv6) (.cons (.s rfl) .nil)) (.nil (.cb rfl h (fun _ h => ?_) fun _ h => ?_)))))))))))))
    ·
     refine .sn mx (.mv rfl (.asn rfl (.nil (.ret (.blkRet (.thenRet (.thenRet (.blkRet (.thenRet ?_)))))))))
     replace h := resd_ab hK4 (some_eq h)
     replace h := hD2 _ (some_eq h)
     replace h := resb_ab hK1 (some_eq h)
     obtain rfl := some_eq h
     exact Ends.rt Tryz.results101 rfl
    ·
     exact .skip (.blkNormal (Ends.j _ (some_eq h)))
   ·
    have h := resd_nx hK4 hj4
    exact .rn mx (.adi rfl (.mv rfl (.nil (Ends.ag (some_eq h)))))
  ·
   refine .exit (.thenExit (.thenExit (.blkExit ?_)))
   replace h := hD2 _ (some_eq h)
   exact Ends.j _ (some_eq h)
 ·
  have h := resb_nx hK1 hj1
  refine .sn mx (.asi (.nil (.ret ?_)))
  obtain rfl := some_eq h
  exact Ends.rt Tryz.results101 rfl

theorem slices_ContainsFunc_Node_ok {s1 : (List DNode)} {f1 : (DNode → Option Bool)} {r : Bool}  (h : slices_ContainsFunc_Node s1 f1 = some r) : FSpec Tryz.prog 59 [rep s1, fn1 Tryz.prog (rep (α := Bool)) f1] (rep r) := by
 unfold slices_ContainsFunc_Node at h
 obtain ⟨r1, hv1, h⟩ := bind_some h
 refine FSpec.i Tryz.func59 rfl Tryz.ntmps59 rfl (fun F => (.sn mx (.asb (.nil (.sn mx (.mv rfl (.mv rfl (.c (.call .none (slices_IndexFunc_Node_ok hv1) (.cons (.s rfl) (.cons (.s rfl) .nil))) (.c (.ge .none (.s rfl) .i) (.asn rfl (.nil (.ret ?_))))))))))))
 obtain rfl := some_eq h
 exact Ends.rt Tryz.results59 rfl

theorem ref_NameOf_ok {s1 : Str} {r : Bool}  (h : ref_NameOf s1 = some r) : FSpec Tryz.prog 30 [rep s1] (rep r) := by
 unfold ref_NameOf at h
 refine FSpec.i Tryz.func30 rfl Tryz.ntmps30 rfl (fun F => (.sn mx (.asb (.nil (.seq (.sn mx (.mv rfl (.c (.lenStr .none Tryz.underlying9 (.s rfl)) (.mvi (.nil ?_))))))))))
 obtain ⟨o_1, h, hK1⟩ := bindR_some h
 refine .tJ (fun s => o_1 = Res.nx s) (.k 0 rfl .nil) SubB.nil ?_ (fun j_1 hj1 => ?_)
 ·
  refine .block (.rforEL h (fun p2_ => [(7, ⟨True, rep p2_.1⟩)]) (fun p2_ => []) (.k 7 rfl .nil) SubB.nil (.k2 0 6 rfl rfl .nil) SubB.nil (fun p2_ o_2 h hD2 => (.sn mx (.lt rfl rfl (.nil (.seq (.cb rfl h (fun _ h => ?_) fun _ h => ?_)))))))
  ·
   refine .skip (.then (.seq ?_))
   obtain ⟨o_4, h, hK4⟩ := bindD_some h
   unfold ref_NameOf_L1 at h
   refine .tJ (fun s => o_4 = Res.nx s) (.k2 0 6 rfl rfl (.k 7 rfl .nil)) SubB.nil ?_ (fun j_4 hj4 => ?_)
   ·
    obtain ⟨hn5, h⟩ := need_some h
    obtain ⟨c1, hv6, h⟩ := bnd_some h
    refine .block (.sn mx (.mv rfl (.asn rfl (.nil (.sn mx (.mv rfl (.mv rfl (.c (.indexStr .none Tryz.underlying9 (.s rfl) (.s rfl) (fun _ => hn5)) (.ra hv6 rfl (.nil (.sn mx (.mv rfl (.c (.kgeq .none (.s rfl) .ki) (.mv rfl (.mg rfl rfl rfl (.c (.kleq (.at rfl rfl) (.tmp rfl id) .ki) (.pa rfl rfl (.c (.not .none (.s rfl)) (.mv rfl (.mg rfl rfl rfl (.c (.eqI (.at rfl rfl) (.tmp rfl id) .i) (.c (.move (.at rfl rfl) (.tmp rfl id)) (.mg rfl rfl rfl (.c (.kgeq (.at rfl rfl) (.tmp rfl id) .ki) (.c (.move (.at rfl rfl) (.tmp rfl id)) (.mg rfl rfl rfl (.c (.kleq (.at rfl rfl) (.tmp rfl id) .ki) (.c (.pickAnd (.at rfl rfl) (.tmp rfl id) (.tmp rfl id)) (.c (.not (.at rfl rfl) (.tmp rfl id)) (.c (.move (.at rfl rfl) (.tmp rfl id)) (.mg rfl rfl rfl (.c (.kneq (.at rfl rfl) (.tmp rfl id) .ki) (.c (.pickAnd (.at rfl rfl) (.tmp rfl id) (.tmp rfl id)) (.c (.pickOr (.at rfl rfl) (.tmp rfl id) (.tmp rfl id)) (.pa rfl rfl (.nil (.cb rfl h (fun _ h => ?_) fun _ h => ?_)))))))))))))))))))))))))))))))))))))
    ·
     refine .sn mx (.asb (.nil (.ret (.blkRet (.thenRet (.thenRet (.blkRet (.thenRet ?_))))))))
     replace h := resd_ab hK4 (some_eq h)
     replace h := hD2 _ (some_eq h)
     replace h := resb_ab hK1 (some_eq h)
     obtain rfl := some_eq h
     exact Ends.rt Tryz.results30 rfl
    ·
     exact .skip (.blkNormal (Ends.j _ (some_eq h)))
   ·
    have h := resd_nx hK4 hj4
    exact .rn mx (.adi rfl (.mv rfl (.nil (Ends.ag (some_eq h)))))
  ·
   refine .exit (.thenExit (.thenExit (.blkExit ?_)))
   replace h := hD2 _ (some_eq h)
   exact Ends.j _ (some_eq h)
 ·
  have h := resb_nx hK1 hj1
  refine .sn mx (.mv rfl (.c (.neS .none (eqAt_str Tryz.underlying9) (.s rfl) (.str (l := []) (by decide))) (.mv rfl (.mg rfl rfl rfl (.c (.lenStr (.at rfl rfl) Tryz.underlying9 (.tmp rfl id)) (.c (.le (.at rfl rfl) (.tmp rfl id) .i) (.pa rfl rfl (.asn rfl (.nil (.ret ?_))))))))))
  obtain rfl := some_eq h
  exact Ends.rt Tryz.results30 rfl

theorem ref_When_ok {is1 : Bool} {e1 : Int} {r : Int}  (h : ref_When is1 e1 = some r) : FSpec Tryz.prog 8 [rep is1, rep e1] (rep r) := by
 unfold ref_When at h
 refine FSpec.i Tryz.func8 rfl Tryz.ntmps8 rfl (fun F => (.sn mx (.asi (.nil (.seq (.sn mx (.mv rfl (.nil (.cb rfl h (fun _ h => ?_) fun _ h => ?_)))))))))
 ·
  refine .sn mx (.mv rfl (.asn rfl (.nil (.ret (.thenRet ?_)))))
  obtain rfl := some_eq h
  exact Ends.rt Tryz.results8 rfl
 ·
  refine .skip (.then (.sn mx (.asi (.nil (.ret ?_)))))
  obtain rfl := some_eq h
  exact Ends.rt Tryz.results8 rfl

theorem ref_In_ok {n1 : Int} {low1 : Int} {high1 : Int} {r : Bool}  (h : ref_In n1 low1 high1 = some r) : FSpec Tryz.prog 16 [rep n1, rep low1, rep high1] (rep r) := by
 unfold ref_In at h
 refine FSpec.i Tryz.func16 rfl Tryz.ntmps16 rfl (fun F => (.sn mx (.asb (.nil (.sn mx (.mv rfl (.mv rfl (.c (.ge .none (.s rfl) (.s rfl)) (.mv rfl (.mg rfl rfl rfl (.mg rfl rfl rfl (.c (.le (.at rfl rfl) (.tmp rfl id) (.tmp rfl id)) (.pa rfl rfl (.asn rfl (.nil (.ret ?_))))))))))))))))
 obtain rfl := some_eq h
 exact Ends.rt Tryz.results16 rfl

theorem ref_First_ok {l1 : (List Int)} {r : Int}  (h : ref_First l1 = some r) : FSpec Tryz.prog 5 [rep l1] (rep r) := by
 unfold ref_First at h
 refine FSpec.i Tryz.func5 rfl Tryz.ntmps5 rfl (fun F => (.sn mx (.asi (.nil (.seq (.sn mx (.mv rfl (.ln sl68 rfl (.mvi (.nil ?_))))))))))
 obtain ⟨o_1, h, hK1⟩ := bindR_some h
 refine .tJ (fun s => o_1 = Res.nx s) Sub.nil SubB.nil ?_ (fun j_1 hj1 => ?_)
 ·
  refine .block (.rforEL h (fun p2_ => [(7, ⟨True, rep p2_.1⟩)]) (fun p2_ => []) (.k 7 rfl .nil) SubB.nil (.k2 5 6 rfl rfl .nil) SubB.nil (fun p2_ o_2 h hD2 => (.sn mx (.lt rfl rfl (.nil (.seq (.cb rfl h (fun _ h => ?_) fun _ h => ?_)))))))
  ·
   refine .skip (.then (.seq ?_))
   obtain ⟨o_4, h, hK4⟩ := bindD_some h
   unfold ref_First_L1 at h
   refine .tJ (fun s => o_4 = Res.nx s) (.k2 5 6 rfl rfl (.k 7 rfl .nil)) SubB.nil ?_ (fun j_4 hj4 => ?_)
   ·
    obtain ⟨hn5, h⟩ := need_some h
    obtain ⟨e1, hv6, h⟩ := bnd_some h
    refine .block (.sn mx (.ix sl68 ty27 rfl rfl hn5 (.ld ty27 rfl (.ra hv6 rfl (.nil (.sn mx (.mv rfl (.nei rfl (.nil (.cb rfl h (fun _ h => ?_) fun _ h => ?_))))))))))
    ·
     refine .sn mx (.mv rfl (.asn rfl (.nil (.ret (.blkRet (.thenRet (.thenRet (.blkRet (.thenRet ?_)))))))))
     replace h := resd_ab hK4 (some_eq h)
     replace h := hD2 _ (some_eq h)
     replace h := resb_ab hK1 (some_eq h)
     obtain rfl := some_eq h
     exact Ends.rt Tryz.results5 rfl
    ·
     exact .skip (.blkNormal (Ends.j _ (some_eq h)))
   ·
    have h := resd_nx hK4 hj4
    exact .rn mx (.adi rfl (.mv rfl (.nil (Ends.ag (some_eq h)))))
  ·
   refine .exit (.thenExit (.thenExit (.blkExit ?_)))
   replace h := hD2 _ (some_eq h)
   exact Ends.j _ (some_eq h)
 ·
  have h := resb_nx hK1 hj1
  refine .sn mx (.asi (.nil (.ret ?_)))
  obtain rfl := some_eq h
  exact Ends.rt Tryz.results5 rfl

theorem ref_PointError_ok {p1 : Point} {r : Int}  (h : ref_PointError p1 = some r) : FSpec Tryz.prog 102 [rep p1] (rep r) := by
 unfold ref_PointError at h
 obtain ⟨r1, hv1, h⟩ := bind_some h
 obtain ⟨r2, hv2, h⟩ := bind_some h
 refine FSpec.i Tryz.func102 rfl Tryz.ntmps102 rfl (fun F => (.sn mx (.c (.box .none (.s rfl)) (.asi (.nil (.sn mx (.fa fd89_0 hfd89_0 rfl (.ld ty3 rfl (.c (.call .none (ref_In_ok hv1) (.cons (.s rfl) (.cons .i (.cons .i .nil)))) (.c (.not .none (.s rfl)) (.mv rfl (.fg fd89_1 hfd89_1 rfl rfl rfl (.lg ty3 rfl rfl rfl (.c (.callIf (.at rfl rfl) fnok16 (fun hg => ref_In_ok ((fun hg => gd_some hv2 ((notT hg.2))) hg)) (.cons (.tmp rfl id) (.cons .i (.cons .i .nil))) (fun h => h)) ?_))))))))))))))
 obtain ⟨r3, hv3, h⟩ := bind_some h
 refine .c (.not (.at rfl rfl) (.tmp rfl id)) (.po rfl rfl (.c (.call .none (ref_When_ok hv3) (.cons (.s rfl) (.cons .i .nil))) (.asn rfl (.nil (.ret ?_)))))
 obtain rfl := some_eq h
 exact Ends.rt Tryz.results102 rfl

theorem ref_BoxError_ok {b1 : Box} {r : Int}  (h : ref_BoxError b1 = some r) : FSpec Tryz.prog 61 [rep b1] (rep r) := by
 unfold ref_BoxError at h
 obtain ⟨r1, hv1, h⟩ := bind_some h
 obtain ⟨r2, hv2, h⟩ := bind_some h
 obtain ⟨r3, hv3, h⟩ := bind_some h
 refine FSpec.i Tryz.func61 rfl Tryz.ntmps61 rfl (fun F => (.sn mx (.c (.box .none (.s rfl)) (.asi (.nil (.sn mx (.fa fd57_0 hfd57_0 rfl (.ld ty3 rfl (.fa fd57_1 hfd57_1 rfl (.ld ty3 rfl (.c (.buildF (y := (⟨b1.X, b1.Y⟩ : Point)) .none bu89 zc89 rfl (.cons (.s rfl) (.cons (.s rfl) .nil)) (.cons rfl sf89_0 (.cons rfl sf89_1 .nil))) (.c (.call .none (ref_PointError_ok hv1) (.cons (.s rfl) .nil)) (.fa fd57_2 hfd57_2 rfl (.ld ty3 rfl (.c (.call .none (ref_In_ok hv2) (.cons (.s rfl) (.cons .i (.cons .i .nil)))) (.c (.not .none (.s rfl)) (.mv rfl (.fg fd57_3 hfd57_3 rfl rfl rfl (.lg ty3 rfl rfl rfl (.c (.callIf (.at rfl rfl) fnok16 (fun hg => ref_In_ok ((fun hg => gd_some hv3 ((notT hg.2))) hg)) (.cons (.tmp rfl id) (.cons .i (.cons .i .nil))) (fun h => h)) ?_))))))))))))))))))))
 obtain ⟨r4, hv4, h⟩ := bind_some h
 obtain ⟨r5, hv5, h⟩ := bind_some h
 refine .c (.not (.at rfl rfl) (.tmp rfl id)) (.po rfl rfl (.c (.call .none (ref_When_ok hv4) (.cons (.s rfl) (.cons .i .nil))) (.c (.buildSlice (xs := [_, _]) .none sl68 ty27 hz27 (.cons (.s rfl) (.cons (.s rfl) .nil)) rfl (by decide)) (.c (.call .none (ref_First_ok hv5) (.cons (.s rfl) .nil)) (.asn rfl (.nil (.ret ?_)))))))
 obtain rfl := some_eq h
 exact Ends.rt Tryz.results61 rfl

theorem ref_TextError_ok {s1 : Str} {r : Int}  (h : ref_TextError s1 = some r) : FSpec Tryz.prog 62 [rep s1] (rep r) := by
 unfold ref_TextError at h
 obtain ⟨r1, hv1, h⟩ := bind_some h
 obtain ⟨bad1, hv2, h⟩ := bnd_some h
 refine FSpec.i Tryz.func62 rfl Tryz.ntmps62 rfl (fun F => (.sn mx (.asi (.nil (.sn mx (.mv rfl (.c (.call .none (utf8_ValidString_ok hv1) (.cons (.s rfl) .nil)) (.c (.not .none (.s rfl)) (.ra hv2 rfl (.nil (.seq (.sn mx (.mv rfl (.c (.lenStr .none Tryz.underlying9 (.s rfl)) (.mvi (.nil ?_))))))))))))))))
 obtain ⟨j_3, h, hK3⟩ := bind_some h
 refine .thenJ (ι := Bool) (fun j_3 => [(3, ⟨True, rep j_3⟩)]) (fun j_3 => []) (fun s => j_3 = s) (.k 0 rfl .nil) SubB.nil ?_ (fun j_3' hj3 => ?_)
 ·
  refine .block (.rforL h (fun p4_ => [(10, ⟨True, rep p4_.1⟩), (3, ⟨True, rep p4_.2⟩)]) (fun p4_ => []) (.k2 10 3 rfl rfl .nil) SubB.nil (.k2 0 9 rfl rfl .nil) SubB.nil (fun p4_ o_4 h hD4 => (.sn mx (.lt rfl rfl (.nil (.seq (.cb rfl h (fun _ h => ?_) fun _ h => ?_)))))))
  ·
   refine .skip (.then (.seq ?_))
   obtain ⟨j_6, h, hK6⟩ := bind_some h
   unfold ref_TextError_L1 at h
   refine .thenJ (ι := Bool) (fun j_6 => [(3, ⟨True, rep j_6⟩)]) (fun j_6 => []) (fun s => j_6 = s) (.k2 0 9 rfl rfl (.k 10 rfl .nil)) SubB.nil ?_ (fun j_6' hj6 => ?_)
   ·
    obtain ⟨hn7, h⟩ := need_some h
    obtain ⟨hn8, h⟩ := need_some h
    obtain ⟨hn9, h⟩ := need_some h
    obtain ⟨bad2, hv10, h⟩ := bnd_some h
    exact .block (.sn mx (.mv rfl (.asn rfl (.nil (.rn mx (.mv rfl (.mv rfl (.mg rfl rfl rfl (.mg rfl rfl rfl (.c (.indexStr (.at rfl rfl) Tryz.underlying9 (.tmp rfl id) (.tmp rfl id) (fun hg => hn7 hg.2)) (.c (.klss (.at rfl rfl) (.tmp rfl id) .ki) (.c (.move (.at rfl rfl) (.tmp rfl id)) (.mg rfl rfl rfl (.mg rfl rfl rfl (.c (.indexStr (.at rfl rfl) Tryz.underlying9 (.tmp rfl id) (.tmp rfl id) (fun hg => hn8 hg.1.2 hg.2)) (.c (.kneq (.at rfl rfl) (.tmp rfl id) .ki) (.c (.pickAnd (.at rfl rfl) (.tmp rfl id) (.tmp rfl id)) (.po rfl rfl (.mv rfl (.mg rfl rfl rfl (.mg rfl rfl rfl (.c (.indexStr (.at rfl rfl) Tryz.underlying9 (.tmp rfl id) (.tmp rfl id) (fun hg => hn9 hg.2)) (.c (.keql (.at rfl rfl) (.tmp rfl id) .ki) (.po rfl rfl (.ra hv10 rfl (.nil (.blkNormal (Ends.j _ (some_eq h)))))))))))))))))))))))))))))
   ·
    subst hj6; have h := hK6; clear hK6
    exact .rn mx (.adi rfl (.mv rfl (.nil (Ends.ag (some_eq h)))))
  ·
   refine .exit (.thenExit (.thenExit (.blkExit ?_)))
   replace h := hD4 _ (some_eq h)
   exact Ends.j _ (some_eq h)
 ·
  subst hj3; have h := hK3; clear hK3
  obtain ⟨r2, hv11, h⟩ := bind_some h
  obtain ⟨r3, hv12, h⟩ := bind_some h
  obtain ⟨r4, hv13, h⟩ := bind_some h
  refine .sn mx (.mv rfl (.c (.lenStr .none Tryz.underlying9 (.s rfl)) (.c (.gt .none (.s rfl) .i) (.c (.call .none (ref_When_ok hv11) (.cons (.s rfl) (.cons .i .nil))) (.mv rfl (.c (.call .none (ref_When_ok hv12) (.cons (.s rfl) (.cons .i .nil))) (.c (.buildSlice (xs := [_, _]) .none sl68 ty27 hz27 (.cons (.s rfl) (.cons (.s rfl) .nil)) rfl (by decide)) (.c (.call .none (ref_First_ok hv13) (.cons (.s rfl) .nil)) (.asn rfl (.nil (.ret ?_)))))))))))
  obtain rfl := some_eq h
  exact Ends.rt Tryz.results62 rfl

theorem ref_classError_ok {s1 : Str} {r : Int}  (h : ref_classError s1 = some r) : FSpec Tryz.prog 63 [rep s1] (rep r) := by
 unfold ref_classError at h
 obtain ⟨r1, hv1, h⟩ := bind_some h
 refine FSpec.i Tryz.func63 rfl Tryz.ntmps63 rfl (fun F => (.sn mx (.asi (.nil (.sn mx (.mv rfl (.c (.neS .none (eqAt_str Tryz.underlying9) (.s rfl) (.str (l := []) (by decide))) (.mv rfl (.mg rfl rfl rfl (.c (.callIf (.at rfl rfl) fnok30 (fun hg => ref_NameOf_ok ((fun hg => gd_some hv1 (hg.2)) hg)) (.cons (.tmp rfl id) .nil) (fun h => h)) ?_))))))))))
 obtain ⟨r2, hv2, h⟩ := bind_some h
 refine .c (.not (.at rfl rfl) (.tmp rfl id)) (.pa rfl rfl (.c (.call .none (ref_When_ok hv2) (.cons (.s rfl) (.cons .i .nil))) (.asn rfl (.nil (.ret ?_)))))
 obtain rfl := some_eq h
 exact Ends.rt Tryz.results63 rfl

theorem ref_nodeError_ok {d1 : Doc} {i1 : Int} {r : Int}  (h : ref_nodeError d1 i1 = some r) : FSpec Tryz.prog 26 [rep d1, rep i1] (rep r) := by
 unfold ref_nodeError at h
 obtain ⟨hn1, h⟩ := need_some h
 obtain ⟨v1, hv2, h⟩ := bnd_some h
 obtain ⟨hn3, h⟩ := need_some h
 refine FSpec.i Tryz.func26 rfl Tryz.ntmps26 rfl (fun F => (.sn mx (.c (.box .none (.s rfl)) (.asi (.nil (.sr [oo, oo, oo, oo, oo, ([], [5]), ([5], [5])] mx (.faA fd25_0 hfd25_0 rfl (.ldA ty22 rfl (.mvA rfl (.ixA sl22 ty59 rfl rfl hn1 (.rlA hv2 ty59 rfl (.al zo59 rfl (.st ty59 rfl rfl rfl (.nil (.freeze (t := 5) rfl rfl SubB.nil rfl (.sn mx (.fa fd25_0 hfd25_0 rfl (.ld ty22 rfl (.mv rfl (.c (.slice .none sl22 ty59 (.s rfl) rfl (.s rfl) (fun _ => hn3)) (.c (.makeFunc (ι := DNode × Bool) (pre := fun i => (fun x0 => ref_nodeError_1 x0 v1) i.1 = some i.2) (Ss := fun i => [rep i.1]) (S := fun i => rep i.2) .none fnok60 (fun i h => ref_nodeError_1_ok h) (.cons (.s rfl) .nil)) ?_)))))))))))))))))))))
 obtain ⟨twice1, hv4, h⟩ := bind_some h
 obtain ⟨r1, hv5, h⟩ := bind_some h
 obtain ⟨r2, hv6, h⟩ := bind_some h
 obtain ⟨r3, hv7, h⟩ := bind_some h
 obtain ⟨r4, hv8, h⟩ := bind_some h
 obtain ⟨r5, hv9, h⟩ := bind_some h
 obtain ⟨e1, hv10, h⟩ := bind_some h
 refine .c (.call .none (slices_ContainsFunc_Node_ok hv4) (.cons (.s rfl) (.cons (.s rfl) .nil))) (.asn rfl (.nil (.seq (.sn mx (.fa fd59_0 hfd59_0 rfl (.ld ty9 rfl (.c (.call .none (ref_NameOf_ok hv5) (.cons (.s rfl) .nil)) (.c (.not .none (.s rfl)) (.c (.call .none (ref_When_ok hv6) (.cons (.s rfl) (.cons .i .nil))) (.mv rfl (.c (.call .none (ref_When_ok hv7) (.cons (.s rfl) (.cons .i .nil))) (.fa fd59_1 hfd59_1 rfl (.ld ty3 rfl (.c (.call .none (ref_In_ok hv8) (.cons (.s rfl) (.cons .i (.cons .i .nil)))) (.c (.not .none (.s rfl)) (.c (.call .none (ref_When_ok hv9) (.cons (.s rfl) (.cons .i .nil))) (.c (.buildSlice (xs := [_, _, _]) .none sl68 ty27 hz27 (.cons (.s rfl) (.cons (.s rfl) (.cons (.s rfl) .nil))) rfl (by decide)) (.c (.call .none (ref_First_ok hv10) (.cons (.s rfl) .nil)) (.asn rfl (.nil (.sn mx (.mv rfl (.nei rfl (.nil (.cb rfl h (fun _ h => ?_) fun _ h => ?_)))))))))))))))))))))))))
 ·
  refine .sn mx (.mv rfl (.asn rfl (.nil (.ret (.thenRet ?_)))))
  obtain rfl := some_eq h
  exact Ends.rt Tryz.results26 rfl
 ·
  obtain ⟨box1, hv12, h⟩ := bind_some h
  refine .skip (.then (.sn mx (.fa fd59_2 hfd59_2 rfl (.ld ty57 rfl (.c (.buildF (y := (⟨(0 : Int), (0 : Int), (0 : Int), (0 : Int)⟩ : Box)) .none bu57 zc57 rfl .nil .nil) (.c (.neS .none eq57 (.s rfl) (.s rfl)) (.c (.call .none (ref_When_ok hv12) (.cons (.s rfl) (.cons .i .nil))) (.asn rfl (.nil (.seq (.sn mx (.fa fd59_1 hfd59_1 rfl (.ld ty3 rfl (.nei rfl (.nil ?_)))))))))))))))
  obtain ⟨j_13, h, hK13⟩ := bind_some h
  refine .thenJ (ι := Int) (fun j_13 => [(8, ⟨True, rep j_13⟩)]) (fun j_13 => []) (fun s => j_13 = s) (.k 5 rfl .nil) SubB.nil ?_ (fun j_13' hj13 => ?_)
  ·
   refine .cb rfl h (fun _ h => ?_) fun _ h => ?_
   ·
    obtain ⟨box2, hv15, h⟩ := bind_some h
    exact .rn mx (.fa fd59_2 hfd59_2 rfl (.ld ty57 rfl (.c (.call .none (ref_BoxError_ok hv15) (.cons (.s rfl) .nil)) (.asn rfl (.nil (Ends.j _ (some_eq h)))))))
   ·
    exact .skip (Ends.j _ (some_eq h))
  ·
   subst hj13; have h := hK13; clear hK13
   obtain ⟨r6, hv16, h⟩ := bind_some h
   obtain ⟨r7, hv17, h⟩ := bind_some h
   obtain ⟨r8, hv18, h⟩ := bind_some h
   refine .sn mx (.mv rfl (.fa fd59_3 hfd59_3 rfl (.ld ty9 rfl (.c (.call .none (ref_TextError_ok hv16) (.cons (.s rfl) .nil)) (.fa fd59_4 hfd59_4 rfl (.ld ty9 rfl (.c (.call .none (ref_classError_ok hv17) (.cons (.s rfl) .nil)) (.c (.buildSlice (xs := [_, _, _]) .none sl68 ty27 hz27 (.cons (.s rfl) (.cons (.s rfl) (.cons (.s rfl) .nil))) rfl (by decide)) (.c (.call .none (ref_First_ok hv18) (.cons (.s rfl) .nil)) (.asn rfl (.nil (.ret ?_))))))))))))
   obtain rfl := some_eq h
   exact Ends.rt Tryz.results26 rfl

theorem ref_NodeAt_1_ok {n1 : DNode} {c0_1 : Str} {r : Bool}  (h : ref_NodeAt_1 n1 c0_1 = some r) : FSpec Tryz.prog 104 [rep n1, ref c0_1] (rep r) := by
 unfold ref_NodeAt_1 at h
 refine FSpec.i Tryz.func104 rfl Tryz.ntmps104 rfl (fun F => (.sn mx (.c (.box .none (.s rfl)) (.asb (.nil (.sn mx (.fa fd59_0 hfd59_0 rfl (.ld ty9 rfl (.ld ty9 rfl (.c (.eqS .none (eqAt_str Tryz.underlying9) (.s rfl) (.s rfl)) (.asn rfl (.nil (.ret ?_)))))))))))))
 obtain rfl := some_eq h
 exact Ends.rt Tryz.results104 rfl

theorem ref_NodeAt_ok {d1 : Doc} {id1 : Str} {r : Int}  (h : ref_NodeAt d1 id1 = some r) : FSpec Tryz.prog 64 [rep d1, rep id1] (rep r) := by
 unfold ref_NodeAt at h
 refine FSpec.i Tryz.func64 rfl Tryz.ntmps64 rfl (fun F => (.sn mx (.c (.box .none (.s rfl)) (.c (.box .none (.s rfl)) (.asi (.nil (.sn mx (.fa fd25_0 hfd25_0 rfl (.ld ty22 rfl (.c (.makeFunc (ι := DNode × Bool) (pre := fun i => (fun x0 => ref_NodeAt_1 x0 id1) i.1 = some i.2) (Ss := fun i => [rep i.1]) (S := fun i => rep i.2) .none fnok104 (fun i h => ref_NodeAt_1_ok h) (.cons (.s rfl) .nil)) ?_))))))))))
 obtain ⟨r1, hv1, h⟩ := bind_some h
 refine .c (.call .none (slices_IndexFunc_Node_ok hv1) (.cons (.s rfl) (.cons (.s rfl) .nil))) (.asn rfl (.nil (.ret ?_)))
 obtain rfl := some_eq h
 exact Ends.rt Tryz.results64 rfl

theorem ref_above_ok {d1 : Doc} {n1 : DNode} {r : (Int × Bool)}  (h : ref_above d1 n1 = some r) : FSpec Tryz.prog 65 [rep d1, rep n1] (tup [rep r.1, rep r.2]) := by
 unfold ref_above at h
 refine FSpec.i Tryz.func65 rfl Tryz.ntmps65 rfl (fun F => (.sn mx (.c (.box .none (.s rfl)) (.c (.box .none (.s rfl)) (.asi (.asb (.nil (.sn mx (.fa fd59_5 hfd59_5 rfl (.ld ty9 rfl (.asn rfl (.nil (.seq ?_)))))))))))))
 obtain ⟨o_1, h, hK1⟩ := bindR_some h
 refine .thenJ (ι := Int) (fun j_1 => [(4, ⟨True, rep j_1⟩)]) (fun j_1 => []) (fun s => o_1 = Res.nx s) Sub.nil SubB.nil ?_ (fun j_1 hj1 => ?_)
 ·
  refine .block (.loopL h (fun s2_ => [(4, ⟨True, rep s2_.1⟩), (6, ⟨True, rep s2_.2⟩)]) (fun s2_ => []) (.k2 4 6 rfl rfl .nil) SubB.nil (.k2 2 3 rfl rfl .nil) SubB.nil (fun s2_ o_2 h hD2 => ?_))
  unfold ref_above_L1 at h
  refine .seq (.sn mx (.mv rfl (.c (.neS .none (eqAt_str Tryz.underlying9) (.s rfl) (.str (l := []) (by decide))) (.nil (.cb rfl h (fun _ h => ?_) fun _ h => ?_)))))
  ·
   obtain ⟨many1, hv4, h⟩ := bnd_some h
   refine .skip (.then (.block (.seq (.sn mx (.mv rfl (.adi rfl (.ra hv4 rfl (.nil (.sn mx (.mv rfl (.fa fd59_0 hfd59_0 rfl (.ld ty9 rfl (.c (.eqS .none (eqAt_str Tryz.underlying9) (.s rfl) (.s rfl)) (.mv rfl (.mg rfl rfl rfl (.fg fd25_0 hfd25_0 rfl rfl rfl (.lg ty22 rfl rfl rfl (.c (.len (.at rfl rfl) sl22 (.tmp rfl id)) (.c (.gt (.at rfl rfl) (.tmp rfl id) (.tmp rfl id)) (.po rfl rfl (.nil (.cb rfl h (fun _ h => ?_) fun _ h => ?_))))))))))))))))))))))
   ·
    refine .sn mx (.mv rfl (.mv rfl (.fa fd59_0 hfd59_0 rfl (.ld ty9 rfl (.c (.eqS .none (eqAt_str Tryz.underlying9) (.s rfl) (.s rfl)) (.asn rfl (.asn rfl (.nil (.ret (.thenRet (.blkRet (.thenRet (.blkRet (.thenRet ?_))))))))))))))
    replace h := hD2 _ (some_eq h)
    replace h := resb_ab hK1 (some_eq h)
    obtain rfl := some_eq h
    exact Ends.ret2 (.inl rfl) Tryz.results65 (ResOK.tmp rfl trivial Imp.refl) (ResOK.tmp rfl trivial Imp.refl)
   ·
    obtain ⟨r1, hv6, h⟩ := bind_some h
    obtain ⟨hn7, h⟩ := need_some h
    obtain ⟨id1, hv8, h⟩ := bnd_some h
    exact .skip (.then (.rn mx (.fa fd25_0 hfd25_0 rfl (.ld ty22 rfl (.ld ty25 rfl (.mv rfl (.c (.call .none (ref_NodeAt_ok hv6) (.cons (.s rfl) (.cons (.s rfl) .nil))) (.ix sl22 ty59 rfl rfl hn7 (.fa fd59_5 hfd59_5 rfl (.ld ty9 rfl (.ra hv8 rfl (.nil (.blkNormal (Ends.ag (some_eq h)))))))))))))))
  ·
   refine .exit (.thenExit (.thenExit (.blkExit ?_)))
   replace h := hD2 _ (some_eq h)
   exact Ends.j _ (some_eq h)
 ·
  have h := resb_nx hK1 hj1
  refine .sn mx (.mv rfl (.asn rfl (.asb (.nil (.ret ?_)))))
  obtain rfl := some_eq h
  exact Ends.ret2 (.inl rfl) Tryz.results65 (ResOK.tmp rfl trivial Imp.refl) (ResOK.tmp rfl trivial Imp.refl)

theorem ref_members_ok {d1 : Doc} {id1 : Str} {r : (List DNode)}  (h : ref_members d1 id1 = some r) : FSpecO Tryz.prog 66 [rep d1, rep id1] [] (anyV) [some (rowV 59 r)] := by
 unfold ref_members at h
 refine FSpecO.i Tryz.func66 rfl Tryz.ntmps66 rfl (fun F => (.sn mx (.c (.box .none (.s rfl)) (.c (.assign .none (.const (x := ([] : (List DNode))) (fun M w => ⟨_, ⟨none, 0, rfl, Nat.le_refl _, by decide, rfl⟩, rfl⟩))) (.nil (.sr [([], [5])] mx (.cW (.nilRow (T := 59) (α := DNode) rfl) (.nil (.nameRow (t := 5) (g := 5001) rfl rfl rfl (fun s5001 => (.seq (.sn mx (.fa fd25_0 hfd25_0 rfl (.ld ty22 rfl (.ln sl22 rfl (.mvi (.nil ?_)))))))))))))))))
 obtain ⟨j_1, h, hK1⟩ := bind_some h
 refine .thenJ (ι := (List DNode)) (fun j_1 => []) (fun j_1 => [(5, some (rowV 59 j_1))]) (fun s => j_1 = s) Sub.nil SubB.nil ?_ (fun j_1' hj1 => ?_)
 ·
  refine .block (.anon (t := 5) (g := 5001) rfl rfl trivial rfl (.rforL h (fun p2_ => [(11, ⟨True, rep p2_.1⟩)]) (fun p2_ => [(5, some (rowV 59 p2_.2))]) (.k 11 rfl .nil) (.k 5 rfl .nil) (.k2 1 9 rfl rfl (.k 10 rfl .nil)) SubB.nil (fun p2_ o_2 h hD2 => (.nameRow (t := 5) (g := 5002) rfl rfl rfl (fun s5002 => (.sn mx (.lt rfl rfl (.nil (.seq (.cb rfl h (fun _ h => ?_) fun _ h => ?_))))))))))
  ·
   refine .skip (.then (.seq ?_))
   obtain ⟨j_4, h, hK4⟩ := bind_some h
   unfold ref_members_L1 at h
   refine .thenJ (ι := (List DNode)) (fun j_4 => []) (fun j_4 => [(5, some (rowV 59 j_4))]) (fun s => j_4 = s) (.k4 1 9 10 11 rfl rfl rfl rfl .nil) SubB.nil ?_ (fun j_4' hj4 => ?_)
   ·
    obtain ⟨hn5, h⟩ := need_some h
    obtain ⟨v1, hv6, h⟩ := bnd_some h
    refine .block (.sr [oo, oo, ([], [7]), ([7], [7])] mx (.ixA sl22 ty59 rfl rfl hn5 (.rlA hv6 ty59 rfl (.al zo59 rfl (.st ty59 rfl rfl rfl (.nil (.freeze (t := 7) rfl rfl (.k 5002 rfl .nil) rfl (.sn mx (.fa fd59_5 hfd59_5 rfl (.ld ty9 rfl (.mv rfl (.c (.eqS .none (eqAt_str Tryz.underlying9) (.s rfl) (.s rfl)) (.nil (.cb rfl h (fun _ h => ?_) fun _ h => ?_))))))))))))))
    ·
     obtain ⟨hn8, h⟩ := need_some h
     exact .rg [oo, oo, oo, ([5002], [22, 5002]), ([22], [5, 22])] mx (.mvA rfl (.ldA ty59 rfl (.cA (.buildSlice (xs := [_]) .none sl22 ty59 hz59 (.cons (.s rfl) .nil) rfl (by decide)) (.cW (.append (k := 5002) rk22 rfl (.told (.s rfl) rfl) (.s rfl) hn8) (.cW (.passRow rfl (.tmp rfl)) (.nil (.blkNormal (Ends.j _ (some_eq h)))))))))
    ·
     exact .skip (.blkNormal (.anon (t := 5) (g := 5002) rfl rfl trivial rfl (Ends.j _ (some_eq h))))
   ·
    subst hj4; have h := hK4; clear hK4
    exact .nameRow (t := 5) (g := 5003) rfl rfl rfl (fun s5003 => (.rn mx (.adi rfl (.mv rfl (.nil (.anon (t := 5) (g := 5003) rfl rfl trivial rfl (Ends.ag (some_eq h))))))))
  ·
   refine .exit (.thenExit (.thenExit (.blkExit (.anon (t := 5) (g := 5002) rfl rfl trivial rfl ?_))))
   replace h := hD2 _ (some_eq h)
   exact Ends.j _ (some_eq h)
 ·
  subst hj1; have h := hK1; clear hK1
  refine .nameRow (t := 5) (g := 5004) rfl rfl rfl (fun s5004 => (.sn mx (.mv rfl (.asn rfl (.nil (.ret (.anon (t := 4) (g := 5004) rfl rfl trivial rfl ?_)))))))
  obtain rfl := some_eq h
  exact Ends.ret1O (.inl rfl) [4] Tryz.results66 (by decide) (.res rfl rfl) (ResOK.tmp rfl trivial (fun _ _ _ _ => trivial))

theorem ref_treeError_ok {d1 : Doc} {r : Int}  (h : ref_treeError d1 = some r) : FSpec Tryz.prog 27 [rep d1] (rep r) := by
 unfold ref_treeError at h
 refine FSpec.i Tryz.func27 rfl Tryz.ntmps27 rfl (fun F => (.sn mx (.c (.box .none (.s rfl)) (.asi (.nil (.seq (.sn mx (.fa fd25_0 hfd25_0 rfl (.ld ty22 rfl (.ln sl22 rfl (.mvi (.nil ?_))))))))))))
 obtain ⟨o_1, h, hK1⟩ := bindR_some h
 refine .tJ (fun s => o_1 = Res.nx s) (.k 1 rfl .nil) SubB.nil ?_ (fun j_1 hj1 => ?_)
 ·
  refine .block (.rforEL h (fun p2_ => [(19, ⟨True, rep p2_.1⟩)]) (fun p2_ => []) (.k 19 rfl .nil) SubB.nil (.k2 1 17 rfl rfl (.k 18 rfl .nil)) SubB.nil (fun p2_ o_2 h hD2 => (.sn mx (.lt rfl rfl (.nil (.seq (.cb rfl h (fun _ h => ?_) fun _ h => ?_)))))))
  ·
   refine .skip (.then (.seq ?_))
   obtain ⟨o_4, h, hK4⟩ := bindD_some h
   unfold ref_treeError_L1 at h
   refine .tJ (fun s => o_4 = Res.nx s) (.k4 1 17 18 19 rfl rfl rfl rfl .nil) SubB.nil ?_ (fun j_4 hj4 => ?_)
   ·
    obtain ⟨hn5, h⟩ := need_some h
    obtain ⟨v1, hv6, h⟩ := bnd_some h
    obtain ⟨k1, hv7, h⟩ := bind_some h
    obtain ⟨hn8, h⟩ := need_some h
    refine .block (.sr [oo, oo, ([], [4]), ([4], [4])] mx (.ixA sl22 ty59 rfl rfl hn5 (.rlA hv6 ty59 rfl (.al zo59 rfl (.st ty59 rfl rfl rfl (.nil (.freeze (t := 4) rfl rfl SubB.nil rfl (.sn mx (.ld ty25 rfl (.fa fd59_5 hfd59_5 rfl (.ld ty9 rfl (.c (.call .none (ref_NodeAt_ok hv7) (.cons (.s rfl) (.cons (.s rfl) .nil))) (.asn rfl (.nil (.sn mx (.fa fd59_5 hfd59_5 rfl (.ld ty9 rfl (.c (.neS .none (eqAt_str Tryz.underlying9) (.s rfl) (.str (l := []) (by decide))) (.mv rfl (.mg rfl rfl rfl (.c (.lt (.at rfl rfl) (.tmp rfl id) .i) (.c (.move (.at rfl rfl) (.tmp rfl id)) (.fg fd25_0 hfd25_0 rfl rfl rfl (.lg ty22 rfl rfl rfl (.mg rfl rfl rfl (.c (.indexAddr (.at rfl rfl) sl22 ty59 (.tmp rfl id) (.tmp rfl id) (fun hg => hn8 hg.1.2 hg.2)) (.c (.fieldAddr (.at rfl rfl) fd59_1 hfd59_1 (.tmp rfl id)) (.lg ty3 rfl rfl rfl (.c (.neI (.at rfl rfl) (.tmp rfl id) .i) (.c (.pickOr (.at rfl rfl) (.tmp rfl id) (.tmp rfl id)) (.pa rfl rfl (.nil (.cb rfl h (fun _ h => ?_) fun _ h => ?_)))))))))))))))))))))))))))))))))
    ·
     refine .sn mx (.asi (.nil (.ret (.blkRet (.thenRet (.thenRet (.blkRet (.thenRet ?_))))))))
     replace h := resd_ab hK4 (some_eq h)
     replace h := hD2 _ (some_eq h)
     replace h := resb_ab hK1 (some_eq h)
     obtain rfl := some_eq h
     exact Ends.rt Tryz.results27 rfl
    ·
     exact .skip (.blkNormal (Ends.j _ (some_eq h)))
   ·
    have h := resd_nx hK4 hj4
    exact .rn mx (.adi rfl (.mv rfl (.nil (Ends.ag (some_eq h)))))
  ·
   refine .exit (.thenExit (.thenExit (.blkExit ?_)))
   replace h := hD2 _ (some_eq h)
   exact Ends.j _ (some_eq h)
 ·
  have h := resb_nx hK1 hj1
  refine .seq (.sn mx (.fa fd25_0 hfd25_0 rfl (.ld ty22 rfl (.ln sl22 rfl (.mvi (.nil ?_))))))
  obtain ⟨o_10, h, hK10⟩ := bindR_some h
  refine .tJ (fun s => o_10 = Res.nx s) (.k 1 rfl .nil) SubB.nil ?_ (fun j_10 hj10 => ?_)
  ·
   refine .block (.rforEL h (fun p11_ => [(47, ⟨True, rep p11_.1⟩)]) (fun p11_ => []) (.k 47 rfl .nil) SubB.nil (.k2 1 45 rfl rfl (.k 46 rfl .nil)) SubB.nil (fun p11_ o_11 h hD11 => (.sn mx (.lt rfl rfl (.nil (.seq (.cb rfl h (fun _ h => ?_) fun _ h => ?_)))))))
   ·
    refine .skip (.then (.seq ?_))
    obtain ⟨o_13, h, hK13⟩ := bindD_some h
    unfold ref_treeError_L2 at h
    refine .tJ (fun s => o_13 = Res.nx s) (.k4 1 45 46 47 rfl rfl rfl rfl .nil) SubB.nil ?_ (fun j_13 hj13 => ?_)
    ·
     obtain ⟨hn14, h⟩ := need_some h
     obtain ⟨v2, hv15, h⟩ := bnd_some h
     obtain ⟨r1, hv16, h⟩ := bind_some h
     refine .block (.sr [oo, oo, ([], [7]), ([7], [7])] mx (.ixA sl22 ty59 rfl rfl hn14 (.rlA hv15 ty59 rfl (.al zo59 rfl (.st ty59 rfl rfl rfl (.nil (.freeze (t := 7) rfl rfl SubB.nil rfl (.sn mx (.ld ty25 rfl (.ld ty59 rfl (.c (.call .none (ref_above_ok hv16) (.cons (.s rfl) (.cons (.s rfl) .nil))) (.mv rfl (.ex rfl rfl (.ex rfl rfl (.asn rfl (.asn rfl (.nil (.sn mx (.mv rfl (.nil (.cb rfl h (fun _ h => ?_) fun _ h => ?_)))))))))))))))))))))
     ·
      refine .sn mx (.asi (.nil (.ret (.blkRet (.thenRet (.thenRet (.blkRet (.thenRet ?_))))))))
      replace h := resd_ab hK13 (some_eq h)
      replace h := hD11 _ (some_eq h)
      replace h := resb_ab hK10 (some_eq h)
      obtain rfl := some_eq h
      exact Ends.rt Tryz.results27 rfl
     ·
      exact .skip (.blkNormal (Ends.j _ (some_eq h)))
    ·
     have h := resd_nx hK13 hj13
     exact .rn mx (.adi rfl (.mv rfl (.nil (Ends.ag (some_eq h)))))
   ·
    refine .exit (.thenExit (.thenExit (.blkExit ?_)))
    replace h := hD11 _ (some_eq h)
    exact Ends.j _ (some_eq h)
  ·
   have h := resb_nx hK10 hj10
   refine .seq (.sn mx (.fa fd25_0 hfd25_0 rfl (.ld ty22 rfl (.ln sl22 rfl (.mvi (.nil ?_))))))
   obtain ⟨o_18, h, hK18⟩ := bindR_some h
   refine .tJ (fun s => o_18 = Res.nx s) (.k 1 rfl .nil) SubB.nil ?_ (fun j_18 hj18 => ?_)
   ·
    refine .block (.rforEL h (fun p19_ => [(62, ⟨True, rep p19_.1⟩)]) (fun p19_ => []) (.k 62 rfl .nil) SubB.nil (.k2 1 60 rfl rfl (.k 61 rfl .nil)) SubB.nil (fun p19_ o_19 h hD19 => (.sn mx (.lt rfl rfl (.nil (.seq (.cb rfl h (fun _ h => ?_) fun _ h => ?_)))))))
    ·
     refine .skip (.then (.seq ?_))
     obtain ⟨o_21, h, hK21⟩ := bindD_some h
     unfold ref_treeError_L3 at h
     refine .tJ (fun s => o_21 = Res.nx s) (.k4 1 60 61 62 rfl rfl rfl rfl .nil) SubB.nil ?_ (fun j_21 hj21 => ?_)
     ·
      obtain ⟨hn22, h⟩ := need_some h
      obtain ⟨v3, hv23, h⟩ := bnd_some h
      obtain ⟨r2, hv24, h⟩ := bind_some h
      refine .block (.sr [oo, oo, ([], [11]), ([11], [11])] mx (.ixA sl22 ty59 rfl rfl hn22 (.rlA hv23 ty59 rfl (.al zo59 rfl (.st ty59 rfl rfl rfl (.nil (.freeze (t := 11) rfl rfl SubB.nil rfl (.sn mx (.ld ty25 rfl (.ld ty59 rfl (.c (.call .none (ref_above_ok hv24) (.cons (.s rfl) (.cons (.s rfl) .nil))) (.mv rfl (.ex rfl rfl (.ex rfl rfl (.asn rfl (.asn rfl (.nil (.sn mx (.mv rfl (.c (.gt .none (.s rfl) .i) (.nil (.cb rfl h (fun _ h => ?_) fun _ h => ?_))))))))))))))))))))))
      ·
       refine .sn mx (.asi (.nil (.ret (.blkRet (.thenRet (.thenRet (.blkRet (.thenRet ?_))))))))
       replace h := resd_ab hK21 (some_eq h)
       replace h := hD19 _ (some_eq h)
       replace h := resb_ab hK18 (some_eq h)
       obtain rfl := some_eq h
       exact Ends.rt Tryz.results27 rfl
      ·
       exact .skip (.blkNormal (Ends.j _ (some_eq h)))
     ·
      have h := resd_nx hK21 hj21
      exact .rn mx (.adi rfl (.mv rfl (.nil (Ends.ag (some_eq h)))))
    ·
     refine .exit (.thenExit (.thenExit (.blkExit ?_)))
     replace h := hD19 _ (some_eq h)
     exact Ends.j _ (some_eq h)
   ·
    have h := resb_nx hK18 hj18
    refine .seq (.sn mx (.fa fd25_0 hfd25_0 rfl (.ld ty22 rfl (.ln sl22 rfl (.mvi (.nil ?_))))))
    obtain ⟨o_26, h, hK26⟩ := bindR_some h
    refine .tJ (fun s => o_26 = Res.nx s) Sub.nil SubB.nil ?_ (fun j_26 hj26 => ?_)
    ·
     refine .block (.rforEL h (fun p27_ => [(78, ⟨True, rep p27_.1⟩)]) (fun p27_ => []) (.k 78 rfl .nil) SubB.nil (.k2 1 76 rfl rfl (.k 77 rfl .nil)) SubB.nil (fun p27_ o_27 h hD27 => (.sn mx (.lt rfl rfl (.nil (.seq (.cb rfl h (fun _ h => ?_) fun _ h => ?_)))))))
     ·
      refine .skip (.then (.seq ?_))
      obtain ⟨o_29, h, hK29⟩ := bindD_some h
      unfold ref_treeError_L4 at h
      refine .tJ (fun s => o_29 = Res.nx s) (.k4 1 76 77 78 rfl rfl rfl rfl .nil) SubB.nil ?_ (fun j_29 hj29 => ?_)
      ·
       obtain ⟨hn30, h⟩ := need_some h
       obtain ⟨v4, hv31, h⟩ := bnd_some h
       obtain ⟨r3, hv32, h⟩ := bind_some h
       refine .block (.sr [oo, oo, ([], [15]), ([15], [15])] mx (.ixA sl22 ty59 rfl rfl hn30 (.rlA hv31 ty59 rfl (.al zo59 rfl (.st ty59 rfl rfl rfl (.nil (.freeze (t := 15) rfl rfl SubB.nil rfl (.sn mx (.fa fd59_1 hfd59_1 rfl (.ld ty3 rfl (.eqi rfl (.mv rfl (.c (.load (.at rfl rfl) ty25 (.s rfl)) (.fg fd59_0 hfd59_0 rfl rfl rfl (.lg ty9 rfl rfl rfl (.c (.callIf (.at rfl rfl) fnok66 (fun hg => (ref_members_ok ((fun hg => gd_some hv32 (hg.2)) hg)).frz) (.cons (.tmp rfl id) (.cons (.tmp rfl id) .nil)) (fun h => h)) (.c (.len (.at rfl rfl) sl22 (.tmp rfl id)) (.c (.eqI (.at rfl rfl) (.tmp rfl id) .i) (.pa rfl rfl (.nil (.cb rfl h (fun _ h => ?_) fun _ h => ?_)))))))))))))))))))))
       ·
        refine .sn mx (.asi (.nil (.ret (.blkRet (.thenRet (.thenRet (.blkRet (.thenRet ?_))))))))
        replace h := resd_ab hK29 (some_eq h)
        replace h := hD27 _ (some_eq h)
        replace h := resb_ab hK26 (some_eq h)
        obtain rfl := some_eq h
        exact Ends.rt Tryz.results27 rfl
       ·
        exact .skip (.blkNormal (Ends.j _ (some_eq h)))
      ·
       have h := resd_nx hK29 hj29
       exact .rn mx (.adi rfl (.mv rfl (.nil (Ends.ag (some_eq h)))))
     ·
      refine .exit (.thenExit (.thenExit (.blkExit ?_)))
      replace h := hD27 _ (some_eq h)
      exact Ends.j _ (some_eq h)
    ·
     have h := resb_nx hK26 hj26
     refine .sn mx (.asi (.nil (.ret ?_)))
     obtain rfl := some_eq h
     exact Ends.rt Tryz.results27 rfl

theorem ref_edgeError_1_ok {y1 : DEdge} {c0_1 : DEdge} {r : Bool}  (h : ref_edgeError_1 y1 c0_1 = some r) : FSpec Tryz.prog 68 [rep y1, ref c0_1] (rep r) := by
 unfold ref_edgeError_1 at h
 refine FSpec.i Tryz.func68 rfl Tryz.ntmps68 rfl (fun F => (.sn mx (.c (.box .none (.s rfl)) (.asb (.nil (.sn mx (.fa fd65_0 hfd65_0 rfl (.ld ty9 rfl (.fa fd65_0 hfd65_0 rfl (.ld ty9 rfl (.c (.eqS .none (eqAt_str Tryz.underlying9) (.s rfl) (.s rfl)) (.asn rfl (.nil (.ret ?_))))))))))))))
 obtain rfl := some_eq h
 exact Ends.rt Tryz.results68 rfl

theorem slices_IndexFunc_Edge_ok {s1 : (List DEdge)} {f1 : (DEdge → Option Bool)} {r : Int}  (h : slices_IndexFunc_Edge s1 f1 = some r) : FSpec Tryz.prog 105 [rep s1, fn1 Tryz.prog (rep (α := Bool)) f1] (rep r) := by
 unfold slices_IndexFunc_Edge at h
 refine FSpec.i Tryz.func105 rfl Tryz.ntmps105 rfl (fun F => (.sn mx (.asi (.nil (.seq (.sn mx (.mv rfl (.ln sl23 rfl (.mvi (.nil ?_))))))))))
 obtain ⟨o_1, h, hK1⟩ := bindR_some h
 refine .tJ (fun s => o_1 = Res.nx s) Sub.nil SubB.nil ?_ (fun j_1 hj1 => ?_)
 ·
  refine .block (.rforEL h (fun p2_ => [(8, ⟨True, rep p2_.1⟩)]) (fun p2_ => []) (.k 8 rfl .nil) SubB.nil (.k2 0 1 rfl rfl (.k 7 rfl .nil)) SubB.nil (fun p2_ o_2 h hD2 => (.sn mx (.lt rfl rfl (.nil (.seq (.cb rfl h (fun _ h => ?_) fun _ h => ?_)))))))
  ·
   refine .skip (.then (.seq ?_))
   obtain ⟨o_4, h, hK4⟩ := bindD_some h
   unfold slices_IndexFunc_Edge_L1 at h
   refine .tJ (fun s => o_4 = Res.nx s) (.k4 0 1 7 8 rfl rfl rfl rfl .nil) SubB.nil ?_ (fun j_4 hj4 => ?_)
   ·
    obtain ⟨hn5, h⟩ := need_some h
    obtain ⟨r1, hv6, h⟩ := bind_some h
    refine .block (.sn mx (.mv rfl (.asn rfl (.nil (.sn mx (.mv rfl (.mv rfl (.mv rfl (.ix sl23 ty65 rfl rfl hn5 (.ld ty65 rfl (.c (.callV (gx s1 p2_.1, r1) .none (.s rfl) (fun _ => hv6) (.cons (.s rfl) .nil)) (.nil (.cb rfl h (fun _ h => ?_) fun _ h => ?_)))))))))))))
    ·
     refine .sn mx (.mv rfl (.asn rfl (.nil (.ret (.blkRet (.thenRet (.thenRet (.blkRet (.thenRet ?_)))))))))
     replace h := resd_ab hK4 (some_eq h)
     replace h := hD2 _ (some_eq h)
     replace h := resb_ab hK1 (some_eq h)
     obtain rfl := some_eq h
     exact Ends.rt Tryz.results105 rfl
    ·
     exact .skip (.blkNormal (Ends.j _ (some_eq h)))
   ·
    have h := resd_nx hK4 hj4
    exact .rn mx (.adi rfl (.mv rfl (.nil (Ends.ag (some_eq h)))))
  ·
   refine .exit (.thenExit (.thenExit (.blkExit ?_)))
   replace h := hD2 _ (some_eq h)
   exact Ends.j _ (some_eq h)
 ·
  have h := resb_nx hK1 hj1
  refine .sn mx (.asi (.nil (.ret ?_)))
  obtain rfl := some_eq h
  exact Ends.rt Tryz.results105 rfl

theorem slices_ContainsFunc_Edge_ok {s1 : (List DEdge)} {f1 : (DEdge → Option Bool)} {r : Bool}  (h : slices_ContainsFunc_Edge s1 f1 = some r) : FSpec Tryz.prog 67 [rep s1, fn1 Tryz.prog (rep (α := Bool)) f1] (rep r) := by
 unfold slices_ContainsFunc_Edge at h
 obtain ⟨r1, hv1, h⟩ := bind_some h
 refine FSpec.i Tryz.func67 rfl Tryz.ntmps67 rfl (fun F => (.sn mx (.asb (.nil (.sn mx (.mv rfl (.mv rfl (.c (.call .none (slices_IndexFunc_Edge_ok hv1) (.cons (.s rfl) (.cons (.s rfl) .nil))) (.c (.ge .none (.s rfl) .i) (.asn rfl (.nil (.ret ?_))))))))))))
 obtain rfl := some_eq h
 exact Ends.rt Tryz.results67 rfl

theorem ref_PortError_ok {side1 : Int} {at1 : Int} {r : Int}  (h : ref_PortError side1 at1 = some r) : FSpec Tryz.prog 69 [rep side1, rep at1] (rep r) := by
 unfold ref_PortError at h
 obtain ⟨r1, hv1, h⟩ := bind_some h
 obtain ⟨r2, hv2, h⟩ := bind_some h
 refine FSpec.i Tryz.func69 rfl Tryz.ntmps69 rfl (fun F => (.sn mx (.asi (.nil (.sn mx (.mv rfl (.c (.call .none (ref_In_ok hv1) (.cons (.s rfl) (.cons .i (.cons .i .nil)))) (.c (.not .none (.s rfl)) (.mv rfl (.mg rfl rfl rfl (.c (.callIf (.at rfl rfl) fnok16 (fun hg => ref_In_ok ((fun hg => gd_some hv2 ((notT hg.2))) hg)) (.cons (.tmp rfl id) (.cons .i (.cons .i .nil))) (fun h => h)) ?_)))))))))))
 obtain ⟨r3, hv3, h⟩ := bind_some h
 refine .c (.not (.at rfl rfl) (.tmp rfl id)) (.po rfl rfl (.c (.call .none (ref_When_ok hv3) (.cons (.s rfl) (.cons .i .nil))) (.asn rfl (.nil (.ret ?_)))))
 obtain rfl := some_eq h
 exact Ends.rt Tryz.results69 rfl

theorem ref_PointsError_ok {l1 : (List Point)} {r : Int}  (h : ref_PointsError l1 = some r) : FSpec Tryz.prog 70 [rep l1] (rep r) := by
 unfold ref_PointsError at h
 refine FSpec.i Tryz.func70 rfl Tryz.ntmps70 rfl (fun F => (.sn mx (.asi (.nil (.seq (.sn mx (.mv rfl (.ln sl63 rfl (.c (.gt .none (.s rfl) .i) (.nil (.cb rfl h (fun _ h => ?_) fun _ h => ?_)))))))))))
 ·
  refine .sn mx (.asi (.nil (.ret (.thenRet ?_))))
  obtain rfl := some_eq h
  exact Ends.rt Tryz.results70 rfl
 ·
  refine .skip (.then (.seq (.sn mx (.mv rfl (.ln sl63 rfl (.mvi (.nil ?_)))))))
  obtain ⟨o_2, h, hK2⟩ := bindR_some h
  refine .tJ (fun s => o_2 = Res.nx s) Sub.nil SubB.nil ?_ (fun j_2 hj2 => ?_)
  ·
   refine .block (.rforEL h (fun p3_ => [(11, ⟨True, rep p3_.1⟩)]) (fun p3_ => []) (.k 11 rfl .nil) SubB.nil (.k2 9 10 rfl rfl .nil) SubB.nil (fun p3_ o_3 h hD3 => (.sn mx (.lt rfl rfl (.nil (.seq (.cb rfl h (fun _ h => ?_) fun _ h => ?_)))))))
   ·
    refine .skip (.then (.seq ?_))
    obtain ⟨o_5, h, hK5⟩ := bindD_some h
    unfold ref_PointsError_L1 at h
    refine .tJ (fun s => o_5 = Res.nx s) (.k2 9 10 rfl rfl (.k 11 rfl .nil)) SubB.nil ?_ (fun j_5 hj5 => ?_)
    ·
     obtain ⟨hn6, h⟩ := need_some h
     obtain ⟨v1, hv7, h⟩ := bnd_some h
     obtain ⟨e1, hv8, h⟩ := bind_some h
     refine .block (.sr [oo, oo, ([], [4]), ([4], [4])] mx (.ixA sl63 ty89 rfl rfl hn6 (.rlA hv7 ty89 rfl (.al zo89 rfl (.st ty89 rfl rfl rfl (.nil (.freeze (t := 4) rfl rfl SubB.nil rfl (.sn mx (.ld ty89 rfl (.c (.call .none (ref_PointError_ok hv8) (.cons (.s rfl) .nil)) (.asn rfl (.nil (.sn mx (.mv rfl (.nei rfl (.nil (.cb rfl h (fun _ h => ?_) fun _ h => ?_)))))))))))))))))
     ·
      refine .sn mx (.mv rfl (.asn rfl (.nil (.ret (.blkRet (.thenRet (.thenRet (.blkRet (.thenRet ?_)))))))))
      replace h := resd_ab hK5 (some_eq h)
      replace h := hD3 _ (some_eq h)
      replace h := resb_ab hK2 (some_eq h)
      obtain rfl := some_eq h
      exact Ends.rt Tryz.results70 rfl
     ·
      exact .skip (.blkNormal (Ends.j _ (some_eq h)))
    ·
     have h := resd_nx hK5 hj5
     exact .rn mx (.adi rfl (.mv rfl (.nil (Ends.ag (some_eq h)))))
   ·
    refine .exit (.thenExit (.thenExit (.blkExit ?_)))
    replace h := hD3 _ (some_eq h)
    exact Ends.j _ (some_eq h)
  ·
   have h := resb_nx hK2 hj2
   refine .sn mx (.asi (.nil (.ret ?_)))
   obtain rfl := some_eq h
   exact Ends.rt Tryz.results70 rfl

theorem ref_edgeError_ok {d1 : Doc} {i1 : Int} {r : Int}  (h : ref_edgeError d1 i1 = some r) : FSpec Tryz.prog 28 [rep d1, rep i1] (rep r) := by
 unfold ref_edgeError at h
 obtain ⟨hn1, h⟩ := need_some h
 obtain ⟨v1, hv2, h⟩ := bnd_some h
 obtain ⟨r1, hv3, h⟩ := bind_some h
 obtain ⟨hn4, h⟩ := need_some h
 refine FSpec.i Tryz.func28 rfl Tryz.ntmps28 rfl (fun F => (.sn mx (.c (.box .none (.s rfl)) (.asi (.nil (.sr [oo, oo, oo, oo, oo, ([], [5]), ([5], [5])] mx (.faA fd25_1 hfd25_1 rfl (.ldA ty23 rfl (.mvA rfl (.ixA sl23 ty65 rfl rfl hn1 (.rlA hv2 ty65 rfl (.al zo65 rfl (.st ty65 rfl rfl rfl (.nil (.freeze (t := 5) rfl rfl SubB.nil rfl (.sn mx (.ld ty25 rfl (.fa fd65_0 hfd65_0 rfl (.ld ty9 rfl (.c (.call .none (ref_NodeAt_ok hv3) (.cons (.s rfl) (.cons (.s rfl) .nil))) (.c (.ge .none (.s rfl) .i) (.mv rfl (.fg fd25_1 hfd25_1 rfl rfl rfl (.lg ty23 rfl rfl rfl (.mg rfl rfl rfl (.c (.slice (.at rfl rfl) sl23 ty65 (.tmp rfl id) rfl (.tmp rfl id) (fun hg => hn4 hg.2)) (.c (.makeFunc (ι := DEdge × Bool) (pre := fun i => (fun x0 => ref_edgeError_1 x0 v1) i.1 = some i.2) (Ss := fun i => [rep i.1]) (S := fun i => rep i.2) (.at rfl rfl) fnok68 (fun i h => ref_edgeError_1_ok h) (.cons (.s rfl) .nil)) ?_)))))))))))))))))))))))))))
 obtain ⟨r2, hv5, h⟩ := bind_some h
 refine .c (.callIf (.at rfl rfl) fnok67 (fun hg => slices_ContainsFunc_Edge_ok ((fun hg => gd_some hv5 ((notT hg.2))) hg)) (.cons (.tmp rfl id) (.cons (.tmp rfl id) .nil)) (fun h => h)) ?_
 obtain ⟨r3, hv6, h⟩ := bind_some h
 obtain ⟨r4, hv7, h⟩ := bind_some h
 obtain ⟨r5, hv8, h⟩ := bind_some h
 obtain ⟨e1, hv9, h⟩ := bind_some h
 refine .po rfl rfl (.asn rfl (.nil (.seq (.sn mx (.fa fd65_0 hfd65_0 rfl (.ld ty9 rfl (.c (.call .none (ref_NameOf_ok hv6) (.cons (.s rfl) .nil)) (.c (.not .none (.s rfl)) (.c (.call .none (ref_When_ok hv7) (.cons (.s rfl) (.cons .i .nil))) (.mv rfl (.c (.call .none (ref_When_ok hv8) (.cons (.s rfl) (.cons .i .nil))) (.c (.buildSlice (xs := [_, _]) .none sl68 ty27 hz27 (.cons (.s rfl) (.cons (.s rfl) .nil)) rfl (by decide)) (.c (.call .none (ref_First_ok hv9) (.cons (.s rfl) .nil)) (.asn rfl (.nil (.sn mx (.mv rfl (.nei rfl (.nil (.cb rfl h (fun _ h => ?_) fun _ h => ?_))))))))))))))))))))
 ·
  refine .sn mx (.mv rfl (.asn rfl (.nil (.ret (.thenRet ?_)))))
  obtain rfl := some_eq h
  exact Ends.rt Tryz.results28 rfl
 ·
  obtain ⟨v2, hv11, h⟩ := bnd_some h
  refine .skip (.then (.seq (.sn mx (.fa fd65_1 hfd65_1 rfl (.ld ty62 rfl (.fa fd65_2 hfd65_2 rfl (.ld ty62 rfl (.c (.re hv11 (.buildSlice (xs := [_, _]) .none sl117 ty62 hz62 (.cons (.s rfl) (.cons (.s rfl) .nil)) rfl (by decide))) (.ln sl117 rfl (.mvi (.nil ?_)))))))))))
  obtain ⟨o_12, h, hK12⟩ := bindR_some h
  refine .tJ (fun s => o_12 = Res.nx s) (.k 5 rfl .nil) SubB.nil ?_ (fun j_12 hj12 => ?_)
  ·
   refine .block (.rforEL h (fun p13_ => [(48, ⟨True, rep p13_.1⟩)]) (fun p13_ => []) (.k 48 rfl .nil) SubB.nil (.k4 2 5 46 47 rfl rfl rfl rfl .nil) SubB.nil (fun p13_ o_13 h hD13 => (.sn mx (.lt rfl rfl (.nil (.seq (.cb rfl h (fun _ h => ?_) fun _ h => ?_)))))))
   ·
    refine .skip (.then (.seq ?_))
    obtain ⟨o_15, h, hK15⟩ := bindD_some h
    unfold ref_edgeError_L1 at h
    refine .tJ (fun s => o_15 = Res.nx s) (.k4 2 5 46 47 rfl rfl rfl rfl (.k 48 rfl .nil)) SubB.nil ?_ (fun j_15 hj15 => ?_)
    ·
     obtain ⟨hn16, h⟩ := need_some h
     obtain ⟨v3, hv17, h⟩ := bnd_some h
     obtain ⟨k1, hv18, h⟩ := bind_some h
     refine .block (.sr [oo, oo, ([], [9]), ([9], [9])] mx (.ixA sl117 ty62 rfl rfl hn16 (.rlA hv17 ty62 rfl (.al zo62 rfl (.st ty62 rfl rfl rfl (.nil (.freeze (t := 9) rfl rfl SubB.nil rfl (.sn mx (.ld ty25 rfl (.fa fd62_0 hfd62_0 rfl (.ld ty9 rfl (.c (.call .none (ref_NodeAt_ok hv18) (.cons (.s rfl) (.cons (.s rfl) .nil))) (.asn rfl (.nil (.seq (.sn mx (.mv rfl (.c (.lt .none (.s rfl) .i) (.nil (.cb rfl h (fun _ h => ?_) fun _ h => ?_))))))))))))))))))))
     ·
      refine .sn mx (.asi (.nil (.ret (.thenRet (.blkRet (.thenRet (.thenRet (.blkRet (.thenRet ?_)))))))))
      replace h := resd_ab hK15 (some_eq h)
      replace h := hD13 _ (some_eq h)
      replace h := resb_ab hK12 (some_eq h)
      obtain rfl := some_eq h
      exact Ends.rt Tryz.results28 rfl
     ·
      obtain ⟨hn20, h⟩ := need_some h
      obtain ⟨r6, hv21, h⟩ := bind_some h
      obtain ⟨r7, hv22, h⟩ := bind_some h
      obtain ⟨e2, hv23, h⟩ := bind_some h
      refine .skip (.then (.sn mx (.fa fd25_0 hfd25_0 rfl (.ld ty22 rfl (.mv rfl (.ix sl22 ty59 rfl rfl hn20 (.fa fd59_1 hfd59_1 rfl (.ld ty3 rfl (.eqi rfl (.c (.call .none (ref_When_ok hv21) (.cons (.s rfl) (.cons .i .nil))) (.fa fd62_1 hfd62_1 rfl (.ld ty3 rfl (.fa fd62_2 hfd62_2 rfl (.ld ty3 rfl (.c (.call .none (ref_PortError_ok hv22) (.cons (.s rfl) (.cons (.s rfl) .nil))) (.c (.buildSlice (xs := [_, _]) .none sl68 ty27 hz27 (.cons (.s rfl) (.cons (.s rfl) .nil)) rfl (by decide)) (.c (.call .none (ref_First_ok hv23) (.cons (.s rfl) .nil)) (.asn rfl (.nil (.sn mx (.mv rfl (.nei rfl (.nil (.cb rfl h (fun _ h => ?_) fun _ h => ?_))))))))))))))))))))))))
      ·
       refine .sn mx (.mv rfl (.asn rfl (.nil (.ret (.blkRet (.thenRet (.thenRet (.blkRet (.thenRet ?_)))))))))
       replace h := resd_ab hK15 (some_eq h)
       replace h := hD13 _ (some_eq h)
       replace h := resb_ab hK12 (some_eq h)
       obtain rfl := some_eq h
       exact Ends.rt Tryz.results28 rfl
      ·
       exact .skip (.blkNormal (Ends.j _ (some_eq h)))
    ·
     have h := resd_nx hK15 hj15
     exact .rn mx (.adi rfl (.mv rfl (.nil (Ends.ag (some_eq h)))))
   ·
    refine .exit (.thenExit (.thenExit (.blkExit ?_)))
    replace h := hD13 _ (some_eq h)
    exact Ends.j _ (some_eq h)
  ·
   have h := resb_nx hK12 hj12
   refine .seq (.sn mx (.fa fd65_3 hfd65_3 rfl (.ld ty63 rfl (.ln sl63 rfl (.c (.gt .none (.s rfl) .i) (.nil (.cb rfl h (fun _ h => ?_) fun _ h => ?_)))))))
   ·
    refine .sn mx (.asi (.nil (.ret (.thenRet ?_))))
    obtain rfl := some_eq h
    exact Ends.rt Tryz.results28 rfl
   ·
    obtain ⟨r8, hv26, h⟩ := bind_some h
    obtain ⟨r9, hv27, h⟩ := bind_some h
    obtain ⟨r10, hv28, h⟩ := bind_some h
    obtain ⟨r11, hv29, h⟩ := bind_some h
    refine .skip (.then (.sn mx (.fa fd65_3 hfd65_3 rfl (.ld ty63 rfl (.c (.call .none (ref_PointsError_ok hv26) (.cons (.s rfl) .nil)) (.fa fd65_4 hfd65_4 rfl (.ld ty9 rfl (.c (.call .none (ref_TextError_ok hv27) (.cons (.s rfl) .nil)) (.fa fd65_5 hfd65_5 rfl (.ld ty9 rfl (.c (.call .none (ref_classError_ok hv28) (.cons (.s rfl) .nil)) (.c (.buildSlice (xs := [_, _, _]) .none sl68 ty27 hz27 (.cons (.s rfl) (.cons (.s rfl) (.cons (.s rfl) .nil))) rfl (by decide)) (.c (.call .none (ref_First_ok hv29) (.cons (.s rfl) .nil)) (.asn rfl (.nil (.ret ?_))))))))))))))))
    obtain rfl := some_eq h
    exact Ends.rt Tryz.results28 rfl

theorem ref_HullOf_ok {l1 : (List Box)} {r : (Box × Int)}  (h : ref_HullOf l1 = some r) : FSpec Tryz.prog 71 [rep l1] (tup [rep r.1, rep r.2]) := by
 unfold ref_HullOf at h
 obtain ⟨v1, hv1, h⟩ := bnd_some h
 refine FSpec.i Tryz.func71 rfl Tryz.ntmps71 rfl (fun F => (.sr [([], [2]), oo] mx (.al zo57 rfl (.cA (.assign .none .i) (.nil (.reB (t := 2) rfl (congrArg (cont 57) hv1) (.nameBox (t := 2) (g := 5001) rfl rfl (fun m5001 => (.seq (.sn mx (.mv rfl (.ln sl120 rfl (.eqi rfl (.nil (.cb rfl h (fun _ h => ?_) fun _ h => ?_)))))))))))))))
 ·
  obtain ⟨v2, hv3, h⟩ := bnd_some h
  refine .sr [oo, ([5001], [5001]), oo] mx (.cA (.re hv3 (.buildF (y := (⟨(0 : Int), (0 : Int), (0 : Int), (0 : Int)⟩ : Box)) .none bu57 zc57 rfl .nil .nil)) (.s0 5001 ty57 rfl rfl rfl (.cA (.assign .none .i) (.nil (.fb 5001 [2] rfl (.cons (t := 2) rfl trivial .nil) (.ret (.thenRet ?_)))))))
  obtain rfl := some_eq h
  exact Ends.r2 Tryz.results71 ty57 rfl rfl
 ·
  obtain ⟨hn4, h⟩ := need_some h
  obtain ⟨hn5, h⟩ := need_some h
  obtain ⟨hn6, h⟩ := need_some h
  obtain ⟨hn7, h⟩ := need_some h
  obtain ⟨x1, hv8, h⟩ := bnd_some h
  obtain ⟨y1, hv9, h⟩ := bnd_some h
  obtain ⟨r1, hv10, h⟩ := bnd_some h
  obtain ⟨d1, hv11, h⟩ := bnd_some h
  refine .skip (.then (.sn mx (.mv rfl (.c (.indexAddr .none sl120 ty57 (.s rfl) .i (fun _ => hn4)) (.fa fd57_0 hfd57_0 rfl (.ld ty3 rfl (.mv rfl (.c (.indexAddr .none sl120 ty57 (.s rfl) .i (fun _ => hn5)) (.fa fd57_1 hfd57_1 rfl (.ld ty3 rfl (.mv rfl (.c (.indexAddr .none sl120 ty57 (.s rfl) .i (fun _ => hn6)) (.fa fd57_0 hfd57_0 rfl (.ld ty3 rfl (.mv rfl (.c (.indexAddr .none sl120 ty57 (.s rfl) .i (fun _ => hn7)) (.fa fd57_1 hfd57_1 rfl (.ld ty3 rfl (.ra hv8 rfl (.ra hv9 rfl (.ra hv10 rfl (.ra hv11 rfl (.nil (.seq (.sn mx (.mv rfl (.ln sl120 rfl (.mvi (.nil ?_)))))))))))))))))))))))))))))
  obtain ⟨j_12, h, hK12⟩ := bind_some h
  refine .thenJ (ι := (Int × Int × Int × Int)) (fun j_12 => [(4, ⟨True, rep j_12.1⟩), (5, ⟨True, rep j_12.2.1⟩), (6, ⟨True, rep j_12.2.2.1⟩), (7, ⟨True, rep j_12.2.2.2⟩)]) (fun j_12 => []) (fun s => j_12 = s) (.k 2 rfl .nil) (.k 5001 rfl .nil) ?_ (fun j_12' hj12 => ?_)
  ·
   refine .block (.rforL h (fun p13_ => [(32, ⟨True, rep p13_.1⟩), (4, ⟨True, rep p13_.2.1⟩), (5, ⟨True, rep p13_.2.2.1⟩), (6, ⟨True, rep p13_.2.2.2.1⟩), (7, ⟨True, rep p13_.2.2.2.2⟩)]) (fun p13_ => []) (.k4 32 4 5 6 rfl rfl rfl rfl (.k 7 rfl .nil)) SubB.nil (.k2 2 30 rfl rfl (.k 31 rfl .nil)) (.k 5001 rfl .nil) (fun p13_ o_13 h hD13 => (.sn mx (.lt rfl rfl (.nil (.seq (.cb rfl h (fun _ h => ?_) fun _ h => ?_)))))))
   ·
    refine .skip (.then (.seq ?_))
    obtain ⟨j_15, h, hK15⟩ := bind_some h
    unfold ref_HullOf_L1 at h
    refine .thenJ (ι := (Int × Int × Int × Int)) (fun j_15 => [(4, ⟨True, rep j_15.1⟩), (5, ⟨True, rep j_15.2.1⟩), (6, ⟨True, rep j_15.2.2.1⟩), (7, ⟨True, rep j_15.2.2.2⟩)]) (fun j_15 => []) (fun s => j_15 = s) (.k4 2 30 31 32 rfl rfl rfl rfl .nil) (.k 5001 rfl .nil) ?_ (fun j_15' hj15 => ?_)
    ·
     obtain ⟨hn16, h⟩ := need_some h
     obtain ⟨v3, hv17, h⟩ := bnd_some h
     obtain ⟨x2, hv18, h⟩ := bnd_some h
     obtain ⟨y2, hv19, h⟩ := bnd_some h
     obtain ⟨r2, hv20, h⟩ := bnd_some h
     obtain ⟨d2, hv21, h⟩ := bnd_some h
     exact .block (.sr [oo, oo, ([], [9]), ([9], [9])] mx (.ixA sl120 ty57 rfl rfl hn16 (.rlA hv17 ty57 rfl (.al zo57 rfl (.st ty57 rfl rfl rfl (.nil (.freeze (t := 9) rfl rfl (.k 5001 rfl .nil) rfl (.rn mx (.mv rfl (.fa fd57_0 hfd57_0 rfl (.ld ty3 rfl (.c (.min2 .none (.s rfl) (.s rfl)) (.mv rfl (.fa fd57_1 hfd57_1 rfl (.ld ty3 rfl (.c (.min2 .none (.s rfl) (.s rfl)) (.mv rfl (.fa fd57_0 hfd57_0 rfl (.ld ty3 rfl (.fa fd57_2 hfd57_2 rfl (.ld ty3 rfl (.add rfl rfl (.c (.max2 .none (.s rfl) (.s rfl)) (.mv rfl (.fa fd57_1 hfd57_1 rfl (.ld ty3 rfl (.fa fd57_3 hfd57_3 rfl (.ld ty3 rfl (.add rfl rfl (.c (.max2 .none (.s rfl) (.s rfl)) (.ra hv18 rfl (.ra hv19 rfl (.ra hv20 rfl (.ra hv21 rfl (.nil (.blkNormal (Ends.j _ (some_eq h))))))))))))))))))))))))))))))))))))))
    ·
     subst hj15; have h := hK15; clear hK15
     exact .rn mx (.adi rfl (.mv rfl (.nil (Ends.ag (some_eq h)))))
   ·
    refine .exit (.thenExit (.thenExit (.blkExit ?_)))
    replace h := hD13 _ (some_eq h)
    exact Ends.j _ (some_eq h)
  ·
   subst hj12; have h := hK12; clear hK12
   refine .seq (.sn mx (.mv rfl (.mv rfl (.sub rfl rfl (.c (.gt .none (.s rfl) .i) (.mv rfl (.mg rfl rfl rfl (.mg rfl rfl rfl (.c (.subW (.at rfl rfl) (.tmp rfl id) (.tmp rfl id)) (.c (.gt (.at rfl rfl) (.tmp rfl id) .i) (.po rfl rfl (.nil (.cb rfl h (fun _ h => ?_) fun _ h => ?_)))))))))))))
   ·
    obtain ⟨v4, hv23, h⟩ := bnd_some h
    refine .sr [oo, ([5001], [5001]), oo] mx (.cA (.re hv23 (.buildF (y := (⟨(0 : Int), (0 : Int), (0 : Int), (0 : Int)⟩ : Box)) .none bu57 zc57 rfl .nil .nil)) (.s0 5001 ty57 rfl rfl rfl (.cA (.assign .none .i) (.nil (.fb 5001 [2] rfl (.cons (t := 2) rfl trivial .nil) (.ret (.thenRet ?_)))))))
    obtain rfl := some_eq h
    exact Ends.r2 Tryz.results71 ty57 rfl rfl
   ·
    obtain ⟨v5, hv24, h⟩ := bnd_some h
    refine .skip (.then (.sr [oo, oo, oo, oo, oo, oo, oo, oo, oo, ([5001], [5001]), oo] mx (.mvA rfl (.mvA rfl (.mvA rfl (.mvA rfl (.subA rfl rfl (.mvA rfl (.mvA rfl (.subA rfl rfl (.cA (.re hv24 (.buildF (y := (⟨j_12.1, j_12.2.1, W (j_12.2.2.1 - j_12.1), W (j_12.2.2.2 - j_12.2.1)⟩ : Box)) .none bu57 zc57 rfl (.cons (.s rfl) (.cons (.s rfl) (.cons (.s rfl) (.cons (.s rfl) .nil)))) (.cons rfl sf57_0 (.cons rfl sf57_1 (.cons rfl sf57_2 (.cons rfl sf57_3 .nil)))))) (.s0 5001 ty57 rfl rfl rfl (.cA (.assign .none .i) (.nil (.fb 5001 [2] rfl (.cons (t := 2) rfl trivial .nil) (.ret ?_))))))))))))))))
    obtain rfl := some_eq h
    exact Ends.r2 Tryz.results71 ty57 rfl rfl

theorem ref_BoxOfNode_okS {self : (Doc × Str) → Option (Box × Int)} (hself : ∀  (x : (Doc × Str)) (r : (Box × Int)), self x = some r → FSpec Tryz.prog 29 [rep x.1, rep x.2] (tup [rep r.1, rep r.2]))  {x : (Doc × Str)} {r : (Box × Int)} (h : ref_BoxOfNode_body self x = some r) : FSpec Tryz.prog 29 [rep x.1, rep x.2] (tup [rep r.1, rep r.2]) := by
 unfold ref_BoxOfNode_body at h
 obtain ⟨v1, hv1, h⟩ := bnd_some h
 obtain ⟨r1, hv2, h⟩ := bind_some h
 obtain ⟨hn3, h⟩ := need_some h
 obtain ⟨v2, hv4, h⟩ := bnd_some h
 refine FSpec.i Tryz.func29 rfl Tryz.ntmps29 rfl (fun F => (.sr [oo, ([], [4]), oo] mx (.cA (.box .none (.s rfl)) (.al zo57 rfl (.cA (.assign .none .i) (.nil (.reB (t := 4) rfl (congrArg (cont 57) hv1) (.nameBox (t := 4) (g := 5001) rfl rfl (fun m5001 => (.sr [oo, oo, oo, oo, oo, oo, oo, ([], [6]), ([6], [6])] mx (.faA fd25_0 hfd25_0 rfl (.ldA ty22 rfl (.ldA ty25 rfl (.mvA rfl (.cA (.call .none (ref_NodeAt_ok hv2) (.cons (.s rfl) (.cons (.s rfl) .nil))) (.ixA sl22 ty59 rfl rfl hn3 (.rlA hv4 ty59 rfl (.al zo59 rfl (.st ty59 rfl rfl rfl (.nil (.freeze (t := 6) rfl rfl (.k 5001 rfl .nil) rfl (.seq (.sn mx (.fa fd59_1 hfd59_1 rfl (.ld ty3 rfl (.nei rfl (.nil (.cb rfl h (fun _ h => ?_) fun _ h => ?_))))))))))))))))))))))))))))
 ·
  refine .sr [oo, oo, ([5001], [5001]), oo] mx (.faA fd59_2 hfd59_2 rfl (.ldA ty57 rfl (.s0 5001 ty57 rfl rfl rfl (.cA (.assign .none .i) (.nil (.fb 5001 [4] rfl (.cons (t := 4) rfl trivial .nil) (.ret (.thenRet ?_))))))))
  obtain rfl := some_eq h
  exact Ends.r2 Tryz.results29 ty57 rfl rfl
 ·
  obtain ⟨r2, hv6, h⟩ := bind_some h
  refine .skip (.then (.sr [([], [7])] mx (.cW (.nilRow (T := 57) (α := Box) rfl) (.nil (.nameRow (t := 7) (g := 5002) rfl rfl rfl (fun s5002 => (.seq (.sn mx (.ld ty25 rfl (.mv rfl (.c (.call .none (ref_members_ok hv6).frz (.cons (.s rfl) (.cons (.s rfl) .nil))) (.ln sl22 rfl (.mvi (.nil ?_))))))))))))))
  obtain ⟨o_7, h, hK7⟩ := bindR_some h
  refine .thenJ (ι := (List Box)) (fun j_7 => []) (fun j_7 => [(7, some (rowV 57 j_7))]) (fun s => o_7 = Res.nx s) (.k 4 rfl .nil) (.k 5001 rfl .nil) ?_ (fun j_7 hj7 => ?_)
  ·
   refine .block (.anon (t := 7) (g := 5002) rfl rfl trivial rfl (.rforEL h (fun p8_ => [(30, ⟨True, rep p8_.1⟩)]) (fun p8_ => [(7, some (rowV 57 p8_.2))]) (.k 30 rfl .nil) (.k 7 rfl .nil) (.k4 2 4 28 29 rfl rfl rfl rfl .nil) (.k 5001 rfl .nil) (fun p8_ o_8 h hD8 => (.nameRow (t := 7) (g := 5003) rfl rfl rfl (fun s5003 => (.sn mx (.lt rfl rfl (.nil (.seq (.cb rfl h (fun _ h => ?_) fun _ h => ?_))))))))))
   ·
    refine .skip (.then (.seq ?_))
    obtain ⟨o_10, h, hK10⟩ := bindD_some h
    unfold ref_BoxOfNode_L1 at h
    refine .thenJ (ι := (List Box)) (fun j_10 => []) (fun j_10 => [(7, some (rowV 57 j_10))]) (fun s => o_10 = Res.nx s) (.k4 2 4 28 29 rfl rfl rfl rfl (.k 30 rfl .nil)) (.k 5001 rfl .nil) ?_ (fun j_10 hj10 => ?_)
    ·
     obtain ⟨hn11, h⟩ := need_some h
     obtain ⟨v3, hv12, h⟩ := bnd_some h
     obtain ⟨r3, hv13, h⟩ := bind_some h
     refine .block (.sr [oo, oo, ([], [9]), ([9], [9])] mx (.ixA sl22 ty59 rfl rfl hn11 (.rlA hv12 ty59 rfl (.al zo59 rfl (.st ty59 rfl rfl rfl (.nil (.freeze (t := 9) rfl rfl (.k2 5001 5003 rfl rfl .nil) rfl (.sr [oo, oo, oo, oo, oo, oo, oo, ([], [10]), ([10], [10]), oo] mx (.ldA ty25 rfl (.faA fd59_0 hfd59_0 rfl (.ldA ty9 rfl (.cA (.call .none (hself _ _ hv13) (.cons (.s rfl) (.cons (.s rfl) .nil))) (.mvA rfl (.exA rfl rfl (.exA rfl rfl (.al zo57 rfl (.st ty57 rfl rfl rfl (.asnA rfl (.nil (.freeze (t := 10) rfl rfl (.k2 5001 5003 rfl rfl .nil) rfl (.seq (.sn mx (.mv rfl (.nei rfl (.nil (.cb rfl h (fun _ h => ?_) fun _ h => ?_))))))))))))))))))))))))))
     ·
      obtain ⟨v4, hv15, h⟩ := bnd_some h
      refine .sr [oo, oo, ([5001], [5001]), oo] mx (.cA (.re hv15 (.buildF (y := (⟨(0 : Int), (0 : Int), (0 : Int), (0 : Int)⟩ : Box)) .none bu57 zc57 rfl .nil .nil)) (.mvA rfl (.s0 5001 ty57 rfl rfl rfl (.asnA rfl (.nil (.fb 5001 [4] rfl (.cons (t := 4) rfl trivial .nil) (.ret (.thenRet (.blkRet (.thenRet (.thenRet (.blkRet (.thenRet ?_)))))))))))))
      replace h := resd_ab hK10 (some_eq h)
      replace h := hD8 _ (some_eq h)
      replace h := resb_ab hK7 (some_eq h)
      obtain rfl := some_eq h
      exact Ends.r2 Tryz.results29 ty57 rfl rfl
     ·
      obtain ⟨hn16, h⟩ := need_some h
      exact .skip (.then (.rg [oo, oo, oo, ([5003], [48, 5003]), ([48], [7, 48])] mx (.mvA rfl (.ldA ty57 rfl (.cA (.buildSlice (xs := [_]) .none sl120 ty57 hz57 (.cons (.s rfl) .nil) rfl (by decide)) (.cW (.append (k := 5003) rk120 rfl (.told (.s rfl) rfl) (.s rfl) hn16) (.cW (.passRow rfl (.tmp rfl)) (.nil (.blkNormal (Ends.j _ (some_eq h)))))))))))
    ·
     have h := resd_nx hK10 hj10
     exact .nameRow (t := 7) (g := 5004) rfl rfl rfl (fun s5004 => (.rn mx (.adi rfl (.mv rfl (.nil (.anon (t := 7) (g := 5004) rfl rfl trivial rfl (Ends.ag (some_eq h))))))))
   ·
    refine .exit (.thenExit (.thenExit (.blkExit (.anon (t := 7) (g := 5003) rfl rfl trivial rfl ?_))))
    replace h := hD8 _ (some_eq h)
    exact Ends.j _ (some_eq h)
  ·
   have h := resb_nx hK7 hj7
   obtain ⟨r4, hv17, h⟩ := bind_some h
   refine .freezeRowA (t := 7) rfl rfl (.k 5001 rfl .nil) rfl (.sr [oo, oo, oo, oo, oo, ([], [12]), ([12], [12]), oo] mx (.mvA rfl (.cA (.call .none (ref_HullOf_ok hv17) (.cons (.s rfl) .nil)) (.mvA rfl (.exA rfl rfl (.exA rfl rfl (.al zo57 rfl (.st ty57 rfl rfl rfl (.asnA rfl (.nil (.nameBox (t := 12) (g := 5005) rfl rfl (fun m5005 => (.seq (.sn mx (.mv rfl (.nei rfl (.nil (.cb rfl h (fun _ h => ?_) fun _ h => ?_))))))))))))))))))
   ·
    obtain ⟨v5, hv19, h⟩ := bnd_some h
    refine .sr [oo, oo, ([5001], [5001]), oo] mx (.cA (.re hv19 (.buildF (y := (⟨(0 : Int), (0 : Int), (0 : Int), (0 : Int)⟩ : Box)) .none bu57 zc57 rfl .nil .nil)) (.mvA rfl (.s0 5001 ty57 rfl rfl rfl (.asnA rfl (.nil (.fb 5001 [4] rfl (.cons (t := 4) rfl trivial .nil) (.ret (.thenRet ?_))))))))
    obtain rfl := some_eq h
    exact Ends.r2 Tryz.results29 ty57 rfl rfl
   ·
    obtain ⟨v6, hv20, h⟩ := bnd_some h
    obtain ⟨r5, hv21, h⟩ := bind_some h
    refine .skip (.then (.sr [oo, ([5005], []), oo, oo, ([5005], []), oo, oo, ([5005], []), oo, oo, ([5005], []), oo, oo, ([5005], [5005])] mx (.cA (.fieldPtr .none fd57_0 (.s rfl)) (.cA (.loadAt (k := 5005) .none ty3 rfl (.s rfl) hfd57_0) (.cA (.subW .none (.s rfl) .i) (.cA (.fieldPtr .none fd57_1 (.s rfl)) (.cA (.loadAt (k := 5005) .none ty3 rfl (.s rfl) hfd57_1) (.cA (.subW .none (.s rfl) .i) (.cA (.fieldPtr .none fd57_2 (.s rfl)) (.cA (.loadAt (k := 5005) .none ty3 rfl (.s rfl) hfd57_2) (.cA (.addW .none (.s rfl) .i) (.cA (.fieldPtr .none fd57_3 (.s rfl)) (.cA (.loadAt (k := 5005) .none ty3 rfl (.s rfl) hfd57_3) (.cA (.addW .none (.s rfl) .i) (.cA (.re hv20 (.buildF (y := (⟨W (r4.1.X - 10), W (r4.1.Y - 10), W (r4.1.W_ + 20), W (r4.1.H + 20)⟩ : Box)) .none bu57 zc57 rfl (.cons (.s rfl) (.cons (.s rfl) (.cons (.s rfl) (.cons (.s rfl) .nil)))) (.cons rfl sf57_0 (.cons rfl sf57_1 (.cons rfl sf57_2 (.cons rfl sf57_3 .nil)))))) (.s0 5005 ty57 rfl rfl rfl (.nil (.freezeBox (g := 5005) (ts := [12]) rfl (.cons (t := 12) rfl trivial .nil) (.k 5001 rfl .nil) rfl (.sr [oo, oo, oo, ([5001], [5001]), oo] mx (.ldA ty57 rfl (.ldA ty57 rfl (.cA (.call .none (ref_BoxError_ok hv21) (.cons (.s rfl) .nil)) (.s0 5001 ty57 rfl rfl rfl (.asnA rfl (.nil (.fb 5001 [4] rfl (.cons (t := 4) rfl trivial .nil) (.ret ?_)))))))))))))))))))))))))))
    obtain rfl := some_eq h
    exact Ends.r2 Tryz.results29 ty57 rfl rfl
theorem ref_BoxOfNode_okN : ∀ (k : Nat)  (x : (Doc × Str)) (r : (Box × Int)) (h : fixN ref_BoxOfNode_body k x = some r), FSpec Tryz.prog 29 [rep x.1, rep x.2] (tup [rep r.1, rep r.2])
 | 0, x, r, h => by simp [fixN] at h
 | k + 1, x, r, h => ref_BoxOfNode_okS (ref_BoxOfNode_okN k) h
theorem ref_BoxOfNode_ok {d1 : Doc} {id1 : Str} {r : (Box × Int)}  (h : ref_BoxOfNode d1 id1 = some r) : FSpec Tryz.prog 29 [rep d1, rep id1] (tup [rep r.1, rep r.2]) :=
 let ⟨k, hk⟩ := fixp_some h
 ref_BoxOfNode_okN k (d1, id1) r hk

theorem ref_DocError_ok {d1 : Doc} {r : Int}  (h : ref_DocError d1 = some r) : FSpec Tryz.prog 6 [rep d1] (rep r) := by
 unfold ref_DocError at h
 refine FSpec.i Tryz.func6 rfl Tryz.ntmps6 rfl (fun F => (.sn mx (.c (.box .none (.s rfl)) (.asi (.nil (.seq (.sn mx (.fa fd25_0 hfd25_0 rfl (.ld ty22 rfl (.ln sl22 rfl (.c (.gt .none (.s rfl) .i) (.mv rfl (.fg fd25_1 hfd25_1 rfl rfl rfl (.lg ty23 rfl rfl rfl (.c (.len (.at rfl rfl) sl23 (.tmp rfl id)) (.c (.gt (.at rfl rfl) (.tmp rfl id) .i) (.po rfl rfl (.nil (.cb rfl h (fun _ h => ?_) fun _ h => ?_)))))))))))))))))))
 ·
  refine .sn mx (.asi (.nil (.ret (.thenRet ?_))))
  obtain rfl := some_eq h
  exact Ends.rt Tryz.results6 rfl
 ·
  refine .skip (.then (.seq (.sn mx (.fa fd25_0 hfd25_0 rfl (.ld ty22 rfl (.ln sl22 rfl (.mvi (.nil ?_))))))))
  obtain ⟨o_2, h, hK2⟩ := bindR_some h
  refine .tJ (fun s => o_2 = Res.nx s) (.k 1 rfl .nil) SubB.nil ?_ (fun j_2 hj2 => ?_)
  ·
   refine .block (.rforEL h (fun p3_ => [(25, ⟨True, rep p3_.1⟩)]) (fun p3_ => []) (.k 25 rfl .nil) SubB.nil (.k2 1 24 rfl rfl .nil) SubB.nil (fun p3_ o_3 h hD3 => (.sn mx (.lt rfl rfl (.nil (.seq (.cb rfl h (fun _ h => ?_) fun _ h => ?_)))))))
   ·
    refine .skip (.then (.seq ?_))
    obtain ⟨o_5, h, hK5⟩ := bindD_some h
    unfold ref_DocError_L1 at h
    refine .tJ (fun s => o_5 = Res.nx s) (.k2 1 24 rfl rfl (.k 25 rfl .nil)) SubB.nil ?_ (fun j_5 hj5 => ?_)
    ·
     obtain ⟨e1, hv6, h⟩ := bind_some h
     refine .block (.sn mx (.mv rfl (.asn rfl (.nil (.sn mx (.ld ty25 rfl (.mv rfl (.c (.call .none (ref_nodeError_ok hv6) (.cons (.s rfl) (.cons (.s rfl) .nil))) (.asn rfl (.nil (.sn mx (.mv rfl (.nei rfl (.nil (.cb rfl h (fun _ h => ?_) fun _ h => ?_)))))))))))))))
     ·
      refine .sn mx (.mv rfl (.asn rfl (.nil (.ret (.blkRet (.thenRet (.thenRet (.blkRet (.thenRet ?_)))))))))
      replace h := resd_ab hK5 (some_eq h)
      replace h := hD3 _ (some_eq h)
      replace h := resb_ab hK2 (some_eq h)
      obtain rfl := some_eq h
      exact Ends.rt Tryz.results6 rfl
     ·
      exact .skip (.blkNormal (Ends.j _ (some_eq h)))
    ·
     have h := resd_nx hK5 hj5
     exact .rn mx (.adi rfl (.mv rfl (.nil (Ends.ag (some_eq h)))))
   ·
    refine .exit (.thenExit (.thenExit (.blkExit ?_)))
    replace h := hD3 _ (some_eq h)
    exact Ends.j _ (some_eq h)
  ·
   have h := resb_nx hK2 hj2
   obtain ⟨e2, hv8, h⟩ := bind_some h
   refine .seq (.sn mx (.ld ty25 rfl (.c (.call .none (ref_treeError_ok hv8) (.cons (.s rfl) .nil)) (.asn rfl (.nil (.sn mx (.mv rfl (.nei rfl (.nil (.cb rfl h (fun _ h => ?_) fun _ h => ?_))))))))))
   ·
    refine .sn mx (.mv rfl (.asn rfl (.nil (.ret (.thenRet ?_)))))
    obtain rfl := some_eq h
    exact Ends.rt Tryz.results6 rfl
   ·
    refine .skip (.then (.seq (.sn mx (.fa fd25_1 hfd25_1 rfl (.ld ty23 rfl (.ln sl23 rfl (.mvi (.nil ?_))))))))
    obtain ⟨o_10, h, hK10⟩ := bindR_some h
    refine .tJ (fun s => o_10 = Res.nx s) (.k 1 rfl .nil) SubB.nil ?_ (fun j_10 hj10 => ?_)
    ·
     refine .block (.rforEL h (fun p11_ => [(43, ⟨True, rep p11_.1⟩)]) (fun p11_ => []) (.k 43 rfl .nil) SubB.nil (.k2 1 42 rfl rfl .nil) SubB.nil (fun p11_ o_11 h hD11 => (.sn mx (.lt rfl rfl (.nil (.seq (.cb rfl h (fun _ h => ?_) fun _ h => ?_)))))))
     ·
      refine .skip (.then (.seq ?_))
      obtain ⟨o_13, h, hK13⟩ := bindD_some h
      unfold ref_DocError_L2 at h
      refine .tJ (fun s => o_13 = Res.nx s) (.k2 1 42 rfl rfl (.k 43 rfl .nil)) SubB.nil ?_ (fun j_13 hj13 => ?_)
      ·
       obtain ⟨e3, hv14, h⟩ := bind_some h
       refine .block (.sn mx (.mv rfl (.asn rfl (.nil (.sn mx (.ld ty25 rfl (.mv rfl (.c (.call .none (ref_edgeError_ok hv14) (.cons (.s rfl) (.cons (.s rfl) .nil))) (.asn rfl (.nil (.sn mx (.mv rfl (.nei rfl (.nil (.cb rfl h (fun _ h => ?_) fun _ h => ?_)))))))))))))))
       ·
        refine .sn mx (.mv rfl (.asn rfl (.nil (.ret (.blkRet (.thenRet (.thenRet (.blkRet (.thenRet ?_)))))))))
        replace h := resd_ab hK13 (some_eq h)
        replace h := hD11 _ (some_eq h)
        replace h := resb_ab hK10 (some_eq h)
        obtain rfl := some_eq h
        exact Ends.rt Tryz.results6 rfl
       ·
        exact .skip (.blkNormal (Ends.j _ (some_eq h)))
      ·
       have h := resd_nx hK13 hj13
       exact .rn mx (.adi rfl (.mv rfl (.nil (Ends.ag (some_eq h)))))
     ·
      refine .exit (.thenExit (.thenExit (.blkExit ?_)))
      replace h := hD11 _ (some_eq h)
      exact Ends.j _ (some_eq h)
    ·
     have h := resb_nx hK10 hj10
     refine .seq (.sn mx (.fa fd25_0 hfd25_0 rfl (.ld ty22 rfl (.ln sl22 rfl (.mvi (.nil ?_))))))
     obtain ⟨o_16, h, hK16⟩ := bindR_some h
     refine .tJ (fun s => o_16 = Res.nx s) Sub.nil SubB.nil ?_ (fun j_16 hj16 => ?_)
     ·
      refine .block (.rforEL h (fun p17_ => [(56, ⟨True, rep p17_.1⟩)]) (fun p17_ => []) (.k 56 rfl .nil) SubB.nil (.k2 1 54 rfl rfl (.k 55 rfl .nil)) SubB.nil (fun p17_ o_17 h hD17 => (.sn mx (.lt rfl rfl (.nil (.seq (.cb rfl h (fun _ h => ?_) fun _ h => ?_)))))))
      ·
       refine .skip (.then (.seq ?_))
       obtain ⟨o_19, h, hK19⟩ := bindD_some h
       unfold ref_DocError_L3 at h
       refine .tJ (fun s => o_19 = Res.nx s) (.k4 1 54 55 56 rfl rfl rfl rfl .nil) SubB.nil ?_ (fun j_19 hj19 => ?_)
       ·
        obtain ⟨hn20, h⟩ := need_some h
        obtain ⟨v1, hv21, h⟩ := bnd_some h
        obtain ⟨r1, hv22, h⟩ := bind_some h
        refine .block (.sr [oo, oo, ([], [9]), ([9], [9])] mx (.ixA sl22 ty59 rfl rfl hn20 (.rlA hv21 ty59 rfl (.al zo59 rfl (.st ty59 rfl rfl rfl (.nil (.freeze (t := 9) rfl rfl SubB.nil rfl (.sr [oo, oo, oo, oo, oo, oo, oo, ([], [10]), ([10], [10]), oo] mx (.ldA ty25 rfl (.faA fd59_0 hfd59_0 rfl (.ldA ty9 rfl (.cA (.call .none (ref_BoxOfNode_ok hv22) (.cons (.s rfl) (.cons (.s rfl) .nil))) (.mvA rfl (.exA rfl rfl (.exA rfl rfl (.al zo57 rfl (.st ty57 rfl rfl rfl (.asnA rfl (.nil (.sn mx (.mv rfl (.nei rfl (.nil (.cb rfl h (fun _ h => ?_) fun _ h => ?_))))))))))))))))))))))))
        ·
         refine .sn mx (.mv rfl (.asn rfl (.nil (.ret (.blkRet (.thenRet (.thenRet (.blkRet (.thenRet ?_)))))))))
         replace h := resd_ab hK19 (some_eq h)
         replace h := hD17 _ (some_eq h)
         replace h := resb_ab hK16 (some_eq h)
         obtain rfl := some_eq h
         exact Ends.rt Tryz.results6 rfl
        ·
         exact .skip (.blkNormal (Ends.j _ (some_eq h)))
       ·
        have h := resd_nx hK19 hj19
        exact .rn mx (.adi rfl (.mv rfl (.nil (Ends.ag (some_eq h)))))
      ·
       refine .exit (.thenExit (.thenExit (.blkExit ?_)))
       replace h := hD17 _ (some_eq h)
       exact Ends.j _ (some_eq h)
     ·
      have h := resb_nx hK16 hj16
      refine .sn mx (.asi (.nil (.ret ?_)))
      obtain rfl := some_eq h
      exact Ends.rt Tryz.results6 rfl


end Go.Proofs.YtlbbcehlhbaggaaGreatDoor
