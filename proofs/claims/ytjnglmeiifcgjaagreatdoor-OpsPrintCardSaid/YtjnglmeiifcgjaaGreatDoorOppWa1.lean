/-
  The walks: what a function computes is what its plain function says (printed by a program of one's own).
-/
import Derived.Test.YtjnglmeiifcgjaaGreatDoorOppFa
set_option maxRecDepth 100000
set_option linter.unusedSimpArgs false
set_option linter.unusedVariables false
namespace Go.Proofs.YtjnglmeiifcgjaaGreatDoor
open Go Go.DB Go.RowKit

theorem strings_Count_ok {s sep : Str} {r : Int} (h : strings_Count s sep = some r) : FSpec Tryz.prog 14 [rep s, rep sep] (rep r) := by
 obtain ⟨hn, h⟩ := need_some h
 obtain rfl := some_eq h
 exact countByteS_spec countStr_lay rfl fnok14 hn

theorem strconv_Itoa_ok {n : Int} {r : Str} (h : strconv_Itoa n = some r) : FSpec Tryz.prog 35 [rep n] (rep r) := by
 obtain ⟨hn, h⟩ := need_some h
 obtain rfl := some_eq h
 exact itoaS_spec itoaStr_lay rfl rfl fnok35 hn

theorem ref_Quote_ok {s r : Str} (h : ref_Quote s = some r) : FSpec Tryz.prog 44 [rep s] (rep r) := by
 obtain ⟨hn, h⟩ := need_some h
 obtain rfl := some_eq h
 exact quoteS_spec fnok44 (fun w => qt44_at s.b w hn (fun c w => Proofs.Any.strings_Count_one countStr_lay ⟨s.b.toArray⟩ c w))

theorem strings_Join_ok {l : List Str} {sep : Str} {r : Str} (h : strings_Join l sep = some r) : FSpec Tryz.prog 36 [rep l, rep sep] (rep r) := by
 obtain ⟨hn, h⟩ := need_some h
 obtain rfl := some_eq h
 exact joinS_spec joinStr_lay joinStr_extra rfl fnok36 hn

theorem utf8_ValidString_ok {s : Str} {r : Bool} (h : utf8_ValidString s = some r) : FSpec Tryz.prog 60 [rep s] (rep r) := by
 obtain rfl := some_eq h
 exact validS_spec validStr_lay rfl rfl rfl fnok60

theorem strings_Compare_ok {s sep : Str} {r : Int} (h : strings_Compare s sep = some r) : FSpec Tryz.prog 40 [rep s, rep sep] (rep r) := by
 obtain rfl := some_eq h
 exact compareS_spec compareStr_lay rfl fnok40

theorem strings_Trim_ok {s cs : Str} {r : Str} (h : strings_Trim s cs = some r) : FSpec Tryz.prog 51 [rep s, rep cs] (rep r) := by
 obtain ⟨hn, h⟩ := need_some h
 obtain rfl := some_eq h
 exact trimS_spec trimStr_lay (by kernel_rfl) rfl fnok51 hn

theorem strings_IndexByte_ok {s : Str} {c : KI .u8} {r : Int} (h : strings_IndexByte s c = some r) : FSpec Tryz.prog 64 [rep s, rep c] (rep r) := by
 obtain ⟨hn, h⟩ := need_some h
 obtain rfl := some_eq h
 exact indexByteS_spec indexByteStr_lay rfl fnok64 hn

theorem strconv_Atoi_ok {s : Str} {r : Int × ErrB} (h : strconv_Atoi s = some r) : FSpec Tryz.prog 63 [rep s] (tup [rep r.1, rep r.2]) := by
 obtain ⟨hn, h⟩ := need_some h
 obtain rfl := some_eq h
 exact atoiI_spec atoiStr_lay rfl rfl rfl fnok63 hn

theorem strings_SplitN_ok {s sep : Str} {n : Int} {r : List Str} (h : strings_SplitN s sep n = some r) : FSpecO Tryz.prog 46 [rep s, rep sep, rep n] [] (anyV) [some (rowV 9 r)] := by
 obtain ⟨h1, h⟩ := need_some h
 obtain ⟨h2, h⟩ := need_some h
 obtain ⟨h3, h⟩ := need_some h
 obtain rfl := some_eq h
 exact splitNS_spec splitNStr_lay (by kernel_rfl) rfl rfl rfl fnok46 h1 h2 h3

theorem strings_Cut_ok {s sep : Str} {r : Str × Str × Bool} (h : strings_Cut s sep = some r) : FSpec Tryz.prog 26 [rep s, rep sep] (tup [rep r.1, rep r.2.1, rep r.2.2]) := by
 obtain ⟨hn, h⟩ := need_some h
 obtain rfl := some_eq h
 exact cutS_spec cutStr_lay rfl rfl fnok26 hn

theorem strings_Builder_String_ok {m : Nat} {c r : Str} (h : strings_Builder_String c = some r) : FSpecO Tryz.prog 20 [isV (ptr m 0)] [(ptr m 0, bldC 45 5 c)] (rep r) [none] := by
 obtain ⟨hn, h⟩ := need_some h
 obtain rfl := some_eq h
 exact bldString_spec bldStringL_lay bldStringL_extra rfl rfl rfl fnok20 hn

theorem strings_Builder_Len_ok {m : Nat} {c : Str} {r : Int × Str} (h : strings_Builder_Len c = some r) : FSpecO Tryz.prog 19 [isV (ptr m 0)] [(ptr m 0, bldC 45 5 c)] (rep r.1) [some (bldC 45 5 r.2)] := by
 obtain ⟨hn, h⟩ := need_some h
 obtain rfl := some_eq h
 exact bldLen_spec bldLenL_lay rfl rfl rfl fnok19 hn

theorem strings_Builder_WriteString_ok {m : Nat} {c s r : Str} (h : strings_Builder_WriteString c s = some r) : FSpecO Tryz.prog 16 [isV (ptr m 0), rep s] [(ptr m 0, bldC 45 5 c)] anyV [some (bldC 45 5 r)] := by
 obtain ⟨hn, h⟩ := need_some h
 obtain rfl := some_eq h
 exact bldWrite_spec ws_at fnok16 hn

theorem edit_Quoted_ok {s r : Str} (h : edit_Quoted s = some r) : FSpec Tryz.prog 18 [rep s] (rep r) := by
 obtain ⟨hn, h⟩ := need_some h
 obtain rfl := some_eq h
 exact quoteS_spec fnok18 (fun w => qt18_at s.b w hn (fun c w => Proofs.Any.strings_Count_one countStr_lay ⟨s.b.toArray⟩ c w))

theorem edit_isName_ok {s1 : Str} {r : Bool}  (h : edit_isName s1 = some r) : FSpec Tryz.prog 31 [rep s1] (rep r) := by
 unfold edit_isName at h
 obtain ⟨hn1, h⟩ := need_some h
 obtain ⟨hn2, h⟩ := need_some h
 obtain ⟨r1, hv3, h⟩ := bind_some h
 refine FSpec.i Tryz.func31 rfl Tryz.ntmps31 rfl (fun F => (.sn mx (.asb (.nil (.sn mx (.mv rfl (.c (.neS .none (eqAt_str Tryz.underlying9) (.s rfl) (.str (l := []) (by decide))) (.mv rfl (.mg rfl rfl rfl (.c (.lenStr (.at rfl rfl) Tryz.underlying9 (.tmp rfl id)) (.c (.le (.at rfl rfl) (.tmp rfl id) .i) (.pa rfl rfl (.mv rfl (.mg rfl rfl rfl (.c (.indexStr (.at rfl rfl) Tryz.underlying9 (.tmp rfl id) .i (fun hg => hn1 hg.2)) (.c (.kgeq (.at rfl rfl) (.tmp rfl id) .ki) (.pa rfl rfl (.mv rfl (.mg rfl rfl rfl (.c (.indexStr (.at rfl rfl) Tryz.underlying9 (.tmp rfl id) .i (fun hg => hn2 hg.2)) (.c (.kleq (.at rfl rfl) (.tmp rfl id) .ki) (.pa rfl rfl (.mv rfl (.mg rfl rfl rfl (.c (.callIf (.at rfl rfl) fnok51 (fun hg => strings_Trim_ok ((fun hg => gd_some hv3 (hg.2)) hg)) (.cons (.tmp rfl id) (.cons (.str (l := [97, 98, 99, 100, 101, 102, 103, 104, 105, 106, 107, 108, 109, 110, 111, 112, 113, 114, 115, 116, 117, 118, 119, 120, 121, 122, 48, 49, 50, 51, 52, 53, 54, 55, 56, 57, 45]) (by decide)) .nil)) (fun h => h)) (.c (.eqS (.at rfl rfl) (eqAt_str Tryz.underlying9) (.tmp rfl id) (.str (l := []) (by decide))) (.pa rfl rfl (.asn rfl (.nil (.ret ?_))))))))))))))))))))))))))))))
 obtain rfl := some_eq h
 exact Ends.rt Tryz.results31 rfl

theorem cmp_isNaN_int_ok {x1 : Int} {r : Bool}  (h : cmp_isNaN_int x1 = some r) : FSpec Tryz.prog 59 [rep x1] (rep r) := by
 unfold cmp_isNaN_int at h
 refine FSpec.i Tryz.func59 rfl Tryz.ntmps59 rfl (fun F => (.sn mx (.asb (.nil (.sn mx (.mv rfl (.mv rfl (.c (.neI .none (.s rfl) (.s rfl)) (.asn rfl (.nil (.ret ?_)))))))))))
 obtain rfl := some_eq h
 exact Ends.rt Tryz.results59 rfl

theorem cmp_Compare_int_ok {x1 : Int} {y1 : Int} {r : Int}  (h : cmp_Compare_int x1 y1 = some r) : FSpec Tryz.prog 41 [rep x1, rep y1] (rep r) := by
 unfold cmp_Compare_int at h
 obtain ⟨xNaN1, hv1, h⟩ := bind_some h
 obtain ⟨yNaN1, hv2, h⟩ := bind_some h
 refine FSpec.i Tryz.func41 rfl Tryz.ntmps41 rfl (fun F => (.sn mx (.asi (.nil (.sn mx (.mv rfl (.c (.call .none (cmp_isNaN_int_ok hv1) (.cons (.s rfl) .nil)) (.asn rfl (.nil (.sn mx (.mv rfl (.c (.call .none (cmp_isNaN_int_ok hv2) (.cons (.s rfl) .nil)) (.asn rfl (.nil (.seq (.sn mx (.mv rfl (.nil (.cb rfl h (fun _ h => ?_) fun _ h => ?_)))))))))))))))))))
 ·
  refine .seq (.sn mx (.mv rfl (.nil (.cb rfl h (fun _ h => ?_) fun _ h => ?_))))
  ·
   refine .sn mx (.asi (.nil (.ret (.thenRet (.thenRet ?_)))))
   obtain rfl := some_eq h
   exact Ends.rt Tryz.results41 rfl
  ·
   refine .skip (.then (.sn mx (.asi (.nil (.ret (.thenRet ?_))))))
   obtain rfl := some_eq h
   exact Ends.rt Tryz.results41 rfl
 ·
  refine .skip (.then (.seq (.sn mx (.mv rfl (.nil (.cb rfl h (fun _ h => ?_) fun _ h => ?_))))))
  ·
   refine .sn mx (.asi (.nil (.ret (.thenRet ?_))))
   obtain rfl := some_eq h
   exact Ends.rt Tryz.results41 rfl
  ·
   refine .skip (.then (.seq (.sn mx (.mv rfl (.mv rfl (.lt rfl rfl (.nil (.cb rfl h (fun _ h => ?_) fun _ h => ?_))))))))
   ·
    refine .sn mx (.asi (.nil (.ret (.thenRet ?_))))
    obtain rfl := some_eq h
    exact Ends.rt Tryz.results41 rfl
   ·
    refine .skip (.then (.seq (.sn mx (.mv rfl (.mv rfl (.c (.gt .none (.s rfl) (.s rfl)) (.nil (.cb rfl h (fun _ h => ?_) fun _ h => ?_))))))))
    ·
     refine .sn mx (.asi (.nil (.ret (.thenRet ?_))))
     obtain rfl := some_eq h
     exact Ends.rt Tryz.results41 rfl
    ·
     refine .skip (.then (.sn mx (.asi (.nil (.ret ?_)))))
     obtain rfl := some_eq h
     exact Ends.rt Tryz.results41 rfl

theorem cmp_Or_int_ok {vals1 : (List Int)} {r : Int}  (h : cmp_Or_int vals1 = some r) : FSpec Tryz.prog 39 [rep vals1] (rep r) := by
 unfold cmp_Or_int at h
 refine FSpec.i Tryz.func39 rfl Tryz.ntmps39 rfl (fun F => (.sn mx (.asi (.nil (.sn mx (.asi (.nil (.seq (.sn mx (.mv rfl (.ln sl64 rfl (.mvi (.nil ?_)))))))))))))
 obtain ⟨o_1, h, hK1⟩ := bindR_some h
 refine .tJ (fun s => o_1 = Res.nx s) (.k 3 rfl .nil) SubB.nil ?_ (fun j_1 hj1 => ?_)
 ·
  refine .block (.rforEL h (fun p2_ => [(8, ⟨True, rep p2_.1⟩)]) (fun p2_ => []) (.k 8 rfl .nil) SubB.nil (.k2 3 6 rfl rfl (.k 7 rfl .nil)) SubB.nil (fun p2_ o_2 h hD2 => (.sn mx (.lt rfl rfl (.nil (.seq (.cb rfl h (fun _ h => ?_) fun _ h => ?_)))))))
  ·
   refine .skip (.then (.seq ?_))
   obtain ⟨o_4, h, hK4⟩ := bindD_some h
   unfold cmp_Or_int_L1 at h
   refine .tJ (fun s => o_4 = Res.nx s) (.k4 3 6 7 8 rfl rfl rfl rfl .nil) SubB.nil ?_ (fun j_4 hj4 => ?_)
   ·
    obtain ⟨hn5, h⟩ := need_some h
    obtain ⟨val1, hv6, h⟩ := bnd_some h
    refine .block (.sn mx (.ix sl64 ty3 rfl rfl hn5 (.ld ty3 rfl (.ra hv6 rfl (.nil (.sn mx (.mv rfl (.mv rfl (.c (.neI .none (.s rfl) (.s rfl)) (.nil (.cb rfl h (fun _ h => ?_) fun _ h => ?_)))))))))))
    ·
     refine .sn mx (.mv rfl (.asn rfl (.nil (.ret (.blkRet (.thenRet (.thenRet (.blkRet (.thenRet ?_)))))))))
     replace h := resd_ab hK4 (some_eq h)
     replace h := hD2 _ (some_eq h)
     replace h := resb_ab hK1 (some_eq h)
     obtain rfl := some_eq h
     exact Ends.rt Tryz.results39 rfl
    ·
     exact .skip (.blkNormal (Ends.j _ (some_eq h)))
   ·
    have h := resd_nx hK4 hj4
    exact .rn mx (.adi rfl (.mv rfl (.nil (Ends.ag (some_eq h)))))
  ·
   refine .exit (.thenExit (.thenExit (.blkExit ?_)))
   replace h := hD2 _ (some_eq h)
   exact Ends.j _ (some_eq h)
 ·
  have h := resb_nx hK1 hj1
  refine .sn mx (.mv rfl (.asn rfl (.nil (.ret ?_))))
  obtain rfl := some_eq h
  exact Ends.rt Tryz.results39 rfl

theorem edit_order_ok {a1 : DOp} {b1 : DOp} {r : Int}  (h : edit_order a1 b1 = some r) : FSpec Tryz.prog 32 [rep a1, rep b1] (rep r) := by
 unfold edit_order at h
 obtain ⟨r1, hv1, h⟩ := bind_some h
 obtain ⟨r2, hv2, h⟩ := bind_some h
 obtain ⟨r3, hv3, h⟩ := bind_some h
 refine FSpec.i Tryz.func32 rfl Tryz.ntmps32 rfl (fun F => (.sn mx (.c (.box .none (.s rfl)) (.c (.box .none (.s rfl)) (.asi (.nil (.sn mx (.fa fd38_0 hfd38_0 rfl (.fa fd36_1 hfd36_1 rfl (.ld ty9 rfl (.fa fd38_0 hfd38_0 rfl (.fa fd36_1 hfd36_1 rfl (.ld ty9 rfl (.c (.call .none (strings_Compare_ok hv1) (.cons (.s rfl) (.cons (.s rfl) .nil))) (.fa fd38_0 hfd38_0 rfl (.fa fd36_2 hfd36_2 rfl (.ld ty3 rfl (.fa fd38_0 hfd38_0 rfl (.fa fd36_2 hfd36_2 rfl (.ld ty3 rfl (.c (.call .none (cmp_Compare_int_ok hv2) (.cons (.s rfl) (.cons (.s rfl) .nil))) (.c (.buildSlice (xs := [_, _]) .none sl64 ty3 hz3 (.cons (.s rfl) (.cons (.s rfl) .nil)) rfl (by decide)) (.c (.call .none (cmp_Or_int_ok hv3) (.cons (.s rfl) .nil)) (.asn rfl (.nil (.ret ?_))))))))))))))))))))))))))
 obtain rfl := some_eq h
 exact Ends.rt Tryz.results32 rfl

theorem shape_CheckText_ok {s1 : Str} {r : Int}  (h : shape_CheckText s1 = some r) : FSpec Tryz.prog 52 [rep s1] (rep r) := by
 unfold shape_CheckText at h
 refine FSpec.i Tryz.func52 rfl Tryz.ntmps52 rfl (fun F => (.sn mx (.asi (.nil (.seq (.sn mx (.mv rfl (.c (.lenStr .none Tryz.underlying9 (.s rfl)) (.c (.gt .none (.s rfl) .i) (.nil (.cb rfl h (fun _ h => ?_) fun _ h => ?_)))))))))))
 ·
  refine .sn mx (.asi (.nil (.ret (.thenRet ?_))))
  obtain rfl := some_eq h
  exact Ends.rt Tryz.results52 rfl
 ·
  obtain ⟨r1, hv2, h⟩ := bind_some h
  refine .skip (.then (.seq (.sn mx (.mv rfl (.c (.call .none (utf8_ValidString_ok hv2) (.cons (.s rfl) .nil)) (.c (.not .none (.s rfl)) (.nil (.cb rfl h (fun _ h => ?_) fun _ h => ?_))))))))
  ·
   refine .sn mx (.asi (.nil (.ret (.thenRet ?_))))
   obtain rfl := some_eq h
   exact Ends.rt Tryz.results52 rfl
  ·
   refine .skip (.then (.seq (.sn mx (.mv rfl (.c (.lenStr .none Tryz.underlying9 (.s rfl)) (.mvi (.nil ?_)))))))
   obtain ⟨o_4, h, hK4⟩ := bindR_some h
   refine .tJ (fun s => o_4 = Res.nx s) Sub.nil SubB.nil ?_ (fun j_4 hj4 => ?_)
   ·
    refine .block (.rforEL h (fun p5_ => [(12, ⟨True, rep p5_.1⟩)]) (fun p5_ => []) (.k 12 rfl .nil) SubB.nil (.k2 0 11 rfl rfl .nil) SubB.nil (fun p5_ o_5 h hD5 => (.sn mx (.lt rfl rfl (.nil (.seq (.cb rfl h (fun _ h => ?_) fun _ h => ?_)))))))
    ·
     refine .skip (.then (.seq ?_))
     obtain ⟨o_7, h, hK7⟩ := bindD_some h
     unfold shape_CheckText_L1 at h
     refine .tJ (fun s => o_7 = Res.nx s) (.k2 0 11 rfl rfl (.k 12 rfl .nil)) SubB.nil ?_ (fun j_7 hj7 => ?_)
     ·
      obtain ⟨hn8, h⟩ := need_some h
      obtain ⟨hn9, h⟩ := need_some h
      obtain ⟨hn10, h⟩ := need_some h
      refine .block (.sn mx (.mv rfl (.asn rfl (.nil (.sn mx (.mv rfl (.mv rfl (.c (.indexStr .none Tryz.underlying9 (.s rfl) (.s rfl) (fun _ => hn8)) (.c (.klss .none (.s rfl) .ki) (.mv rfl (.mg rfl rfl rfl (.mg rfl rfl rfl (.c (.indexStr (.at rfl rfl) Tryz.underlying9 (.tmp rfl id) (.tmp rfl id) (fun hg => hn9 hg.2)) (.c (.kneq (.at rfl rfl) (.tmp rfl id) .ki) (.pa rfl rfl (.mv rfl (.mg rfl rfl rfl (.mg rfl rfl rfl (.c (.indexStr (.at rfl rfl) Tryz.underlying9 (.tmp rfl id) (.tmp rfl id) (fun hg => hn10 hg.2)) (.c (.keql (.at rfl rfl) (.tmp rfl id) .ki) (.po rfl rfl (.nil (.cb rfl h (fun _ h => ?_) fun _ h => ?_)))))))))))))))))))))))
      ·
       refine .sn mx (.asi (.nil (.ret (.blkRet (.thenRet (.thenRet (.blkRet (.thenRet ?_))))))))
       replace h := resd_ab hK7 (some_eq h)
       replace h := hD5 _ (some_eq h)
       replace h := resb_ab hK4 (some_eq h)
       obtain rfl := some_eq h
       exact Ends.rt Tryz.results52 rfl
      ·
       exact .skip (.blkNormal (Ends.j _ (some_eq h)))
     ·
      have h := resd_nx hK7 hj7
      exact .rn mx (.adi rfl (.mv rfl (.nil (Ends.ag (some_eq h)))))
    ·
     refine .exit (.thenExit (.thenExit (.blkExit ?_)))
     replace h := hD5 _ (some_eq h)
     exact Ends.j _ (some_eq h)
   ·
    have h := resb_nx hK4 hj4
    refine .sn mx (.asi (.nil (.ret ?_)))
    obtain rfl := some_eq h
    exact Ends.rt Tryz.results52 rfl

theorem edit_checkBody_ok {x1 : DOp} {r : Int}  (h : edit_checkBody x1 = some r) : FSpec Tryz.prog 33 [rep x1] (rep r) := by
 unfold edit_checkBody at h
 refine FSpec.i Tryz.func33 rfl Tryz.ntmps33 rfl (fun F => (.sn mx (.c (.box .none (.s rfl)) (.asi (.nil (.seq (.sn mx (.fa fd38_1 hfd38_1 rfl (.ld ty3 rfl (.c (.lt .none (.s rfl) .i) (.mv rfl (.fg fd38_1 hfd38_1 rfl rfl rfl (.lg ty3 rfl rfl rfl (.c (.gt (.at rfl rfl) (.tmp rfl id) .i) (.po rfl rfl (.nil (.cb rfl h (fun _ h => ?_) fun _ h => ?_)))))))))))))))))
 ·
  refine .sn mx (.asi (.nil (.ret (.thenRet ?_))))
  obtain rfl := some_eq h
  exact Ends.rt Tryz.results33 rfl
 ·
  obtain ⟨set1, hv2, h⟩ := bnd_some h
  obtain ⟨undo1, hv3, h⟩ := bnd_some h
  obtain ⟨v1, hv4, h⟩ := bnd_some h
  refine .skip (.then (.sn mx (.fa fd38_1 hfd38_1 rfl (.ld ty3 rfl (.eqi rfl (.fa fd38_1 hfd38_1 rfl (.ld ty3 rfl (.eqi rfl (.ra hv2 rfl (.ra hv3 rfl (.nil (.seq (.block (.seq (.sn mx (.fa fd38_5 hfd38_5 rfl (.ld ty3 rfl (.nei rfl (.mv rfl (.mg rfl rfl rfl (.c (.not (.at rfl rfl) (.tmp rfl id)) (.pa rfl rfl (.ra hv4 rfl (.nil ?_))))))))))))))))))))))))
  obtain ⟨j_5, h, hK5⟩ := bind_some h
  refine .thenJ (ι := Bool) (fun j_5 => [(20, ⟨True, rep j_5⟩)]) (fun j_5 => []) (fun s => j_5 = s) (.k2 1 3 rfl rfl (.k 4 rfl .nil)) SubB.nil ?_ (fun j_5' hj5 => ?_)
  ·
   refine .cb rfl h (fun _ h => ?_) fun _ h => ?_
   ·
    exact .skip (Ends.j _ (some_eq h))
   ·
    obtain ⟨v2, hv7, h⟩ := bnd_some h
    refine .sn mx (.fa fd38_2 hfd38_2 rfl (.ld ty9 rfl (.c (.neS .none (eqAt_str Tryz.underlying9) (.s rfl) (.str (l := []) (by decide))) (.mv rfl (.mg rfl rfl rfl (.pa rfl rfl (.ra hv7 rfl (.nil (.cb rfl h (fun _ h => ?_) fun _ h => ?_)))))))))
    ·
     exact .skip (Ends.j _ (some_eq h))
    ·
     obtain ⟨v3, hv9, h⟩ := bnd_some h
     exact .rn mx (.fa fd38_3 hfd38_3 rfl (.ld ty9 rfl (.c (.neS .none (eqAt_str Tryz.underlying9) (.s rfl) (.str (l := []) (by decide))) (.mv rfl (.fg fd38_4 hfd38_4 rfl rfl rfl (.lg ty9 rfl rfl rfl (.c (.neS (.at rfl rfl) (eqAt_str Tryz.underlying9) (.tmp rfl id) (.str (l := []) (by decide))) (.po rfl rfl (.mv rfl (.mg rfl rfl rfl (.c (.not (.at rfl rfl) (.tmp rfl id)) (.pa rfl rfl (.ra hv9 rfl (.nil (Ends.j _ (some_eq h))))))))))))))))
  ·
   subst hj5; have h := hK5; clear hK5
   refine .cb rfl h (fun _ h => ?_) fun _ h => ?_
   ·
    refine .sn mx (.asi (.nil (.ret (.blkRet (.thenRet ?_)))))
    obtain rfl := some_eq h
    exact Ends.rt Tryz.results33 rfl
   ·
    obtain ⟨r1, hv11, h⟩ := bind_some h
    refine .seq (.sn mx (.mv rfl (.c (.not .none (.s rfl)) (.mv rfl (.fg fd38_2 hfd38_2 rfl rfl rfl (.lg ty9 rfl rfl rfl (.c (.callIf (.at rfl rfl) fnok31 (fun hg => edit_isName_ok ((fun hg => gd_some hv11 (hg.2)) hg)) (.cons (.tmp rfl id) .nil) (fun h => h)) ?_)))))))
    obtain ⟨v4, hv12, h⟩ := bnd_some h
    refine .c (.not (.at rfl rfl) (.tmp rfl id)) (.pa rfl rfl (.ra hv12 rfl (.nil ?_)))
    obtain ⟨j_13, h, hK13⟩ := bind_some h
    refine .thenJ (ι := Bool) (fun j_13 => [(46, ⟨True, rep j_13⟩)]) (fun j_13 => []) (fun s => j_13 = s) (.k2 1 3 rfl rfl (.k 4 rfl .nil)) SubB.nil ?_ (fun j_13' hj13 => ?_)
    ·
     refine .cb rfl h (fun _ h => ?_) fun _ h => ?_
     ·
      exact .skip (Ends.j _ (some_eq h))
     ·
      obtain ⟨r2, hv15, h⟩ := bind_some h
      refine .rn mx (.mv rfl (.mv rfl (.fg fd38_3 hfd38_3 rfl rfl rfl (.lg ty9 rfl rfl rfl (.c (.callIf (.at rfl rfl) fnok31 (fun hg => edit_isName_ok ((fun hg => gd_some hv15 (hg.2)) hg)) (.cons (.tmp rfl id) .nil) (fun h => h)) ?_)))))
      obtain ⟨v5, hv16, h⟩ := bnd_some h
      exact .c (.not (.at rfl rfl) (.tmp rfl id)) (.pa rfl rfl (.ra hv16 rfl (.nil (Ends.j _ (some_eq h)))))
    ·
     subst hj13; have h := hK13; clear hK13
     refine .cb rfl h (fun _ h => ?_) fun _ h => ?_
     ·
      refine .sn mx (.asi (.nil (.ret (.blkRet (.thenRet ?_)))))
      obtain rfl := some_eq h
      exact Ends.rt Tryz.results33 rfl
     ·
      refine .skip (.blkNormal (.then (.seq (.sn mx (.mv rfl (.nil ?_))))))
      obtain ⟨o_18, h, hK18⟩ := bindR_some h
      refine .tJ (fun s => o_18 = Res.nx s) (.k2 1 4 rfl rfl .nil) SubB.nil ?_ (fun j_18 hj18 => ?_)
      ·
       refine .cb rfl h (fun _ h => ?_) fun _ h => ?_
       ·
        obtain ⟨e1, hv20, h⟩ := bind_some h
        refine .sn mx (.fa fd38_4 hfd38_4 rfl (.ld ty9 rfl (.c (.call .none (shape_CheckText_ok hv20) (.cons (.s rfl) .nil)) (.asn rfl (.nil (.sn mx (.mv rfl (.nei rfl (.nil (.cb rfl h (fun _ h => ?_) fun _ h => ?_))))))))))
        ·
         refine .sn mx (.mv rfl (.asn rfl (.nil (.ret (.thenRet ?_)))))
         replace h := resb_ab hK18 (some_eq h)
         obtain rfl := some_eq h
         exact Ends.rt Tryz.results33 rfl
        ·
         exact .skip (Ends.j _ (some_eq h))
       ·
        exact .skip (Ends.j _ (some_eq h))
      ·
       have h := resb_nx hK18 hj18
       refine .seq (.sn mx (.mv rfl (.mv rfl (.fg fd38_5 hfd38_5 rfl rfl rfl (.lg ty3 rfl rfl rfl (.c (.lt (.at rfl rfl) (.tmp rfl id) .i) (.c (.move (.at rfl rfl) (.tmp rfl id)) (.fg fd38_5 hfd38_5 rfl rfl rfl (.lg ty3 rfl rfl rfl (.fg fd38_0 hfd38_0 rfl rfl rfl (.c (.fieldAddr (.at rfl rfl) fd36_2 hfd36_2 (.tmp rfl id)) (.lg ty3 rfl rfl rfl (.c (.subW (.at rfl rfl) (.tmp rfl id) .i) (.c (.gt (.at rfl rfl) (.tmp rfl id) (.tmp rfl id)) (.c (.pickOr (.at rfl rfl) (.tmp rfl id) (.tmp rfl id)) (.pa rfl rfl (.nil (.cb rfl h (fun _ h => ?_) fun _ h => ?_))))))))))))))))))
       ·
        refine .sn mx (.asi (.nil (.ret (.thenRet ?_))))
        obtain rfl := some_eq h
        exact Ends.rt Tryz.results33 rfl
       ·
        refine .skip (.then (.sn mx (.asi (.nil (.ret ?_)))))
        obtain rfl := some_eq h
        exact Ends.rt Tryz.results33 rfl

theorem edit_Check_ok {l1 : (List DOp)} {r : Int}  (h : edit_Check l1 = some r) : FSpec Tryz.prog 15 [rep l1] (rep r) := by
 unfold edit_Check at h
 refine FSpec.i Tryz.func15 rfl Tryz.ntmps15 rfl (fun F => (.sn mx (.asi (.nil (.seq (.sn mx (.mv rfl (.ln sl22 rfl (.c (.gt .none (.s rfl) .i) (.nil (.cb rfl h (fun _ h => ?_) fun _ h => ?_)))))))))))
 ·
  refine .sn mx (.asi (.nil (.ret (.thenRet ?_))))
  obtain rfl := some_eq h
  exact Ends.rt Tryz.results15 rfl
 ·
  refine .skip (.then (.seq (.sn mx (.mv rfl (.ln sl22 rfl (.mvi (.nil ?_)))))))
  obtain ⟨o_2, h, hK2⟩ := bindR_some h
  refine .tJ (fun s => o_2 = Res.nx s) Sub.nil SubB.nil ?_ (fun j_2 hj2 => ?_)
  ·
   refine .block (.rforEL h (fun p3_ => [(12, ⟨True, rep p3_.1⟩)]) (fun p3_ => []) (.k 12 rfl .nil) SubB.nil (.k2 0 10 rfl rfl (.k 11 rfl .nil)) SubB.nil (fun p3_ o_3 h hD3 => (.sn mx (.lt rfl rfl (.nil (.seq (.cb rfl h (fun _ h => ?_) fun _ h => ?_)))))))
   ·
    refine .skip (.then (.seq ?_))
    obtain ⟨o_5, h, hK5⟩ := bindD_some h
    unfold edit_Check_L1 at h
    refine .tJ (fun s => o_5 = Res.nx s) (.k4 0 10 11 12 rfl rfl rfl rfl .nil) SubB.nil ?_ (fun j_5 hj5 => ?_)
    ·
     obtain ⟨hn6, h⟩ := need_some h
     obtain ⟨v1, hv7, h⟩ := bnd_some h
     obtain ⟨v2, hv8, h⟩ := bnd_some h
     obtain ⟨hn9, h⟩ := need_some h
     refine .block (.sr [oo, oo, oo, ([], [4]), oo, ([4], [4])] mx (.mvA rfl (.ixA sl22 ty38 rfl rfl hn6 (.rlA hv7 ty38 rfl (.al zo38 rfl (.asnA rfl (.st ty38 rfl rfl rfl (.nil (.freeze (t := 4) rfl rfl SubB.nil rfl (.sr [oo, ([], [5]), ([5], [5])] mx (.cA (.re hv8 (.buildF (y := (⟨(⟨(0 : Int), Str.nil, (0 : Int)⟩ : Stamp), (0 : Int), Str.nil, Str.nil, Str.nil, (0 : Int)⟩ : DOp)) .none bu38 zc38 rfl .nil .nil)) (.al zo38 rfl (.st ty38 rfl rfl rfl (.nil (.nameBox (t := 5) (g := 5001) rfl rfl (fun m5001 => (.seq (.sn mx (.mv rfl (.c (.gt .none (.s rfl) .i) (.mv rfl (.mg rfl rfl rfl (.mg rfl rfl rfl (.c (.subW (.at rfl rfl) (.tmp rfl id) .i) (.c (.indexAddr (.at rfl rfl) sl22 ty38 (.tmp rfl id) (.tmp rfl id) (fun hg => hn9 hg.2)) (.c (.fieldAddr (.at rfl rfl) fd38_0 hfd38_0 (.tmp rfl id)) (.c (.fieldAddr (.at rfl rfl) fd36_1 hfd36_1 (.tmp rfl id)) (.lg ty9 rfl rfl rfl (.fg fd38_0 hfd38_0 rfl rfl rfl (.c (.fieldAddr (.at rfl rfl) fd36_1 hfd36_1 (.tmp rfl id)) (.lg ty9 rfl rfl rfl (.c (.eqS (.at rfl rfl) (eqAt_str Tryz.underlying9) (.tmp rfl id) (.tmp rfl id)) (.pa rfl rfl (.nil ?_))))))))))))))))))))))))))))))))))
     obtain ⟨j_10, h, hK10⟩ := bind_some h
     refine .thenJ (ι := DOp) (fun j_10 => []) (fun j_10 => [(5001, some (boxAt m5001 38 j_10))]) (fun s => j_10 = s) (.k4 0 3 4 5 rfl rfl rfl rfl (.k2 10 11 rfl rfl (.k 12 rfl .nil))) SubB.nil ?_ (fun j_10' hj10 => ?_)
     ·
      refine .cb rfl h (fun _ h => ?_) fun _ h => ?_
      ·
       obtain ⟨hn12, h⟩ := need_some h
       obtain ⟨v3, hv13, h⟩ := bnd_some h
       exact .rg [oo, oo, oo, oo, oo, ([5001], [5001])] mx (.mvA rfl (.mvA rfl (.cA (.subW .none (.s rfl) .i) (.ixA sl22 ty38 rfl rfl hn12 (.rlA hv13 ty38 rfl (.s0 5001 ty38 rfl rfl rfl (.nil (Ends.j _ (some_eq h)))))))))
      ·
       exact .skip (Ends.j _ (some_eq h))
     ·
      subst hj10; have h := hK10; clear hK10
      obtain ⟨r1, hv14, h⟩ := bind_some h
      refine .fb 5001 [5] rfl (.cons (t := 5) rfl trivial .nil) (.seq (.block (.sn mx (.fa fd38_0 hfd38_0 rfl (.fa fd36_1 hfd36_1 rfl (.ld ty9 rfl (.c (.call .none (edit_isName_ok hv14) (.cons (.s rfl) .nil)) (.c (.not .none (.s rfl)) (.asn rfl (.nil (.cb rfl h (fun _ h => ?_) fun _ h => ?_)))))))))))
      ·
       refine .sn mx (.asi (.nil (.ret (.blkRet (.thenRet (.blkRet (.thenRet (.thenRet (.blkRet (.thenRet ?_))))))))))
       replace h := resd_ab hK5 (some_eq h)
       replace h := hD3 _ (some_eq h)
       replace h := resb_ab hK2 (some_eq h)
       obtain rfl := some_eq h
       exact Ends.rt Tryz.results15 rfl
      ·
       obtain ⟨hn16, h⟩ := need_some h
       obtain ⟨r2, hv17, h⟩ := bind_some h
       refine .sn mx (.mv rfl (.c (.gt .none (.s rfl) .i) (.mv rfl (.mg rfl rfl rfl (.mg rfl rfl rfl (.c (.subW (.at rfl rfl) (.tmp rfl id) .i) (.c (.indexAddr (.at rfl rfl) sl22 ty38 (.tmp rfl id) (.tmp rfl id) (fun hg => hn16 hg.2)) (.lg ty38 rfl rfl rfl (.c (.load (.at rfl rfl) ty38 (.s rfl)) (.c (.callIf (.at rfl rfl) fnok32 (fun hg => edit_order_ok ((fun hg => gd_some hv17 (hg.2)) hg)) (.cons (.tmp rfl id) (.cons (.tmp rfl id) .nil)) (fun h => h)) (.c (.ge (.at rfl rfl) (.tmp rfl id) .i) (.pa rfl rfl (.asn rfl (.nil (.cb rfl h (fun _ h => ?_) fun _ h => ?_)))))))))))))))
       ·
        refine .sn mx (.asi (.nil (.ret (.blkRet (.thenRet (.blkRet (.thenRet (.thenRet (.blkRet (.thenRet ?_))))))))))
        replace h := resd_ab hK5 (some_eq h)
        replace h := hD3 _ (some_eq h)
        replace h := resb_ab hK2 (some_eq h)
        obtain rfl := some_eq h
        exact Ends.rt Tryz.results15 rfl
       ·
        obtain ⟨v4, hv19, h⟩ := bnd_some h
        refine .seq (.sn mx (.fa fd38_0 hfd38_0 rfl (.fa fd36_2 hfd36_2 rfl (.ld ty3 rfl (.fa fd38_0 hfd38_0 rfl (.fa fd36_2 hfd36_2 rfl (.ld ty3 rfl (.adi rfl (.c (.neI .none (.s rfl) (.s rfl)) (.ra hv19 rfl (.nil ?_)))))))))))
        obtain ⟨j_20, h, hK20⟩ := bind_some h
        refine .thenJ (ι := Bool) (fun j_20 => [(57, ⟨True, rep j_20⟩)]) (fun j_20 => []) (fun s => j_20 = s) (.k4 0 4 5 10 rfl rfl rfl rfl (.k2 11 12 rfl rfl .nil)) SubB.nil ?_ (fun j_20' hj20 => ?_)
        ·
         refine .cb rfl h (fun _ h => ?_) fun _ h => ?_
         ·
          exact .skip (Ends.j _ (some_eq h))
         ·
          obtain ⟨v5, hv22, h⟩ := bnd_some h
          exact .rn mx (.fa fd38_0 hfd38_0 rfl (.fa fd36_0 hfd36_0 rfl (.ld ty3 rfl (.c (.lt .none (.s rfl) .i) (.mv rfl (.fg fd38_0 hfd38_0 rfl rfl rfl (.c (.fieldAddr (.at rfl rfl) fd36_0 hfd36_0 (.tmp rfl id)) (.lg ty3 rfl rfl rfl (.c (.gt (.at rfl rfl) (.tmp rfl id) .i) (.po rfl rfl (.ra hv22 rfl (.nil (Ends.j _ (some_eq h))))))))))))))
        ·
         subst hj20; have h := hK20; clear hK20
         refine .cb rfl h (fun _ h => ?_) fun _ h => ?_
         ·
          refine .sn mx (.asi (.nil (.ret (.blkRet (.thenRet (.blkRet (.thenRet (.thenRet (.blkRet (.thenRet ?_))))))))))
          replace h := resd_ab hK5 (some_eq h)
          replace h := hD3 _ (some_eq h)
          replace h := resb_ab hK2 (some_eq h)
          obtain rfl := some_eq h
          exact Ends.rt Tryz.results15 rfl
         ·
          refine .sn mx (.fa fd38_0 hfd38_0 rfl (.fa fd36_0 hfd36_0 rfl (.ld ty3 rfl (.fa fd38_0 hfd38_0 rfl (.fa fd36_0 hfd36_0 rfl (.ld ty3 rfl (.c (.le .none (.s rfl) (.s rfl)) (.asn rfl (.nil (.cb rfl h (fun _ h => ?_) fun _ h => ?_))))))))))
          ·
           refine .sn mx (.asi (.nil (.ret (.blkRet (.thenRet (.blkRet (.thenRet (.thenRet (.blkRet (.thenRet ?_))))))))))
           replace h := resd_ab hK5 (some_eq h)
           replace h := hD3 _ (some_eq h)
           replace h := resb_ab hK2 (some_eq h)
           obtain rfl := some_eq h
           exact Ends.rt Tryz.results15 rfl
          ·
           obtain ⟨e1, hv25, h⟩ := bind_some h
           refine .skip (.blkNormal (.then (.sn mx (.ld ty38 rfl (.c (.call .none (edit_checkBody_ok hv25) (.cons (.s rfl) .nil)) (.asn rfl (.nil (.sn mx (.mv rfl (.nei rfl (.nil (.cb rfl h (fun _ h => ?_) fun _ h => ?_))))))))))))
           ·
            refine .sn mx (.mv rfl (.asn rfl (.nil (.ret (.blkRet (.thenRet (.thenRet (.blkRet (.thenRet ?_)))))))))
            replace h := resd_ab hK5 (some_eq h)
            replace h := hD3 _ (some_eq h)
            replace h := resb_ab hK2 (some_eq h)
            obtain rfl := some_eq h
            exact Ends.rt Tryz.results15 rfl
           ·
            exact .skip (.blkNormal (Ends.j _ (some_eq h)))
    ·
     have h := resd_nx hK5 hj5
     exact .rn mx (.adi rfl (.mv rfl (.nil (Ends.ag (some_eq h)))))
   ·
    refine .exit (.thenExit (.thenExit (.blkExit ?_)))
    replace h := hD3 _ (some_eq h)
    exact Ends.j _ (some_eq h)
  ·
   have h := resb_nx hK2 hj2
   refine .sn mx (.asi (.nil (.ret ?_)))
   obtain rfl := some_eq h
   exact Ends.rt Tryz.results15 rfl

theorem edit_Numbers_ok {l1 : (List Int)} {r : Str}  (h : edit_Numbers l1 = some r) : FSpec Tryz.prog 17 [rep l1] (rep r) := by
 unfold edit_Numbers at h
 refine FSpec.i Tryz.func17 rfl Tryz.ntmps17 rfl (fun F => (.sn mx (.c (.assign .none (.str (l := []) (by decide))) (.nil (.sr [([], [3])] mx (.cW (.nilRow (T := 9) (α := Str) rfl) (.nil (.nameRow (t := 3) (g := 5001) rfl rfl rfl (fun s5001 => (.seq (.sn mx (.mv rfl (.ln sl64 rfl (.mvi (.nil ?_)))))))))))))))
 obtain ⟨j_1, h, hK1⟩ := bind_some h
 refine .thenJ (ι := (List Str)) (fun j_1 => []) (fun j_1 => [(3, some (rowV 9 j_1))]) (fun s => j_1 = s) Sub.nil SubB.nil ?_ (fun j_1' hj1 => ?_)
 ·
  refine .block (.anon (t := 3) (g := 5001) rfl rfl trivial rfl (.rforL h (fun p2_ => [(8, ⟨True, rep p2_.1⟩)]) (fun p2_ => [(3, some (rowV 9 p2_.2))]) (.k 8 rfl .nil) (.k 3 rfl .nil) (.k2 6 7 rfl rfl .nil) SubB.nil (fun p2_ o_2 h hD2 => (.nameRow (t := 3) (g := 5002) rfl rfl rfl (fun s5002 => (.sn mx (.lt rfl rfl (.nil (.seq (.cb rfl h (fun _ h => ?_) fun _ h => ?_))))))))))
  ·
   refine .skip (.then (.seq ?_))
   obtain ⟨j_4, h, hK4⟩ := bind_some h
   unfold edit_Numbers_L1 at h
   refine .thenJ (ι := (List Str)) (fun j_4 => []) (fun j_4 => [(3, some (rowV 9 j_4))]) (fun s => j_4 = s) (.k2 6 7 rfl rfl (.k 8 rfl .nil)) SubB.nil ?_ (fun j_4' hj4 => ?_)
   ·
    obtain ⟨hn5, h⟩ := need_some h
    obtain ⟨r1, hv6, h⟩ := bind_some h
    obtain ⟨hn7, h⟩ := need_some h
    exact .block (.sn mx (.ix sl64 ty3 rfl rfl hn5 (.ld ty3 rfl (.asn rfl (.nil (.rg [oo, oo, oo, oo, ([5002], [16, 5002]), ([16], [3, 16])] mx (.mvA rfl (.mvA rfl (.cA (.call .none (strconv_Itoa_ok hv6) (.cons (.s rfl) .nil)) (.cA (.buildSlice (xs := [_]) .none sl65 ty9 hz9 (.cons (.s rfl) .nil) rfl (by decide)) (.cW (.append (k := 5002) rk65 rfl (.told (.s rfl) rfl) (.s rfl) hn7) (.consWD (.passRow rfl (.tmp rfl)) rfl rfl (.nil (.blkNormal (Ends.j _ (some_eq h))))))))))))))))
   ·
    subst hj4; have h := hK4; clear hK4
    exact .nameRow (t := 3) (g := 5003) rfl rfl rfl (fun s5003 => (.rn mx (.adi rfl (.mv rfl (.nil (.anon (t := 3) (g := 5003) rfl rfl trivial rfl (Ends.ag (some_eq h))))))))
  ·
   refine .exit (.thenExit (.thenExit (.blkExit (.anon (t := 3) (g := 5002) rfl rfl trivial rfl ?_))))
   replace h := hD2 _ (some_eq h)
   exact Ends.j _ (some_eq h)
 ·
  subst hj1; have h := hK1; clear hK1
  obtain ⟨r2, hv8, h⟩ := bind_some h
  refine .freezeRowA (t := 3) rfl rfl SubB.nil rfl (.sn mx (.mv rfl (.c (.call .none (strings_Join_ok hv8) (.cons (.s rfl) (.cons (.str (l := [32]) (by decide)) .nil))) (.asn rfl (.nil (.ret ?_))))))
  obtain rfl := some_eq h
  exact Ends.rt Tryz.results17 rfl

theorem edit_Print_ok {l1 : (List DOp)} {r : (Str × Int)}  (h : edit_Print l1 = some r) : FSpec Tryz.prog 4 [rep l1] (tup [rep r.1, rep r.2]) := by
 unfold edit_Print at h
 obtain ⟨e1, hv1, h⟩ := bind_some h
 refine FSpec.i Tryz.func4 rfl Tryz.ntmps4 rfl (fun F => (.sn mx (.c (.assign .none (.str (l := []) (by decide))) (.asi (.nil (.seq (.sn mx (.mv rfl (.c (.call .none (edit_Check_ok hv1) (.cons (.s rfl) .nil)) (.asn rfl (.nil (.sn mx (.mv rfl (.nei rfl (.nil (.cb rfl h (fun _ h => ?_) fun _ h => ?_))))))))))))))))
 ·
  refine .sn mx (.mv rfl (.c (.assign .none (.str (l := []) (by decide))) (.asn rfl (.nil (.ret (.thenRet ?_))))))
  obtain rfl := some_eq h
  exact Ends.ret2 (.inl rfl) Tryz.results4 (ResOK.tmp rfl trivial Imp.refl) (ResOK.tmp rfl trivial Imp.refl)
 ·
  obtain ⟨b1, hv3, h⟩ := bnd_some h
  refine .skip (.then (.sr [([], [5])] mx (.cW (.post1 (.alloc zbld45 rfl) bld_new) (.nil (.reB (t := 5) rfl (congrArg (bldC 45 5) hv3) (.nameAt (t := 5) (g := 5001) rfl rfl isBox_bld rfl (fun m5001 => (.seq (.sn mx (.mv rfl (.ln sl22 rfl (.mvi (.nil ?_)))))))))))))
  obtain ⟨j_4, h, hK4⟩ := bind_some h
  refine .thenJ (ι := Str) (fun j_4 => []) (fun j_4 => [(5001, some (CPred.at (ptr m5001 0) (bldC 45 5 j_4)))]) (fun s => j_4 = s) (.k 5 rfl .nil) SubB.nil ?_ (fun j_4' hj4 => ?_)
  ·
   refine .block (.rforL h (fun p5_ => [(15, ⟨True, rep p5_.1⟩)]) (fun p5_ => [(5001, some (CPred.at (ptr m5001 0) (bldC 45 5 p5_.2)))]) (.k 15 rfl .nil) (.k 5001 rfl .nil) (.k2 5 13 rfl rfl (.k 14 rfl .nil)) SubB.nil (fun p5_ o_5 h hD5 => (.sn mx (.lt rfl rfl (.nil (.seq (.cb rfl h (fun _ h => ?_) fun _ h => ?_)))))))
   ·
    refine .skip (.then (.seq ?_))
    obtain ⟨j_7, h, hK7⟩ := bind_some h
    unfold edit_Print_L1 at h
    refine .thenJ (ι := Str) (fun j_7 => []) (fun j_7 => [(5001, some (CPred.at (ptr m5001 0) (bldC 45 5 j_7)))]) (fun s => j_7 = s) (.k4 5 13 14 15 rfl rfl rfl rfl .nil) SubB.nil ?_ (fun j_7' hj7 => ?_)
    ·
     obtain ⟨hn8, h⟩ := need_some h
     obtain ⟨v1, hv9, h⟩ := bnd_some h
     obtain ⟨hn10, h⟩ := need_some h
     obtain ⟨r1, hv11, h⟩ := bind_some h
     obtain ⟨hn12, h⟩ := need_some h
     obtain ⟨r2, hv13, h⟩ := bind_some h
     refine .block (.sr [oo, oo, ([], [7]), ([7], [7])] mx (.ixA sl22 ty38 rfl rfl hn8 (.rlA hv9 ty38 rfl (.al zo38 rfl (.st ty38 rfl rfl rfl (.nil (.freeze (t := 7) rfl rfl (.k 5001 rfl .nil) rfl (.sr [oo, oo, oo, oo, oo, oo, oo, oo, oo, oo, oo, oo, oo, ([5001], [5001])] mx (.faA fd38_0 hfd38_0 rfl (.faA fd36_1 hfd36_1 rfl (.ldA ty9 rfl (.cA (.addStr .none (.s rfl) (.str (l := [32]) (by decide)) (fun _ => hn10)) (.faA fd38_0 hfd38_0 rfl (.faA fd36_2 hfd36_2 rfl (.ldA ty3 rfl (.faA fd38_0 hfd38_0 rfl (.faA fd36_0 hfd36_0 rfl (.ldA ty3 rfl (.cA (.buildSlice (xs := [_, _]) .none sl64 ty3 hz3 (.cons (.s rfl) (.cons (.s rfl) .nil)) rfl (by decide)) (.cA (.call .none (edit_Numbers_ok hv11) (.cons (.s rfl) .nil)) (.cA (.addStr .none (.s rfl) (.s rfl) (fun _ => hn12)) (.cW (.cO [5001] (strings_Builder_WriteString_ok hv13) (.cons (.s rfl) (.cons (.s rfl) .nil)) (.cons (k := 5001) rfl .nil) rfl) (.nil (.seq (.sn mx (.fa fd38_1 hfd38_1 rfl (.ld ty3 rfl (.nil ?_))))))))))))))))))))))))))))
     obtain ⟨j_14, h, hK14⟩ := bind_some h
     refine .thenJ (ι := Str) (fun j_14 => []) (fun j_14 => [(5001, some (CPred.at (ptr m5001 0) (bldC 45 5 j_14)))]) (fun s => j_14 = s) (.k4 5 13 14 15 rfl rfl rfl rfl .nil) SubB.nil ?_ (fun j_14' hj14 => ?_)
     ·
      refine .block (.sn mx (.eqi rfl (.asn rfl (.nil (.cb rfl h (fun _ h => ?_) fun _ h => ?_)))))
      ·
       obtain ⟨hn16, h⟩ := need_some h
       obtain ⟨hn17, h⟩ := need_some h
       obtain ⟨hn18, h⟩ := need_some h
       obtain ⟨hn19, h⟩ := need_some h
       obtain ⟨r3, hv20, h⟩ := bind_some h
       obtain ⟨hn21, h⟩ := need_some h
       obtain ⟨r4, hv22, h⟩ := bind_some h
       exact .rg [oo, oo, oo, oo, oo, oo, oo, oo, oo, oo, oo, oo, ([5001], [5001])] mx (.faA fd38_2 hfd38_2 rfl (.ldA ty9 rfl (.cA (.addStr .none (.str (l := [32, 115, 101, 116, 32]) (by decide)) (.s rfl) (fun _ => hn16)) (.cA (.addStr .none (.s rfl) (.str (l := [32]) (by decide)) (fun _ => hn17)) (.faA fd38_3 hfd38_3 rfl (.ldA ty9 rfl (.cA (.addStr .none (.s rfl) (.s rfl) (fun _ => hn18)) (.cA (.addStr .none (.s rfl) (.str (l := [32]) (by decide)) (fun _ => hn19)) (.faA fd38_4 hfd38_4 rfl (.ldA ty9 rfl (.cA (.call .none (edit_Quoted_ok hv20) (.cons (.s rfl) .nil)) (.cA (.addStr .none (.s rfl) (.s rfl) (fun _ => hn21)) (.cW (.cO [5001] (strings_Builder_WriteString_ok hv22) (.cons (.s rfl) (.cons (.s rfl) .nil)) (.cons (k := 5001) rfl .nil) rfl) (.nil (.blkNormal (Ends.j _ (some_eq h)))))))))))))))))
      ·
       refine .sn mx (.eqi rfl (.asn rfl (.nil (.cb rfl h (fun _ h => ?_) fun _ h => ?_))))
       ·
        obtain ⟨hn24, h⟩ := need_some h
        obtain ⟨r5, hv25, h⟩ := bind_some h
        exact .rg [oo, oo, oo, ([5001], [5001])] mx (.faA fd38_2 hfd38_2 rfl (.ldA ty9 rfl (.cA (.addStr .none (.str (l := [32, 100, 114, 111, 112, 32]) (by decide)) (.s rfl) (fun _ => hn24)) (.cW (.cO [5001] (strings_Builder_WriteString_ok hv25) (.cons (.s rfl) (.cons (.s rfl) .nil)) (.cons (k := 5001) rfl .nil) rfl) (.nil (.blkNormal (Ends.j _ (some_eq h))))))))
       ·
        obtain ⟨r6, hv26, h⟩ := bind_some h
        obtain ⟨hn27, h⟩ := need_some h
        obtain ⟨r7, hv28, h⟩ := bind_some h
        exact .rg [oo, oo, oo, oo, oo, ([5001], [5001])] mx (.faA fd38_5 hfd38_5 rfl (.ldA ty3 rfl (.cA (.buildSlice (xs := [_]) .none sl64 ty3 hz3 (.cons (.s rfl) .nil) rfl (by decide)) (.cA (.call .none (edit_Numbers_ok hv26) (.cons (.s rfl) .nil)) (.cA (.addStr .none (.str (l := [32, 117, 110, 100, 111, 32]) (by decide)) (.s rfl) (fun _ => hn27)) (.cW (.cO [5001] (strings_Builder_WriteString_ok hv28) (.cons (.s rfl) (.cons (.s rfl) .nil)) (.cons (k := 5001) rfl .nil) rfl) (.nil (.blkNormal (Ends.j _ (some_eq h))))))))))
     ·
      subst hj14; have h := hK14; clear hK14
      obtain ⟨r8, hv29, h⟩ := bind_some h
      exact .rg [([5001], [5001])] mx (.cW (.cO [5001] (strings_Builder_WriteString_ok hv29) (.cons (.s rfl) (.cons (.str (l := [10]) (by decide)) .nil)) (.cons (k := 5001) rfl .nil) rfl) (.nil (.blkNormal (Ends.j _ (some_eq h)))))
    ·
     subst hj7; have h := hK7; clear hK7
     exact .rn mx (.adi rfl (.mv rfl (.nil (Ends.ag (some_eq h)))))
   ·
    refine .exit (.thenExit (.thenExit (.blkExit ?_)))
    replace h := hD5 _ (some_eq h)
    exact Ends.j _ (some_eq h)
  ·
   subst hj4; have h := hK4; clear hK4
   obtain ⟨r9, hv30, h⟩ := bind_some h
   refine .seq (.sr [([5001], [5001]), oo] mx (.cW (.cO [5001] (strings_Builder_Len_ok hv30) (.cons (.s rfl) .nil) (.cons (k := 5001) rfl .nil) rfl) (.cA (.gt .none (.s rfl) .i) (.nil (.cb rfl h (fun _ h => ?_) fun _ h => ?_)))))
   ·
    refine .sn mx (.c (.assign .none (.str (l := []) (by decide))) (.asi (.nil (.ret (.thenRet ?_)))))
    obtain rfl := some_eq h
    exact Ends.ret2 (.inl rfl) Tryz.results4 (ResOK.tmp rfl trivial Imp.refl) (ResOK.tmp rfl trivial Imp.refl)
   ·
    obtain ⟨r10, hv32, h⟩ := bind_some h
    refine .skip (.then (.sr [([5001], [5001]), oo, oo] mx (.cW (.cO [5001] (strings_Builder_String_ok hv32) (.cons (.s rfl) .nil) (.cons (k := 5001) rfl .nil) rfl) (.asnA rfl (.cA (.assign .none .i) (.nil (.ret ?_)))))))
    obtain rfl := some_eq h
    exact Ends.ret2 (.inl rfl) Tryz.results4 (ResOK.tmp rfl trivial Imp.refl) (ResOK.tmp rfl trivial Imp.refl)

theorem ref_byOp_ok {a1 : DOp} {b1 : DOp} {r : Int}  (h : ref_byOp a1 b1 = some r) : FSpec Tryz.prog 21 [rep a1, rep b1] (rep r) := by
 unfold ref_byOp at h
 obtain ⟨r1, hv1, h⟩ := bind_some h
 obtain ⟨r2, hv2, h⟩ := bind_some h
 obtain ⟨r3, hv3, h⟩ := bind_some h
 refine FSpec.i Tryz.func21 rfl Tryz.ntmps21 rfl (fun F => (.sn mx (.c (.box .none (.s rfl)) (.c (.box .none (.s rfl)) (.asi (.nil (.sn mx (.fa fd38_0 hfd38_0 rfl (.fa fd36_1 hfd36_1 rfl (.ld ty9 rfl (.fa fd38_0 hfd38_0 rfl (.fa fd36_1 hfd36_1 rfl (.ld ty9 rfl (.c (.call .none (strings_Compare_ok hv1) (.cons (.s rfl) (.cons (.s rfl) .nil))) (.fa fd38_0 hfd38_0 rfl (.fa fd36_2 hfd36_2 rfl (.ld ty3 rfl (.fa fd38_0 hfd38_0 rfl (.fa fd36_2 hfd36_2 rfl (.ld ty3 rfl (.c (.call .none (cmp_Compare_int_ok hv2) (.cons (.s rfl) (.cons (.s rfl) .nil))) (.c (.buildSlice (xs := [_, _]) .none sl64 ty3 hz3 (.cons (.s rfl) (.cons (.s rfl) .nil)) rfl (by decide)) (.c (.call .none (cmp_Or_int_ok hv3) (.cons (.s rfl) .nil)) (.asn rfl (.nil (.ret ?_))))))))))))))))))))))))))
 obtain rfl := some_eq h
 exact Ends.rt Tryz.results21 rfl

theorem ref_NameOf_ok {s1 : Str} {r : Bool}  (h : ref_NameOf s1 = some r) : FSpec Tryz.prog 23 [rep s1] (rep r) := by
 unfold ref_NameOf at h
 refine FSpec.i Tryz.func23 rfl Tryz.ntmps23 rfl (fun F => (.sn mx (.asb (.nil (.seq (.sn mx (.mv rfl (.c (.lenStr .none Tryz.underlying9 (.s rfl)) (.mvi (.nil ?_))))))))))
 obtain ⟨o_1, h, hK1⟩ := bindR_some h
 refine .tJ (fun s => o_1 = Res.nx s) (.k 0 rfl .nil) SubB.nil ?_ (fun j_1 hj1 => ?_)
 ·
  refine .block (.rforEL h (fun p2_ => [(7, ⟨True, rep p2_.1⟩)]) (fun p2_ => []) (.k 7 rfl .nil) SubB.nil (.k2 0 6 rfl rfl .nil) SubB.nil (fun p2_ o_2 h hD2 => (.sn mx (.lt rfl rfl (.nil (.seq (.cb rfl h (fun _ h => ?_) fun _ h => ?_)))))))
  ·
   refine .skip (.then (.seq ?_))
   obtain ⟨o_4, h, hK4⟩ := bindD_some h
   unfold ref_NameOf_L1 at h
   refine .tJ (fun s => o_4 = Res.nx s) (.k2 0 6 rfl rfl (.k 7 rfl .nil)) SubB.nil ?_ (fun j_4 hj4 => ?_)
   ·
    obtain ⟨hn5, h⟩ := need_some h
    obtain ⟨c1, hv6, h⟩ := bnd_some h
    refine .block (.sn mx (.mv rfl (.asn rfl (.nil (.sn mx (.mv rfl (.mv rfl (.c (.indexStr .none Tryz.underlying9 (.s rfl) (.s rfl) (fun _ => hn5)) (.ra hv6 rfl (.nil (.sn mx (.mv rfl (.c (.kgeq .none (.s rfl) .ki) (.mv rfl (.mg rfl rfl rfl (.c (.kleq (.at rfl rfl) (.tmp rfl id) .ki) (.pa rfl rfl (.c (.not .none (.s rfl)) (.mv rfl (.mg rfl rfl rfl (.c (.eqI (.at rfl rfl) (.tmp rfl id) .i) (.c (.move (.at rfl rfl) (.tmp rfl id)) (.mg rfl rfl rfl (.c (.kgeq (.at rfl rfl) (.tmp rfl id) .ki) (.c (.move (.at rfl rfl) (.tmp rfl id)) (.mg rfl rfl rfl (.c (.kleq (.at rfl rfl) (.tmp rfl id) .ki) (.c (.pickAnd (.at rfl rfl) (.tmp rfl id) (.tmp rfl id)) (.c (.not (.at rfl rfl) (.tmp rfl id)) (.c (.move (.at rfl rfl) (.tmp rfl id)) (.mg rfl rfl rfl (.c (.kneq (.at rfl rfl) (.tmp rfl id) .ki) (.c (.pickAnd (.at rfl rfl) (.tmp rfl id) (.tmp rfl id)) (.c (.pickOr (.at rfl rfl) (.tmp rfl id) (.tmp rfl id)) (.pa rfl rfl (.nil (.cb rfl h (fun _ h => ?_) fun _ h => ?_)))))))))))))))))))))))))))))))))))))
    ·
     refine .sn mx (.asb (.nil (.ret (.blkRet (.thenRet (.thenRet (.blkRet (.thenRet ?_))))))))
     replace h := resd_ab hK4 (some_eq h)
     replace h := hD2 _ (some_eq h)
     replace h := resb_ab hK1 (some_eq h)
     obtain rfl := some_eq h
     exact Ends.rt Tryz.results23 rfl
    ·
     exact .skip (.blkNormal (Ends.j _ (some_eq h)))
   ·
    have h := resd_nx hK4 hj4
    exact .rn mx (.adi rfl (.mv rfl (.nil (Ends.ag (some_eq h)))))
  ·
   refine .exit (.thenExit (.thenExit (.blkExit ?_)))
   replace h := hD2 _ (some_eq h)
   exact Ends.j _ (some_eq h)
 ·
  have h := resb_nx hK1 hj1
  refine .sn mx (.mv rfl (.c (.neS .none (eqAt_str Tryz.underlying9) (.s rfl) (.str (l := []) (by decide))) (.mv rfl (.mg rfl rfl rfl (.c (.lenStr (.at rfl rfl) Tryz.underlying9 (.tmp rfl id)) (.c (.le (.at rfl rfl) (.tmp rfl id) .i) (.pa rfl rfl (.asn rfl (.nil (.ret ?_))))))))))
  obtain rfl := some_eq h
  exact Ends.rt Tryz.results23 rfl

theorem ref_When_ok {is1 : Bool} {e1 : Int} {r : Int}  (h : ref_When is1 e1 = some r) : FSpec Tryz.prog 6 [rep is1, rep e1] (rep r) := by
 unfold ref_When at h
 refine FSpec.i Tryz.func6 rfl Tryz.ntmps6 rfl (fun F => (.sn mx (.asi (.nil (.seq (.sn mx (.mv rfl (.nil (.cb rfl h (fun _ h => ?_) fun _ h => ?_)))))))))
 ·
  refine .sn mx (.mv rfl (.asn rfl (.nil (.ret (.thenRet ?_)))))
  obtain rfl := some_eq h
  exact Ends.rt Tryz.results6 rfl
 ·
  refine .skip (.then (.sn mx (.asi (.nil (.ret ?_)))))
  obtain rfl := some_eq h
  exact Ends.rt Tryz.results6 rfl

theorem ref_In_ok {n1 : Int} {low1 : Int} {high1 : Int} {r : Bool}  (h : ref_In n1 low1 high1 = some r) : FSpec Tryz.prog 13 [rep n1, rep low1, rep high1] (rep r) := by
 unfold ref_In at h
 refine FSpec.i Tryz.func13 rfl Tryz.ntmps13 rfl (fun F => (.sn mx (.asb (.nil (.sn mx (.mv rfl (.mv rfl (.c (.ge .none (.s rfl) (.s rfl)) (.mv rfl (.mg rfl rfl rfl (.mg rfl rfl rfl (.c (.le (.at rfl rfl) (.tmp rfl id) (.tmp rfl id)) (.pa rfl rfl (.asn rfl (.nil (.ret ?_))))))))))))))))
 obtain rfl := some_eq h
 exact Ends.rt Tryz.results13 rfl

theorem ref_First_ok {l1 : (List Int)} {r : Int}  (h : ref_First l1 = some r) : FSpec Tryz.prog 22 [rep l1] (rep r) := by
 unfold ref_First at h
 refine FSpec.i Tryz.func22 rfl Tryz.ntmps22 rfl (fun F => (.sn mx (.asi (.nil (.seq (.sn mx (.mv rfl (.ln sl73 rfl (.mvi (.nil ?_))))))))))
 obtain ⟨o_1, h, hK1⟩ := bindR_some h
 refine .tJ (fun s => o_1 = Res.nx s) Sub.nil SubB.nil ?_ (fun j_1 hj1 => ?_)
 ·
  refine .block (.rforEL h (fun p2_ => [(7, ⟨True, rep p2_.1⟩)]) (fun p2_ => []) (.k 7 rfl .nil) SubB.nil (.k2 5 6 rfl rfl .nil) SubB.nil (fun p2_ o_2 h hD2 => (.sn mx (.lt rfl rfl (.nil (.seq (.cb rfl h (fun _ h => ?_) fun _ h => ?_)))))))
  ·
   refine .skip (.then (.seq ?_))
   obtain ⟨o_4, h, hK4⟩ := bindD_some h
   unfold ref_First_L1 at h
   refine .tJ (fun s => o_4 = Res.nx s) (.k2 5 6 rfl rfl (.k 7 rfl .nil)) SubB.nil ?_ (fun j_4 hj4 => ?_)
   ·
    obtain ⟨hn5, h⟩ := need_some h
    obtain ⟨e1, hv6, h⟩ := bnd_some h
    refine .block (.sn mx (.ix sl73 ty23 rfl rfl hn5 (.ld ty23 rfl (.ra hv6 rfl (.nil (.sn mx (.mv rfl (.nei rfl (.nil (.cb rfl h (fun _ h => ?_) fun _ h => ?_))))))))))
    ·
     refine .sn mx (.mv rfl (.asn rfl (.nil (.ret (.blkRet (.thenRet (.thenRet (.blkRet (.thenRet ?_)))))))))
     replace h := resd_ab hK4 (some_eq h)
     replace h := hD2 _ (some_eq h)
     replace h := resb_ab hK1 (some_eq h)
     obtain rfl := some_eq h
     exact Ends.rt Tryz.results22 rfl
    ·
     exact .skip (.blkNormal (Ends.j _ (some_eq h)))
   ·
    have h := resd_nx hK4 hj4
    exact .rn mx (.adi rfl (.mv rfl (.nil (Ends.ag (some_eq h)))))
  ·
   refine .exit (.thenExit (.thenExit (.blkExit ?_)))
   replace h := hD2 _ (some_eq h)
   exact Ends.j _ (some_eq h)
 ·
  have h := resb_nx hK1 hj1
  refine .sn mx (.asi (.nil (.ret ?_)))
  obtain rfl := some_eq h
  exact Ends.rt Tryz.results22 rfl

theorem ref_TextError_ok {s1 : Str} {r : Int}  (h : ref_TextError s1 = some r) : FSpec Tryz.prog 42 [rep s1] (rep r) := by
 unfold ref_TextError at h
 obtain ⟨r1, hv1, h⟩ := bind_some h
 obtain ⟨bad1, hv2, h⟩ := bnd_some h
 refine FSpec.i Tryz.func42 rfl Tryz.ntmps42 rfl (fun F => (.sn mx (.asi (.nil (.sn mx (.mv rfl (.c (.call .none (utf8_ValidString_ok hv1) (.cons (.s rfl) .nil)) (.c (.not .none (.s rfl)) (.ra hv2 rfl (.nil (.seq (.sn mx (.mv rfl (.c (.lenStr .none Tryz.underlying9 (.s rfl)) (.mvi (.nil ?_))))))))))))))))
 obtain ⟨j_3, h, hK3⟩ := bind_some h
 refine .thenJ (ι := Bool) (fun j_3 => [(3, ⟨True, rep j_3⟩)]) (fun j_3 => []) (fun s => j_3 = s) (.k 0 rfl .nil) SubB.nil ?_ (fun j_3' hj3 => ?_)
 ·
  refine .block (.rforL h (fun p4_ => [(10, ⟨True, rep p4_.1⟩), (3, ⟨True, rep p4_.2⟩)]) (fun p4_ => []) (.k2 10 3 rfl rfl .nil) SubB.nil (.k2 0 9 rfl rfl .nil) SubB.nil (fun p4_ o_4 h hD4 => (.sn mx (.lt rfl rfl (.nil (.seq (.cb rfl h (fun _ h => ?_) fun _ h => ?_)))))))
  ·
   refine .skip (.then (.seq ?_))
   obtain ⟨j_6, h, hK6⟩ := bind_some h
   unfold ref_TextError_L1 at h
   refine .thenJ (ι := Bool) (fun j_6 => [(3, ⟨True, rep j_6⟩)]) (fun j_6 => []) (fun s => j_6 = s) (.k2 0 9 rfl rfl (.k 10 rfl .nil)) SubB.nil ?_ (fun j_6' hj6 => ?_)
   ·
    obtain ⟨hn7, h⟩ := need_some h
    obtain ⟨hn8, h⟩ := need_some h
    obtain ⟨hn9, h⟩ := need_some h
    obtain ⟨bad2, hv10, h⟩ := bnd_some h
    exact .block (.sn mx (.mv rfl (.asn rfl (.nil (.rn mx (.mv rfl (.mv rfl (.mg rfl rfl rfl (.mg rfl rfl rfl (.c (.indexStr (.at rfl rfl) Tryz.underlying9 (.tmp rfl id) (.tmp rfl id) (fun hg => hn7 hg.2)) (.c (.klss (.at rfl rfl) (.tmp rfl id) .ki) (.c (.move (.at rfl rfl) (.tmp rfl id)) (.mg rfl rfl rfl (.mg rfl rfl rfl (.c (.indexStr (.at rfl rfl) Tryz.underlying9 (.tmp rfl id) (.tmp rfl id) (fun hg => hn8 hg.1.2 hg.2)) (.c (.kneq (.at rfl rfl) (.tmp rfl id) .ki) (.c (.pickAnd (.at rfl rfl) (.tmp rfl id) (.tmp rfl id)) (.po rfl rfl (.mv rfl (.mg rfl rfl rfl (.mg rfl rfl rfl (.c (.indexStr (.at rfl rfl) Tryz.underlying9 (.tmp rfl id) (.tmp rfl id) (fun hg => hn9 hg.2)) (.c (.keql (.at rfl rfl) (.tmp rfl id) .ki) (.po rfl rfl (.ra hv10 rfl (.nil (.blkNormal (Ends.j _ (some_eq h)))))))))))))))))))))))))))))
   ·
    subst hj6; have h := hK6; clear hK6
    exact .rn mx (.adi rfl (.mv rfl (.nil (Ends.ag (some_eq h)))))
  ·
   refine .exit (.thenExit (.thenExit (.blkExit ?_)))
   replace h := hD4 _ (some_eq h)
   exact Ends.j _ (some_eq h)
 ·
  subst hj3; have h := hK3; clear hK3
  obtain ⟨r2, hv11, h⟩ := bind_some h
  obtain ⟨r3, hv12, h⟩ := bind_some h
  obtain ⟨r4, hv13, h⟩ := bind_some h
  refine .sn mx (.mv rfl (.c (.lenStr .none Tryz.underlying9 (.s rfl)) (.c (.gt .none (.s rfl) .i) (.c (.call .none (ref_When_ok hv11) (.cons (.s rfl) (.cons .i .nil))) (.mv rfl (.c (.call .none (ref_When_ok hv12) (.cons (.s rfl) (.cons .i .nil))) (.c (.buildSlice (xs := [_, _]) .none sl73 ty23 hz23 (.cons (.s rfl) (.cons (.s rfl) .nil)) rfl (by decide)) (.c (.call .none (ref_First_ok hv13) (.cons (.s rfl) .nil)) (.asn rfl (.nil (.ret ?_)))))))))))
  obtain rfl := some_eq h
  exact Ends.rt Tryz.results42 rfl

theorem ref_opError_ok {x1 : DOp} {r : Int}  (h : ref_opError x1 = some r) : FSpec Tryz.prog 24 [rep x1] (rep r) := by
 unfold ref_opError at h
 obtain ⟨r1, hv1, h⟩ := bind_some h
 refine FSpec.i Tryz.func24 rfl Tryz.ntmps24 rfl (fun F => (.sn mx (.c (.box .none (.s rfl)) (.asi (.nil (.seq (.sn mx (.fa fd38_1 hfd38_1 rfl (.ld ty3 rfl (.c (.call .none (ref_In_ok hv1) (.cons (.s rfl) (.cons .i (.cons .i .nil)))) (.c (.not .none (.s rfl)) (.nil (.cb rfl h (fun _ h => ?_) fun _ h => ?_)))))))))))))
 ·
  refine .sn mx (.asi (.nil (.ret (.thenRet ?_))))
  obtain rfl := some_eq h
  exact Ends.rt Tryz.results24 rfl
 ·
  refine .skip (.then (.sn mx (.fa fd38_1 hfd38_1 rfl (.ld ty3 rfl (.nei rfl (.mv rfl (.fg fd38_3 hfd38_3 rfl rfl rfl (.lg ty9 rfl rfl rfl (.c (.neS (.at rfl rfl) (eqAt_str Tryz.underlying9) (.tmp rfl id) (.str (l := []) (by decide))) (.c (.move (.at rfl rfl) (.tmp rfl id)) (.fg fd38_4 hfd38_4 rfl rfl rfl (.lg ty9 rfl rfl rfl (.c (.neS (.at rfl rfl) (eqAt_str Tryz.underlying9) (.tmp rfl id) (.str (l := []) (by decide))) (.c (.pickOr (.at rfl rfl) (.tmp rfl id) (.tmp rfl id)) (.pa rfl rfl (.mv rfl (.fg fd38_1 hfd38_1 rfl rfl rfl (.lg ty3 rfl rfl rfl (.c (.eqI (.at rfl rfl) (.tmp rfl id) .i) (.c (.move (.at rfl rfl) (.tmp rfl id)) (.fg fd38_2 hfd38_2 rfl rfl rfl (.lg ty9 rfl rfl rfl (.c (.neS (.at rfl rfl) (eqAt_str Tryz.underlying9) (.tmp rfl id) (.str (l := []) (by decide))) (.c (.pickAnd (.at rfl rfl) (.tmp rfl id) (.tmp rfl id)) (.po rfl rfl (.mv rfl (.fg fd38_1 hfd38_1 rfl rfl rfl (.lg ty3 rfl rfl rfl (.c (.neI (.at rfl rfl) (.tmp rfl id) .i) (.c (.move (.at rfl rfl) (.tmp rfl id)) (.fg fd38_5 hfd38_5 rfl rfl rfl (.lg ty3 rfl rfl rfl (.c (.neI (.at rfl rfl) (.tmp rfl id) .i) (.c (.pickAnd (.at rfl rfl) (.tmp rfl id) (.tmp rfl id)) (.po rfl rfl (.asn rfl (.nil (.seq (.sn mx (.mv rfl (.nil (.cb rfl h (fun _ h => ?_) fun _ h => ?_))))))))))))))))))))))))))))))))))))))))))
  ·
   refine .sn mx (.asi (.nil (.ret (.thenRet ?_))))
   obtain rfl := some_eq h
   exact Ends.rt Tryz.results24 rfl
  ·
   refine .skip (.then (.seq (.sn mx (.fa fd38_1 hfd38_1 rfl (.ld ty3 rfl (.eqi rfl (.nil (.cb rfl h (fun _ h => ?_) fun _ h => ?_))))))))
   ·
    obtain ⟨r2, hv5, h⟩ := bind_some h
    obtain ⟨r3, hv6, h⟩ := bind_some h
    refine .sn mx (.fa fd38_5 hfd38_5 rfl (.ld ty3 rfl (.fa fd38_0 hfd38_0 rfl (.fa fd36_2 hfd36_2 rfl (.ld ty3 rfl (.c (.subW .none (.s rfl) .i) (.c (.call .none (ref_In_ok hv5) (.cons (.s rfl) (.cons .i (.cons (.s rfl) .nil)))) (.c (.not .none (.s rfl)) (.c (.call .none (ref_When_ok hv6) (.cons (.s rfl) (.cons .i .nil))) (.asn rfl (.nil (.ret (.thenRet ?_)))))))))))))
    obtain rfl := some_eq h
    exact Ends.rt Tryz.results24 rfl
   ·
    obtain ⟨r4, hv7, h⟩ := bind_some h
    obtain ⟨r5, hv8, h⟩ := bind_some h
    refine .skip (.then (.sn mx (.fa fd38_2 hfd38_2 rfl (.ld ty9 rfl (.c (.call .none (ref_NameOf_ok hv7) (.cons (.s rfl) .nil)) (.c (.not .none (.s rfl)) (.mv rfl (.fg fd38_1 hfd38_1 rfl rfl rfl (.lg ty3 rfl rfl rfl (.c (.eqI (.at rfl rfl) (.tmp rfl id) .i) (.c (.move (.at rfl rfl) (.tmp rfl id)) (.fg fd38_3 hfd38_3 rfl rfl rfl (.lg ty9 rfl rfl rfl (.c (.callIf (.at rfl rfl) fnok23 (fun hg => ref_NameOf_ok ((fun hg => gd_some hv8 ((andT (notT hg.1.2) hg.2))) hg)) (.cons (.tmp rfl id) .nil) (fun h => h)) ?_))))))))))))))
    obtain ⟨r6, hv9, h⟩ := bind_some h
    obtain ⟨r7, hv10, h⟩ := bind_some h
    obtain ⟨r8, hv11, h⟩ := bind_some h
    refine .c (.not (.at rfl rfl) (.tmp rfl id)) (.c (.pickAnd (.at rfl rfl) (.tmp rfl id) (.tmp rfl id)) (.po rfl rfl (.c (.call .none (ref_When_ok hv9) (.cons (.s rfl) (.cons .i .nil))) (.fa fd38_4 hfd38_4 rfl (.ld ty9 rfl (.c (.call .none (ref_TextError_ok hv10) (.cons (.s rfl) .nil)) (.c (.buildSlice (xs := [_, _]) .none sl73 ty23 hz23 (.cons (.s rfl) (.cons (.s rfl) .nil)) rfl (by decide)) (.c (.call .none (ref_First_ok hv11) (.cons (.s rfl) .nil)) (.asn rfl (.nil (.ret ?_)))))))))))
    obtain rfl := some_eq h
    exact Ends.rt Tryz.results24 rfl

theorem ref_OpsError_ok {l1 : (List DOp)} {r : Int}  (h : ref_OpsError l1 = some r) : FSpec Tryz.prog 5 [rep l1] (rep r) := by
 unfold ref_OpsError at h
 refine FSpec.i Tryz.func5 rfl Tryz.ntmps5 rfl (fun F => (.sn mx (.asi (.nil (.seq (.sn mx (.mv rfl (.ln sl22 rfl (.c (.gt .none (.s rfl) .i) (.nil (.cb rfl h (fun _ h => ?_) fun _ h => ?_)))))))))))
 ·
  refine .sn mx (.asi (.nil (.ret (.thenRet ?_))))
  obtain rfl := some_eq h
  exact Ends.rt Tryz.results5 rfl
 ·
  obtain ⟨v1, hv2, h⟩ := bnd_some h
  refine .skip (.then (.sr [oo, ([], [3]), ([3], [3])] mx (.cA (.re hv2 (.buildF (y := (⟨(⟨(0 : Int), Str.nil, (0 : Int)⟩ : Stamp), (0 : Int), Str.nil, Str.nil, Str.nil, (0 : Int)⟩ : DOp)) .none bu38 zc38 rfl .nil .nil)) (.al zo38 rfl (.st ty38 rfl rfl rfl (.nil (.nameBox (t := 3) (g := 5001) rfl rfl (fun m5001 => (.seq (.sn mx (.mv rfl (.ln sl22 rfl (.mvi (.nil ?_))))))))))))))
  obtain ⟨o_3, h, hK3⟩ := bindR_some h
  refine .thenJ (ι := DOp) (fun j_3 => []) (fun j_3 => [(5001, some (boxAt m5001 38 j_3))]) (fun s => o_3 = Res.nx s) (.k 3 rfl .nil) SubB.nil ?_ (fun j_3 hj3 => ?_)
  ·
   refine .block (.rforEL h (fun p4_ => [(14, ⟨True, rep p4_.1⟩)]) (fun p4_ => [(5001, some (boxAt m5001 38 p4_.2))]) (.k 14 rfl .nil) (.k 5001 rfl .nil) (.k4 0 3 12 13 rfl rfl rfl rfl .nil) SubB.nil (fun p4_ o_4 h hD4 => (.sn mx (.lt rfl rfl (.nil (.seq (.cb rfl h (fun _ h => ?_) fun _ h => ?_)))))))
   ·
    refine .skip (.then (.seq ?_))
    obtain ⟨o_6, h, hK6⟩ := bindD_some h
    unfold ref_OpsError_L1 at h
    refine .thenJ (ι := DOp) (fun j_6 => []) (fun j_6 => [(5001, some (boxAt m5001 38 j_6))]) (fun s => o_6 = Res.nx s) (.k4 0 3 12 13 rfl rfl rfl rfl (.k 14 rfl .nil)) SubB.nil ?_ (fun j_6 hj6 => ?_)
    ·
     obtain ⟨hn7, h⟩ := need_some h
     obtain ⟨v2, hv8, h⟩ := bnd_some h
     refine .block (.sr [oo, oo, oo, ([], [5]), oo, ([5], [5])] mx (.mvA rfl (.ixA sl22 ty38 rfl rfl hn7 (.rlA hv8 ty38 rfl (.al zo38 rfl (.asnA rfl (.st ty38 rfl rfl rfl (.nil (.freeze (t := 5) rfl rfl (.k 5001 rfl .nil) rfl (.seq (.sr [oo, oo, oo, oo, oo, ([5001], []), oo] mx (.faA fd38_0 hfd38_0 rfl (.faA fd36_1 hfd36_1 rfl (.ldA ty9 rfl (.cA (.fieldPtr .none fd38_0 (.s rfl)) (.cA (.fieldPtr .none fd36_1 (.s rfl)) (.cA (.loadAt (k := 5001) .none ty9 rfl (.s rfl) (HasField.comp (o2 := 1) hfd38_0 hfd36_1)) (.cA (.neS .none (eqAt_str Tryz.underlying9) (.s rfl) (.s rfl)) (.nil ?_)))))))))))))))))))
     obtain ⟨j_9, h, hK9⟩ := bind_some h
     refine .thenJ (ι := DOp) (fun j_9 => []) (fun j_9 => [(5001, some (boxAt m5001 38 j_9))]) (fun s => j_9 = s) (.k4 0 3 4 5 rfl rfl rfl rfl (.k2 12 13 rfl rfl (.k 14 rfl .nil))) SubB.nil ?_ (fun j_9' hj9 => ?_)
     ·
      refine .cb rfl h (fun _ h => ?_) fun _ h => ?_
      ·
       exact .rg [oo, oo, ([5001], [5001]), oo, oo, ([5001], [5001])] mx (.cA (.fieldPtr .none fd38_0 (.s rfl)) (.cA (.fieldPtr .none fd36_2 (.s rfl)) (.cN (.storeAt (g := 5001) ty3 rfl (.s rfl) (SetField.comp (o2 := 2) hfd38_0 sf38_0 sf36_2) .i) (.cA (.fieldPtr .none fd38_0 (.s rfl)) (.cA (.fieldPtr .none fd36_0 (.s rfl)) (.cN (.storeAt (g := 5001) ty3 rfl (.s rfl) (SetField.comp (o2 := 0) hfd38_0 sf38_0 sf36_0) .i) (.nil (Ends.j _ (some_eq h)))))))))
      ·
       exact .skip (Ends.j _ (some_eq h))
     ·
      subst hj9; have h := hK9; clear hK9
      obtain ⟨r1, hv11, h⟩ := bind_some h
      refine .sr [oo, oo, oo, oo, ([5001], []), oo, oo, oo, oo] mx (.mvA rfl (.cA (.gt .none (.s rfl) .i) (.mvA rfl (.cA (.load (.at rfl rfl) ty38 (.s rfl)) (.cA (.loadAt0 (k := 5001) (.at rfl rfl) ty38 rfl (.s rfl)) (.cA (.callIf (.at rfl rfl) fnok21 (fun hg => ref_byOp_ok ((fun hg => gd_some hv11 (hg.2)) hg)) (.cons (.tmp rfl id) (.cons (.tmp rfl id) .nil)) (fun h => h)) (.cA (.le (.at rfl rfl) (.tmp rfl id) .i) (.cA (.pickAnd .none (.s rfl) (.tmp rfl id)) (.asnA rfl (.nil (.seq (.sr [oo, oo, oo, oo, oo, ([5001], []), oo, oo, oo, oo, oo] mx (.faA fd38_0 hfd38_0 rfl (.faA fd36_1 hfd36_1 rfl (.ldA ty9 rfl (.cA (.fieldPtr .none fd38_0 (.s rfl)) (.cA (.fieldPtr .none fd36_1 (.s rfl)) (.cA (.loadAt (k := 5001) .none ty9 rfl (.s rfl) (HasField.comp (o2 := 1) hfd38_0 hfd36_1)) (.cA (.neS .none (eqAt_str Tryz.underlying9) (.s rfl) (.s rfl)) (.mvA rfl (.cA (.move (.at rfl rfl) (.s rfl)) (.cA (.gt (.at rfl rfl) (.tmp rfl id) .i) (.cA (.pickAnd .none (.s rfl) (.tmp rfl id)) (.nil ?_))))))))))))))))))))))))
      obtain ⟨j_12, h, hK12⟩ := bind_some h
      refine .thenJ (ι := Bool) (fun j_12 => [(6, ⟨True, rep j_12⟩)]) (fun j_12 => []) (fun s => j_12 = s) (.k4 0 3 5 12 rfl rfl rfl rfl (.k2 13 14 rfl rfl .nil)) (.k 5001 rfl .nil) ?_ (fun j_12' hj12 => ?_)
      ·
       refine .cb rfl h (fun _ h => ?_) fun _ h => ?_
       ·
        obtain ⟨hn14, h⟩ := need_some h
        exact .rn mx (.fa fd38_0 hfd38_0 rfl (.fa fd36_1 hfd36_1 rfl (.ld ty9 rfl (.mv rfl (.mv rfl (.c (.subW .none (.s rfl) .i) (.ix sl22 ty38 rfl rfl hn14 (.fa fd38_0 hfd38_0 rfl (.fa fd36_1 hfd36_1 rfl (.ld ty9 rfl (.c (.ltStr .none (.s rfl) (.s rfl)) (.asn rfl (.nil (Ends.j _ (some_eq h)))))))))))))))
       ·
        exact .skip (Ends.j _ (some_eq h))
      ·
       subst hj12; have h := hK12; clear hK12
       obtain ⟨r2, hv15, h⟩ := bind_some h
       obtain ⟨r3, hv16, h⟩ := bind_some h
       obtain ⟨r4, hv17, h⟩ := bind_some h
       obtain ⟨r5, hv18, h⟩ := bind_some h
       refine .sr [oo, oo, oo, oo, oo, oo, oo, oo, oo, oo, oo, oo, oo, ([5001], []), oo, oo, oo, oo, oo, oo, oo, oo, oo, oo, oo, oo, oo, oo, oo, ([5001], []), oo, oo, oo, oo, oo, oo, oo] mx (.faA fd38_0 hfd38_0 rfl (.faA fd36_1 hfd36_1 rfl (.ldA ty9 rfl (.cA (.call .none (ref_NameOf_ok hv15) (.cons (.s rfl) .nil)) (.cA (.not .none (.s rfl)) (.cA (.call .none (ref_When_ok hv16) (.cons (.s rfl) (.cons .i .nil))) (.mvA rfl (.cA (.call .none (ref_When_ok hv17) (.cons (.s rfl) (.cons .i .nil))) (.faA fd38_0 hfd38_0 rfl (.faA fd36_2 hfd36_2 rfl (.ldA ty3 rfl (.cA (.fieldPtr .none fd38_0 (.s rfl)) (.cA (.fieldPtr .none fd36_2 (.s rfl)) (.cA (.loadAt (k := 5001) .none ty3 rfl (.s rfl) (HasField.comp (o2 := 2) hfd38_0 hfd36_2)) (.cA (.addW .none (.s rfl) .i) (.cA (.neI .none (.s rfl) (.s rfl)) (.mvA rfl (.cA (.fieldAddr (.at rfl rfl) fd38_0 hfd38_0 (.s rfl)) (.cA (.fieldAddr (.at rfl rfl) fd36_0 hfd36_0 (.tmp rfl id)) (.cA (.load (.at rfl rfl) ty3 (.tmp rfl id)) (.cA (.callIf (.at rfl rfl) fnok13 (fun hg => ref_In_ok ((fun hg => gd_some hv18 ((notT hg.2))) hg)) (.cons (.tmp rfl id) (.cons .i (.cons .i .nil))) (fun h => h)) ?_)))))))))))))))))))))
       obtain ⟨r6, hv19, h⟩ := bind_some h
       obtain ⟨r7, hv20, h⟩ := bind_some h
       obtain ⟨r8, hv21, h⟩ := bind_some h
       obtain ⟨e1, hv22, h⟩ := bind_some h
       refine .cA (.not (.at rfl rfl) (.tmp rfl id)) (.cA (.pickOr .none (.s rfl) (.tmp rfl id)) (.cA (.call .none (ref_When_ok hv19) (.cons (.s rfl) (.cons .i .nil))) (.faA fd38_0 hfd38_0 rfl (.faA fd36_0 hfd36_0 rfl (.ldA ty3 rfl (.cA (.fieldPtr .none fd38_0 (.s rfl)) (.cA (.fieldPtr .none fd36_0 (.s rfl)) (.cA (.loadAt (k := 5001) .none ty3 rfl (.s rfl) (HasField.comp (o2 := 0) hfd38_0 hfd36_0)) (.cA (.le .none (.s rfl) (.s rfl)) (.cA (.call .none (ref_When_ok hv20) (.cons (.s rfl) (.cons .i .nil))) (.ldA ty38 rfl (.cA (.call .none (ref_opError_ok hv21) (.cons (.s rfl) .nil)) (.cA (.buildSlice (xs := [_, _, _, _, _]) .none sl73 ty23 hz23 (.cons (.s rfl) (.cons (.s rfl) (.cons (.s rfl) (.cons (.s rfl) (.cons (.s rfl) .nil))))) rfl (by decide)) (.cA (.call .none (ref_First_ok hv22) (.cons (.s rfl) .nil)) (.asnA rfl (.nil (.seq (.sn mx (.mv rfl (.nei rfl (.nil (.cb rfl h (fun _ h => ?_) fun _ h => ?_))))))))))))))))))))))
       ·
        refine .sn mx (.mv rfl (.asn rfl (.nil (.ret (.thenRet (.blkRet (.thenRet (.thenRet (.blkRet (.thenRet ?_))))))))))
        replace h := resd_ab hK6 (some_eq h)
        replace h := hD4 _ (some_eq h)
        replace h := resb_ab hK3 (some_eq h)
        obtain rfl := some_eq h
        exact Ends.rt Tryz.results5 rfl
       ·
        exact .skip (.then (.rg [oo, ([5001], [5001])] mx (.ldA ty38 rfl (.s0 5001 ty38 rfl rfl rfl (.nil (.blkNormal (Ends.j _ (some_eq h))))))))
    ·
     have h := resd_nx hK6 hj6
     exact .rn mx (.adi rfl (.mv rfl (.nil (Ends.ag (some_eq h)))))
   ·
    refine .exit (.thenExit (.thenExit (.blkExit ?_)))
    replace h := hD4 _ (some_eq h)
    exact Ends.j _ (some_eq h)
  ·
   have h := resb_nx hK3 hj3
   refine .sn mx (.asi (.nil (.ret ?_)))
   obtain rfl := some_eq h
   exact Ends.rt Tryz.results5 rfl

theorem ref_numbers_ok {l1 : (List Int)} {r : Str}  (h : ref_numbers l1 = some r) : FSpec Tryz.prog 43 [rep l1] (rep r) := by
 unfold ref_numbers at h
 refine FSpec.i Tryz.func43 rfl Tryz.ntmps43 rfl (fun F => (.sn mx (.c (.assign .none (.str (l := []) (by decide))) (.nil (.sr [([], [3])] mx (.cW (.nilRow (T := 9) (α := Str) rfl) (.nil (.nameRow (t := 3) (g := 5001) rfl rfl rfl (fun s5001 => (.seq (.sn mx (.mv rfl (.ln sl64 rfl (.mvi (.nil ?_)))))))))))))))
 obtain ⟨j_1, h, hK1⟩ := bind_some h
 refine .thenJ (ι := (List Str)) (fun j_1 => []) (fun j_1 => [(3, some (rowV 9 j_1))]) (fun s => j_1 = s) Sub.nil SubB.nil ?_ (fun j_1' hj1 => ?_)
 ·
  refine .block (.anon (t := 3) (g := 5001) rfl rfl trivial rfl (.rforL h (fun p2_ => [(8, ⟨True, rep p2_.1⟩)]) (fun p2_ => [(3, some (rowV 9 p2_.2))]) (.k 8 rfl .nil) (.k 3 rfl .nil) (.k2 6 7 rfl rfl .nil) SubB.nil (fun p2_ o_2 h hD2 => (.nameRow (t := 3) (g := 5002) rfl rfl rfl (fun s5002 => (.sn mx (.lt rfl rfl (.nil (.seq (.cb rfl h (fun _ h => ?_) fun _ h => ?_))))))))))
  ·
   refine .skip (.then (.seq ?_))
   obtain ⟨j_4, h, hK4⟩ := bind_some h
   unfold ref_numbers_L1 at h
   refine .thenJ (ι := (List Str)) (fun j_4 => []) (fun j_4 => [(3, some (rowV 9 j_4))]) (fun s => j_4 = s) (.k2 6 7 rfl rfl (.k 8 rfl .nil)) SubB.nil ?_ (fun j_4' hj4 => ?_)
   ·
    obtain ⟨hn5, h⟩ := need_some h
    obtain ⟨r1, hv6, h⟩ := bind_some h
    obtain ⟨hn7, h⟩ := need_some h
    exact .block (.sn mx (.ix sl64 ty3 rfl rfl hn5 (.ld ty3 rfl (.asn rfl (.nil (.rg [oo, oo, oo, oo, ([5002], [16, 5002]), ([16], [3, 16])] mx (.mvA rfl (.mvA rfl (.cA (.call .none (strconv_Itoa_ok hv6) (.cons (.s rfl) .nil)) (.cA (.buildSlice (xs := [_]) .none sl65 ty9 hz9 (.cons (.s rfl) .nil) rfl (by decide)) (.cW (.append (k := 5002) rk65 rfl (.told (.s rfl) rfl) (.s rfl) hn7) (.consWD (.passRow rfl (.tmp rfl)) rfl rfl (.nil (.blkNormal (Ends.j _ (some_eq h))))))))))))))))
   ·
    subst hj4; have h := hK4; clear hK4
    exact .nameRow (t := 3) (g := 5003) rfl rfl rfl (fun s5003 => (.rn mx (.adi rfl (.mv rfl (.nil (.anon (t := 3) (g := 5003) rfl rfl trivial rfl (Ends.ag (some_eq h))))))))
  ·
   refine .exit (.thenExit (.thenExit (.blkExit (.anon (t := 3) (g := 5002) rfl rfl trivial rfl ?_))))
   replace h := hD2 _ (some_eq h)
   exact Ends.j _ (some_eq h)
 ·
  subst hj1; have h := hK1; clear hK1
  obtain ⟨r2, hv8, h⟩ := bind_some h
  refine .freezeRowA (t := 3) rfl rfl SubB.nil rfl (.sn mx (.mv rfl (.c (.call .none (strings_Join_ok hv8) (.cons (.s rfl) (.cons (.str (l := [32]) (by decide)) .nil))) (.asn rfl (.nil (.ret ?_))))))
  obtain rfl := some_eq h
  exact Ends.rt Tryz.results43 rfl

theorem ref_OpLine_ok {x1 : DOp} {r : Str}  (h : ref_OpLine x1 = some r) : FSpec Tryz.prog 25 [rep x1] (rep r) := by
 unfold ref_OpLine at h
 obtain ⟨hn1, h⟩ := need_some h
 obtain ⟨r1, hv2, h⟩ := bind_some h
 obtain ⟨hn3, h⟩ := need_some h
 obtain ⟨hn4, h⟩ := need_some h
 obtain ⟨s1, hv5, h⟩ := bnd_some h
 refine FSpec.i Tryz.func25 rfl Tryz.ntmps25 rfl (fun F => (.sn mx (.c (.box .none (.s rfl)) (.c (.assign .none (.str (l := []) (by decide))) (.nil (.sn mx (.fa fd38_0 hfd38_0 rfl (.fa fd36_1 hfd36_1 rfl (.ld ty9 rfl (.c (.addStr .none (.s rfl) (.str (l := [32]) (by decide)) (fun _ => hn1)) (.fa fd38_0 hfd38_0 rfl (.fa fd36_2 hfd36_2 rfl (.ld ty3 rfl (.fa fd38_0 hfd38_0 rfl (.fa fd36_0 hfd36_0 rfl (.ld ty3 rfl (.c (.buildSlice (xs := [_, _]) .none sl64 ty3 hz3 (.cons (.s rfl) (.cons (.s rfl) .nil)) rfl (by decide)) (.c (.call .none (ref_numbers_ok hv2) (.cons (.s rfl) .nil)) (.c (.addStr .none (.s rfl) (.s rfl) (fun _ => hn3)) (.c (.addStr .none (.s rfl) (.str (l := [32]) (by decide)) (fun _ => hn4)) (.ra hv5 rfl (.nil (.seq (.sn mx (.fa fd38_1 hfd38_1 rfl (.ld ty3 rfl (.nil (.block (.sn mx (.eqi rfl (.asn rfl (.nil (.cb rfl h (fun _ h => ?_) fun _ h => ?_)))))))))))))))))))))))))))))))))
 ·
  obtain ⟨hn7, h⟩ := need_some h
  obtain ⟨hn8, h⟩ := need_some h
  obtain ⟨hn9, h⟩ := need_some h
  obtain ⟨hn10, h⟩ := need_some h
  obtain ⟨hn11, h⟩ := need_some h
  obtain ⟨r2, hv12, h⟩ := bind_some h
  obtain ⟨hn13, h⟩ := need_some h
  refine .sn mx (.mv rfl (.c (.addStr .none (.s rfl) (.str (l := [115, 101, 116, 32]) (by decide)) (fun _ => hn7)) (.fa fd38_2 hfd38_2 rfl (.ld ty9 rfl (.c (.addStr .none (.s rfl) (.s rfl) (fun _ => hn8)) (.c (.addStr .none (.s rfl) (.str (l := [32]) (by decide)) (fun _ => hn9)) (.fa fd38_3 hfd38_3 rfl (.ld ty9 rfl (.c (.addStr .none (.s rfl) (.s rfl) (fun _ => hn10)) (.c (.addStr .none (.s rfl) (.str (l := [32]) (by decide)) (fun _ => hn11)) (.fa fd38_4 hfd38_4 rfl (.ld ty9 rfl (.c (.call .none (ref_Quote_ok hv12) (.cons (.s rfl) .nil)) (.c (.addStr .none (.s rfl) (.s rfl) (fun _ => hn13)) (.asn rfl (.nil (.ret (.blkRet (.thenRet ?_)))))))))))))))))))
  obtain rfl := some_eq h
  exact Ends.rt Tryz.results25 rfl
 ·
  refine .sn mx (.eqi rfl (.asn rfl (.nil (.cb rfl h (fun _ h => ?_) fun _ h => ?_))))
  ·
   obtain ⟨hn15, h⟩ := need_some h
   obtain ⟨hn16, h⟩ := need_some h
   refine .sn mx (.mv rfl (.c (.addStr .none (.s rfl) (.str (l := [100, 114, 111, 112, 32]) (by decide)) (fun _ => hn15)) (.fa fd38_2 hfd38_2 rfl (.ld ty9 rfl (.c (.addStr .none (.s rfl) (.s rfl) (fun _ => hn16)) (.asn rfl (.nil (.ret (.blkRet (.thenRet ?_))))))))))
   obtain rfl := some_eq h
   exact Ends.rt Tryz.results25 rfl
  ·
   obtain ⟨hn17, h⟩ := need_some h
   obtain ⟨r3, hv18, h⟩ := bind_some h
   obtain ⟨hn19, h⟩ := need_some h
   refine .skip (.blkNormal (.then (.sn mx (.mv rfl (.c (.addStr .none (.s rfl) (.str (l := [117, 110, 100, 111, 32]) (by decide)) (fun _ => hn17)) (.fa fd38_5 hfd38_5 rfl (.ld ty3 rfl (.c (.call .none (strconv_Itoa_ok hv18) (.cons (.s rfl) .nil)) (.c (.addStr .none (.s rfl) (.s rfl) (fun _ => hn19)) (.asn rfl (.nil (.ret ?_))))))))))))
   obtain rfl := some_eq h
   exact Ends.rt Tryz.results25 rfl

theorem ref_OpsText_ok {l1 : (List DOp)} {r : Str}  (h : ref_OpsText l1 = some r) : FSpec Tryz.prog 7 [rep l1] (rep r) := by
 unfold ref_OpsText at h
 refine FSpec.i Tryz.func7 rfl Tryz.ntmps7 rfl (fun F => (.sn mx (.c (.assign .none (.str (l := []) (by decide))) (.nil (.sn mx (.c (.assign .none (.str (l := []) (by decide))) (.nil (.seq (.sn mx (.mv rfl (.ln sl22 rfl (.mvi (.nil ?_)))))))))))))
 obtain ⟨j_1, h, hK1⟩ := bind_some h
 refine .thenJ (ι := Str) (fun j_1 => [(3, ⟨True, rep j_1⟩)]) (fun j_1 => []) (fun s => j_1 = s) Sub.nil SubB.nil ?_ (fun j_1' hj1 => ?_)
 ·
  refine .block (.rforL h (fun p2_ => [(8, ⟨True, rep p2_.1⟩), (3, ⟨True, rep p2_.2⟩)]) (fun p2_ => []) (.k2 8 3 rfl rfl .nil) SubB.nil (.k2 6 7 rfl rfl .nil) SubB.nil (fun p2_ o_2 h hD2 => (.sn mx (.lt rfl rfl (.nil (.seq (.cb rfl h (fun _ h => ?_) fun _ h => ?_)))))))
  ·
   refine .skip (.then (.seq ?_))
   obtain ⟨j_4, h, hK4⟩ := bind_some h
   unfold ref_OpsText_L1 at h
   refine .thenJ (ι := Str) (fun j_4 => [(3, ⟨True, rep j_4⟩)]) (fun j_4 => []) (fun s => j_4 = s) (.k2 6 7 rfl rfl (.k 8 rfl .nil)) SubB.nil ?_ (fun j_4' hj4 => ?_)
   ·
    obtain ⟨hn5, h⟩ := need_some h
    obtain ⟨v1, hv6, h⟩ := bnd_some h
    obtain ⟨r1, hv7, h⟩ := bind_some h
    obtain ⟨hn8, h⟩ := need_some h
    obtain ⟨hn9, h⟩ := need_some h
    obtain ⟨s1, hv10, h⟩ := bnd_some h
    exact .block (.sr [oo, oo, ([], [5]), ([5], [5])] mx (.ixA sl22 ty38 rfl rfl hn5 (.rlA hv6 ty38 rfl (.al zo38 rfl (.st ty38 rfl rfl rfl (.nil (.freeze (t := 5) rfl rfl SubB.nil rfl (.rn mx (.mv rfl (.ld ty38 rfl (.c (.call .none (ref_OpLine_ok hv7) (.cons (.s rfl) .nil)) (.c (.addStr .none (.s rfl) (.str (l := [10]) (by decide)) (fun _ => hn8)) (.c (.addStr .none (.s rfl) (.s rfl) (fun _ => hn9)) (.ra hv10 rfl (.nil (.blkNormal (Ends.j _ (some_eq h))))))))))))))))))
   ·
    subst hj4; have h := hK4; clear hK4
    exact .rn mx (.adi rfl (.mv rfl (.nil (Ends.ag (some_eq h)))))
  ·
   refine .exit (.thenExit (.thenExit (.blkExit ?_)))
   replace h := hD2 _ (some_eq h)
   exact Ends.j _ (some_eq h)
 ·
  subst hj1; have h := hK1; clear hK1
  refine .sn mx (.mv rfl (.asn rfl (.nil (.ret ?_))))
  obtain rfl := some_eq h
  exact Ends.rt Tryz.results7 rfl

theorem law_edits_ok  {r : Bool}  (h : law_edits  = some r) : FSpec Tryz.prog 8 [] (rep r) := by
 unfold law_edits at h
 obtain ⟨r1, hv1, h⟩ := bind_some h
 obtain ⟨r2, hv2, h⟩ := bind_some h
 refine FSpec.i Tryz.func8 rfl Tryz.ntmps8 rfl (fun F => (.sn mx (.asb (.nil (.sn mx (.c (.call .none (edit_Check_ok hv1) (.cons (.const (x := ([] : (List DOp))) (fun M w => ⟨_, ⟨none, 0, rfl, Nat.le_refl _, by decide, rfl⟩, rfl⟩)) .nil)) (.eqi rfl (.mv rfl (.c (.buildF (y := (⟨(⟨(0 : Int), Str.nil, (0 : Int)⟩ : Stamp), (0 : Int), Str.nil, Str.nil, Str.nil, (0 : Int)⟩ : DOp)) (.at rfl rfl) bu38 zc38 rfl .nil .nil) (.c (.buildSlice (xs := [_]) (.at rfl rfl) sl22 ty38 hz38 (.cons (.tmp rfl id) .nil) rfl (by decide)) (.c (.callIf (.at rfl rfl) fnok15 (fun hg => edit_Check_ok ((fun hg => gd_some hv2 (hg.2)) hg)) (.cons (.tmp rfl id) .nil) (fun h => h)) (.c (.eqI (.at rfl rfl) (.tmp rfl id) .i) (.pa rfl rfl (.asn rfl (.nil (.ret ?_))))))))))))))))
 obtain rfl := some_eq h
 exact Ends.rt Tryz.results8 rfl

theorem law_OpsPrint_1_ok {c0_1 : (List DOp)} {r : Str}  (h : law_OpsPrint_1 c0_1 = some r) : FSpec Tryz.prog 10 [ref c0_1] (rep r) := by
 unfold law_OpsPrint_1 at h
 obtain ⟨r1, hv1, h⟩ := bind_some h
 refine FSpec.i Tryz.func10 rfl Tryz.ntmps10 rfl (fun F => (.sn mx (.c (.assign .none (.str (l := []) (by decide))) (.nil (.sn mx (.ld ty22 rfl (.c (.call .none (ref_OpsText_ok hv1) (.cons (.s rfl) .nil)) (.asn rfl (.nil (.ret ?_))))))))))
 obtain rfl := some_eq h
 exact Ends.rt Tryz.results10 rfl

theorem law_is_string_ok {got1 : Str} {e1 : Int} {want1 : Int} {right1 : (Option Str)} {r : Bool}  (h : law_is_string got1 e1 want1 right1 = some r) : FSpec Tryz.prog 9 [rep got1, rep e1, rep want1, fn0 Tryz.prog (rep (α := Str)) right1] (rep r) := by
 unfold law_is_string at h
 refine FSpec.i Tryz.func9 rfl Tryz.ntmps9 rfl (fun F => (.sn mx (.asb (.nil (.sn mx (.c (.assign .none (.str (l := []) (by decide))) (.nil (.seq (.sn mx (.mv rfl (.nei rfl (.nil (.cb rfl h (fun _ h => ?_) fun _ h => ?_)))))))))))))
 ·
  refine .sn mx (.mv rfl (.mv rfl (.c (.eqS .none (eqAt_str Tryz.underlying9) (.s rfl) (.s rfl)) (.mv rfl (.mg rfl rfl rfl (.mg rfl rfl rfl (.c (.eqI (.at rfl rfl) (.tmp rfl id) (.tmp rfl id)) (.pa rfl rfl (.asn rfl (.nil (.ret (.thenRet ?_))))))))))))
  obtain rfl := some_eq h
  exact Ends.rt Tryz.results9 rfl
 ·
  obtain ⟨r1, hv2, h⟩ := bind_some h
  refine .skip (.then (.sn mx (.mv rfl (.eqi rfl (.mv rfl (.mg rfl rfl rfl (.mg rfl rfl rfl (.c (.callV _ (.at rfl rfl) (.tmp rfl id) (fun hg => gd_some hv2 (hg.2)) .nil) (.c (.eqS (.at rfl rfl) (eqAt_str Tryz.underlying9) (.tmp rfl id) (.tmp rfl id)) (.pa rfl rfl (.asn rfl (.nil (.ret ?_)))))))))))))
  obtain rfl := some_eq h
  exact Ends.rt Tryz.results9 rfl

theorem slices_Index_string_ok {s1 : (List Str)} {v1 : Str} {r : Int}  (h : slices_Index_string s1 v1 = some r) : FSpec Tryz.prog 62 [rep s1, rep v1] (rep r) := by
 unfold slices_Index_string at h
 refine FSpec.i Tryz.func62 rfl Tryz.ntmps62 rfl (fun F => (.sn mx (.asi (.nil (.seq (.sn mx (.mv rfl (.ln sl65 rfl (.mvi (.nil ?_))))))))))
 obtain ⟨o_1, h, hK1⟩ := bindR_some h
 refine .tJ (fun s => o_1 = Res.nx s) Sub.nil SubB.nil ?_ (fun j_1 hj1 => ?_)
 ·
  refine .block (.rforEL h (fun p2_ => [(8, ⟨True, rep p2_.1⟩)]) (fun p2_ => []) (.k 8 rfl .nil) SubB.nil (.k2 0 1 rfl rfl (.k 7 rfl .nil)) SubB.nil (fun p2_ o_2 h hD2 => (.sn mx (.lt rfl rfl (.nil (.seq (.cb rfl h (fun _ h => ?_) fun _ h => ?_)))))))
  ·
   refine .skip (.then (.seq ?_))
   obtain ⟨o_4, h, hK4⟩ := bindD_some h
   unfold slices_Index_string_L1 at h
   refine .tJ (fun s => o_4 = Res.nx s) (.k4 0 1 7 8 rfl rfl rfl rfl .nil) SubB.nil ?_ (fun j_4 hj4 => ?_)
   ·
    obtain ⟨hn5, h⟩ := need_some h
    refine .block (.sn mx (.mv rfl (.asn rfl (.nil (.sn mx (.mv rfl (.mv rfl (.mv rfl (.ix sl65 ty9 rfl rfl hn5 (.ld ty9 rfl (.c (.eqS .none (eqAt_str Tryz.underlying9) (.s rfl) (.s rfl)) (.nil (.cb rfl h (fun _ h => ?_) fun _ h => ?_)))))))))))))
    ·
     refine .sn mx (.mv rfl (.asn rfl (.nil (.ret (.blkRet (.thenRet (.thenRet (.blkRet (.thenRet ?_)))))))))
     replace h := resd_ab hK4 (some_eq h)
     replace h := hD2 _ (some_eq h)
     replace h := resb_ab hK1 (some_eq h)
     obtain rfl := some_eq h
     exact Ends.rt Tryz.results62 rfl
    ·
     exact .skip (.blkNormal (Ends.j _ (some_eq h)))
   ·
    have h := resd_nx hK4 hj4
    exact .rn mx (.adi rfl (.mv rfl (.nil (Ends.ag (some_eq h)))))
  ·
   refine .exit (.thenExit (.thenExit (.blkExit ?_)))
   replace h := hD2 _ (some_eq h)
   exact Ends.j _ (some_eq h)
 ·
  have h := resb_nx hK1 hj1
  refine .sn mx (.asi (.nil (.ret ?_)))
  obtain rfl := some_eq h
  exact Ends.rt Tryz.results62 rfl

theorem slices_Contains_string_ok {s1 : (List Str)} {v1 : Str} {r : Bool}  (h : slices_Contains_string s1 v1 = some r) : FSpec Tryz.prog 47 [rep s1, rep v1] (rep r) := by
 unfold slices_Contains_string at h
 obtain ⟨r1, hv1, h⟩ := bind_some h
 refine FSpec.i Tryz.func47 rfl Tryz.ntmps47 rfl (fun F => (.sn mx (.asb (.nil (.sn mx (.mv rfl (.mv rfl (.c (.call .none (slices_Index_string_ok hv1) (.cons (.s rfl) (.cons (.s rfl) .nil))) (.c (.ge .none (.s rfl) .i) (.asn rfl (.nil (.ret ?_))))))))))))
 obtain rfl := some_eq h
 exact Ends.rt Tryz.results47 rfl

theorem edit_natural_ok {s1 : Str} {r : (Int × Bool)}  (h : edit_natural s1 = some r) : FSpec Tryz.prog 48 [rep s1] (tup [rep r.1, rep r.2]) := by
 unfold edit_natural at h
 obtain ⟨r1, hv1, h⟩ := bind_some h
 obtain ⟨r2, hv2, h⟩ := bind_some h
 refine FSpec.i Tryz.func48 rfl Tryz.ntmps48 rfl (fun F => (.sn mx (.asi (.asb (.nil (.sn mx (.mv rfl (.c (.call .none (strconv_Atoi_ok hv1) (.cons (.s rfl) .nil)) (.mv rfl (.ex rfl rfl (.ex rfl rfl (.asn rfl (.asn rfl (.nil (.sn mx (.mv rfl (.mv rfl (.c (.eqErr .none Tryz.underlying47 (.s rfl)) (.mv rfl (.mg rfl rfl rfl (.c (.ge (.at rfl rfl) (.tmp rfl id) .i) (.pa rfl rfl (.mv rfl (.mg rfl rfl rfl (.c (.lenStr (.at rfl rfl) Tryz.underlying9 (.tmp rfl id)) (.c (.le (.at rfl rfl) (.tmp rfl id) .i) (.pa rfl rfl (.mv rfl (.mg rfl rfl rfl (.c (.callIf (.at rfl rfl) fnok35 (fun hg => strconv_Itoa_ok ((fun hg => gd_some hv2 (hg.2)) hg)) (.cons (.tmp rfl id) .nil) (fun h => h)) (.mg rfl rfl rfl (.c (.eqS (.at rfl rfl) (eqAt_str Tryz.underlying9) (.tmp rfl id) (.tmp rfl id)) (.pa rfl rfl (.asn rfl (.asn rfl (.nil (.ret ?_)))))))))))))))))))))))))))))))))))))
 obtain rfl := some_eq h
 exact Ends.ret2 (.inl rfl) Tryz.results48 (ResOK.tmp rfl trivial Imp.refl) (ResOK.tmp rfl trivial Imp.refl)

theorem edit_Unquoted_ok {s1 : Str} {r : (Str × Bool)}  (h : edit_Unquoted s1 = some r) : FSpec Tryz.prog 49 [rep s1] (tup [rep r.1, rep r.2]) := by
 unfold edit_Unquoted at h
 refine FSpec.i Tryz.func49 rfl Tryz.ntmps49 rfl (fun F => (.sn mx (.c (.assign .none (.str (l := []) (by decide))) (.asb (.nil (.sr [([], [4])] mx (.cW (.nilRow (T := 5) (α := (KI .u8)) rfl) (.nil (.nameRow (t := 4) (g := 5001) rfl rfl rfl (fun s5001 => (.seq (.sn mx (.asi (.nil ?_))))))))))))))
 obtain ⟨o_1, h, hK1⟩ := bindR_some h
 refine .tJ (fun s => o_1 = Res.nx s) Sub.nil SubB.nil ?_ (fun j_1 hj1 => ?_)
 ·
  refine .block (.anon (t := 4) (g := 5001) rfl rfl trivial rfl (.loopL h (fun s2_ => [(5, ⟨True, rep s2_.2⟩)]) (fun s2_ => [(4, some (rowV 5 s2_.1))]) (.k 5 rfl .nil) (.k 4 rfl .nil) (.k 0 rfl .nil) SubB.nil (fun s2_ o_2 h hD2 => ?_)))
  unfold edit_Unquoted_L1 at h
  refine .nameRow (t := 4) (g := 5002) rfl rfl rfl (fun s5002 => (.seq (.sn mx (.mv rfl (.mv rfl (.c (.lenStr .none Tryz.underlying9 (.s rfl)) (.lt rfl rfl (.nil (.cb rfl h (fun _ h => ?_) fun _ h => ?_)))))))))
  ·
   obtain ⟨hn4, h⟩ := need_some h
   obtain ⟨c1, hv5, h⟩ := bnd_some h
   refine .skip (.then (.seq (.block (.sn mx (.mv rfl (.mv rfl (.c (.indexStr .none Tryz.underlying9 (.s rfl) (.s rfl) (fun _ => hn4)) (.ra hv5 rfl (.nil (.seq ?_))))))))))
   obtain ⟨o_6, h, hK6⟩ := bindR_some h
   refine .thenJ (ι := (Int × (KI .u8))) (fun j_6 => [(5, ⟨True, rep j_6.1⟩), (6, ⟨True, rep j_6.2⟩)]) (fun j_6 => []) (fun s => o_6 = Res.nx s) (.k2 0 4 rfl rfl .nil) (.k 5002 rfl .nil) ?_ (fun j_6 hj6 => ?_)
   ·
    refine .block (.sn mx (.mv rfl (.c (.keql .none (.s rfl) .ki) (.asn rfl (.nil (.cb rfl h (fun _ h => ?_) fun _ h => ?_))))))
    ·
     obtain ⟨hn8, h⟩ := need_some h
     refine .sr [oo, ([5002], []), oo, oo, oo, oo, oo, oo, oo, oo, oo, oo, oo, oo] mx (.mvA rfl (.cA (.bytesStrO (k := 5002) Tryz.underlying43 Tryz.underlying5 Tryz.underlying9 (.told (.s rfl) rfl)) (.mvA rfl (.mvA rfl (.cA (.lenStr .none Tryz.underlying9 (.s rfl)) (.cA (.subW .none (.s rfl) .i) (.cA (.eqI .none (.s rfl) (.s rfl)) (.mvA rfl (.cA (.move (.at rfl rfl) (.s rfl)) (.cA (.indexStr (.at rfl rfl) Tryz.underlying9 (.tmp rfl id) .i (fun hg => hn8 hg.2)) (.cA (.keql (.at rfl rfl) (.tmp rfl id) .ki) (.cA (.pickAnd .none (.s rfl) (.tmp rfl id)) (.asnA rfl (.asnA rfl (.nil (.ret (.blkRet (.thenRet (.blkRet (.thenRet (.thenRet (.blkRet (.thenRet ?_)))))))))))))))))))))))
     replace h := resb_ab hK6 (some_eq h)
     replace h := hD2 _ (some_eq h)
     replace h := resb_ab hK1 (some_eq h)
     obtain rfl := some_eq h
     exact Ends.ret2 (.inl rfl) Tryz.results49 (ResOK.tmp rfl trivial Imp.refl) (ResOK.tmp rfl trivial Imp.refl)
    ·
     refine .sn mx (.mv rfl (.c (.keql .none (.s rfl) .ki) (.asn rfl (.nil (.cb rfl h (fun _ h => ?_) fun _ h => ?_)))))
     ·
      refine .sn mx (.c (.assign .none (.str (l := []) (by decide))) (.asb (.nil (.ret (.blkRet (.thenRet (.blkRet (.thenRet (.thenRet (.blkRet (.thenRet ?_)))))))))))
      replace h := resb_ab hK6 (some_eq h)
      replace h := hD2 _ (some_eq h)
      replace h := resb_ab hK1 (some_eq h)
      obtain rfl := some_eq h
      exact Ends.ret2 (.inl rfl) Tryz.results49 (ResOK.tmp rfl trivial Imp.refl) (ResOK.tmp rfl trivial Imp.refl)
     ·
      refine .sn mx (.mv rfl (.c (.keql .none (.s rfl) .ki) (.asn rfl (.nil (.cb rfl h (fun _ h => ?_) fun _ h => ?_)))))
      ·
       obtain ⟨i1, hv11, h⟩ := bnd_some h
       refine .seq (.sn mx (.mv rfl (.adi rfl (.ra hv11 rfl (.nil (.sn mx (.mv rfl (.mv rfl (.c (.lenStr .none Tryz.underlying9 (.s rfl)) (.c (.eqI .none (.s rfl) (.s rfl)) (.nil (.cb rfl h (fun _ h => ?_) fun _ h => ?_))))))))))))
       ·
        refine .sn mx (.c (.assign .none (.str (l := []) (by decide))) (.asb (.nil (.ret (.thenRet (.blkRet (.thenRet (.blkRet (.thenRet (.thenRet (.blkRet (.thenRet ?_))))))))))))
        replace h := resb_ab hK6 (some_eq h)
        replace h := hD2 _ (some_eq h)
        replace h := resb_ab hK1 (some_eq h)
        obtain rfl := some_eq h
        exact Ends.ret2 (.inl rfl) Tryz.results49 (ResOK.tmp rfl trivial Imp.refl) (ResOK.tmp rfl trivial Imp.refl)
       ·
        obtain ⟨hn13, h⟩ := need_some h
        obtain ⟨k1, hv14, h⟩ := bind_some h
        refine .skip (.then (.sn mx (.mv rfl (.mv rfl (.c (.indexStr .none Tryz.underlying9 (.s rfl) (.s rfl) (fun _ => hn13)) (.c (.call .none (strings_IndexByte_ok hv14) (.cons (.str (l := [34, 92, 110]) (by decide)) (.cons (.s rfl) .nil))) (.asn rfl (.nil (.seq (.sn mx (.mv rfl (.c (.lt .none (.s rfl) .i) (.nil (.cb rfl h (fun _ h => ?_) fun _ h => ?_))))))))))))))
        ·
         refine .sn mx (.c (.assign .none (.str (l := []) (by decide))) (.asb (.nil (.ret (.thenRet (.blkRet (.thenRet (.blkRet (.thenRet (.thenRet (.blkRet (.thenRet ?_))))))))))))
         replace h := resb_ab hK6 (some_eq h)
         replace h := hD2 _ (some_eq h)
         replace h := resb_ab hK1 (some_eq h)
         obtain rfl := some_eq h
         exact Ends.ret2 (.inl rfl) Tryz.results49 (ResOK.tmp rfl trivial Imp.refl) (ResOK.tmp rfl trivial Imp.refl)
        ·
         obtain ⟨hn16, h⟩ := need_some h
         obtain ⟨c2, hv17, h⟩ := bnd_some h
         exact .skip (.then (.rn mx (.mv rfl (.c (.indexStr .none Tryz.underlying9 (.str (l := [34, 92, 10]) (by decide)) (.s rfl) (fun _ => hn16)) (.ra hv17 rfl (.nil (.blkNormal (Ends.j _ (some_eq h)))))))))
      ·
       exact .skip (.blkNormal (Ends.j _ (some_eq h)))
   ·
    have h := resb_nx hK6 hj6
    obtain ⟨hn18, h⟩ := need_some h
    obtain ⟨b1, hv19, h⟩ := bnd_some h
    obtain ⟨i2, hv20, h⟩ := bnd_some h
    exact .rg [oo, oo, oo, ([5002], [55, 5002]), ([55], [4, 55])] mx (.mvA rfl (.mvA rfl (.cA (.buildSlice (xs := [_]) .none sl43 ty5 hz5 (.cons (.s rfl) .nil) rfl (by decide)) (.cW (.append (k := 5002) rk43 rfl (.told (.s rfl) rfl) (.s rfl) hn18) (.cW (.passRow rfl (.tmp rfl)) (.nil (.blkNormal (.then (.reB (t := 4) rfl (congrArg (rowV 5) hv19) (.nameRow (t := 4) (g := 5003) rfl rfl rfl (fun s5003 => (.rn mx (.mv rfl (.adi rfl (.ra hv20 rfl (.nil (.anon (t := 4) (g := 5003) rfl rfl trivial rfl (Ends.ag (some_eq h)))))))))))))))))))
  ·
   refine .exit (.thenExit (.thenExit (.blkExit ?_)))
   replace h := hD2 _ (some_eq h)
   exact Ends.j _ (some_eq h)
 ·
  have h := resb_nx hK1 hj1
  refine .sn mx (.c (.assign .none (.str (l := []) (by decide))) (.asb (.nil (.ret ?_))))
  obtain rfl := some_eq h
  exact Ends.ret2 (.inl rfl) Tryz.results49 (ResOK.tmp rfl trivial Imp.refl) (ResOK.tmp rfl trivial Imp.refl)

theorem edit_readOp_ok {line1 : Str} {r : (DOp × Bool)}  (h : edit_readOp line1 = some r) : FSpec Tryz.prog 27 [rep line1] (tup [rep r.1, rep r.2]) := by
 unfold edit_readOp at h
 obtain ⟨x1, hv1, h⟩ := bnd_some h
 obtain ⟨w1, hv2, h⟩ := bind_some h
 obtain ⟨r1, hv3, h⟩ := bind_some h
 refine FSpec.i Tryz.func27 rfl Tryz.ntmps27 rfl (fun F => (.sr [([], [2]), oo] mx (.al zo38 rfl (.cA (.assign .none .bool) (.nil (.reB (t := 2) rfl (congrArg (cont 38) hv1) (.nameBox (t := 2) (g := 5001) rfl rfl (fun m5001 => (.sn mx (.mv rfl (.c (.call .none (strings_SplitN_ok hv2).frz (.cons (.s rfl) (.cons (.str (l := [32]) (by decide)) (.cons .i .nil)))) (.asn rfl (.nil (.seq (.sn mx (.mv rfl (.ln sl65 rfl (.c (.lt .none (.s rfl) .i) (.mv rfl (.mg rfl rfl rfl (.c (.callIf (.at rfl rfl) fnok47 (fun hg => slices_Contains_string_ok ((fun hg => gd_some hv3 ((notT hg.2))) hg)) (.cons (.tmp rfl id) (.cons (.str (l := []) (by decide)) .nil)) (fun h => h)) (.po rfl rfl (.nil (.cb rfl h (fun _ h => ?_) fun _ h => ?_))))))))))))))))))))))))
 ·
  refine .sr [([5001], []), ([5001], [5001]), oo] mx (.cA (.loadAt0 (k := 5001) .none ty38 rfl (.s rfl)) (.s0 5001 ty38 rfl rfl rfl (.cA (.assign .none .bool) (.nil (.fb 5001 [2] rfl (.cons (t := 2) rfl trivial .nil) (.ret (.thenRet ?_)))))))
  obtain rfl := some_eq h
  exact Ends.r2 Tryz.results27 ty38 rfl rfl
 ·
  obtain ⟨hn5, h⟩ := need_some h
  obtain ⟨v1, hv6, h⟩ := bnd_some h
  obtain ⟨x2, hv7, h⟩ := bnd_some h
  obtain ⟨hn8, h⟩ := need_some h
  obtain ⟨r2, hv9, h⟩ := bind_some h
  obtain ⟨x3, hv10, h⟩ := bnd_some h
  obtain ⟨hn11, h⟩ := need_some h
  obtain ⟨r3, hv12, h⟩ := bind_some h
  obtain ⟨x4, hv13, h⟩ := bnd_some h
  refine .skip (.then (.sn mx (.asb (.asb (.nil (.sr [oo, oo, oo, oo, oo, ([5001], [5001])] mx (.mvA rfl (.cA (.indexAddr .none sl65 ty9 (.s rfl) .i (fun _ => hn5)) (.rlA hv6 ty9 rfl (.cA (.fieldPtr .none fd38_0 (.s rfl)) (.cA (.fieldPtr .none fd36_1 (.s rfl)) (.cN (.storeAt (g := 5001) ty9 rfl (.s rfl) (SetField.comp (o2 := 1) hfd38_0 sf38_0 sf36_1) (.s rfl)) (.nil (.reB (t := 5001) rfl (congrArg (fun y => boxAt m5001 38 y) hv7) (.sr [oo, oo, oo, oo, oo, oo, oo, oo, oo, ([5001], [5001]), oo] mx (.mvA rfl (.cA (.indexAddr .none sl65 ty9 (.s rfl) .i (fun _ => hn8)) (.ldA ty9 rfl (.cA (.call .none (edit_natural_ok hv9) (.cons (.s rfl) .nil)) (.mvA rfl (.exA rfl rfl (.exA rfl rfl (.cA (.fieldPtr .none fd38_0 (.s rfl)) (.cA (.fieldPtr .none fd36_2 (.s rfl)) (.cN (.storeAt (g := 5001) ty3 rfl (.s rfl) (SetField.comp (o2 := 2) hfd38_0 sf38_0 sf36_2) (.s rfl)) (.asnA rfl (.nil (.reB (t := 5001) rfl (congrArg (fun y => boxAt m5001 38 y) hv10) (.sr [oo, oo, oo, oo, oo, oo, oo, oo, oo, ([5001], [5001]), oo] mx (.mvA rfl (.cA (.indexAddr .none sl65 ty9 (.s rfl) .i (fun _ => hn11)) (.ldA ty9 rfl (.cA (.call .none (edit_natural_ok hv12) (.cons (.s rfl) .nil)) (.mvA rfl (.exA rfl rfl (.exA rfl rfl (.cA (.fieldPtr .none fd38_0 (.s rfl)) (.cA (.fieldPtr .none fd36_0 (.s rfl)) (.cN (.storeAt (g := 5001) ty3 rfl (.s rfl) (SetField.comp (o2 := 0) hfd38_0 sf38_0 sf36_0) (.s rfl)) (.asnA rfl (.nil (.reB (t := 5001) rfl (congrArg (fun y => boxAt m5001 38 y) hv13) (.seq (.sn mx (.mv rfl (.c (.not .none (.s rfl)) (.mv rfl (.mg rfl rfl rfl (.c (.not (.at rfl rfl) (.tmp rfl id)) (.po rfl rfl (.nil (.cb rfl h (fun _ h => ?_) fun _ h => ?_))))))))))))))))))))))))))))))))))))))))))))))))))))
  ·
   refine .sr [([5001], []), ([5001], [5001]), oo] mx (.cA (.loadAt0 (k := 5001) .none ty38 rfl (.s rfl)) (.s0 5001 ty38 rfl rfl rfl (.cA (.assign .none .bool) (.nil (.fb 5001 [2] rfl (.cons (t := 2) rfl trivial .nil) (.ret (.thenRet ?_)))))))
   obtain rfl := some_eq h
   exact Ends.r2 Tryz.results27 ty38 rfl rfl
  ·
   refine .skip (.then (.seq ?_))
   obtain ⟨j_15, h, hK15⟩ := bind_some h
   refine .thenJ (ι := (Bool × DOp)) (fun j_15 => [(3, ⟨True, rep j_15.1⟩)]) (fun j_15 => [(5001, some (boxAt m5001 38 j_15.2))]) (fun s => j_15 = s) (.k 2 rfl .nil) SubB.nil ?_ (fun j_15' hj15 => ?_)
   ·
    obtain ⟨hn16, h⟩ := need_some h
    refine .block (.sn mx (.mv rfl (.c (.indexAddr .none sl65 ty9 (.s rfl) .i (fun _ => hn16)) (.ld ty9 rfl (.c (.eqS .none (eqAt_str Tryz.underlying9) (.s rfl) (.str (l := [115, 101, 116]) (by decide))) (.mv rfl (.mg rfl rfl rfl (.c (.len (.at rfl rfl) sl65 (.tmp rfl id)) (.c (.eqI (.at rfl rfl) (.tmp rfl id) .i) (.pa rfl rfl (.asn rfl (.nil (.cb rfl h (fun _ h => ?_) fun _ h => ?_)))))))))))))
    ·
     obtain ⟨hn18, h⟩ := need_some h
     obtain ⟨v2, hv19, h⟩ := bnd_some h
     obtain ⟨hn20, h⟩ := need_some h
     obtain ⟨v3, hv21, h⟩ := bnd_some h
     obtain ⟨x5, hv22, h⟩ := bnd_some h
     obtain ⟨hn23, h⟩ := need_some h
     obtain ⟨r4, hv24, h⟩ := bind_some h
     exact .sr [oo, oo, oo, oo, oo, oo, oo, ([5001], [5001]), oo, ([5001], [5001]), oo, ([5001], [5001])] mx (.mvA rfl (.cA (.indexAddr .none sl65 ty9 (.s rfl) .i (fun _ => hn18)) (.rlA hv19 ty9 rfl (.mvA rfl (.cA (.indexAddr .none sl65 ty9 (.s rfl) .i (fun _ => hn20)) (.rlA hv21 ty9 rfl (.cA (.fieldPtr .none fd38_1 (.s rfl)) (.cN (.storeAt (g := 5001) ty3 rfl (.s rfl) sf38_1 .i) (.cA (.fieldPtr .none fd38_2 (.s rfl)) (.cN (.storeAt (g := 5001) ty9 rfl (.s rfl) sf38_2 (.s rfl)) (.cA (.fieldPtr .none fd38_3 (.s rfl)) (.cN (.storeAt (g := 5001) ty9 rfl (.s rfl) sf38_3 (.s rfl)) (.nil (.reB (t := 5001) rfl (congrArg (fun y => boxAt m5001 38 y) hv22) (.rg [oo, oo, oo, oo, oo, oo, oo, oo, ([5001], [5001]), oo] mx (.mvA rfl (.cA (.indexAddr .none sl65 ty9 (.s rfl) .i (fun _ => hn23)) (.ldA ty9 rfl (.cA (.call .none (edit_Unquoted_ok hv24) (.cons (.s rfl) .nil)) (.mvA rfl (.exA rfl rfl (.exA rfl rfl (.cA (.fieldPtr .none fd38_4 (.s rfl)) (.cN (.storeAt (g := 5001) ty9 rfl (.s rfl) sf38_4 (.s rfl)) (.asnA rfl (.nil (.blkNormal (Ends.j _ (some_eq h)))))))))))))))))))))))))))))
    ·
     obtain ⟨hn25, h⟩ := need_some h
     refine .sn mx (.mv rfl (.c (.indexAddr .none sl65 ty9 (.s rfl) .i (fun _ => hn25)) (.ld ty9 rfl (.c (.eqS .none (eqAt_str Tryz.underlying9) (.s rfl) (.str (l := [100, 114, 111, 112]) (by decide))) (.mv rfl (.mg rfl rfl rfl (.c (.len (.at rfl rfl) sl65 (.tmp rfl id)) (.c (.eqI (.at rfl rfl) (.tmp rfl id) .i) (.pa rfl rfl (.asn rfl (.nil (.cb rfl h (fun _ h => ?_) fun _ h => ?_))))))))))))
     ·
      obtain ⟨hn27, h⟩ := need_some h
      obtain ⟨v4, hv28, h⟩ := bnd_some h
      exact .rg [oo, oo, oo, oo, ([5001], [5001]), oo, ([5001], [5001]), oo] mx (.mvA rfl (.cA (.indexAddr .none sl65 ty9 (.s rfl) .i (fun _ => hn27)) (.rlA hv28 ty9 rfl (.cA (.fieldPtr .none fd38_1 (.s rfl)) (.cN (.storeAt (g := 5001) ty3 rfl (.s rfl) sf38_1 .i) (.cA (.fieldPtr .none fd38_2 (.s rfl)) (.cN (.storeAt (g := 5001) ty9 rfl (.s rfl) sf38_2 (.s rfl)) (.cA (.assign .none .bool) (.nil (.blkNormal (Ends.j _ (some_eq h))))))))))))
     ·
      obtain ⟨hn29, h⟩ := need_some h
      refine .sn mx (.mv rfl (.c (.indexAddr .none sl65 ty9 (.s rfl) .i (fun _ => hn29)) (.ld ty9 rfl (.c (.eqS .none (eqAt_str Tryz.underlying9) (.s rfl) (.str (l := [117, 110, 100, 111]) (by decide))) (.mv rfl (.mg rfl rfl rfl (.c (.len (.at rfl rfl) sl65 (.tmp rfl id)) (.c (.eqI (.at rfl rfl) (.tmp rfl id) .i) (.pa rfl rfl (.asn rfl (.nil (.cb rfl h (fun _ h => ?_) fun _ h => ?_))))))))))))
      ·
       obtain ⟨x6, hv31, h⟩ := bnd_some h
       obtain ⟨hn32, h⟩ := need_some h
       obtain ⟨r5, hv33, h⟩ := bind_some h
       exact .sr [oo, ([5001], [5001])] mx (.cA (.fieldPtr .none fd38_1 (.s rfl)) (.cN (.storeAt (g := 5001) ty3 rfl (.s rfl) sf38_1 .i) (.nil (.reB (t := 5001) rfl (congrArg (fun y => boxAt m5001 38 y) hv31) (.rg [oo, oo, oo, oo, oo, oo, oo, oo, ([5001], [5001]), oo] mx (.mvA rfl (.cA (.indexAddr .none sl65 ty9 (.s rfl) .i (fun _ => hn32)) (.ldA ty9 rfl (.cA (.call .none (edit_natural_ok hv33) (.cons (.s rfl) .nil)) (.mvA rfl (.exA rfl rfl (.exA rfl rfl (.cA (.fieldPtr .none fd38_5 (.s rfl)) (.cN (.storeAt (g := 5001) ty3 rfl (.s rfl) sf38_5 (.s rfl)) (.asnA rfl (.nil (.blkNormal (Ends.j _ (some_eq h)))))))))))))))))))
      ·
       exact .skip (.blkNormal (Ends.j _ (some_eq h)))
   ·
    subst hj15; have h := hK15; clear hK15
    refine .sr [([5001], []), oo, ([5001], [5001]), oo] mx (.cA (.loadAt0 (k := 5001) .none ty38 rfl (.s rfl)) (.mvA rfl (.s0 5001 ty38 rfl rfl rfl (.asnA rfl (.nil (.fb 5001 [2] rfl (.cons (t := 2) rfl trivial .nil) (.ret ?_)))))))
    obtain rfl := some_eq h
    exact Ends.r2 Tryz.results27 ty38 rfl rfl

theorem edit_Parse_ok {text1 : Str} {r : ((List DOp) × Int × Int)}  (h : edit_Parse text1 = some r) : FSpec Tryz.prog 11 [rep text1] (tup [rep r.1, rep r.2.1, rep r.2.2]) := by
 unfold edit_Parse at h
 refine FSpec.i Tryz.func11 rfl Tryz.ntmps11 rfl (fun F => (.sn mx (.c (.assign .none (.const (x := ([] : (List DOp))) (fun M w => ⟨_, ⟨none, 0, rfl, Nat.le_refl _, by decide, rfl⟩, rfl⟩))) (.asi (.asi (.nil (.seq (.sn mx (.mv rfl (.c (.lenStr .none Tryz.underlying9 (.s rfl)) (.c (.gt .none (.s rfl) .i) (.nil (.cb rfl h (fun _ h => ?_) fun _ h => ?_)))))))))))))
 ·
  refine .sn mx (.c (.assign .none (.const (x := ([] : (List DOp))) (fun M w => ⟨_, ⟨none, 0, rfl, Nat.le_refl _, by decide, rfl⟩, rfl⟩))) (.asi (.asi (.nil (.ret (.thenRet ?_))))))
  obtain rfl := some_eq h
  exact Ends.ret3 (.inl rfl) Tryz.results11 (ResOK.tmp rfl trivial Imp.refl) (ResOK.tmp rfl trivial Imp.refl) (ResOK.tmp rfl trivial Imp.refl)
 ·
  refine .skip (.then (.sr [([], [5])] mx (.cW (.nilRow (T := 38) (α := DOp) rfl) (.nil (.nameRow (t := 5) (g := 5001) rfl rfl rfl (fun s5001 => (.seq (.sn mx (.asi (.nil ?_))))))))))
  obtain ⟨o_2, h, hK2⟩ := bindR_some h
  refine .thenJ (ι := (List DOp)) (fun j_2 => []) (fun j_2 => [(5, some (rowV 38 j_2))]) (fun s => o_2 = Res.nx s) Sub.nil SubB.nil ?_ (fun j_2 hj2 => ?_)
  ·
   refine .block (.anon (t := 5) (g := 5001) rfl rfl trivial rfl (.loopL h (fun s3_ => [(0, ⟨True, rep s3_.1⟩), (6, ⟨True, rep s3_.2.2⟩)]) (fun s3_ => [(5, some (rowV 38 s3_.2.1))]) (.k2 0 6 rfl rfl .nil) (.k 5 rfl .nil) Sub.nil SubB.nil (fun s3_ o_3 h hD3 => ?_)))
   unfold edit_Parse_L1 at h
   refine .nameRow (t := 5) (g := 5002) rfl rfl rfl (fun s5002 => (.seq (.sn mx (.mv rfl (.c (.neS .none (eqAt_str Tryz.underlying9) (.s rfl) (.str (l := []) (by decide))) (.nil (.cb rfl h (fun _ h => ?_) fun _ h => ?_)))))))
   ·
    obtain ⟨r1, hv5, h⟩ := bind_some h
    obtain ⟨r2, hv6, h⟩ := bind_some h
    refine .skip (.then (.seq (.block (.sn mx (.mv rfl (.c (.call .none (strings_Cut_ok hv5) (.cons (.s rfl) (.cons (.str (l := [10]) (by decide)) .nil))) (.mv rfl (.ex rfl rfl (.ex rfl rfl (.ex rfl rfl (.asn rfl (.asn rfl (.asn rfl (.nil (.sn mx (.mv rfl (.asn rfl (.nil (.sr [oo, oo, oo, oo, oo, ([], [10]), ([10], [10]), oo] mx (.mvA rfl (.cA (.call .none (edit_readOp_ok hv6) (.cons (.s rfl) .nil)) (.mvA rfl (.exA rfl rfl (.exA rfl rfl (.al zo38 rfl (.st ty38 rfl rfl rfl (.asnA rfl (.nil (.freeze (t := 10) rfl rfl (.k 5002 rfl .nil) rfl (.seq (.sn mx (.mv rfl (.c (.not .none (.s rfl)) (.mv rfl (.mg rfl rfl rfl (.c (.not (.at rfl rfl) (.tmp rfl id)) (.po rfl rfl (.nil (.cb rfl h (fun _ h => ?_) fun _ h => ?_)))))))))))))))))))))))))))))))))))))))
    ·
     refine .sn mx (.mv rfl (.c (.assign .none (.const (x := ([] : (List DOp))) (fun M w => ⟨_, ⟨none, 0, rfl, Nat.le_refl _, by decide, rfl⟩, rfl⟩))) (.asn rfl (.asi (.nil (.ret (.thenRet (.blkRet (.thenRet (.thenRet (.blkRet (.thenRet ?_))))))))))))
     replace h := hD3 _ (some_eq h)
     replace h := resb_ab hK2 (some_eq h)
     obtain rfl := some_eq h
     exact Ends.ret3 (.inl rfl) Tryz.results11 (ResOK.tmp rfl trivial Imp.refl) (ResOK.tmp rfl trivial Imp.refl) (ResOK.tmp rfl trivial Imp.refl)
    ·
     obtain ⟨hn8, h⟩ := need_some h
     obtain ⟨out1, hv9, h⟩ := bnd_some h
     obtain ⟨at1, hv10, h⟩ := bnd_some h
     exact .skip (.then (.rg [oo, oo, oo, ([5002], [42, 5002]), ([42], [5, 42])] mx (.mvA rfl (.ldA ty38 rfl (.cA (.buildSlice (xs := [_]) .none sl22 ty38 hz38 (.cons (.s rfl) .nil) rfl (by decide)) (.cW (.append (k := 5002) rk22 rfl (.told (.s rfl) rfl) (.s rfl) hn8) (.cW (.passRow rfl (.tmp rfl)) (.nil (.blkNormal (.then (.reB (t := 5) rfl (congrArg (rowV 38) hv9) (.nameRow (t := 5) (g := 5003) rfl rfl rfl (fun s5003 => (.rn mx (.mv rfl (.adi rfl (.ra hv10 rfl (.nil (.anon (t := 5) (g := 5003) rfl rfl trivial rfl (Ends.ag (some_eq h)))))))))))))))))))))
   ·
    refine .exit (.thenExit (.thenExit (.blkExit (.anon (t := 5) (g := 5002) rfl rfl trivial rfl ?_))))
    replace h := hD3 _ (some_eq h)
    exact Ends.j _ (some_eq h)
  ·
   have h := resb_nx hK2 hj2
   obtain ⟨e1, hv11, h⟩ := bind_some h
   refine .freezeRowA (t := 5) rfl rfl SubB.nil rfl (.seq (.sn mx (.mv rfl (.c (.call .none (edit_Check_ok hv11) (.cons (.s rfl) .nil)) (.asn rfl (.nil (.sn mx (.mv rfl (.nei rfl (.nil (.cb rfl h (fun _ h => ?_) fun _ h => ?_)))))))))))
   ·
    refine .sn mx (.mv rfl (.c (.assign .none (.const (x := ([] : (List DOp))) (fun M w => ⟨_, ⟨none, 0, rfl, Nat.le_refl _, by decide, rfl⟩, rfl⟩))) (.asi (.asn rfl (.nil (.ret (.thenRet ?_)))))))
    obtain rfl := some_eq h
    exact Ends.ret3 (.inl rfl) Tryz.results11 (ResOK.tmp rfl trivial Imp.refl) (ResOK.tmp rfl trivial Imp.refl) (ResOK.tmp rfl trivial Imp.refl)
   ·
    refine .skip (.then (.sn mx (.mv rfl (.asn rfl (.asi (.asi (.nil (.ret ?_))))))))
    obtain rfl := some_eq h
    exact Ends.ret3 (.inl rfl) Tryz.results11 (ResOK.tmp rfl trivial Imp.refl) (ResOK.tmp rfl trivial Imp.refl) (ResOK.tmp rfl trivial Imp.refl)

theorem slices_Equal_Op_ok {s1_1 : (List DOp)} {s2_1 : (List DOp)} {r : Bool}  (h : slices_Equal_Op s1_1 s2_1 = some r) : FSpec Tryz.prog 12 [rep s1_1, rep s2_1] (rep r) := by
 unfold slices_Equal_Op at h
 refine FSpec.i Tryz.func12 rfl Tryz.ntmps12 rfl (fun F => (.sn mx (.asb (.nil (.seq (.sn mx (.mv rfl (.ln sl22 rfl (.mv rfl (.ln sl22 rfl (.c (.neI .none (.s rfl) (.s rfl)) (.nil (.cb rfl h (fun _ h => ?_) fun _ h => ?_)))))))))))))
 ·
  refine .sn mx (.asb (.nil (.ret (.thenRet ?_))))
  obtain rfl := some_eq h
  exact Ends.rt Tryz.results12 rfl
 ·
  refine .skip (.then (.seq (.sn mx (.mv rfl (.ln sl22 rfl (.mvi (.nil ?_)))))))
  obtain ⟨o_2, h, hK2⟩ := bindR_some h
  refine .tJ (fun s => o_2 = Res.nx s) Sub.nil SubB.nil ?_ (fun j_2 hj2 => ?_)
  ·
   refine .block (.rforEL h (fun p3_ => [(13, ⟨True, rep p3_.1⟩)]) (fun p3_ => []) (.k 13 rfl .nil) SubB.nil (.k2 0 1 rfl rfl (.k 12 rfl .nil)) SubB.nil (fun p3_ o_3 h hD3 => (.sn mx (.lt rfl rfl (.nil (.seq (.cb rfl h (fun _ h => ?_) fun _ h => ?_)))))))
   ·
    refine .skip (.then (.seq ?_))
    obtain ⟨o_5, h, hK5⟩ := bindD_some h
    unfold slices_Equal_Op_L1 at h
    refine .tJ (fun s => o_5 = Res.nx s) (.k4 0 1 12 13 rfl rfl rfl rfl .nil) SubB.nil ?_ (fun j_5 hj5 => ?_)
    ·
     obtain ⟨hn6, h⟩ := need_some h
     obtain ⟨hn7, h⟩ := need_some h
     refine .block (.sn mx (.mv rfl (.asn rfl (.nil (.sn mx (.mv rfl (.mv rfl (.ix sl22 ty38 rfl rfl hn6 (.ld ty38 rfl (.mv rfl (.mv rfl (.ix sl22 ty38 rfl rfl hn7 (.ld ty38 rfl (.c (.neS .none eqa38 (.s rfl) (.s rfl)) (.nil (.cb rfl h (fun _ h => ?_) fun _ h => ?_))))))))))))))))
     ·
      refine .sn mx (.asb (.nil (.ret (.blkRet (.thenRet (.thenRet (.blkRet (.thenRet ?_))))))))
      replace h := resd_ab hK5 (some_eq h)
      replace h := hD3 _ (some_eq h)
      replace h := resb_ab hK2 (some_eq h)
      obtain rfl := some_eq h
      exact Ends.rt Tryz.results12 rfl
     ·
      exact .skip (.blkNormal (Ends.j _ (some_eq h)))
    ·
     have h := resd_nx hK5 hj5
     exact .rn mx (.adi rfl (.mv rfl (.nil (Ends.ag (some_eq h)))))
   ·
    refine .exit (.thenExit (.thenExit (.blkExit ?_)))
    replace h := hD3 _ (some_eq h)
    exact Ends.j _ (some_eq h)
  ·
   have h := resb_nx hK2 hj2
   refine .sn mx (.asb (.nil (.ret ?_)))
   obtain rfl := some_eq h
   exact Ends.rt Tryz.results12 rfl

theorem law_OpsPrint_ok {l1 : (List DOp)} {text1 : Str} {r : Bool}  (h : law_OpsPrint l1 text1 = some r) : FSpec Tryz.prog 3 [rep l1, rep text1] (rep r) := by
 unfold law_OpsPrint at h
 obtain ⟨r1, hv1, h⟩ := bind_some h
 obtain ⟨want1, hv2, h⟩ := bind_some h
 refine FSpec.i Tryz.func3 rfl Tryz.ntmps3 rfl (fun F => (.sn mx (.c (.box .none (.s rfl)) (.asb (.nil (.sn mx (.ld ty22 rfl (.c (.call .none (edit_Print_ok hv1) (.cons (.s rfl) .nil)) (.mv rfl (.ex rfl rfl (.ex rfl rfl (.asn rfl (.asn rfl (.nil (.sn mx (.ld ty22 rfl (.c (.call .none (ref_OpsError_ok hv2) (.cons (.s rfl) .nil)) (.asn rfl (.nil (.seq (.sn mx (.mv rfl (.eqi rfl (.nil ?_))))))))))))))))))))))))
 obtain ⟨j_3, h, hK3⟩ := bind_some h
 refine .thenJ (ι := Int) (fun j_3 => [(7, ⟨True, rep j_3⟩)]) (fun j_3 => []) (fun s => j_3 = s) (.k4 1 2 5 6 rfl rfl rfl rfl .nil) SubB.nil ?_ (fun j_3' hj3 => ?_)
 ·
  refine .cb rfl h (fun _ h => ?_) fun _ h => ?_
  ·
   obtain ⟨r2, hv5, h⟩ := bind_some h
   obtain ⟨want2, hv6, h⟩ := bind_some h
   exact .rn mx (.ld ty22 rfl (.c (.call .none (ref_OpsText_ok hv5) (.cons (.s rfl) .nil)) (.c (.lenStr .none Tryz.underlying9 (.s rfl)) (.c (.gt .none (.s rfl) .i) (.c (.call .none (ref_When_ok hv6) (.cons (.s rfl) (.cons .i .nil))) (.asn rfl (.nil (Ends.j _ (some_eq h)))))))))
  ·
   exact .skip (Ends.j _ (some_eq h))
 ·
  subst hj3; have h := hK3; clear hK3
  obtain ⟨r3, hv7, h⟩ := bind_some h
  refine .seq (.sn mx (.c (.call .none (law_edits_ok hv7) .nil) (.c (.not .none (.s rfl)) (.mv rfl (.mg rfl rfl rfl (.mg rfl rfl rfl (.mg rfl rfl rfl (.c (.makeFunc (ι := Str) (pre := fun i => (law_OpsPrint_1 l1)  = some i) (Ss := fun i => []) (S := fun i => rep i) (.at rfl rfl) fnok10 (fun i h => law_OpsPrint_1_ok h) (.cons (.s rfl) .nil)) ?_))))))))
  obtain ⟨r4, hv8, h⟩ := bind_some h
  refine .c (.callIf (.at rfl rfl) fnok9 (fun hg => law_is_string_ok ((fun hg => gd_some hv8 ((notT hg.2))) hg)) (.cons (.tmp rfl id) (.cons (.tmp rfl id) (.cons (.tmp rfl id) (.cons (.tmp rfl id) .nil)))) (fun h => h)) (.c (.not (.at rfl rfl) (.tmp rfl id)) (.po rfl rfl (.nil (.cb rfl h (fun _ h => ?_) fun _ h => ?_))))
  ·
   refine .sn mx (.asb (.nil (.ret (.thenRet ?_))))
   obtain rfl := some_eq h
   exact Ends.rt Tryz.results3 rfl
  ·
   refine .skip (.then (.seq (.sn mx (.mv rfl (.eqi rfl (.nil ?_))))))
   obtain ⟨o_10, h, hK10⟩ := bindR_some h
   refine .tJ (fun s => o_10 = Res.nx s) (.k 1 rfl .nil) SubB.nil ?_ (fun j_10 hj10 => ?_)
   ·
    refine .cb rfl h (fun _ h => ?_) fun _ h => ?_
    ·
     obtain ⟨r5, hv12, h⟩ := bind_some h
     obtain ⟨r6, hv13, h⟩ := bind_some h
     refine .sn mx (.mv rfl (.c (.call .none (edit_Parse_ok hv12) (.cons (.s rfl) .nil)) (.mv rfl (.ex rfl rfl (.ex rfl rfl (.ex rfl rfl (.asn rfl (.asn rfl (.asn rfl (.nil (.sn mx (.mv rfl (.nei rfl (.mv rfl (.mg rfl rfl rfl (.c (.neI (.at rfl rfl) (.tmp rfl id) .i) (.po rfl rfl (.mv rfl (.mg rfl rfl rfl (.c (.load (.at rfl rfl) ty22 (.s rfl)) (.c (.callIf (.at rfl rfl) fnok12 (fun hg => slices_Equal_Op_ok ((fun hg => gd_some hv13 ((notT hg.2))) hg)) (.cons (.tmp rfl id) (.cons (.tmp rfl id) .nil)) (fun h => h)) (.c (.not (.at rfl rfl) (.tmp rfl id)) (.po rfl rfl (.nil (.cb rfl h (fun _ h => ?_) fun _ h => ?_)))))))))))))))))))))))))
     ·
      refine .sn mx (.asb (.nil (.ret (.thenRet ?_))))
      replace h := resb_ab hK10 (some_eq h)
      obtain rfl := some_eq h
      exact Ends.rt Tryz.results3 rfl
     ·
      exact .skip (Ends.j _ (some_eq h))
    ·
     exact .skip (Ends.j _ (some_eq h))
   ·
    have h := resb_nx hK10 hj10
    obtain ⟨r7, hv15, h⟩ := bind_some h
    refine .sn mx (.mv rfl (.c (.call .none (edit_Parse_ok hv15) (.cons (.s rfl) .nil)) (.mv rfl (.ex rfl rfl (.ex rfl rfl (.ex rfl rfl (.asn rfl (.asn rfl (.asn rfl (.nil (.seq (.sn mx (.mv rfl (.eqi rfl (.nil (.cb rfl h (fun _ h => ?_) fun _ h => ?_))))))))))))))))
    ·
     obtain ⟨r8, hv17, h⟩ := bind_some h
     refine .sn mx (.mv rfl (.eqi rfl (.mv rfl (.mg rfl rfl rfl (.c (.callIf (.at rfl rfl) fnok5 (fun hg => ref_OpsError_ok ((fun hg => gd_some hv17 (hg.2)) hg)) (.cons (.tmp rfl id) .nil) (fun h => h)) ?_)))))
     obtain ⟨r9, hv18, h⟩ := bind_some h
     refine .c (.eqI (.at rfl rfl) (.tmp rfl id) .i) (.pa rfl rfl (.mv rfl (.mg rfl rfl rfl (.c (.callIf (.at rfl rfl) fnok7 (fun hg => ref_OpsText_ok ((fun hg => gd_some hv18 (hg.2)) hg)) (.cons (.tmp rfl id) .nil) (fun h => h)) (.mg rfl rfl rfl (.c (.eqS (.at rfl rfl) (eqAt_str Tryz.underlying9) (.tmp rfl id) (.tmp rfl id)) (.pa rfl rfl (.asn rfl (.nil (.ret (.thenRet ?_)))))))))))
     obtain rfl := some_eq h
     exact Ends.rt Tryz.results3 rfl
    ·
     obtain ⟨r10, hv19, h⟩ := bind_some h
     refine .skip (.then (.sn mx (.mv rfl (.ln sl22 rfl (.eqi rfl (.mv rfl (.mg rfl rfl rfl (.mg rfl rfl rfl (.c (.callIf (.at rfl rfl) fnok14 (fun hg => strings_Count_ok ((fun hg => gd_some hv19 (hg.2)) hg)) (.cons (.tmp rfl id) (.cons (.str (l := [10]) (by decide)) .nil)) (fun h => h)) ?_)))))))))
     obtain ⟨r11, hv20, h⟩ := bind_some h
     refine .c (.callIf (.at rfl rfl) fnok13 (fun hg => ref_In_ok ((fun hg => gd_some hv20 (hg.2)) hg)) (.cons (.tmp rfl id) (.cons .i (.cons (.tmp rfl id) .nil))) (fun h => h)) (.pa rfl rfl (.mv rfl (.mg rfl rfl rfl (.c (.eqI (.at rfl rfl) (.tmp rfl id) .i) (.c (.move (.at rfl rfl) (.tmp rfl id)) (.mg rfl rfl rfl (.c (.eqI (.at rfl rfl) (.tmp rfl id) .i) (.c (.pickOr (.at rfl rfl) (.tmp rfl id) (.tmp rfl id)) (.pa rfl rfl (.asn rfl (.nil (.ret ?_))))))))))))
     obtain rfl := some_eq h
     exact Ends.rt Tryz.results3 rfl


end Go.Proofs.YtjnglmeiifcgjaaGreatDoor
