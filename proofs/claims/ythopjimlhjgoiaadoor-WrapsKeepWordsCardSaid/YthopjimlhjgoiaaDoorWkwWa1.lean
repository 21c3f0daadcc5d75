/-
  The walks: what a function computes is what its plain function says (printed by a program of one's own).
-/
import Derived.Test.YthopjimlhjgoiaaDoorWkwFa
set_option maxRecDepth 100000
set_option linter.unusedSimpArgs false
set_option linter.unusedVariables false
namespace Go.Proofs.YthopjimlhjgoiaaDoor
open Go Go.DB Go.RowKit

theorem strings_ReplaceAll_ok {s old new : Str} {r : Str} (h : strings_ReplaceAll s old new = some r) : FSpec Tryd.prog 40 [rep s, rep old, rep new] (rep r) := by
 obtain ⟨hn, h⟩ := need_some h
 obtain rfl := some_eq h
 exact replS_spec replStr_lay replStr_extra rfl rfl fnok40 hn

theorem strings_Join_ok {l : List Str} {sep : Str} {r : Str} (h : strings_Join l sep = some r) : FSpec Tryd.prog 38 [rep l, rep sep] (rep r) := by
 obtain ⟨hn, h⟩ := need_some h
 obtain rfl := some_eq h
 exact joinS_spec joinStr_lay joinStr_extra rfl fnok38 hn

theorem strings_Fields_ok {s : Str} {r : List Str} (h : strings_Fields s = some r) : FSpecO Tryd.prog 39 [rep s] [] (anyV) [some (rowV 9 r)] := by
 obtain ⟨hn, h⟩ := need_some h
 obtain rfl := some_eq h
 exact fieldsS_spec fieldsStr_lay (by kernel_rfl) (by kernel_rfl) (by kernel_rfl) rfl rfl rfl rfl fnok39 hn

theorem strings_IndexByte_ok {s : Str} {c : KI .u8} {r : Int} (h : strings_IndexByte s c = some r) : FSpec Tryd.prog 93 [rep s, rep c] (rep r) := by
 obtain ⟨hn, h⟩ := need_some h
 obtain rfl := some_eq h
 exact indexByteS_spec indexByteStr_lay rfl fnok93 hn

theorem strings_Contains_ok {s sep : Str} {r : Bool} (h : strings_Contains s sep = some r) : FSpec Tryd.prog 18 [rep s, rep sep] (rep r) := by
 obtain ⟨hn, h⟩ := need_some h
 obtain rfl := some_eq h
 exact hasByte_spec containsStr_lay rfl fnok18 hn

theorem utf8_ValidString_ok {s : Str} {r : Bool} (h : utf8_ValidString s = some r) : FSpec Tryd.prog 42 [rep s] (rep r) := by
 obtain rfl := some_eq h
 exact validS_spec validStr_lay rfl rfl rfl fnok42

theorem utf8_RuneCountInString_ok {s : Str} {r : Int} (h : utf8_RuneCountInString s = some r) : FSpec Tryd.prog 80 [rep s] (rep r) := by
 obtain ⟨hn, h⟩ := need_some h
 obtain rfl := some_eq h
 exact runesS_spec runesStr_lay rfl fnok80 hn

theorem strings_Split_ok {s sep : Str} {r : List Str} (h : strings_Split s sep = some r) : FSpecO Tryd.prog 49 [rep s, rep sep] [] (anyV) [some (rowV 9 r)] := by
 obtain ⟨hn, h⟩ := need_some h
 obtain rfl := some_eq h
 exact splitS_spec splitStr_lay (by kernel_rfl) rfl rfl rfl fnok49 hn.1 hn.2

theorem shape_CheckFont_ok {f1 : Font} {r : Int}  (h : shape_CheckFont f1 = some r) : FSpec Tryd.prog 14 [rep f1] (rep r) := by
 unfold shape_CheckFont at h
 obtain ⟨v1, hv1, h⟩ := bnd_some h
 refine FSpec.i Tryd.func14 rfl Tryd.ntmps14 rfl (fun F => (.sn mx (.c (.box .none (.s rfl)) (.asi (.nil (.seq (.sn mx (.fa fd23_0 hfd23_0 rfl (.ld ty3 rfl (.fa fd23_1 hfd23_1 rfl (.ld ty3 rfl (.fa fd23_2 hfd23_2 rfl (.ld ty3 rfl (.fa fd23_3 hfd23_3 rfl (.ld ty3 rfl (.c (.re hv1 (.buildSlice (xs := [_, _, _, _]) .none sl75 ty3 hz3 (.cons (.s rfl) (.cons (.s rfl) (.cons (.s rfl) (.cons (.s rfl) .nil)))) rfl (by decide))) (.ln sl75 rfl (.mvi (.nil ?_)))))))))))))))))))
 obtain ⟨o_2, h, hK2⟩ := bindR_some h
 refine .tJ (fun s => o_2 = Res.nx s) (.k 1 rfl .nil) SubB.nil ?_ (fun j_2 hj2 => ?_)
 ·
  refine .block (.rforEL h (fun p3_ => [(15, ⟨True, rep p3_.1⟩)]) (fun p3_ => []) (.k 15 rfl .nil) SubB.nil (.k2 1 13 rfl rfl (.k 14 rfl .nil)) SubB.nil (fun p3_ o_3 h hD3 => (.sn mx (.lt rfl rfl (.nil (.seq (.cb rfl h (fun _ h => ?_) fun _ h => ?_)))))))
  ·
   refine .skip (.then (.seq ?_))
   obtain ⟨o_5, h, hK5⟩ := bindD_some h
   unfold shape_CheckFont_L1 at h
   refine .tJ (fun s => o_5 = Res.nx s) (.k4 1 13 14 15 rfl rfl rfl rfl .nil) SubB.nil ?_ (fun j_5 hj5 => ?_)
   ·
    obtain ⟨hn6, h⟩ := need_some h
    obtain ⟨n1, hv7, h⟩ := bnd_some h
    refine .block (.sn mx (.ix sl75 ty3 rfl rfl hn6 (.ld ty3 rfl (.ra hv7 rfl (.nil (.sn mx (.mv rfl (.c (.lt .none (.s rfl) .i) (.mv rfl (.mg rfl rfl rfl (.c (.gt (.at rfl rfl) (.tmp rfl id) .i) (.po rfl rfl (.nil (.cb rfl h (fun _ h => ?_) fun _ h => ?_))))))))))))))
    ·
     refine .sn mx (.asi (.nil (.ret (.blkRet (.thenRet (.thenRet (.blkRet (.thenRet ?_))))))))
     replace h := resd_ab hK5 (some_eq h)
     replace h := hD3 _ (some_eq h)
     replace h := resb_ab hK2 (some_eq h)
     obtain rfl := some_eq h
     exact Ends.rt Tryd.results14 rfl
    ·
     exact .skip (.blkNormal (Ends.j _ (some_eq h)))
   ·
    have h := resd_nx hK5 hj5
    exact .rn mx (.adi rfl (.mv rfl (.nil (Ends.ag (some_eq h)))))
  ·
   refine .exit (.thenExit (.thenExit (.blkExit ?_)))
   replace h := hD3 _ (some_eq h)
   exact Ends.j _ (some_eq h)
 ·
  have h := resb_nx hK2 hj2
  refine .seq (.sn mx (.fa fd23_1 hfd23_1 rfl (.ld ty3 rfl (.fa fd23_2 hfd23_2 rfl (.ld ty3 rfl (.c (.gt .none (.s rfl) (.s rfl)) (.mv rfl (.fg fd23_2 hfd23_2 rfl rfl rfl (.lg ty3 rfl rfl rfl (.fg fd23_3 hfd23_3 rfl rfl rfl (.lg ty3 rfl rfl rfl (.c (.gt (.at rfl rfl) (.tmp rfl id) (.tmp rfl id)) (.po rfl rfl (.nil (.cb rfl h (fun _ h => ?_) fun _ h => ?_)))))))))))))))
  ·
   refine .sn mx (.asi (.nil (.ret (.thenRet ?_))))
   obtain rfl := some_eq h
   exact Ends.rt Tryd.results14 rfl
  ·
   refine .skip (.then (.sn mx (.asi (.nil (.ret ?_)))))
   obtain rfl := some_eq h
   exact Ends.rt Tryd.results14 rfl

theorem shape_CheckText_ok {s1 : Str} {r : Int}  (h : shape_CheckText s1 = some r) : FSpec Tryd.prog 15 [rep s1] (rep r) := by
 unfold shape_CheckText at h
 refine FSpec.i Tryd.func15 rfl Tryd.ntmps15 rfl (fun F => (.sn mx (.asi (.nil (.seq (.sn mx (.mv rfl (.c (.lenStr .none Tryd.underlying9 (.s rfl)) (.c (.gt .none (.s rfl) .i) (.nil (.cb rfl h (fun _ h => ?_) fun _ h => ?_)))))))))))
 ·
  refine .sn mx (.asi (.nil (.ret (.thenRet ?_))))
  obtain rfl := some_eq h
  exact Ends.rt Tryd.results15 rfl
 ·
  obtain ⟨r1, hv2, h⟩ := bind_some h
  refine .skip (.then (.seq (.sn mx (.mv rfl (.c (.call .none (utf8_ValidString_ok hv2) (.cons (.s rfl) .nil)) (.c (.not .none (.s rfl)) (.nil (.cb rfl h (fun _ h => ?_) fun _ h => ?_))))))))
  ·
   refine .sn mx (.asi (.nil (.ret (.thenRet ?_))))
   obtain rfl := some_eq h
   exact Ends.rt Tryd.results15 rfl
  ·
   refine .skip (.then (.seq (.sn mx (.mv rfl (.c (.lenStr .none Tryd.underlying9 (.s rfl)) (.mvi (.nil ?_)))))))
   obtain ⟨o_4, h, hK4⟩ := bindR_some h
   refine .tJ (fun s => o_4 = Res.nx s) Sub.nil SubB.nil ?_ (fun j_4 hj4 => ?_)
   ·
    refine .block (.rforEL h (fun p5_ => [(12, ⟨True, rep p5_.1⟩)]) (fun p5_ => []) (.k 12 rfl .nil) SubB.nil (.k2 0 11 rfl rfl .nil) SubB.nil (fun p5_ o_5 h hD5 => (.sn mx (.lt rfl rfl (.nil (.seq (.cb rfl h (fun _ h => ?_) fun _ h => ?_)))))))
    ·
     refine .skip (.then (.seq ?_))
     obtain ⟨o_7, h, hK7⟩ := bindD_some h
     unfold shape_CheckText_L1 at h
     refine .tJ (fun s => o_7 = Res.nx s) (.k2 0 11 rfl rfl (.k 12 rfl .nil)) SubB.nil ?_ (fun j_7 hj7 => ?_)
     ·
      obtain ⟨hn8, h⟩ := need_some h
      obtain ⟨hn9, h⟩ := need_some h
      obtain ⟨hn10, h⟩ := need_some h
      refine .block (.sn mx (.mv rfl (.asn rfl (.nil (.sn mx (.mv rfl (.mv rfl (.c (.indexStr .none Tryd.underlying9 (.s rfl) (.s rfl) (fun _ => hn8)) (.c (.klss .none (.s rfl) .ki) (.mv rfl (.mg rfl rfl rfl (.mg rfl rfl rfl (.c (.indexStr (.at rfl rfl) Tryd.underlying9 (.tmp rfl id) (.tmp rfl id) (fun hg => hn9 hg.2)) (.c (.kneq (.at rfl rfl) (.tmp rfl id) .ki) (.pa rfl rfl (.mv rfl (.mg rfl rfl rfl (.mg rfl rfl rfl (.c (.indexStr (.at rfl rfl) Tryd.underlying9 (.tmp rfl id) (.tmp rfl id) (fun hg => hn10 hg.2)) (.c (.keql (.at rfl rfl) (.tmp rfl id) .ki) (.po rfl rfl (.nil (.cb rfl h (fun _ h => ?_) fun _ h => ?_)))))))))))))))))))))))
      ·
       refine .sn mx (.asi (.nil (.ret (.blkRet (.thenRet (.thenRet (.blkRet (.thenRet ?_))))))))
       replace h := resd_ab hK7 (some_eq h)
       replace h := hD5 _ (some_eq h)
       replace h := resb_ab hK4 (some_eq h)
       obtain rfl := some_eq h
       exact Ends.rt Tryd.results15 rfl
      ·
       exact .skip (.blkNormal (Ends.j _ (some_eq h)))
     ·
      have h := resd_nx hK7 hj7
      exact .rn mx (.adi rfl (.mv rfl (.nil (Ends.ag (some_eq h)))))
    ·
     refine .exit (.thenExit (.thenExit (.blkExit ?_)))
     replace h := hD5 _ (some_eq h)
     exact Ends.j _ (some_eq h)
   ·
    have h := resb_nx hK4 hj4
    refine .sn mx (.asi (.nil (.ret ?_)))
    obtain rfl := some_eq h
    exact Ends.rt Tryd.results15 rfl

theorem shape_checkBoth_ok {f1 : Font} {s1 : Str} {r : Int}  (h : shape_checkBoth f1 s1 = some r) : FSpec Tryd.prog 43 [rep f1, rep s1] (rep r) := by
 unfold shape_checkBoth at h
 obtain ⟨e1, hv1, h⟩ := bind_some h
 refine FSpec.i Tryd.func43 rfl Tryd.ntmps43 rfl (fun F => (.sn mx (.c (.box .none (.s rfl)) (.asi (.nil (.seq (.sn mx (.ld ty23 rfl (.c (.call .none (shape_CheckFont_ok hv1) (.cons (.s rfl) .nil)) (.asn rfl (.nil (.sn mx (.mv rfl (.nei rfl (.nil (.cb rfl h (fun _ h => ?_) fun _ h => ?_))))))))))))))))
 ·
  refine .sn mx (.mv rfl (.asn rfl (.nil (.ret (.thenRet ?_)))))
  obtain rfl := some_eq h
  exact Ends.rt Tryd.results43 rfl
 ·
  obtain ⟨r1, hv3, h⟩ := bind_some h
  refine .skip (.then (.sn mx (.mv rfl (.c (.call .none (shape_CheckText_ok hv3) (.cons (.s rfl) .nil)) (.asn rfl (.nil (.ret ?_)))))))
  obtain rfl := some_eq h
  exact Ends.rt Tryd.results43 rfl

theorem slices_IndexFunc_string_ok {s1 : (List Str)} {f1 : (Str → Option Bool)} {r : Int}  (h : slices_IndexFunc_string s1 f1 = some r) : FSpec Tryd.prog 96 [rep s1, fn1 Tryd.prog (rep (α := Bool)) f1] (rep r) := by
 unfold slices_IndexFunc_string at h
 refine FSpec.i Tryd.func96 rfl Tryd.ntmps96 rfl (fun F => (.sn mx (.asi (.nil (.seq (.sn mx (.mv rfl (.ln sl30 rfl (.mvi (.nil ?_))))))))))
 obtain ⟨o_1, h, hK1⟩ := bindR_some h
 refine .tJ (fun s => o_1 = Res.nx s) Sub.nil SubB.nil ?_ (fun j_1 hj1 => ?_)
 ·
  refine .block (.rforEL h (fun p2_ => [(8, ⟨True, rep p2_.1⟩)]) (fun p2_ => []) (.k 8 rfl .nil) SubB.nil (.k2 0 1 rfl rfl (.k 7 rfl .nil)) SubB.nil (fun p2_ o_2 h hD2 => (.sn mx (.lt rfl rfl (.nil (.seq (.cb rfl h (fun _ h => ?_) fun _ h => ?_)))))))
  ·
   refine .skip (.then (.seq ?_))
   obtain ⟨o_4, h, hK4⟩ := bindD_some h
   unfold slices_IndexFunc_string_L1 at h
   refine .tJ (fun s => o_4 = Res.nx s) (.k4 0 1 7 8 rfl rfl rfl rfl .nil) SubB.nil ?_ (fun j_4 hj4 => ?_)
   ·
    obtain ⟨hn5, h⟩ := need_some h
    obtain ⟨r1, hv6, h⟩ := bind_some h
    refine .block (.sn mx (.mv rfl (.asn rfl (.nil (.sn mx (.mv rfl (.mv rfl (.mv rfl (.ix sl30 ty9 rfl rfl hn5 (.ld ty9 rfl (.c (.callV (gx s1 p2_.1, r1) .none (.s rfl) (fun _ => hv6) (.cons (.s rfl) .nil)) (.nil (.cb rfl h (fun _ h => ?_) fun _ h => ?_)))))))))))))
    ·
     refine .sn mx (.mv rfl (.asn rfl (.nil (.ret (.blkRet (.thenRet (.thenRet (.blkRet (.thenRet ?_)))))))))
     replace h := resd_ab hK4 (some_eq h)
     replace h := hD2 _ (some_eq h)
     replace h := resb_ab hK1 (some_eq h)
     obtain rfl := some_eq h
     exact Ends.rt Tryd.results96 rfl
    ·
     exact .skip (.blkNormal (Ends.j _ (some_eq h)))
   ·
    have h := resd_nx hK4 hj4
    exact .rn mx (.adi rfl (.mv rfl (.nil (Ends.ag (some_eq h)))))
  ·
   refine .exit (.thenExit (.thenExit (.blkExit ?_)))
   replace h := hD2 _ (some_eq h)
   exact Ends.j _ (some_eq h)
 ·
  have h := resb_nx hK1 hj1
  refine .sn mx (.asi (.nil (.ret ?_)))
  obtain rfl := some_eq h
  exact Ends.rt Tryd.results96 rfl

theorem slices_DeleteFunc_string_ok {s1 : (List Str)} {del1 : (Str → Option Bool)} {r : (List Str)} {s42 : Value} (h : slices_DeleteFunc_string s1 del1 = some r) : FSpecO Tryd.prog 78 [isV s42, fn1 Tryd.prog (rep (α := Bool)) del1] [(s42, rowV 9 s1)] (anyV) [none, some (rowV 9 r)] := by
 unfold slices_DeleteFunc_string at h
 obtain ⟨i1, hv1, h⟩ := bind_some h
 refine FSpecO.i Tryd.func78 rfl Tryd.ntmps78 rfl (fun F => (.sn mx (.c (.assign .none (.const (x := ([] : (List Str))) (fun M w => ⟨_, ⟨none, 0, rfl, Nat.le_refl _, by decide, rfl⟩, rfl⟩))) (.nil (.sr [oo, oo, ([42], []), oo] mx (.mvA rfl (.mvA rfl (.cA (.callC .none fnok96 (fun hg => slices_IndexFunc_string_ok  hv1) .rep (.lend (k := 42) (.told (.s rfl) rfl) (.cons (.s rfl) .nil))) (.asnA rfl (.nil (.seq (.sn mx (.mv rfl (.eqi rfl (.nil (.cb rfl h (fun _ h => ?_) fun _ h => ?_))))))))))))))))
 ·
  refine .sn mx (.mv rfl (.asn rfl (.nil (.ret (.thenRet (.anon (t := 4) (g := 42) rfl rfl trivial rfl ?_))))))
  obtain rfl := some_eq h
  exact Ends.ret1O (.inl rfl) [42, 4] Tryd.results78 (by decide) (.skip (.res rfl rfl)) (ResOK.tmp rfl trivial (fun _ _ _ _ => trivial))
 ·
  obtain ⟨j1, hv3, h⟩ := bnd_some h
  refine .skip (.then (.seq (.sn mx (.mv rfl (.adi rfl (.ra hv3 rfl (.nil ?_)))))))
  obtain ⟨j_4, h, hK4⟩ := bind_some h
  refine .thenJ (ι := (Int × (List Str))) (fun j_4 => [(5, ⟨True, rep j_4.1⟩)]) (fun j_4 => [(42, some (CPred.at s42 (rowV 9 j_4.2)))]) (fun s => j_4 = s) (.k 0 rfl .nil) SubB.nil ?_ (fun j_4' hj4 => ?_)
  ·
   refine .block (.loopL h (fun s5_ => [(5, ⟨True, rep s5_.1⟩), (6, ⟨True, rep s5_.2.1⟩)]) (fun s5_ => [(42, some (CPred.at s42 (rowV 9 s5_.2.2)))]) (.k2 5 6 rfl rfl .nil) (.k 42 rfl .nil) (.k2 0 1 rfl rfl .nil) SubB.nil (fun s5_ o_5 h hD5 => ?_))
   unfold slices_DeleteFunc_string_L1 at h
   refine .seq (.sr [oo, oo, ([42], []), oo] mx (.mvA rfl (.mvA rfl (.cA (.lenO (k := 42) sl30 (.told (.s rfl) rfl)) (.cA (.lt .none (.s rfl) (.s rfl)) (.nil (.cb rfl h (fun _ h => ?_) fun _ h => ?_)))))))
   ·
    refine .skip (.then (.seq ?_))
    obtain ⟨j_7, h, hK7⟩ := bind_some h
    refine .thenJ (ι := (Int × (List Str))) (fun j_7 => [(5, ⟨True, rep j_7.1⟩)]) (fun j_7 => [(42, some (CPred.at s42 (rowV 9 j_7.2)))]) (fun s => j_7 = s) (.k2 0 1 rfl rfl (.k 6 rfl .nil)) SubB.nil ?_ (fun j_7' hj7 => ?_)
    ·
     obtain ⟨hn8, h⟩ := need_some h
     obtain ⟨v1, hv9, h⟩ := bnd_some h
     obtain ⟨r1, hv10, h⟩ := bind_some h
     refine .block (.sr [oo, oo, ([42], []), ([42], []), oo] mx (.mvA rfl (.mvA rfl (.ixO 42 sl30 ty9 rfl rfl rfl hn8 (.cA (.loadElem0 (k := 42) .none ty9 (.s rfl) rfl (fun _ => hn8)) (.cA (.re hv9 (.assign .none (.s rfl))) (.nil (.sn mx (.mv rfl (.mv rfl (.c (.callV (v1, r1) .none (.s rfl) (fun _ => hv10) (.cons (.s rfl) .nil)) (.c (.not .none (.s rfl)) (.nil (.cb rfl h (fun _ h => ?_) fun _ h => ?_))))))))))))))
     ·
      obtain ⟨hn12, h⟩ := need_some h
      obtain ⟨s2, hv13, h⟩ := bnd_some h
      obtain ⟨i2, hv14, h⟩ := bnd_some h
      exact .sr [oo, oo, oo, ([42], []), ([42], [42])] mx (.mvA rfl (.mvA rfl (.mvA rfl (.ixO 42 sl30 ty9 rfl rfl rfl hn12 (.cN (.storeElem0 (k := 42) ty9 (.s rfl) rfl (.s rfl) hn12) (.nil (.reB (t := 42) rfl (congrArg (fun y => CPred.at s42 (rowV 9 y)) hv13) (.rn mx (.mv rfl (.adi rfl (.ra hv14 rfl (.nil (.blkNormal (Ends.j _ (some_eq h)))))))))))))))
     ·
      exact .skip (.blkNormal (Ends.j _ (some_eq h)))
    ·
     subst hj7; have h := hK7; clear hK7
     obtain ⟨j2, hv15, h⟩ := bnd_some h
     exact .rn mx (.mv rfl (.adi rfl (.ra hv15 rfl (.nil (Ends.ag (some_eq h))))))
   ·
    refine .exit (.thenExit (.thenExit (.blkExit ?_)))
    replace h := hD5 _ (some_eq h)
    exact Ends.j _ (some_eq h)
  ·
   subst hj4; have h := hK4; clear hK4
   obtain ⟨hn16, h⟩ := need_some h
   obtain ⟨s3, hv17, h⟩ := bnd_some h
   obtain ⟨hn18, h⟩ := need_some h
   obtain ⟨v2, hv19, h⟩ := bnd_some h
   refine .sr [oo, oo, ([42], []), ([42], [42])] mx (.mvA rfl (.mvA rfl (.cA (.sliceLend (k := 42) sl30 ty9 (.s rfl) rfl (.s rfl) rfl hn16) (.cN (.clearPart (k := 42) sl30 zo9 (.s rfl) rfl hn16) (.nil (.reB (t := 42) rfl (congrArg (fun y => CPred.at s42 (rowV 9 y)) hv17) (.sr [oo, oo, ([42], [41, 42]), ([41], [4, 41])] mx (.mvA rfl (.mvA rfl (.cW (.sliceRow (k := 42) sl30 ty9 rfl (.s rfl) rfl rfl (.s rfl) hn18) (.cW (.passRow rfl (.tmp rfl)) (.nil (.reB (t := 4) rfl (congrArg (rowV 9) hv19) (.nameRow (t := 4) (g := 5001) rfl rfl rfl (fun s5001 => (.ret (.anon (t := 4) (g := 5001) rfl rfl trivial rfl ?_)))))))))))))))))
   obtain rfl := some_eq h
   exact Ends.ret1O (.inl rfl) [42, 4] Tryd.results78 (by decide) (.skip (.res rfl rfl)) (ResOK.tmp rfl trivial (fun _ _ _ _ => trivial))

theorem shape_wordsOf_1_ok {w1 : Str} {r : Bool}  (h : shape_wordsOf_1 w1 = some r) : FSpec Tryd.prog 79 [rep w1] (rep r) := by
 unfold shape_wordsOf_1 at h
 refine FSpec.i Tryd.func79 rfl Tryd.ntmps79 rfl (fun F => (.sn mx (.asb (.nil (.sn mx (.mv rfl (.c (.eqS .none (eqAt_str Tryd.underlying9) (.s rfl) (.str (l := []) (by decide))) (.asn rfl (.nil (.ret ?_))))))))))
 obtain rfl := some_eq h
 exact Ends.rt Tryd.results79 rfl

theorem shape_wordsOf_ok {part1 : Str} {r : (List Str)}  (h : shape_wordsOf part1 = some r) : FSpec Tryd.prog 53 [rep part1] (rep r) := by
 unfold shape_wordsOf at h
 obtain ⟨r1, hv1, h⟩ := bind_some h
 obtain ⟨r2, hv2, h⟩ := bind_some h
 refine FSpec.i Tryd.func53 rfl Tryd.ntmps53 rfl (fun F => (.sn mx (.c (.assign .none (.const (x := ([] : (List Str))) (fun M w => ⟨_, ⟨none, 0, rfl, Nat.le_refl _, by decide, rfl⟩, rfl⟩))) (.nil (.sr [oo, ([], [4]), ([4], [4]), oo] mx (.mvA rfl (.cW (.cO [] (strings_Split_ok hv1) (.cons (.s rfl) (.cons (.str (l := [32]) (by decide)) .nil)) .nil rfl) (.cW (.tell (t := 4) rfl row_one rfl (by decide) (fun _ => StepOK.callO [4] ((slices_DeleteFunc_string_ok hv2).frzO1) (.cons (.s rfl) (.cons (Opd.func (ι := Str × Bool) (pre := fun i => shape_wordsOf_1 i.1 = some i.2) (Ss := fun i => [rep i.1]) (S := fun i => rep i.2) fnok79 (fun i h => shape_wordsOf_1_ok h)) .nil)) (.cons (k := 4) rfl .nil) rfl (by decide) (by decide) (by intro d h; cases h; decide))) (.asnA rfl (.nil (.ret ?_)))))))))))
 obtain rfl := some_eq h
 exact Ends.rt Tryd.results53 rfl

theorem utf8_ValidRune_ok {r1 : (KI .i32)} {r : Bool}  (h : utf8_ValidRune r1 = some r) : FSpec Tryd.prog 94 [rep r1] (rep r) := by
 unfold utf8_ValidRune at h
 refine FSpec.i Tryd.func94 rfl Tryd.ntmps94 rfl (fun F => (.sn mx (.asb (.nil (.seq (.block (.sn mx (.mv rfl (.c (.kleq .none .ki (.s rfl)) (.mv rfl (.mg rfl rfl rfl (.c (.klss (.at rfl rfl) (.tmp rfl id) .ki) (.pa rfl rfl (.asn rfl (.nil (.cb rfl h (fun _ h => ?_) fun _ h => ?_))))))))))))))))
 ·
  refine .sn mx (.asb (.nil (.ret (.blkRet (.thenRet ?_)))))
  obtain rfl := some_eq h
  exact Ends.rt Tryd.results94 rfl
 ·
  refine .sn mx (.mv rfl (.c (.klss .none .ki (.s rfl)) (.mv rfl (.mg rfl rfl rfl (.c (.kleq (.at rfl rfl) (.tmp rfl id) .ki) (.pa rfl rfl (.asn rfl (.nil (.cb rfl h (fun _ h => ?_) fun _ h => ?_)))))))))
  ·
   refine .sn mx (.asb (.nil (.ret (.blkRet (.thenRet ?_)))))
   obtain rfl := some_eq h
   exact Ends.rt Tryd.results94 rfl
  ·
   refine .skip (.blkNormal (.then (.sn mx (.asb (.nil (.ret ?_))))))
   obtain rfl := some_eq h
   exact Ends.rt Tryd.results94 rfl

theorem strings_IndexRune_ok {s1 : Str} {r1 : (KI .i32)} {r : Int}  (h : strings_IndexRune s1 r1 = some r) : FSpec Tryd.prog 75 [rep s1, rep r1] (rep r) := by
 unfold strings_IndexRune at h
 refine FSpec.i Tryd.func75 rfl Tryd.ntmps75 rfl (fun F => (.sn mx (.asi (.nil (.block (.sn mx (.mv rfl (.c (.kleq .none .ki (.s rfl)) (.mv rfl (.mg rfl rfl rfl (.c (.klss (.at rfl rfl) (.tmp rfl id) .ki) (.pa rfl rfl (.asn rfl (.nil (.cb rfl h (fun _ h => ?_) fun _ h => ?_)))))))))))))))
 ·
  obtain ⟨r2, hv2, h⟩ := bind_some h
  refine .sn mx (.mv rfl (.mv rfl (.c (.toK .none (by kernel_rfl) Tryd.underlying5 (.s rfl)) (.c (.call .none (strings_IndexByte_ok hv2) (.cons (.s rfl) (.cons (.s rfl) .nil))) (.asn rfl (.nil (.ret (.blkRet ?_))))))))
  obtain rfl := some_eq h
  exact Ends.rt Tryd.results75 rfl
 ·
  refine .sn mx (.mv rfl (.c (.keql .none (.s rfl) .ki) (.asn rfl (.nil (.cb rfl h (fun _ h => ?_) fun _ h => ?_)))))
  ·
   refine .seq (.sr [oo, ([], [175])] mx (.mvA rfl (.cW (.rangeStr Tryd.underlying9 rfl (.s rfl)) (.nil (.nameAt (t := 175) (g := 5001) rfl rfl isBox_iter rfl (fun m5001 => ?_))))))
   obtain ⟨o_4, h, hK4⟩ := bindR_some h
   refine .tJ (fun s => o_4 = Res.nx s) Sub.nil SubB.nil ?_ (fun j_4 hj4 => ?_)
   ·
    refine .block (.loopL h (fun s5_ => []) (fun s5_ => [(5001, some (CPred.at (ptr m5001 0) (iterV s1 s5_)))]) Sub.nil (.k 5001 rfl .nil) (.k 175 rfl .nil) SubB.nil (fun s5_ o_5 h hD5 => ?_))
    unfold strings_IndexRune_L1 at h
    obtain ⟨at1, hv6, h⟩ := bnd_some h
    refine .sr [([5001], [5001]), oo] mx (.cW (.nextStr (k := 5001) rfl rfl (.s rfl) (by decide)) (.cA (.nextOk .none (.s rfl)) (.nil (.reB (t := 5001) rfl (congrArg (fun y => CPred.at (ptr m5001 0) (iterV s1 y)) hv6) (.seq (.cb rfl h (fun _ h => ?_) fun _ h => ?_))))))
    ·
     obtain ⟨hn8, h⟩ := need_some h
     obtain ⟨hn9, h⟩ := need_some h
     refine .skip (.then (.block (.sn mx (.c (.nextAt .none (.s rfl) (fun _ => hn8)) (.c (.nextRune .none (.s rfl) (fun _ => hn9)) (.asn rfl (.asn rfl (.nil (.sn mx (.mv rfl (.c (.keql .none (.s rfl) .ki) (.nil (.cb rfl h (fun _ h => ?_) fun _ h => ?_)))))))))))))
     ·
      refine .sn mx (.mv rfl (.asn rfl (.nil (.ret (.blkRet (.thenRet (.blkRet (.thenRet (.blkRet ?_)))))))))
      replace h := hD5 _ (some_eq h)
      replace h := resb_ab hK4 (some_eq h)
      obtain rfl := some_eq h
      exact Ends.rt Tryd.results75 rfl
     ·
      exact .skip (.blkNormal (Ends.ag (some_eq h)))
    ·
     refine .exit (.thenExit (.thenExit (.blkExit ?_)))
     replace h := hD5 _ (some_eq h)
     exact Ends.j _ (some_eq h)
   ·
    have h := resb_nx hK4 hj4
    refine .sn mx (.asi (.nil (.ret (.blkRet ?_))))
    obtain rfl := some_eq h
    exact Ends.rt Tryd.results75 rfl
  ·
   obtain ⟨r3, hv11, h⟩ := bind_some h
   refine .sn mx (.mv rfl (.c (.call .none (utf8_ValidRune_ok hv11) (.cons (.s rfl) .nil)) (.c (.not .none (.s rfl)) (.asn rfl (.nil (.cb rfl h (fun _ h => ?_) fun _ h => ?_))))))
   ·
    refine .sn mx (.asi (.nil (.ret (.blkRet ?_))))
    obtain rfl := some_eq h
    exact Ends.rt Tryd.results75 rfl
   ·
    obtain ⟨rs1, hv13, h⟩ := bnd_some h
    obtain ⟨last1, hv14, h⟩ := bnd_some h
    refine .scope (.sn mx (.mv rfl (.c (.intStr .none (by kernel_rfl) Tryd.underlying9 (.s rfl)) (.ra hv13 rfl (.nil (.sn mx (.mv rfl (.c (.lenStr .none Tryd.underlying9 (.s rfl)) (.c (.subW .none (.s rfl) .i) (.ra hv14 rfl (.nil (.sn mx (.mv rfl (.asn rfl (.nil (.sn mx (.asi (.nil (.seq ?_)))))))))))))))))))
    obtain ⟨o_15, h, hK15⟩ := bindR_some h
    refine .tJ (fun s => o_15 = Res.nx s) Sub.nil SubB.nil ?_ (fun j_15 hj15 => ?_)
    ·
     refine .block (.loopL h (fun s16_ => []) (fun s16_ => []) Sub.nil SubB.nil (.k4 0 7 8 9 rfl rfl rfl rfl .nil) SubB.nil (fun s16_ o_16 h hD16 => ?_))
     unfold strings_IndexRune_L2 at h
     refine .seq (.sn mx (.mv rfl (.mv rfl (.c (.lenStr .none Tryd.underlying9 (.s rfl)) (.lt rfl rfl (.nil (.cb rfl h (fun _ h => ?_) fun _ h => ?_)))))))
     ·
      obtain ⟨hn18, h⟩ := need_some h
      obtain ⟨hn19, h⟩ := need_some h
      refine .skip (.then (.block (.scope (.seq (.sn mx (.mv rfl (.mv rfl (.c (.indexStr .none Tryd.underlying9 (.s rfl) (.s rfl) (fun _ => hn18)) (.mv rfl (.mv rfl (.c (.indexStr .none Tryd.underlying9 (.s rfl) (.s rfl) (fun _ => hn19)) (.c (.kneq .none (.s rfl) (.s rfl)) (.nil ?_)))))))))))))
      obtain ⟨o_20, h, hK20⟩ := bindR_some h
      refine .thenJ (ι := Int) (fun j_20 => [(9, ⟨True, rep j_20⟩)]) (fun j_20 => []) (fun s => o_20 = Res.nx s) (.k2 0 7 rfl rfl (.k 8 rfl .nil)) SubB.nil ?_ (fun j_20 hj20 => ?_)
      ·
       refine .cb rfl h (fun _ h => ?_) fun _ h => ?_
       ·
        obtain ⟨hn22, h⟩ := need_some h
        obtain ⟨hn23, h⟩ := need_some h
        obtain ⟨o1, hv24, h⟩ := bind_some h
        refine .sn mx (.mv rfl (.mv rfl (.adi rfl (.c (.sliceStr .none Tryd.underlying9 (.s rfl) (.s rfl) rfl (fun _ => hn22)) (.mv rfl (.mv rfl (.c (.indexStr .none Tryd.underlying9 (.s rfl) (.s rfl) (fun _ => hn23)) (.c (.call .none (strings_IndexByte_ok hv24) (.cons (.s rfl) (.cons (.s rfl) .nil))) (.asn rfl (.nil (.seq (.sn mx (.mv rfl (.c (.lt .none (.s rfl) .i) (.nil (.cb rfl h (fun _ h => ?_) fun _ h => ?_))))))))))))))))
        ·
         refine .sn mx (.asi (.nil (.ret (.thenRet (.thenRet (.scpRet (.blkRet (.thenRet (.blkRet (.thenRet (.scpRet (.blkRet ?_))))))))))))
         replace h := resb_ab hK20 (some_eq h)
         replace h := hD16 _ (some_eq h)
         replace h := resb_ab hK15 (some_eq h)
         obtain rfl := some_eq h
         exact Ends.rt Tryd.results75 rfl
        ·
         obtain ⟨i1, hv26, h⟩ := bnd_some h
         exact .skip (.then (.rn mx (.mv rfl (.mv rfl (.adi rfl (.add rfl rfl (.ra hv26 rfl (.nil (Ends.j _ (some_eq h))))))))))
       ·
        exact .skip (Ends.j _ (some_eq h))
      ·
       have h := resb_nx hK20 hj20
       refine .seq (.sn mx (.asi (.nil ?_)))
       obtain ⟨j_27, h, hK27⟩ := bind_some h
       refine .tJ (fun s => j_27 = s) (.k2 8 9 rfl rfl .nil) SubB.nil ?_ (fun j_27' hj27 => ?_)
       ·
        refine .block (.loopL h (fun s28_ => [(12, ⟨True, rep s28_⟩)]) (fun s28_ => []) (.k 12 rfl .nil) SubB.nil (.k4 0 7 8 9 rfl rfl rfl rfl .nil) SubB.nil (fun s28_ o_28 h hD28 => ?_))
        unfold strings_IndexRune_L3 at h
        refine .seq (.sn mx (.mv rfl (.mv rfl (.c (.lenStr .none Tryd.underlying9 (.s rfl)) (.lt rfl rfl (.nil (.cb rfl h (fun _ h => ?_) fun _ h => ?_)))))))
        ·
         obtain ⟨hn30, h⟩ := need_some h
         obtain ⟨hn31, h⟩ := need_some h
         refine .skip (.then (.seq (.block (.sn mx (.mv rfl (.mv rfl (.mv rfl (.sub rfl rfl (.c (.indexStr .none Tryd.underlying9 (.s rfl) (.s rfl) (fun _ => hn30)) (.mv rfl (.mv rfl (.mv rfl (.sub rfl rfl (.c (.indexStr .none Tryd.underlying9 (.s rfl) (.s rfl) (fun _ => hn31)) (.c (.kneq .none (.s rfl) (.s rfl)) (.nil (.cb rfl h (fun _ h => ?_) fun _ h => ?_)))))))))))))))))
         ·
          cases h
         ·
          obtain ⟨j1, hv33, h⟩ := bnd_some h
          exact .skip (.blkNormal (.then (.rn mx (.mv rfl (.adi rfl (.ra hv33 rfl (.nil (Ends.ag (some_eq h)))))))))
        ·
         refine .exit (.thenExit (.thenExit (.blkExit ?_)))
         replace h := hD28 _ (some_eq h)
         exact Ends.j _ (some_eq h)
       ·
        subst hj27; have h := hK27; clear hK27
        refine .seq (.sn mx (.mv rfl (.mv rfl (.sub rfl rfl (.asn rfl (.nil (.ret (.thenRet (.scpRet (.blkRet (.thenRet (.blkRet (.thenRet (.scpRet (.blkRet ?_)))))))))))))))
        replace h := hD16 _ (some_eq h)
        replace h := resb_ab hK15 (some_eq h)
        obtain rfl := some_eq h
        exact Ends.rt Tryd.results75 rfl
     ·
      refine .exit (.thenExit (.thenExit (.blkExit ?_)))
      replace h := hD16 _ (some_eq h)
      exact Ends.j _ (some_eq h)
    ·
     have h := resb_nx hK15 hj15
     refine .seq (.sn mx (.asi (.nil (.ret (.thenRet (.scpRet (.blkRet ?_)))))))
     obtain rfl := some_eq h
     exact Ends.rt Tryd.results75 rfl

theorem strings_ContainsRune_ok {s1 : Str} {r1 : (KI .i32)} {r : Bool}  (h : strings_ContainsRune s1 r1 = some r) : FSpec Tryd.prog 47 [rep s1, rep r1] (rep r) := by
 unfold strings_ContainsRune at h
 obtain ⟨r2, hv1, h⟩ := bind_some h
 refine FSpec.i Tryd.func47 rfl Tryd.ntmps47 rfl (fun F => (.sn mx (.asb (.nil (.sn mx (.mv rfl (.mv rfl (.c (.call .none (strings_IndexRune_ok hv1) (.cons (.s rfl) (.cons (.s rfl) .nil))) (.c (.ge .none (.s rfl) .i) (.asn rfl (.nil (.ret ?_))))))))))))
 obtain rfl := some_eq h
 exact Ends.rt Tryd.results47 rfl

theorem shape_letter_ok {f1 : Font} {c1 : (KI .i32)} {r : Int}  (h : shape_letter f1 c1 = some r) : FSpec Tryd.prog 72 [rep f1, rep c1] (rep r) := by
 unfold shape_letter at h
 obtain ⟨r1, hv1, h⟩ := bind_some h
 refine FSpec.i Tryd.func72 rfl Tryd.ntmps72 rfl (fun F => (.sn mx (.c (.box .none (.s rfl)) (.asi (.nil (.seq (.block (.sn mx (.mv rfl (.c (.call .none (strings_ContainsRune_ok hv1) (.cons (.str (l := [105, 106, 108, 39, 46, 44, 58, 59, 33, 124]) (by decide)) (.cons (.s rfl) .nil))) (.asn rfl (.nil (.cb rfl h (fun _ h => ?_) fun _ h => ?_)))))))))))))
 ·
  refine .sn mx (.fa fd23_1 hfd23_1 rfl (.ld ty3 rfl (.asn rfl (.nil (.ret (.blkRet (.thenRet ?_)))))))
  obtain rfl := some_eq h
  exact Ends.rt Tryd.results72 rfl
 ·
  obtain ⟨r2, hv3, h⟩ := bind_some h
  refine .sn mx (.mv rfl (.c (.kgeq .none (.s rfl) .ki) (.mv rfl (.mg rfl rfl rfl (.c (.callIf (.at rfl rfl) fnok47 (fun hg => strings_ContainsRune_ok ((fun hg => gd_some hv3 ((notT hg.2))) hg)) (.cons (.str (l := [109, 119, 77, 87, 64, 37]) (by decide)) (.cons (.tmp rfl id) .nil)) (fun h => h)) (.po rfl rfl (.asn rfl (.nil (.cb rfl h (fun _ h => ?_) fun _ h => ?_)))))))))
  ·
   refine .sn mx (.fa fd23_3 hfd23_3 rfl (.ld ty3 rfl (.asn rfl (.nil (.ret (.blkRet (.thenRet ?_)))))))
   obtain rfl := some_eq h
   exact Ends.rt Tryd.results72 rfl
  ·
   refine .skip (.blkNormal (.then (.sn mx (.fa fd23_2 hfd23_2 rfl (.ld ty3 rfl (.asn rfl (.nil (.ret ?_))))))))
   obtain rfl := some_eq h
   exact Ends.rt Tryd.results72 rfl

theorem shape_measure_ok {f1 : Font} {s1 : Str} {r : Int}  (h : shape_measure f1 s1 = some r) : FSpec Tryd.prog 44 [rep f1, rep s1] (rep r) := by
 unfold shape_measure at h
 refine FSpec.i Tryd.func44 rfl Tryd.ntmps44 rfl (fun F => (.sn mx (.c (.box .none (.s rfl)) (.asi (.nil (.sn mx (.asi (.nil (.seq (.sr [oo, ([], [9])] mx (.mvA rfl (.cW (.rangeStr Tryd.underlying9 rfl (.s rfl)) (.nil (.nameAt (t := 9) (g := 5001) rfl rfl isBox_iter rfl (fun m5001 => ?_)))))))))))))))
 obtain ⟨j_1, h, hK1⟩ := bind_some h
 refine .thenJ (ι := Int) (fun j_1 => [(5, ⟨True, rep j_1⟩)]) (fun j_1 => []) (fun s => j_1 = s) Sub.nil SubB.nil ?_ (fun j_1' hj1 => ?_)
 ·
  refine .block (.loopL h (fun s2_ => [(5, ⟨True, rep s2_.1⟩)]) (fun s2_ => [(5001, some (CPred.at (ptr m5001 0) (iterV s1 s2_.2)))]) (.k 5 rfl .nil) (.k 5001 rfl .nil) (.k2 2 9 rfl rfl .nil) SubB.nil (fun s2_ o_2 h hD2 => ?_))
  unfold shape_measure_L1 at h
  obtain ⟨at1, hv3, h⟩ := bnd_some h
  refine .sr [([5001], [5001]), oo] mx (.cW (.nextStr (k := 5001) rfl rfl (.s rfl) (by decide)) (.cA (.nextOk .none (.s rfl)) (.nil (.reB (t := 5001) rfl (congrArg (fun y => CPred.at (ptr m5001 0) (iterV s1 y)) hv3) (.seq (.cb rfl h (fun _ h => ?_) fun _ h => ?_))))))
  ·
   obtain ⟨hn5, h⟩ := need_some h
   obtain ⟨r1, hv6, h⟩ := bind_some h
   obtain ⟨n1, hv7, h⟩ := bnd_some h
   exact .skip (.then (.block (.sn mx (.c (.nextRune .none (.s rfl) (fun _ => hn5)) (.asn rfl (.nil (.rn mx (.mv rfl (.ld ty23 rfl (.mv rfl (.c (.call .none (shape_letter_ok hv6) (.cons (.s rfl) (.cons (.s rfl) .nil))) (.add rfl rfl (.ra hv7 rfl (.nil (.blkNormal (Ends.ag (some_eq h)))))))))))))))))
  ·
   refine .exit (.thenExit (.thenExit (.blkExit ?_)))
   replace h := hD2 _ (some_eq h)
   exact Ends.j _ (some_eq h)
 ·
  subst hj1; have h := hK1; clear hK1
  refine .sn mx (.mv rfl (.asn rfl (.nil (.ret ?_))))
  obtain rfl := some_eq h
  exact Ends.rt Tryd.results44 rfl

theorem shape_wrapPart_1_ok {c0_1 : Str} {c1_1 : (List Str)} {c2_1 : Int} {r : (Str × (List Str) × Int)} {m9 : Nat} {m10 : Nat} {s11 : Value} {m12 : Nat} (h : shape_wrapPart_1 c0_1 c1_1 c2_1 = some r) : FSpecO Tryd.prog 87 [isV (ptr m9 0), isV (ptr m10 0), isV (ptr m12 0)] [(ptr m9 0, cont 9 c0_1), (ptr m10 0, cont 30 (⟨s11⟩ : Raw)), (s11, rowV 9 c1_1), (ptr m12 0, cont 3 c2_1)] (anyV) [some (cont 9 r.1), some (deep (fun z0 => cont 30 (⟨z0⟩ : Raw)) (rowV 9 r.2.1)), none, some (cont 3 r.2.2)] := by
 unfold shape_wrapPart_1 at h
 refine FSpecO.i Tryd.func87 rfl Tryd.ntmps87 rfl (fun F => (.seq (.sr [([9], []), oo] mx (.cA (.loadAt0 (k := 9) .none ty9 rfl (.s rfl)) (.cA (.neS .none (eqAt_str Tryd.underlying9) (.s rfl) (.str (l := []) (by decide))) (.nil ?_))))))
 obtain ⟨j_1, h, hK1⟩ := bind_some h
 refine .thenJ (ι := (List Str)) (fun j_1 => []) (fun j_1 => [(10, some (CPred.at (ptr m10 0) (deep (fun z0 => cont 30 (⟨z0⟩ : Raw)) (rowV 9 j_1))))]) (fun s => j_1 = s) (.k2 0 2 rfl rfl .nil) (.k2 9 12 rfl rfl .nil) ?_ (fun j_1' hj1 => ?_)
 ·
  refine .cb rfl h (fun _ h => ?_) fun _ h => ?_
  ·
   obtain ⟨hn3, h⟩ := need_some h
   exact .rg [([10], []), ([9], []), oo, ([11], [8, 11]), ([10, 8], [10, 8])] mx (.cA (.loadAt0 (k := 10) .none tr30 rfl (.s rfl)) (.cA (.loadAt0 (k := 9) .none ty9 rfl (.s rfl)) (.cA (.buildSlice (xs := [_]) .none sl30 ty9 hz9 (.cons (.s rfl) .nil) rfl (by decide)) (.cW (.append (k := 11) rk30 rfl (.told (.s rfl) rfl) (.s rfl) hn3) (.cN (.storeRow (k := 10) (t := 8) (set := fun _ z => z) ty30 rfl (.s rfl) .self rfl rfl) (.nil (Ends.j _ (some_eq h))))))))
  ·
   exact .skip (.close (k := 10) (g := 11) (fun z => cont 30 (⟨z⟩ : Raw)) rfl rfl rfl (Ends.j _ (some_eq h)))
 ·
  subst hj1; have h := hK1; clear hK1
  refine .open (k := 10) (g := 5001) rfl rfl (fun s5001 => (.rg [([9], [9]), ([12], [12])] mx (.cN (.storeAt0 (g := 9) ty9 rfl (.s rfl) (.str (l := []) (by decide))) (.cN (.storeAt0 (g := 12) ty3 rfl (.s rfl) .i) (.nil (.close (k := 10) (g := 5001) (fun z => cont 30 (⟨z⟩ : Raw)) rfl rfl rfl ?_))))))
  obtain rfl := some_eq h
  exact Ends.ret0O (.inr rfl) [9, 10, 11, 12] Tryd.results87 (by decide) (.held rfl (.held rfl (.skip (.held rfl .nil))))

theorem shape_cut_ok {f1 : Font} {word1 : Str} {width1 : Int} {r : (Str × Str)}  (h : shape_cut f1 word1 width1 = some r) : FSpec Tryd.prog 88 [rep f1, rep word1, rep width1] (tup [rep r.1, rep r.2]) := by
 unfold shape_cut at h
 refine FSpec.i Tryd.func88 rfl Tryd.ntmps88 rfl (fun F => (.sn mx (.c (.box .none (.s rfl)) (.c (.assign .none (.str (l := []) (by decide))) (.c (.assign .none (.str (l := []) (by decide))) (.nil (.sn mx (.asi (.nil (.seq (.sr [oo, ([], [12])] mx (.mvA rfl (.cW (.rangeStr Tryd.underlying9 rfl (.s rfl)) (.nil (.nameAt (t := 12) (g := 5001) rfl rfl isBox_iter rfl (fun m5001 => ?_))))))))))))))))
 obtain ⟨o_1, h, hK1⟩ := bindR_some h
 refine .tJ (fun s => o_1 = Res.nx s) (.k 1 rfl .nil) SubB.nil ?_ (fun j_1 hj1 => ?_)
 ·
  refine .block (.loopL h (fun s2_ => [(8, ⟨True, rep s2_.1⟩)]) (fun s2_ => [(5001, some (CPred.at (ptr m5001 0) (iterV word1 s2_.2)))]) (.k 8 rfl .nil) (.k 5001 rfl .nil) (.k4 1 2 3 12 rfl rfl rfl rfl .nil) SubB.nil (fun s2_ o_2 h hD2 => ?_))
  unfold shape_cut_L1 at h
  obtain ⟨at1, hv3, h⟩ := bnd_some h
  refine .sr [([5001], [5001]), oo] mx (.cW (.nextStr (k := 5001) rfl rfl (.s rfl) (by decide)) (.cA (.nextOk .none (.s rfl)) (.nil (.reB (t := 5001) rfl (congrArg (fun y => CPred.at (ptr m5001 0) (iterV word1 y)) hv3) (.seq (.cb rfl h (fun _ h => ?_) fun _ h => ?_))))))
  ·
   obtain ⟨hn5, h⟩ := need_some h
   obtain ⟨hn6, h⟩ := need_some h
   obtain ⟨i1, hv7, h⟩ := bnd_some h
   obtain ⟨r1, hv8, h⟩ := bind_some h
   obtain ⟨wide1, hv9, h⟩ := bnd_some h
   refine .skip (.then (.block (.sn mx (.c (.nextAt .none (.s rfl) (fun _ => hn5)) (.c (.nextRune .none (.s rfl) (fun _ => hn6)) (.ra hv7 rfl (.asn rfl (.nil (.sn mx (.mv rfl (.ld ty23 rfl (.mv rfl (.c (.call .none (shape_letter_ok hv8) (.cons (.s rfl) (.cons (.s rfl) .nil))) (.add rfl rfl (.ra hv9 rfl (.nil (.sn mx (.mv rfl (.c (.gt .none (.s rfl) .i) (.mv rfl (.mg rfl rfl rfl (.mg rfl rfl rfl (.c (.gt (.at rfl rfl) (.tmp rfl id) (.tmp rfl id)) (.pa rfl rfl (.nil (.cb rfl h (fun _ h => ?_) fun _ h => ?_))))))))))))))))))))))))))
   ·
    obtain ⟨hn11, h⟩ := need_some h
    obtain ⟨hn12, h⟩ := need_some h
    refine .sn mx (.mv rfl (.mv rfl (.c (.sliceStr .none Tryd.underlying9 (.s rfl) rfl (.s rfl) (fun _ => hn11)) (.mv rfl (.mv rfl (.c (.sliceStr .none Tryd.underlying9 (.s rfl) (.s rfl) rfl (fun _ => hn12)) (.asn rfl (.asn rfl (.nil (.ret (.blkRet (.thenRet (.blkRet (.thenRet ?_))))))))))))))
    replace h := hD2 _ (some_eq h)
    replace h := resb_ab hK1 (some_eq h)
    obtain rfl := some_eq h
    exact Ends.ret2 (.inl rfl) Tryd.results88 (ResOK.tmp rfl trivial Imp.refl) (ResOK.tmp rfl trivial Imp.refl)
   ·
    exact .skip (.blkNormal (Ends.ag (some_eq h)))
  ·
   refine .exit (.thenExit (.thenExit (.blkExit ?_)))
   replace h := hD2 _ (some_eq h)
   exact Ends.j _ (some_eq h)
 ·
  have h := resb_nx hK1 hj1
  refine .sn mx (.mv rfl (.asn rfl (.c (.assign .none (.str (l := []) (by decide))) (.nil (.ret ?_)))))
  obtain rfl := some_eq h
  exact Ends.ret2 (.inl rfl) Tryd.results88 (ResOK.tmp rfl trivial Imp.refl) (ResOK.tmp rfl trivial Imp.refl)

theorem shape_wrapPart_ok {f1 : Font} {part1 : Str} {width1 : Int} {r : (List Str)}  (h : shape_wrapPart f1 part1 width1 = some r) : FSpec Tryd.prog 73 [rep f1, rep part1, rep width1] (rep r) := by
 unfold shape_wrapPart at h
 obtain ⟨words1, hv1, h⟩ := bind_some h
 refine FSpec.i Tryd.func73 rfl Tryd.ntmps73 rfl (fun F => (.sn mx (.c (.box .none (.s rfl)) (.c (.assign .none (.const (x := ([] : (List Str))) (fun M w => ⟨_, ⟨none, 0, rfl, Nat.le_refl _, by decide, rfl⟩, rfl⟩))) (.nil (.sr [([], [7])] mx (.al zr30 rfl (.nil (.nameAt (t := 7) (g := 5001) rfl rfl isBox_cont rfl (fun m5001 => (.nilKey (g := 5002) (T := 9) (α := Str) rfl (.sr [([], [8]), ([], [9]), ([8], [8]), ([9], [9])] mx (.al zo9 rfl (.al zo3 rfl (.cN (.store ty9 rfl rfl (.str (l := []) (by decide))) (.cN (.store ty3 rfl rfl .i) (.nil (.nameBox (t := 8) (g := 5003) rfl rfl (fun m5003 => (.nameBox (t := 9) (g := 5004) rfl rfl (fun m5004 => (.sn mx (.c (.makeFuncC (Cs := [isV (ptr m5003 0), isV (ptr m5001 0), isV (ptr m5004 0)]) .none (.cons (.s rfl) (.cons (.s rfl) (.cons (.s rfl) .nil)))) (.asn rfl (.nil (.sn mx (.mv rfl (.c (.call .none (shape_wordsOf_ok hv1) (.cons (.s rfl) .nil)) (.asn rfl (.nil (.seq (.sn mx (.mv rfl (.ln sl30 rfl (.mvi (.nil ?_))))))))))))))))))))))))))))))))))))
 obtain ⟨j_2, h, hK2⟩ := bind_some h
 refine .thenJ (ι := ((List Str) × Str × Int)) (fun j_2 => []) (fun j_2 => [(5001, some (CPred.at (ptr m5001 0) (deep (fun z0 => cont 30 (⟨z0⟩ : Raw)) (rowV 9 j_2.1)))), (5003, some (boxAt m5003 9 j_2.2.1)), (5004, some (boxAt m5004 3 j_2.2.2))]) (fun s => j_2 = s) (.k4 7 8 9 10 rfl rfl rfl rfl (.k 11 rfl .nil)) SubB.nil ?_ (fun j_2' hj2 => ?_)
 ·
  refine .block (.close (k := 5001) (g := 5002) (fun z => cont 30 (⟨z⟩ : Raw)) rfl rfl rfl (.rforL h (fun p3_ => [(22, ⟨True, rep p3_.1⟩)]) (fun p3_ => [(5001, some (CPred.at (ptr m5001 0) (deep (fun z0 => cont 30 (⟨z0⟩ : Raw)) (rowV 9 p3_.2.1)))), (5003, some (boxAt m5003 9 p3_.2.2.1)), (5004, some (boxAt m5004 3 p3_.2.2.2))]) (.k 22 rfl .nil) (.k2 5001 5003 rfl rfl (.k 5004 rfl .nil)) (.k4 2 3 7 8 rfl rfl rfl rfl (.k4 9 10 11 20 rfl rfl rfl rfl (.k 21 rfl .nil))) SubB.nil (fun p3_ o_3 h hD3 => (.open (k := 5001) (g := 5005) rfl rfl (fun s5005 => (.sn mx (.lt rfl rfl (.nil (.seq (.cb rfl h (fun _ h => ?_) fun _ h => ?_))))))))))
  ·
   refine .skip (.then (.seq ?_))
   obtain ⟨j_5, h, hK5⟩ := bind_some h
   unfold shape_wrapPart_L1 at h
   refine .thenJ (ι := ((List Str) × Str × Int)) (fun j_5 => []) (fun j_5 => [(5001, some (CPred.at (ptr m5001 0) (deep (fun z0 => cont 30 (⟨z0⟩ : Raw)) (rowV 9 j_5.1)))), (5003, some (boxAt m5003 9 j_5.2.1)), (5004, some (boxAt m5004 3 j_5.2.2))]) (fun s => j_5 = s) (.k4 2 3 7 8 rfl rfl rfl rfl (.k4 9 10 11 20 rfl rfl rfl rfl (.k2 21 22 rfl rfl .nil))) SubB.nil ?_ (fun j_5' hj5 => ?_)
   ·
    obtain ⟨hn6, h⟩ := need_some h
    obtain ⟨w1, hv7, h⟩ := bnd_some h
    obtain ⟨n1, hv8, h⟩ := bind_some h
    refine .block (.sn mx (.ix sl30 ty9 rfl rfl hn6 (.ld ty9 rfl (.ra hv7 rfl (.nil (.sn mx (.ld ty23 rfl (.mv rfl (.c (.call .none (shape_measure_ok hv8) (.cons (.s rfl) (.cons (.s rfl) .nil))) (.asn rfl (.nil (.seq (.sn mx (.mv rfl (.mv rfl (.c (.gt .none (.s rfl) (.s rfl)) (.nil ?_)))))))))))))))))
    obtain ⟨o_9, h, hK9⟩ := bindR_some h
    refine .tJ (fun s => o_9 = Res.nx s) (.k4 2 3 7 8 rfl rfl rfl rfl (.k4 9 10 11 13 rfl rfl rfl rfl (.k4 14 20 21 22 rfl rfl rfl rfl .nil))) (.k2 5001 5003 rfl rfl (.k2 5004 5005 rfl rfl .nil)) ?_ (fun j_9 hj9 => ?_)
    ·
     refine .cb rfl h (fun _ h => ?_) fun _ h => ?_
     ·
      obtain ⟨r1, hv11, h⟩ := bind_some h
      refine .sr [oo, ([5003, 5001, 5005, 5004], [5003, 5001, 5005, 5004])] mx (.mvA rfl (.cW (.callClo [5003, 5001, 5005, 5004] (Ss := []) (Cs := [isV (ptr m5003 0), isV (ptr m5001 0), isV (ptr m5004 0)]) (.s rfl) (shape_wrapPart_1_ok hv11) .nil (.cons (k := 5003) rfl (.cons (k := 5001) rfl (.cons (k := 5005) rfl (.cons (k := 5004) rfl .nil)))) rfl (by decide) (by decide) (by intro d h; cases h; decide)) (.nil (.open (k := 5001) (g := 5006) rfl rfl (fun s5006 => (.seq ?_))))))
      obtain ⟨j_12, h, hK12⟩ := bind_some h
      refine .thenJ (ι := (Str × Int × (List Str))) (fun j_12 => [(13, ⟨True, rep j_12.1⟩), (14, ⟨True, rep j_12.2.1⟩)]) (fun j_12 => [(5001, some (CPred.at (ptr m5001 0) (deep (fun z0 => cont 30 (⟨z0⟩ : Raw)) (rowV 9 j_12.2.2))))]) (fun s => j_12 = s) (.k4 2 3 7 8 rfl rfl rfl rfl (.k4 9 10 11 20 rfl rfl rfl rfl (.k2 21 22 rfl rfl .nil))) (.k2 5003 5004 rfl rfl .nil) ?_ (fun j_12' hj12 => ?_)
      ·
       refine .block (.close (k := 5001) (g := 5006) (fun z => cont 30 (⟨z⟩ : Raw)) rfl rfl rfl (.loopL h (fun s13_ => [(13, ⟨True, rep s13_.1⟩), (14, ⟨True, rep s13_.2.1⟩)]) (fun s13_ => [(5001, some (CPred.at (ptr m5001 0) (deep (fun z0 => cont 30 (⟨z0⟩ : Raw)) (rowV 9 s13_.2.2))))]) (.k2 13 14 rfl rfl .nil) (.k 5001 rfl .nil) (.k4 2 3 7 8 rfl rfl rfl rfl (.k4 9 10 11 20 rfl rfl rfl rfl (.k2 21 22 rfl rfl .nil))) (.k2 5003 5004 rfl rfl .nil) (fun s13_ o_13 h hD13 => ?_)))
       unfold shape_wrapPart_L2 at h
       obtain ⟨r2, hv14, h⟩ := bind_some h
       refine .open (k := 5001) (g := 5007) rfl rfl (fun s5007 => (.seq (.sn mx (.mv rfl (.mv rfl (.c (.gt .none (.s rfl) (.s rfl)) (.mv rfl (.mg rfl rfl rfl (.c (.callIf (.at rfl rfl) fnok80 (fun hg => utf8_RuneCountInString_ok ((fun hg => gd_some hv14 (hg.2)) hg)) (.cons (.tmp rfl id) .nil) (fun h => h)) (.c (.gt (.at rfl rfl) (.tmp rfl id) .i) (.pa rfl rfl (.nil (.cb rfl h (fun _ h => ?_) fun _ h => ?_)))))))))))))
       ·
        obtain ⟨r3, hv16, h⟩ := bind_some h
        obtain ⟨hn17, h⟩ := need_some h
        obtain ⟨c1, hv18, h⟩ := bnd_some h
        obtain ⟨n2, hv19, h⟩ := bind_some h
        exact .skip (.then (.block (.sn mx (.ld ty23 rfl (.mv rfl (.mv rfl (.c (.call .none (shape_cut_ok hv16) (.cons (.s rfl) (.cons (.s rfl) (.cons (.s rfl) .nil)))) (.mv rfl (.ex rfl rfl (.ex rfl rfl (.asn rfl (.asn rfl (.nil (.sr [([5001], []), oo, oo, ([5007], [52, 5007]), ([5001, 52], [5001, 52])] mx (.cA (.loadAt0 (k := 5001) .none tr30 rfl (.s rfl)) (.mvA rfl (.cA (.buildSlice (xs := [_]) .none sl30 ty9 hz9 (.cons (.s rfl) .nil) rfl (by decide)) (.cW (.append (k := 5007) rk30 rfl (.told (.s rfl) rfl) (.s rfl) hn17) (.cN (.storeRow (k := 5001) (t := 52) (set := fun _ z => z) ty30 rfl (.s rfl) .self rfl rfl) (.nil (.open (k := 5001) (g := 5008) rfl rfl (fun s5008 => (.sn mx (.mv rfl (.asn rfl (.nil (.reB (t := 5008) rfl (congrArg (fun y => CPred.at s5008 (rowV 9 y)) hv18) (.rn mx (.ld ty23 rfl (.mv rfl (.c (.call .none (shape_measure_ok hv19) (.cons (.s rfl) (.cons (.s rfl) .nil))) (.asn rfl (.nil (.blkNormal (.close (k := 5001) (g := 5008) (fun z => cont 30 (⟨z⟩ : Raw)) rfl rfl rfl (Ends.ag (some_eq h)))))))))))))))))))))))))))))))))))))
       ·
        refine .exit (.thenExit (.thenExit (.blkExit (.close (k := 5001) (g := 5007) (fun z => cont 30 (⟨z⟩ : Raw)) rfl rfl rfl ?_))))
        replace h := hD13 _ (some_eq h)
        exact Ends.j _ (some_eq h)
      ·
       subst hj12; have h := hK12; clear hK12
       refine .open (k := 5001) (g := 5009) rfl rfl (fun s5009 => (.sr [oo, oo, ([5003], [5003]), ([5004], [5004])] mx (.mvA rfl (.mvA rfl (.s0 5003 ty9 rfl rfl rfl (.s0 5004 ty3 rfl rfl rfl (.nil (.exit (.thenExit (.blkExit (.close (k := 5001) (g := 5009) (fun z => cont 30 (⟨z⟩ : Raw)) rfl rfl rfl ?_)))))))))))
       replace h := resb_ab hK9 (some_eq h)
       exact Ends.j _ (some_eq h)
     ·
      exact .skip (Ends.j _ (some_eq h))
    ·
     have h := resb_nx hK9 hj9
     refine .seq (.sr [([5003], []), oo, oo, ([5004], []), oo, oo, oo, oo, oo, oo, oo, oo] mx (.cA (.loadAt0 (k := 5003) .none ty9 rfl (.s rfl)) (.cA (.neS .none (eqAt_str Tryd.underlying9) (.s rfl) (.str (l := []) (by decide))) (.mvA rfl (.cA (.loadAt0 (k := 5004) (.at rfl rfl) ty3 rfl (.s rfl)) (.cA (.fieldAddr (.at rfl rfl) fd23_2 hfd23_2 (.s rfl)) (.cA (.load (.at rfl rfl) ty3 (.tmp rfl id)) (.cA (.addW (.at rfl rfl) (.tmp rfl id) (.tmp rfl id)) (.cA (.move (.at rfl rfl) (.s rfl)) (.cA (.addW (.at rfl rfl) (.tmp rfl id) (.tmp rfl id)) (.cA (.move (.at rfl rfl) (.s rfl)) (.cA (.gt (.at rfl rfl) (.tmp rfl id) (.tmp rfl id)) (.cA (.pickAnd .none (.s rfl) (.tmp rfl id)) (.nil ?_))))))))))))))
     obtain ⟨j_20, h, hK20⟩ := bind_some h
     refine .thenJ (ι := ((List Str) × Str × Int)) (fun j_20 => []) (fun j_20 => [(5001, some (CPred.at (ptr m5001 0) (deep (fun z0 => cont 30 (⟨z0⟩ : Raw)) (rowV 9 j_20.1)))), (5003, some (boxAt m5003 9 j_20.2.1)), (5004, some (boxAt m5004 3 j_20.2.2))]) (fun s => j_20 = s) (.k4 2 3 7 8 rfl rfl rfl rfl (.k4 9 10 11 13 rfl rfl rfl rfl (.k4 14 20 21 22 rfl rfl rfl rfl .nil))) SubB.nil ?_ (fun j_20' hj20 => ?_)
     ·
      refine .cb rfl h (fun _ h => ?_) fun _ h => ?_
      ·
       obtain ⟨r4, hv22, h⟩ := bind_some h
       exact .rg [oo, ([5003, 5001, 5005, 5004], [5003, 5001, 5005, 5004])] mx (.mvA rfl (.cW (.callClo [5003, 5001, 5005, 5004] (Ss := []) (Cs := [isV (ptr m5003 0), isV (ptr m5001 0), isV (ptr m5004 0)]) (.s rfl) (shape_wrapPart_1_ok hv22) .nil (.cons (k := 5003) rfl (.cons (k := 5001) rfl (.cons (k := 5005) rfl (.cons (k := 5004) rfl .nil)))) rfl (by decide) (by decide) (by intro d h; cases h; decide)) (.nil (Ends.j _ (some_eq h)))))
      ·
       exact .skip (.close (k := 5001) (g := 5005) (fun z => cont 30 (⟨z⟩ : Raw)) rfl rfl rfl (Ends.j _ (some_eq h)))
     ·
      subst hj20; have h := hK20; clear hK20
      refine .open (k := 5001) (g := 5010) rfl rfl (fun s5010 => (.sr [([5003], []), oo] mx (.cA (.loadAt0 (k := 5003) .none ty9 rfl (.s rfl)) (.cA (.eqS .none (eqAt_str Tryd.underlying9) (.s rfl) (.str (l := []) (by decide))) (.nil (.cb rfl h (fun _ h => ?_) fun _ h => ?_))))))
      ·
       exact .rg [oo, oo, ([5003], [5003]), ([5004], [5004])] mx (.mvA rfl (.mvA rfl (.s0 5003 ty9 rfl rfl rfl (.s0 5004 ty3 rfl rfl rfl (.nil (.blkNormal (.close (k := 5001) (g := 5010) (fun z => cont 30 (⟨z⟩ : Raw)) rfl rfl rfl (Ends.j _ (some_eq h)))))))))
      ·
       obtain ⟨hn24, h⟩ := need_some h
       obtain ⟨hn25, h⟩ := need_some h
       obtain ⟨v1, hv26, h⟩ := bnd_some h
       obtain ⟨v2, hv27, h⟩ := bnd_some h
       exact .rg [([5003], []), oo, oo, oo, ([5004], []), oo, oo, oo, oo, oo, ([5003], [5003]), ([5004], [5004])] mx (.cA (.loadAt0 (k := 5003) .none ty9 rfl (.s rfl)) (.cA (.addStr .none (.s rfl) (.str (l := [32]) (by decide)) (fun _ => hn24)) (.mvA rfl (.cA (.re hv26 (.addStr .none (.s rfl) (.s rfl) (fun _ => hn25))) (.cA (.loadAt0 (k := 5004) .none ty3 rfl (.s rfl)) (.faA fd23_2 hfd23_2 rfl (.ldA ty3 rfl (.addA rfl rfl (.mvA rfl (.cA (.re hv27 (.addW .none (.s rfl) (.s rfl))) (.s0 5003 ty9 rfl rfl rfl (.s0 5004 ty3 rfl rfl rfl (.nil (.blkNormal (.close (k := 5001) (g := 5010) (fun z => cont 30 (⟨z⟩ : Raw)) rfl rfl rfl (Ends.j _ (some_eq h)))))))))))))))))
   ·
    subst hj5; have h := hK5; clear hK5
    exact .open (k := 5001) (g := 5011) rfl rfl (fun s5011 => (.rn mx (.adi rfl (.mv rfl (.nil (.close (k := 5001) (g := 5011) (fun z => cont 30 (⟨z⟩ : Raw)) rfl rfl rfl (Ends.ag (some_eq h))))))))
  ·
   refine .exit (.thenExit (.thenExit (.blkExit (.close (k := 5001) (g := 5005) (fun z => cont 30 (⟨z⟩ : Raw)) rfl rfl rfl ?_))))
   replace h := hD3 _ (some_eq h)
   exact Ends.j _ (some_eq h)
 ·
  subst hj2; have h := hK2; clear hK2
  obtain ⟨r5, hv28, h⟩ := bind_some h
  refine .open (k := 5001) (g := 5012) rfl rfl (fun s5012 => (.sr [oo, ([5003, 5001, 5012, 5004], [5003, 5001, 5012, 5004])] mx (.mvA rfl (.cW (.callClo [5003, 5001, 5012, 5004] (Ss := []) (Cs := [isV (ptr m5003 0), isV (ptr m5001 0), isV (ptr m5004 0)]) (.s rfl) (shape_wrapPart_1_ok hv28) .nil (.cons (k := 5003) rfl (.cons (k := 5001) rfl (.cons (k := 5012) rfl (.cons (k := 5004) rfl .nil)))) rfl (by decide) (by decide) (by intro d h; cases h; decide)) (.nil (.open (k := 5001) (g := 5013) rfl rfl (fun s5013 => (.seq (.sn mx (.mv rfl (.ln sl30 rfl (.eqi rfl (.nil ?_)))))))))))))
  obtain ⟨j_29, h, hK29⟩ := bind_some h
  refine .thenJ (ι := (List Str)) (fun j_29 => []) (fun j_29 => [(5001, some (CPred.at (ptr m5001 0) (deep (fun z0 => cont 30 (⟨z0⟩ : Raw)) (rowV 9 j_29))))]) (fun s => j_29 = s) (.k 7 rfl .nil) SubB.nil ?_ (fun j_29' hj29 => ?_)
  ·
   refine .cb rfl h (fun _ h => ?_) fun _ h => ?_
   ·
    obtain ⟨hn31, h⟩ := need_some h
    exact .rg [([5001], []), oo, ([5013], [95, 5013]), ([5001, 95], [5001, 95])] mx (.cA (.loadAt0 (k := 5001) .none tr30 rfl (.s rfl)) (.cA (.buildSlice (xs := [_]) .none sl30 ty9 hz9 (.cons (.str (l := []) (by decide)) .nil) rfl (by decide)) (.cW (.append (k := 5013) rk30 rfl (.told (.s rfl) rfl) (.s rfl) hn31) (.cN (.storeRow (k := 5001) (t := 95) (set := fun _ z => z) ty30 rfl (.s rfl) .self rfl rfl) (.nil (Ends.j _ (some_eq h)))))))
   ·
    exact .skip (.close (k := 5001) (g := 5013) (fun z => cont 30 (⟨z⟩ : Raw)) rfl rfl rfl (Ends.j _ (some_eq h)))
  ·
   subst hj29; have h := hK29; clear hK29
   refine .open (k := 5001) (g := 5014) rfl rfl (fun s5014 => (.sr [([5001], []), oo] mx (.cA (.loadAt0 (k := 5001) .none tr30 rfl (.s rfl)) (.asnA rfl (.nil (.freezeRow (g := 5014) (ts := [6]) rfl (.cons (t := 6) rfl trivial .nil) SubB.nil rfl (.ret ?_)))))))
   obtain rfl := some_eq h
   exact Ends.rt Tryd.results73 rfl

theorem shape_wrap_ok {f1 : Font} {text1 : Str} {width1 : Int} {r : (List Str)}  (h : shape_wrap f1 text1 width1 = some r) : FSpec Tryd.prog 45 [rep f1, rep text1, rep width1] (rep r) := by
 unfold shape_wrap at h
 obtain ⟨r1, hv1, h⟩ := bind_some h
 refine FSpec.i Tryd.func45 rfl Tryd.ntmps45 rfl (fun F => (.sn mx (.c (.box .none (.s rfl)) (.c (.assign .none (.const (x := ([] : (List Str))) (fun M w => ⟨_, ⟨none, 0, rfl, Nat.le_refl _, by decide, rfl⟩, rfl⟩))) (.nil (.sr [([], [7])] mx (.cW (.nilRow (T := 9) (α := Str) rfl) (.nil (.nameRow (t := 7) (g := 5001) rfl rfl rfl (fun s5001 => (.seq (.sn mx (.mv rfl (.c (.call .none (strings_Split_ok hv1).frz (.cons (.s rfl) (.cons (.str (l := [10]) (by decide)) .nil))) (.ln sl30 rfl (.mvi (.nil ?_)))))))))))))))))
 obtain ⟨j_2, h, hK2⟩ := bind_some h
 refine .thenJ (ι := (List Str)) (fun j_2 => []) (fun j_2 => [(7, some (rowV 9 j_2))]) (fun s => j_2 = s) Sub.nil SubB.nil ?_ (fun j_2' hj2 => ?_)
 ·
  refine .block (.anon (t := 7) (g := 5001) rfl rfl trivial rfl (.rforL h (fun p3_ => [(13, ⟨True, rep p3_.1⟩)]) (fun p3_ => [(7, some (rowV 9 p3_.2))]) (.k 13 rfl .nil) (.k 7 rfl .nil) (.k4 2 3 11 12 rfl rfl rfl rfl .nil) SubB.nil (fun p3_ o_3 h hD3 => (.nameRow (t := 7) (g := 5002) rfl rfl rfl (fun s5002 => (.sn mx (.lt rfl rfl (.nil (.seq (.cb rfl h (fun _ h => ?_) fun _ h => ?_))))))))))
  ·
   refine .skip (.then (.seq ?_))
   obtain ⟨j_5, h, hK5⟩ := bind_some h
   unfold shape_wrap_L1 at h
   refine .thenJ (ι := (List Str)) (fun j_5 => []) (fun j_5 => [(7, some (rowV 9 j_5))]) (fun s => j_5 = s) (.k4 2 3 11 12 rfl rfl rfl rfl (.k 13 rfl .nil)) SubB.nil ?_ (fun j_5' hj5 => ?_)
   ·
    obtain ⟨hn6, h⟩ := need_some h
    obtain ⟨r2, hv7, h⟩ := bind_some h
    obtain ⟨hn8, h⟩ := need_some h
    exact .block (.sn mx (.ix sl30 ty9 rfl rfl hn6 (.ld ty9 rfl (.asn rfl (.nil (.rg [oo, oo, oo, oo, oo, ([5002], [22, 5002]), ([22], [7, 22])] mx (.mvA rfl (.ldA ty23 rfl (.mvA rfl (.mvA rfl (.cA (.call .none (shape_wrapPart_ok hv7) (.cons (.s rfl) (.cons (.s rfl) (.cons (.s rfl) .nil)))) (.cW (.append (k := 5002) rk30 rfl (.told (.s rfl) rfl) (.s rfl) hn8) (.consWD (.passRow rfl (.tmp rfl)) rfl rfl (.nil (.blkNormal (Ends.j _ (some_eq h)))))))))))))))))
   ·
    subst hj5; have h := hK5; clear hK5
    exact .nameRow (t := 7) (g := 5003) rfl rfl rfl (fun s5003 => (.rn mx (.adi rfl (.mv rfl (.nil (.anon (t := 7) (g := 5003) rfl rfl trivial rfl (Ends.ag (some_eq h))))))))
  ·
   refine .exit (.thenExit (.thenExit (.blkExit (.anon (t := 7) (g := 5002) rfl rfl trivial rfl ?_))))
   replace h := hD3 _ (some_eq h)
   exact Ends.j _ (some_eq h)
 ·
  subst hj2; have h := hK2; clear hK2
  refine .freezeRowA (t := 7) rfl rfl SubB.nil rfl (.sn mx (.mv rfl (.asn rfl (.nil (.ret ?_)))))
  obtain rfl := some_eq h
  exact Ends.rt Tryd.results45 rfl

theorem shape_Wrap_ok {f1 : Font} {text1 : Str} {width1 : Int} {r : ((List Str) × Int)}  (h : shape_Wrap f1 text1 width1 = some r) : FSpec Tryd.prog 12 [rep f1, rep text1, rep width1] (tup [rep r.1, rep r.2]) := by
 unfold shape_Wrap at h
 obtain ⟨e1, hv1, h⟩ := bind_some h
 refine FSpec.i Tryd.func12 rfl Tryd.ntmps12 rfl (fun F => (.sn mx (.c (.box .none (.s rfl)) (.c (.assign .none (.const (x := ([] : (List Str))) (fun M w => ⟨_, ⟨none, 0, rfl, Nat.le_refl _, by decide, rfl⟩, rfl⟩))) (.asi (.nil (.seq (.sn mx (.ld ty23 rfl (.mv rfl (.c (.call .none (shape_checkBoth_ok hv1) (.cons (.s rfl) (.cons (.s rfl) .nil))) (.asn rfl (.nil (.sn mx (.mv rfl (.nei rfl (.nil (.cb rfl h (fun _ h => ?_) fun _ h => ?_))))))))))))))))))
 ·
  refine .sn mx (.mv rfl (.c (.assign .none (.const (x := ([] : (List Str))) (fun M w => ⟨_, ⟨none, 0, rfl, Nat.le_refl _, by decide, rfl⟩, rfl⟩))) (.asn rfl (.nil (.ret (.thenRet ?_))))))
  obtain rfl := some_eq h
  exact Ends.ret2 (.inl rfl) Tryd.results12 (ResOK.tmp rfl trivial Imp.refl) (ResOK.tmp rfl trivial Imp.refl)
 ·
  refine .skip (.then (.seq (.sn mx (.mv rfl (.c (.lt .none (.s rfl) .i) (.mv rfl (.mg rfl rfl rfl (.c (.gt (.at rfl rfl) (.tmp rfl id) .i) (.po rfl rfl (.nil (.cb rfl h (fun _ h => ?_) fun _ h => ?_)))))))))))
  ·
   refine .sn mx (.c (.assign .none (.const (x := ([] : (List Str))) (fun M w => ⟨_, ⟨none, 0, rfl, Nat.le_refl _, by decide, rfl⟩, rfl⟩))) (.asi (.nil (.ret (.thenRet ?_)))))
   obtain rfl := some_eq h
   exact Ends.ret2 (.inl rfl) Tryd.results12 (ResOK.tmp rfl trivial Imp.refl) (ResOK.tmp rfl trivial Imp.refl)
  ·
   obtain ⟨r1, hv4, h⟩ := bind_some h
   refine .skip (.then (.sn mx (.ld ty23 rfl (.mv rfl (.mv rfl (.c (.call .none (shape_wrap_ok hv4) (.cons (.s rfl) (.cons (.s rfl) (.cons (.s rfl) .nil)))) (.asn rfl (.asi (.nil (.ret ?_))))))))))
   obtain rfl := some_eq h
   exact Ends.ret2 (.inl rfl) Tryd.results12 (ResOK.tmp rfl trivial Imp.refl) (ResOK.tmp rfl trivial Imp.refl)

theorem law_shapes_ok  {r : Bool}  (h : law_shapes  = some r) : FSpec Tryd.prog 13 [] (rep r) := by
 unfold law_shapes at h
 obtain ⟨r1, hv1, h⟩ := bind_some h
 obtain ⟨r2, hv2, h⟩ := bind_some h
 refine FSpec.i Tryd.func13 rfl Tryd.ntmps13 rfl (fun F => (.sn mx (.asb (.nil (.sn mx (.c (.buildF (y := (⟨1, 1, 1, 1⟩ : Font)) .none bu23 zc23 rfl (.cons .i (.cons .i (.cons .i (.cons .i .nil)))) (.cons rfl sf23_0 (.cons rfl sf23_1 (.cons rfl sf23_2 (.cons rfl sf23_3 .nil))))) (.c (.call .none (shape_CheckFont_ok hv1) (.cons (.s rfl) .nil)) (.eqi rfl (.mv rfl (.c (.buildF (y := (⟨(0 : Int), (0 : Int), (0 : Int), (0 : Int)⟩ : Font)) (.at rfl rfl) bu23 zc23 rfl .nil .nil) (.c (.callIf (.at rfl rfl) fnok14 (fun hg => shape_CheckFont_ok ((fun hg => gd_some hv2 (hg.2)) hg)) (.cons (.tmp rfl id) .nil) (fun h => h)) (.c (.eqI (.at rfl rfl) (.tmp rfl id) .i) (.pa rfl rfl (.asn rfl (.nil (.ret ?_))))))))))))))))
 obtain rfl := some_eq h
 exact Ends.rt Tryd.results13 rfl

theorem shape_Measure_ok {f1 : Font} {s1 : Str} {r : (Int × Int)}  (h : shape_Measure f1 s1 = some r) : FSpec Tryd.prog 11 [rep f1, rep s1] (tup [rep r.1, rep r.2]) := by
 unfold shape_Measure at h
 obtain ⟨e1, hv1, h⟩ := bind_some h
 refine FSpec.i Tryd.func11 rfl Tryd.ntmps11 rfl (fun F => (.sn mx (.c (.box .none (.s rfl)) (.asi (.asi (.nil (.seq (.sn mx (.ld ty23 rfl (.mv rfl (.c (.call .none (shape_checkBoth_ok hv1) (.cons (.s rfl) (.cons (.s rfl) .nil))) (.asn rfl (.nil (.sn mx (.mv rfl (.nei rfl (.nil (.cb rfl h (fun _ h => ?_) fun _ h => ?_))))))))))))))))))
 ·
  refine .sn mx (.mv rfl (.asi (.asn rfl (.nil (.ret (.thenRet ?_))))))
  obtain rfl := some_eq h
  exact Ends.ret2 (.inl rfl) Tryd.results11 (ResOK.tmp rfl trivial Imp.refl) (ResOK.tmp rfl trivial Imp.refl)
 ·
  obtain ⟨r1, hv3, h⟩ := bind_some h
  refine .skip (.then (.seq (.sn mx (.mv rfl (.c (.call .none (strings_Contains_ok hv3) (.cons (.s rfl) (.cons (.str (l := [10]) (by decide)) .nil))) (.nil (.cb rfl h (fun _ h => ?_) fun _ h => ?_)))))))
  ·
   refine .sn mx (.asi (.asi (.nil (.ret (.thenRet ?_)))))
   obtain rfl := some_eq h
   exact Ends.ret2 (.inl rfl) Tryd.results11 (ResOK.tmp rfl trivial Imp.refl) (ResOK.tmp rfl trivial Imp.refl)
  ·
   obtain ⟨r2, hv5, h⟩ := bind_some h
   refine .skip (.then (.sn mx (.ld ty23 rfl (.mv rfl (.c (.call .none (shape_measure_ok hv5) (.cons (.s rfl) (.cons (.s rfl) .nil))) (.asn rfl (.asi (.nil (.ret ?_)))))))))
   obtain rfl := some_eq h
   exact Ends.ret2 (.inl rfl) Tryd.results11 (ResOK.tmp rfl trivial Imp.refl) (ResOK.tmp rfl trivial Imp.refl)

theorem law_WrapsKeepWords_1_ok {s1 : Str} {r : Str}  (h : law_WrapsKeepWords_1 s1 = some r) : FSpec Tryd.prog 37 [rep s1] (rep r) := by
 unfold law_WrapsKeepWords_1 at h
 obtain ⟨r1, hv1, h⟩ := bind_some h
 obtain ⟨r2, hv2, h⟩ := bind_some h
 obtain ⟨r3, hv3, h⟩ := bind_some h
 refine FSpec.i Tryd.func37 rfl Tryd.ntmps37 rfl (fun F => (.sn mx (.c (.assign .none (.str (l := []) (by decide))) (.nil (.sn mx (.mv rfl (.c (.call .none (strings_ReplaceAll_ok hv1) (.cons (.s rfl) (.cons (.str (l := [10]) (by decide)) (.cons (.str (l := [32]) (by decide)) .nil)))) (.c (.call .none (strings_Fields_ok hv2).frz (.cons (.s rfl) .nil)) (.c (.call .none (strings_Join_ok hv3) (.cons (.s rfl) (.cons (.str (l := []) (by decide)) .nil))) (.asn rfl (.nil (.ret ?_))))))))))))
 obtain rfl := some_eq h
 exact Ends.rt Tryd.results37 rfl

theorem slices_Index_string_ok {s1 : (List Str)} {v1 : Str} {r : Int}  (h : slices_Index_string s1 v1 = some r) : FSpec Tryd.prog 70 [rep s1, rep v1] (rep r) := by
 unfold slices_Index_string at h
 refine FSpec.i Tryd.func70 rfl Tryd.ntmps70 rfl (fun F => (.sn mx (.asi (.nil (.seq (.sn mx (.mv rfl (.ln sl30 rfl (.mvi (.nil ?_))))))))))
 obtain ⟨o_1, h, hK1⟩ := bindR_some h
 refine .tJ (fun s => o_1 = Res.nx s) Sub.nil SubB.nil ?_ (fun j_1 hj1 => ?_)
 ·
  refine .block (.rforEL h (fun p2_ => [(8, ⟨True, rep p2_.1⟩)]) (fun p2_ => []) (.k 8 rfl .nil) SubB.nil (.k2 0 1 rfl rfl (.k 7 rfl .nil)) SubB.nil (fun p2_ o_2 h hD2 => (.sn mx (.lt rfl rfl (.nil (.seq (.cb rfl h (fun _ h => ?_) fun _ h => ?_)))))))
  ·
   refine .skip (.then (.seq ?_))
   obtain ⟨o_4, h, hK4⟩ := bindD_some h
   unfold slices_Index_string_L1 at h
   refine .tJ (fun s => o_4 = Res.nx s) (.k4 0 1 7 8 rfl rfl rfl rfl .nil) SubB.nil ?_ (fun j_4 hj4 => ?_)
   ·
    obtain ⟨hn5, h⟩ := need_some h
    refine .block (.sn mx (.mv rfl (.asn rfl (.nil (.sn mx (.mv rfl (.mv rfl (.mv rfl (.ix sl30 ty9 rfl rfl hn5 (.ld ty9 rfl (.c (.eqS .none (eqAt_str Tryd.underlying9) (.s rfl) (.s rfl)) (.nil (.cb rfl h (fun _ h => ?_) fun _ h => ?_)))))))))))))
    ·
     refine .sn mx (.mv rfl (.asn rfl (.nil (.ret (.blkRet (.thenRet (.thenRet (.blkRet (.thenRet ?_)))))))))
     replace h := resd_ab hK4 (some_eq h)
     replace h := hD2 _ (some_eq h)
     replace h := resb_ab hK1 (some_eq h)
     obtain rfl := some_eq h
     exact Ends.rt Tryd.results70 rfl
    ·
     exact .skip (.blkNormal (Ends.j _ (some_eq h)))
   ·
    have h := resd_nx hK4 hj4
    exact .rn mx (.adi rfl (.mv rfl (.nil (Ends.ag (some_eq h)))))
  ·
   refine .exit (.thenExit (.thenExit (.blkExit ?_)))
   replace h := hD2 _ (some_eq h)
   exact Ends.j _ (some_eq h)
 ·
  have h := resb_nx hK1 hj1
  refine .sn mx (.asi (.nil (.ret ?_)))
  obtain rfl := some_eq h
  exact Ends.rt Tryd.results70 rfl

theorem slices_Contains_string_ok {s1 : (List Str)} {v1 : Str} {r : Bool}  (h : slices_Contains_string s1 v1 = some r) : FSpec Tryd.prog 41 [rep s1, rep v1] (rep r) := by
 unfold slices_Contains_string at h
 obtain ⟨r1, hv1, h⟩ := bind_some h
 refine FSpec.i Tryd.func41 rfl Tryd.ntmps41 rfl (fun F => (.sn mx (.asb (.nil (.sn mx (.mv rfl (.mv rfl (.c (.call .none (slices_Index_string_ok hv1) (.cons (.s rfl) (.cons (.s rfl) .nil))) (.c (.ge .none (.s rfl) .i) (.asn rfl (.nil (.ret ?_))))))))))))
 obtain rfl := some_eq h
 exact Ends.rt Tryd.results41 rfl

theorem law_WrapsKeepWords_ok {f1 : Font} {s1 : Str} {width1 : Int} {r : Bool}  (h : law_WrapsKeepWords f1 s1 width1 = some r) : FSpec Tryd.prog 7 [rep f1, rep s1, rep width1] (rep r) := by
 unfold law_WrapsKeepWords at h
 obtain ⟨r1, hv1, h⟩ := bind_some h
 refine FSpec.i Tryd.func7 rfl Tryd.ntmps7 rfl (fun F => (.sn mx (.c (.box .none (.s rfl)) (.asb (.nil (.sn mx (.ld ty23 rfl (.mv rfl (.mv rfl (.c (.call .none (shape_Wrap_ok hv1) (.cons (.s rfl) (.cons (.s rfl) (.cons (.s rfl) .nil)))) (.mv rfl (.ex rfl rfl (.ex rfl rfl (.asn rfl (.asn rfl (.nil (.seq (.sn mx (.mv rfl (.nei rfl (.nil (.cb rfl h (fun _ h => ?_) fun _ h => ?_))))))))))))))))))))))
 ·
  obtain ⟨r2, hv3, h⟩ := bind_some h
  refine .sn mx (.mv rfl (.ln sl30 rfl (.eqi rfl (.mv rfl (.c (.callIf (.at rfl rfl) fnok13 (fun hg => law_shapes_ok ((fun hg => gd_some hv3 (hg.2)) hg)) .nil (fun h => h)) (.pa rfl rfl (.asn rfl (.nil (.ret (.thenRet ?_))))))))))
  obtain rfl := some_eq h
  exact Ends.rt Tryd.results7 rfl
 ·
  refine .skip (.then (.seq (.sn mx (.mv rfl (.ln sl30 rfl (.mvi (.nil ?_)))))))
  obtain ⟨o_4, h, hK4⟩ := bindR_some h
  refine .tJ (fun s => o_4 = Res.nx s) (.k2 1 7 rfl rfl .nil) SubB.nil ?_ (fun j_4 hj4 => ?_)
  ·
   refine .block (.rforEL h (fun p5_ => [(31, ⟨True, rep p5_.1⟩)]) (fun p5_ => []) (.k 31 rfl .nil) SubB.nil (.k4 1 2 3 7 rfl rfl rfl rfl (.k2 29 30 rfl rfl .nil)) SubB.nil (fun p5_ o_5 h hD5 => (.sn mx (.lt rfl rfl (.nil (.seq (.cb rfl h (fun _ h => ?_) fun _ h => ?_)))))))
   ·
    refine .skip (.then (.seq ?_))
    obtain ⟨o_7, h, hK7⟩ := bindD_some h
    unfold law_WrapsKeepWords_L1 at h
    refine .tJ (fun s => o_7 = Res.nx s) (.k4 1 2 3 7 rfl rfl rfl rfl (.k2 29 30 rfl rfl (.k 31 rfl .nil))) SubB.nil ?_ (fun j_7 hj7 => ?_)
    ·
     obtain ⟨hn8, h⟩ := need_some h
     obtain ⟨x1, hv9, h⟩ := bnd_some h
     obtain ⟨r3, hv10, h⟩ := bind_some h
     obtain ⟨hn11, h⟩ := need_some h
     refine .block (.sn mx (.ix sl30 ty9 rfl rfl hn8 (.ld ty9 rfl (.ra hv9 rfl (.nil (.sn mx (.ld ty23 rfl (.mv rfl (.c (.call .none (shape_Measure_ok hv10) (.cons (.s rfl) (.cons (.s rfl) .nil))) (.mv rfl (.ex rfl rfl (.ex rfl rfl (.asn rfl (.asn rfl (.nil (.sn mx (.mv rfl (.nei rfl (.mv rfl (.mg rfl rfl rfl (.mg rfl rfl rfl (.c (.gt (.at rfl rfl) (.tmp rfl id) (.tmp rfl id)) (.c (.move (.at rfl rfl) (.tmp rfl id)) (.mg rfl rfl rfl (.c (.strRunes (.at rfl rfl) Tryd.underlying9 Tryd.underlying68 Tryd.underlying21 (.tmp rfl id) (fun hg => hn11 hg.1.2 hg.2)) (.c (.len (.at rfl rfl) sl68 (.tmp rfl id)) (.c (.gt (.at rfl rfl) (.tmp rfl id) .i) (.c (.pickAnd (.at rfl rfl) (.tmp rfl id) (.tmp rfl id)) (.po rfl rfl (.nil (.cb rfl h (fun _ h => ?_) fun _ h => ?_)))))))))))))))))))))))))))))))
     ·
      refine .sn mx (.asb (.nil (.ret (.blkRet (.thenRet (.thenRet (.blkRet (.thenRet ?_))))))))
      replace h := resd_ab hK7 (some_eq h)
      replace h := hD5 _ (some_eq h)
      replace h := resb_ab hK4 (some_eq h)
      obtain rfl := some_eq h
      exact Ends.rt Tryd.results7 rfl
     ·
      exact .skip (.blkNormal (Ends.j _ (some_eq h)))
    ·
     have h := resd_nx hK7 hj7
     exact .rn mx (.adi rfl (.mv rfl (.nil (Ends.ag (some_eq h)))))
   ·
    refine .exit (.thenExit (.thenExit (.blkExit ?_)))
    replace h := hD5 _ (some_eq h)
    exact Ends.j _ (some_eq h)
  ·
   have h := resb_nx hK4 hj4
   refine .sn mx (.c (.assign .none (Opd.func (ι := Str × Str) (pre := fun i => law_WrapsKeepWords_1 i.1 = some i.2) (Ss := fun i => [rep i.1]) (S := fun i => rep i.2) fnok37 (fun i h => law_WrapsKeepWords_1_ok h))) ?_)
   obtain ⟨r4, hv13, h⟩ := bind_some h
   obtain ⟨r5, hv14, h⟩ := bind_some h
   obtain ⟨r6, hv15, h⟩ := bind_some h
   obtain ⟨r7, hv16, h⟩ := bind_some h
   refine .nil (.sn mx (.mv rfl (.mv rfl (.c (.callV (s1, r4) .none (.s rfl) (fun _ => hv13) (.cons (.s rfl) .nil)) (.mv rfl (.mv rfl (.c (.call .none (strings_Join_ok hv14) (.cons (.s rfl) (.cons (.str (l := [32]) (by decide)) .nil))) (.c (.callV (r5, r6) .none (.s rfl) (fun _ => hv15) (.cons (.s rfl) .nil)) (.c (.eqS .none (eqAt_str Tryd.underlying9) (.s rfl) (.s rfl)) (.mv rfl (.mg rfl rfl rfl (.c (.callIf (.at rfl rfl) fnok41 (fun hg => slices_Contains_string_ok ((fun hg => gd_some hv16 (hg.2)) hg)) (.cons (.tmp rfl id) (.cons (.str (l := [32]) (by decide)) .nil)) (fun h => h)) (.c (.not (.at rfl rfl) (.tmp rfl id)) (.pa rfl rfl (.asn rfl (.nil (.ret ?_)))))))))))))))))
   obtain rfl := some_eq h
   exact Ends.rt Tryd.results7 rfl


end Go.Proofs.YthopjimlhjgoiaaDoor
