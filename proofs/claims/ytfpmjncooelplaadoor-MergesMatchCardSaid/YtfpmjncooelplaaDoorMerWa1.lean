/-
  The walks: what a function computes is what its plain function says (printed by a program of one's own).
-/
import Derived.Test.YtfpmjncooelplaaDoorMerFa
set_option maxRecDepth 100000
set_option linter.unusedSimpArgs false
set_option linter.unusedVariables false
namespace Go.Proofs.YtfpmjncooelplaaDoor
open Go Go.DB Go.RowKit

theorem strings_Trim_ok {s cs : Str} {r : Str} (h : strings_Trim s cs = some r) : FSpec Tryd.prog 59 [rep s, rep cs] (rep r) := by
 obtain ⟨hn, h⟩ := need_some h
 obtain rfl := some_eq h
 exact trimS_spec trimStr_lay (by kernel_rfl) rfl fnok59 hn

theorem utf8_ValidString_ok {s : Str} {r : Bool} (h : utf8_ValidString s = some r) : FSpec Tryd.prog 71 [rep s] (rep r) := by
 obtain rfl := some_eq h
 exact validS_spec validStr_lay rfl rfl rfl fnok71

theorem strings_Compare_ok {s sep : Str} {r : Int} (h : strings_Compare s sep = some r) : FSpec Tryd.prog 55 [rep s, rep sep] (rep r) := by
 obtain rfl := some_eq h
 exact compareS_spec compareStr_lay rfl fnok55

theorem slices_Grow_Op_ok {n : Int} {r : List DOp} (h : slices_Grow_Op n = some r) : FSpecO Tryd.prog 64 [isV (.slice none 0 0), rep n] [] (anyV) [some (rowV 34 r)] := by
 obtain ⟨hn, h⟩ := need_some h
 obtain rfl := some_eq h
 exact growNil_spec growNil34_lay rk22 rfl rfl fnok64 hn

theorem edit_isName_ok {s1 : Str} {r : Bool}  (h : edit_isName s1 = some r) : FSpec Tryd.prog 32 [rep s1] (rep r) := by
 unfold edit_isName at h
 refine FSpec.intro (n := 25) fnok32 Tryd.func32 rfl Tryd.ntmps32 rfl (fun F => ?_)
 refine .seq (.region [] mixed (by kernel_rfl) ?_)
 refine .cons (.assign .none .bool) rfl ?_
 refine .nil (.then ?_)
 refine .seq (.region [] mixed (by kernel_rfl) ?_)
 refine .cons (.move .none (.s rfl)) rfl ?_
 refine .cons (.neS .none (eqAt_str Tryd.underlying9) (.s rfl) (.str (l := []) (by decide))) rfl ?_
 refine .cons (.move .none (.s rfl)) rfl ?_
 refine .cons (.move (.at rfl rfl) (.s rfl)) rfl ?_
 refine .cons (.lenStr (.at rfl rfl) Tryd.underlying9 (.tmp rfl id)) rfl ?_
 refine .cons (.le (.at rfl rfl) (.tmp rfl id) (.int (by decide))) rfl ?_
 refine .cons (.pickAnd .none (.s rfl) (.tmp rfl id)) rfl ?_
 refine .cons (.move .none (.s rfl)) rfl ?_
 refine .cons (.move (.at rfl rfl) (.s rfl)) rfl ?_
 obtain ⟨hn1, h⟩ := need_some h
 refine .cons (.indexStr (.at rfl rfl) Tryd.underlying9 (.tmp rfl id) (.int (by decide)) (fun hg => hn1 hg.2)) rfl ?_
 refine .cons (.kgeq (.at rfl rfl) (.tmp rfl id) .ki) rfl ?_
 refine .cons (.pickAnd .none (.s rfl) (.tmp rfl id)) rfl ?_
 refine .cons (.move .none (.s rfl)) rfl ?_
 refine .cons (.move (.at rfl rfl) (.s rfl)) rfl ?_
 obtain ⟨hn2, h⟩ := need_some h
 refine .cons (.indexStr (.at rfl rfl) Tryd.underlying9 (.tmp rfl id) (.int (by decide)) (fun hg => hn2 hg.2)) rfl ?_
 refine .cons (.kleq (.at rfl rfl) (.tmp rfl id) .ki) rfl ?_
 refine .cons (.pickAnd .none (.s rfl) (.tmp rfl id)) rfl ?_
 refine .cons (.move .none (.s rfl)) rfl ?_
 refine .cons (.move (.at rfl rfl) (.s rfl)) rfl ?_
 obtain ⟨r1, hv3, h⟩ := bind_some h
 refine .cons (.callIf (.at rfl rfl) fnok59 (fun hg => strings_Trim_ok ((fun hg => gd_some hv3 (hg.2)) hg)) (.cons (.tmp rfl id) (.cons (.str (l := [97, 98, 99, 100, 101, 102, 103, 104, 105, 106, 107, 108, 109, 110, 111, 112, 113, 114, 115, 116, 117, 118, 119, 120, 121, 122, 48, 49, 50, 51, 52, 53, 54, 55, 56, 57, 45]) (by decide)) .nil)) (fun h => h)) rfl ?_
 refine .cons (.eqS (.at rfl rfl) (eqAt_str Tryd.underlying9) (.tmp rfl id) (.str (l := []) (by decide))) rfl ?_
 refine .cons (.pickAnd .none (.s rfl) (.tmp rfl id)) rfl ?_
 refine .cons (.assign .none (.s rfl)) rfl ?_
 refine .nil (.then ?_)
 refine .ret ?_
 obtain rfl := some_eq h
 exact Ends.ret1 (.inl rfl) Tryd.results32 (ResOK.tmp rfl trivial Imp.refl)

theorem cmp_isNaN_int_ok {x1 : Int} {r : Bool}  (h : cmp_isNaN_int x1 = some r) : FSpec Tryd.prog 70 [rep x1] (rep r) := by
 unfold cmp_isNaN_int at h
 refine FSpec.intro (n := 6) fnok70 Tryd.func70 rfl Tryd.ntmps70 rfl (fun F => ?_)
 refine .seq (.region [] mixed (by kernel_rfl) ?_)
 refine .cons (.assign .none .bool) rfl ?_
 refine .nil (.then ?_)
 refine .seq (.region [] mixed (by kernel_rfl) ?_)
 refine .cons (.move .none (.s rfl)) rfl ?_
 refine .cons (.move .none (.s rfl)) rfl ?_
 refine .cons (.neI .none (.s rfl) (.s rfl)) rfl ?_
 refine .cons (.assign .none (.s rfl)) rfl ?_
 refine .nil (.then ?_)
 refine .ret ?_
 obtain rfl := some_eq h
 exact Ends.ret1 (.inl rfl) Tryd.results70 (ResOK.tmp rfl trivial Imp.refl)

theorem cmp_Compare_int_ok {x1 : Int} {y1 : Int} {r : Int}  (h : cmp_Compare_int x1 y1 = some r) : FSpec Tryd.prog 56 [rep x1, rep y1] (rep r) := by
 unfold cmp_Compare_int at h
 refine FSpec.intro (n := 20) fnok56 Tryd.func56 rfl Tryd.ntmps56 rfl (fun F => ?_)
 refine .seq (.region [] mixed (by kernel_rfl) ?_)
 refine .cons (.assign .none (.int (by decide))) rfl ?_
 refine .nil (.then ?_)
 refine .seq (.region [] mixed (by kernel_rfl) ?_)
 refine .cons (.move .none (.s rfl)) rfl ?_
 obtain ⟨xNaN1, hv1, h⟩ := bind_some h
 refine .cons (.call .none (cmp_isNaN_int_ok hv1) (.cons (.s rfl) .nil)) rfl ?_
 refine .cons (.assign .none (.s rfl)) rfl ?_
 refine .nil (.then ?_)
 refine .seq (.region [] mixed (by kernel_rfl) ?_)
 refine .cons (.move .none (.s rfl)) rfl ?_
 obtain ⟨yNaN1, hv2, h⟩ := bind_some h
 refine .cons (.call .none (cmp_isNaN_int_ok hv2) (.cons (.s rfl) .nil)) rfl ?_
 refine .cons (.assign .none (.s rfl)) rfl ?_
 refine .nil (.then ?_)
 refine .seq ?_
 refine .seq (.region [] mixed (by kernel_rfl) ?_)
 refine .cons (.move .none (.s rfl)) rfl ?_
 refine .nil (.then ?_)
 refine .cond (t := 11) rfl trivial (fun hb3 => ?_) (fun hb3 => ?_)
 ·
  replace h := bif_t h hb3
  refine .seq ?_
  refine .seq (.region [] mixed (by kernel_rfl) ?_)
  refine .cons (.move .none (.s rfl)) rfl ?_
  refine .nil (.then ?_)
  refine .cond (t := 12) rfl trivial (fun hb4 => ?_) (fun hb4 => ?_)
  ·
   replace h := bif_t h hb4
   refine .seq (.region [] mixed (by kernel_rfl) ?_)
   refine .cons (.assign .none (.int (by decide))) rfl ?_
   refine .nil (.then ?_)
   refine .ret ?_
   refine .thenRet ?_
   refine .thenRet ?_
   obtain rfl := some_eq h
   exact Ends.ret1 (.inl rfl) Tryd.results56 (ResOK.tmp rfl trivial Imp.refl)
  ·
   replace h := bif_f h hb4
   refine .skip ?_
   refine .then ?_
   refine .seq (.region [] mixed (by kernel_rfl) ?_)
   refine .cons (.assign .none (.int (by decide))) rfl ?_
   refine .nil (.then ?_)
   refine .ret ?_
   refine .thenRet ?_
   obtain rfl := some_eq h
   exact Ends.ret1 (.inl rfl) Tryd.results56 (ResOK.tmp rfl trivial Imp.refl)
 ·
  replace h := bif_f h hb3
  refine .skip ?_
  refine .then ?_
  refine .seq ?_
  refine .seq (.region [] mixed (by kernel_rfl) ?_)
  refine .cons (.move .none (.s rfl)) rfl ?_
  refine .nil (.then ?_)
  refine .cond (t := 13) rfl trivial (fun hb5 => ?_) (fun hb5 => ?_)
  ·
   replace h := bif_t h hb5
   refine .seq (.region [] mixed (by kernel_rfl) ?_)
   refine .cons (.assign .none (.int (by decide))) rfl ?_
   refine .nil (.then ?_)
   refine .ret ?_
   refine .thenRet ?_
   obtain rfl := some_eq h
   exact Ends.ret1 (.inl rfl) Tryd.results56 (ResOK.tmp rfl trivial Imp.refl)
  ·
   replace h := bif_f h hb5
   refine .skip ?_
   refine .then ?_
   refine .seq ?_
   refine .seq (.region [] mixed (by kernel_rfl) ?_)
   refine .cons (.move .none (.s rfl)) rfl ?_
   refine .cons (.move .none (.s rfl)) rfl ?_
   refine .cons (.lt .none (.s rfl) (.s rfl)) rfl ?_
   refine .nil (.then ?_)
   refine .cond (t := 16) rfl trivial (fun hb6 => ?_) (fun hb6 => ?_)
   ·
    replace h := bif_t h hb6
    refine .seq (.region [] mixed (by kernel_rfl) ?_)
    refine .cons (.assign .none (.int (by decide))) rfl ?_
    refine .nil (.then ?_)
    refine .ret ?_
    refine .thenRet ?_
    obtain rfl := some_eq h
    exact Ends.ret1 (.inl rfl) Tryd.results56 (ResOK.tmp rfl trivial Imp.refl)
   ·
    replace h := bif_f h hb6
    refine .skip ?_
    refine .then ?_
    refine .seq ?_
    refine .seq (.region [] mixed (by kernel_rfl) ?_)
    refine .cons (.move .none (.s rfl)) rfl ?_
    refine .cons (.move .none (.s rfl)) rfl ?_
    refine .cons (.gt .none (.s rfl) (.s rfl)) rfl ?_
    refine .nil (.then ?_)
    refine .cond (t := 19) rfl trivial (fun hb7 => ?_) (fun hb7 => ?_)
    ·
     replace h := bif_t h hb7
     refine .seq (.region [] mixed (by kernel_rfl) ?_)
     refine .cons (.assign .none (.int (by decide))) rfl ?_
     refine .nil (.then ?_)
     refine .ret ?_
     refine .thenRet ?_
     obtain rfl := some_eq h
     exact Ends.ret1 (.inl rfl) Tryd.results56 (ResOK.tmp rfl trivial Imp.refl)
    ·
     replace h := bif_f h hb7
     refine .skip ?_
     refine .then ?_
     refine .seq (.region [] mixed (by kernel_rfl) ?_)
     refine .cons (.assign .none (.int (by decide))) rfl ?_
     refine .nil (.then ?_)
     refine .ret ?_
     obtain rfl := some_eq h
     exact Ends.ret1 (.inl rfl) Tryd.results56 (ResOK.tmp rfl trivial Imp.refl)

theorem cmp_Or_int_ok {vals1 : (List Int)} {r : Int}  (h : cmp_Or_int vals1 = some r) : FSpec Tryd.prog 54 [rep vals1] (rep r) := by
 unfold cmp_Or_int at h
 refine FSpec.intro (n := 18) fnok54 Tryd.func54 rfl Tryd.ntmps54 rfl (fun F => ?_)
 refine .seq (.region [] mixed (by kernel_rfl) ?_)
 refine .cons (.assign .none (.int (by decide))) rfl ?_
 refine .nil (.then ?_)
 refine .seq (.region [] mixed (by kernel_rfl) ?_)
 refine .cons (.assign .none (.int (by decide))) rfl ?_
 refine .nil (.then ?_)
 refine .seq ?_
 refine .seq (.region [] mixed (by kernel_rfl) ?_)
 refine .cons (.move .none (.s rfl)) rfl ?_
 refine .cons (.len .none sl90 (.s rfl)) rfl ?_
 refine .cons (.move .none (.int (by decide))) rfl ?_
 refine .nil (.then ?_)
 obtain ⟨o_1, h, hK1⟩ := bindR_some h
 refine .thenJ (ι := Unit) (fun j_1 => []) (fun j_1 => []) (fun s => o_1 = Res.nx s) (.k 3 rfl .nil) SubB.nil ?_ (fun j_1 hj1 => ?_)
 ·
  skip
  refine .block ?_
  refine .rforEL h (fun p2_ => [(8, ⟨True, rep p2_.1⟩)]) (fun p2_ => []) (.k 8 rfl .nil) SubB.nil (.k 3 rfl (.k 6 rfl (.k 7 rfl .nil))) SubB.nil (fun p2_ o_2 h hD2 => ?_)
  refine .seq (.region [] mixed (by kernel_rfl) ?_)
  refine .cons (.lt .none (.s rfl) (.s rfl)) rfl ?_
  refine .nil (.then ?_)
  refine .seq ?_
  refine .cond (t := 9) rfl trivial (fun hb3 => ?_) (fun hb3 => ?_)
  ·
   replace h := bif_t h hb3
   refine .skip ?_
   refine .then ?_
   refine .seq ?_
   obtain ⟨o_4, h, hK4⟩ := bindD_some h
   unfold cmp_Or_int_L1 at h
   refine .thenJ (ι := Unit) (fun j_4 => []) (fun j_4 => []) (fun s => o_4 = Res.nx s) (.k 3 rfl (.k 6 rfl (.k 7 rfl (.k 8 rfl .nil)))) SubB.nil ?_ (fun j_4 hj4 => ?_)
   ·
    skip
    refine .block ?_
    refine .seq (.region [] mixed (by kernel_rfl) ?_)
    obtain ⟨hn5, h⟩ := need_some h
    refine .cons (.indexAddr .none sl90 ty3 (.s rfl) (.s rfl) (fun _ => hn5)) rfl ?_
    refine .cons (.load .none ty3 (.s rfl)) rfl ?_
    obtain ⟨val1, hv6, h⟩ := bnd_some h
    refine .cons (.re hv6 (.assign .none (.s rfl))) rfl ?_
    refine .nil (.then ?_)
    refine .seq (.region [] mixed (by kernel_rfl) ?_)
    refine .cons (.move .none (.s rfl)) rfl ?_
    refine .cons (.move .none (.s rfl)) rfl ?_
    refine .cons (.neI .none (.s rfl) (.s rfl)) rfl ?_
    refine .nil (.then ?_)
    refine .cond (t := 14) rfl trivial (fun hb7 => ?_) (fun hb7 => ?_)
    ·
     replace h := bif_t h hb7
     refine .seq (.region [] mixed (by kernel_rfl) ?_)
     refine .cons (.move .none (.s rfl)) rfl ?_
     refine .cons (.assign .none (.s rfl)) rfl ?_
     refine .nil (.then ?_)
     refine .ret ?_
     refine .blkRet ?_
     refine .thenRet ?_
     refine .thenRet ?_
     refine .blkRet ?_
     refine .thenRet ?_
     replace h := resd_ab hK4 (some_eq h)
     replace h := hD2 _ (some_eq h)
     replace h := resb_ab hK1 (some_eq h)
     obtain rfl := some_eq h
     exact Ends.ret1 (.inl rfl) Tryd.results54 (ResOK.tmp rfl trivial Imp.refl)
    ·
     replace h := bif_f h hb7
     refine .skip ?_
     refine .blkNormal ?_
     exact Ends.join _ (some_eq h) (.k 3 rfl (.k 6 rfl (.k 7 rfl (.k 8 rfl .nil)))) SubB.nil
   ·
    have h := resd_nx hK4 hj4
    refine .region [] mixed (by kernel_rfl) ?_
    refine .cons (.addW .none (.s rfl) (.int (by decide))) rfl ?_
    refine .cons (.move .none (.s rfl)) rfl ?_
    refine .nil ?_
    exact Ends.againL (some_eq h) (.k 8 rfl (.k 3 rfl (.k 6 rfl (.k 7 rfl .nil)))) SubB.nil
  ·
   replace h := bif_f h hb3
   refine .exit ?_
   refine .thenExit ?_
   refine .thenExit ?_
   refine .blkExit ?_
   replace h := hD2 _ (some_eq h)
   exact Ends.join _ (some_eq h) (.k 3 rfl .nil) SubB.nil
 ·
  have h := resb_nx hK1 hj1
  refine .seq (.region [] mixed (by kernel_rfl) ?_)
  refine .cons (.move .none (.s rfl)) rfl ?_
  refine .cons (.assign .none (.s rfl)) rfl ?_
  refine .nil (.then ?_)
  refine .ret ?_
  obtain rfl := some_eq h
  exact Ends.ret1 (.inl rfl) Tryd.results54 (ResOK.tmp rfl trivial Imp.refl)

theorem edit_order_ok {a1 : DOp} {b1 : DOp} {r : Int}  (h : edit_order a1 b1 = some r) : FSpec Tryd.prog 43 [rep a1, rep b1] (rep r) := by
 unfold edit_order at h
 refine FSpec.intro (n := 21) fnok43 Tryd.func43 rfl Tryd.ntmps43 rfl (fun F => ?_)
 refine .seq (.region [] mixed (by kernel_rfl) ?_)
 refine .cons (.box .none (.s rfl)) rfl ?_
 refine .cons (.box .none (.s rfl)) rfl ?_
 refine .cons (.assign .none (.int (by decide))) rfl ?_
 refine .nil (.then ?_)
 refine .seq (.region [] mixed (by kernel_rfl) ?_)
 refine .cons (.fieldAddr .none fd34_0 hfd34_0 (.s rfl)) rfl ?_
 refine .cons (.fieldAddr .none fd32_1 hfd32_1 (.s rfl)) rfl ?_
 refine .cons (.load .none ty9 (.s rfl)) rfl ?_
 refine .cons (.fieldAddr .none fd34_0 hfd34_0 (.s rfl)) rfl ?_
 refine .cons (.fieldAddr .none fd32_1 hfd32_1 (.s rfl)) rfl ?_
 refine .cons (.load .none ty9 (.s rfl)) rfl ?_
 obtain ⟨r1, hv1, h⟩ := bind_some h
 refine .cons (.call .none (strings_Compare_ok hv1) (.cons (.s rfl) (.cons (.s rfl) .nil))) rfl ?_
 refine .cons (.fieldAddr .none fd34_0 hfd34_0 (.s rfl)) rfl ?_
 refine .cons (.fieldAddr .none fd32_2 hfd32_2 (.s rfl)) rfl ?_
 refine .cons (.load .none ty3 (.s rfl)) rfl ?_
 refine .cons (.fieldAddr .none fd34_0 hfd34_0 (.s rfl)) rfl ?_
 refine .cons (.fieldAddr .none fd32_2 hfd32_2 (.s rfl)) rfl ?_
 refine .cons (.load .none ty3 (.s rfl)) rfl ?_
 obtain ⟨r2, hv2, h⟩ := bind_some h
 refine .cons (.call .none (cmp_Compare_int_ok hv2) (.cons (.s rfl) (.cons (.s rfl) .nil))) rfl ?_
 refine .cons (.buildSlice (xs := [_, _]) .none sl90 ty3 hz3 (.cons (.s rfl) (.cons (.s rfl) .nil)) rfl (by decide)) rfl ?_
 obtain ⟨r3, hv3, h⟩ := bind_some h
 refine .cons (.call .none (cmp_Or_int_ok hv3) (.cons (.s rfl) .nil)) rfl ?_
 refine .cons (.assign .none (.s rfl)) rfl ?_
 refine .nil (.then ?_)
 refine .ret ?_
 obtain rfl := some_eq h
 exact Ends.ret1 (.inl rfl) Tryd.results43 (ResOK.tmp rfl trivial Imp.refl)

theorem shape_CheckText_ok {s1 : Str} {r : Int}  (h : shape_CheckText s1 = some r) : FSpec Tryd.prog 72 [rep s1] (rep r) := by
 unfold shape_CheckText at h
 refine FSpec.intro (n := 32) fnok72 Tryd.func72 rfl Tryd.ntmps72 rfl (fun F => ?_)
 refine .seq (.region [] mixed (by kernel_rfl) ?_)
 refine .cons (.assign .none (.int (by decide))) rfl ?_
 refine .nil (.then ?_)
 refine .seq ?_
 refine .seq (.region [] mixed (by kernel_rfl) ?_)
 refine .cons (.move .none (.s rfl)) rfl ?_
 refine .cons (.lenStr .none Tryd.underlying9 (.s rfl)) rfl ?_
 refine .cons (.gt .none (.s rfl) (.int (by decide))) rfl ?_
 refine .nil (.then ?_)
 refine .cond (t := 6) rfl trivial (fun hb1 => ?_) (fun hb1 => ?_)
 ·
  replace h := bif_t h hb1
  refine .seq (.region [] mixed (by kernel_rfl) ?_)
  refine .cons (.assign .none (.int (by decide))) rfl ?_
  refine .nil (.then ?_)
  refine .ret ?_
  refine .thenRet ?_
  obtain rfl := some_eq h
  exact Ends.ret1 (.inl rfl) Tryd.results72 (ResOK.tmp rfl trivial Imp.refl)
 ·
  replace h := bif_f h hb1
  refine .skip ?_
  refine .then ?_
  refine .seq ?_
  refine .seq (.region [] mixed (by kernel_rfl) ?_)
  refine .cons (.move .none (.s rfl)) rfl ?_
  obtain ⟨r1, hv2, h⟩ := bind_some h
  refine .cons (.call .none (utf8_ValidString_ok hv2) (.cons (.s rfl) .nil)) rfl ?_
  refine .cons (.not .none (.s rfl)) rfl ?_
  refine .nil (.then ?_)
  refine .cond (t := 9) rfl trivial (fun hb3 => ?_) (fun hb3 => ?_)
  ·
   replace h := bif_t h hb3
   refine .seq (.region [] mixed (by kernel_rfl) ?_)
   refine .cons (.assign .none (.int (by decide))) rfl ?_
   refine .nil (.then ?_)
   refine .ret ?_
   refine .thenRet ?_
   obtain rfl := some_eq h
   exact Ends.ret1 (.inl rfl) Tryd.results72 (ResOK.tmp rfl trivial Imp.refl)
  ·
   replace h := bif_f h hb3
   refine .skip ?_
   refine .then ?_
   refine .seq ?_
   refine .seq (.region [] mixed (by kernel_rfl) ?_)
   refine .cons (.move .none (.s rfl)) rfl ?_
   refine .cons (.lenStr .none Tryd.underlying9 (.s rfl)) rfl ?_
   refine .cons (.move .none (.int (by decide))) rfl ?_
   refine .nil (.then ?_)
   obtain ⟨o_4, h, hK4⟩ := bindR_some h
   refine .thenJ (ι := Unit) (fun j_4 => []) (fun j_4 => []) (fun s => o_4 = Res.nx s) Sub.nil SubB.nil ?_ (fun j_4 hj4 => ?_)
   ·
    skip
    refine .block ?_
    refine .rforEL h (fun p5_ => [(12, ⟨True, rep p5_.1⟩)]) (fun p5_ => []) (.k 12 rfl .nil) SubB.nil (.k 0 rfl (.k 11 rfl .nil)) SubB.nil (fun p5_ o_5 h hD5 => ?_)
    refine .seq (.region [] mixed (by kernel_rfl) ?_)
    refine .cons (.lt .none (.s rfl) (.s rfl)) rfl ?_
    refine .nil (.then ?_)
    refine .seq ?_
    refine .cond (t := 13) rfl trivial (fun hb6 => ?_) (fun hb6 => ?_)
    ·
     replace h := bif_t h hb6
     refine .skip ?_
     refine .then ?_
     refine .seq ?_
     obtain ⟨o_7, h, hK7⟩ := bindD_some h
     unfold shape_CheckText_L1 at h
     refine .thenJ (ι := Unit) (fun j_7 => []) (fun j_7 => []) (fun s => o_7 = Res.nx s) (.k 0 rfl (.k 11 rfl (.k 12 rfl .nil))) SubB.nil ?_ (fun j_7 hj7 => ?_)
     ·
      skip
      refine .block ?_
      refine .seq (.region [] mixed (by kernel_rfl) ?_)
      refine .cons (.move .none (.s rfl)) rfl ?_
      refine .cons (.assign .none (.s rfl)) rfl ?_
      refine .nil (.then ?_)
      refine .seq (.region [] mixed (by kernel_rfl) ?_)
      refine .cons (.move .none (.s rfl)) rfl ?_
      refine .cons (.move .none (.s rfl)) rfl ?_
      obtain ⟨hn8, h⟩ := need_some h
      refine .cons (.indexStr .none Tryd.underlying9 (.s rfl) (.s rfl) (fun _ => hn8)) rfl ?_
      refine .cons (.klss .none (.s rfl) .ki) rfl ?_
      refine .cons (.move .none (.s rfl)) rfl ?_
      refine .cons (.move (.at rfl rfl) (.s rfl)) rfl ?_
      refine .cons (.move (.at rfl rfl) (.s rfl)) rfl ?_
      obtain ⟨hn9, h⟩ := need_some h
      refine .cons (.indexStr (.at rfl rfl) Tryd.underlying9 (.tmp rfl id) (.tmp rfl id) (fun hg => hn9 hg.2)) rfl ?_
      refine .cons (.kneq (.at rfl rfl) (.tmp rfl id) .ki) rfl ?_
      refine .cons (.pickAnd .none (.s rfl) (.tmp rfl id)) rfl ?_
      refine .cons (.move .none (.s rfl)) rfl ?_
      refine .cons (.move (.at rfl rfl) (.s rfl)) rfl ?_
      refine .cons (.move (.at rfl rfl) (.s rfl)) rfl ?_
      obtain ⟨hn10, h⟩ := need_some h
      refine .cons (.indexStr (.at rfl rfl) Tryd.underlying9 (.tmp rfl id) (.tmp rfl id) (fun hg => hn10 hg.2)) rfl ?_
      refine .cons (.keql (.at rfl rfl) (.tmp rfl id) .ki) rfl ?_
      refine .cons (.pickOr .none (.s rfl) (.tmp rfl id)) rfl ?_
      refine .nil (.then ?_)
      refine .cond (t := 30) rfl trivial (fun hb11 => ?_) (fun hb11 => ?_)
      ·
       replace h := bif_t h hb11
       refine .seq (.region [] mixed (by kernel_rfl) ?_)
       refine .cons (.assign .none (.int (by decide))) rfl ?_
       refine .nil (.then ?_)
       refine .ret ?_
       refine .blkRet ?_
       refine .thenRet ?_
       refine .thenRet ?_
       refine .blkRet ?_
       refine .thenRet ?_
       replace h := resd_ab hK7 (some_eq h)
       replace h := hD5 _ (some_eq h)
       replace h := resb_ab hK4 (some_eq h)
       obtain rfl := some_eq h
       exact Ends.ret1 (.inl rfl) Tryd.results72 (ResOK.tmp rfl trivial Imp.refl)
      ·
       replace h := bif_f h hb11
       refine .skip ?_
       refine .blkNormal ?_
       exact Ends.join _ (some_eq h) (.k 0 rfl (.k 11 rfl (.k 12 rfl .nil))) SubB.nil
     ·
      have h := resd_nx hK7 hj7
      refine .region [] mixed (by kernel_rfl) ?_
      refine .cons (.addW .none (.s rfl) (.int (by decide))) rfl ?_
      refine .cons (.move .none (.s rfl)) rfl ?_
      refine .nil ?_
      exact Ends.againL (some_eq h) (.k 12 rfl (.k 0 rfl (.k 11 rfl .nil))) SubB.nil
    ·
     replace h := bif_f h hb6
     refine .exit ?_
     refine .thenExit ?_
     refine .thenExit ?_
     refine .blkExit ?_
     replace h := hD5 _ (some_eq h)
     exact Ends.join _ (some_eq h) Sub.nil SubB.nil
   ·
    have h := resb_nx hK4 hj4
    refine .seq (.region [] mixed (by kernel_rfl) ?_)
    refine .cons (.assign .none (.int (by decide))) rfl ?_
    refine .nil (.then ?_)
    refine .ret ?_
    obtain rfl := some_eq h
    exact Ends.ret1 (.inl rfl) Tryd.results72 (ResOK.tmp rfl trivial Imp.refl)

theorem edit_checkBody_ok {x1 : DOp} {r : Int}  (h : edit_checkBody x1 = some r) : FSpec Tryd.prog 58 [rep x1] (rep r) := by
 unfold edit_checkBody at h
 refine FSpec.intro (n := 84) fnok58 Tryd.func58 rfl Tryd.ntmps58 rfl (fun F => ?_)
 refine .seq (.region [] mixed (by kernel_rfl) ?_)
 refine .cons (.box .none (.s rfl)) rfl ?_
 refine .cons (.assign .none (.int (by decide))) rfl ?_
 refine .nil (.then ?_)
 refine .seq ?_
 refine .seq (.region [] mixed (by kernel_rfl) ?_)
 refine .cons (.fieldAddr .none fd34_1 hfd34_1 (.s rfl)) rfl ?_
 refine .cons (.load .none ty3 (.s rfl)) rfl ?_
 refine .cons (.lt .none (.s rfl) (.int (by decide))) rfl ?_
 refine .cons (.move .none (.s rfl)) rfl ?_
 refine .cons (.fieldAddr (.at rfl rfl) fd34_1 hfd34_1 (.s rfl)) rfl ?_
 refine .cons (.load (.at rfl rfl) ty3 (.tmp rfl id)) rfl ?_
 refine .cons (.gt (.at rfl rfl) (.tmp rfl id) (.int (by decide))) rfl ?_
 refine .cons (.pickOr .none (.s rfl) (.tmp rfl id)) rfl ?_
 refine .nil (.then ?_)
 refine .cond (t := 13) rfl trivial (fun hb1 => ?_) (fun hb1 => ?_)
 ·
  replace h := bif_t h hb1
  refine .seq (.region [] mixed (by kernel_rfl) ?_)
  refine .cons (.assign .none (.int (by decide))) rfl ?_
  refine .nil (.then ?_)
  refine .ret ?_
  refine .thenRet ?_
  obtain rfl := some_eq h
  exact Ends.ret1 (.inl rfl) Tryd.results58 (ResOK.tmp rfl trivial Imp.refl)
 ·
  replace h := bif_f h hb1
  refine .skip ?_
  refine .then ?_
  refine .seq (.region [] mixed (by kernel_rfl) ?_)
  refine .cons (.fieldAddr .none fd34_1 hfd34_1 (.s rfl)) rfl ?_
  refine .cons (.load .none ty3 (.s rfl)) rfl ?_
  refine .cons (.eqI .none (.s rfl) (.int (by decide))) rfl ?_
  refine .cons (.fieldAddr .none fd34_1 hfd34_1 (.s rfl)) rfl ?_
  refine .cons (.load .none ty3 (.s rfl)) rfl ?_
  refine .cons (.eqI .none (.s rfl) (.int (by decide))) rfl ?_
  obtain ⟨set1, hv2, h⟩ := bnd_some h
  refine .cons (.re hv2 (.assign .none (.s rfl))) rfl ?_
  obtain ⟨undo1, hv3, h⟩ := bnd_some h
  refine .cons (.re hv3 (.assign .none (.s rfl))) rfl ?_
  refine .nil (.then ?_)
  refine .seq ?_
  refine .block ?_
  refine .seq ?_
  refine .seq (.region [] mixed (by kernel_rfl) ?_)
  refine .cons (.fieldAddr .none fd34_5 hfd34_5 (.s rfl)) rfl ?_
  refine .cons (.load .none ty3 (.s rfl)) rfl ?_
  refine .cons (.neI .none (.s rfl) (.int (by decide))) rfl ?_
  refine .cons (.move .none (.s rfl)) rfl ?_
  refine .cons (.move (.at rfl rfl) (.s rfl)) rfl ?_
  refine .cons (.not (.at rfl rfl) (.tmp rfl id)) rfl ?_
  refine .cons (.pickAnd .none (.s rfl) (.tmp rfl id)) rfl ?_
  obtain ⟨v1, hv4, h⟩ := bnd_some h
  refine .cons (.re hv4 (.assign .none (.s rfl))) rfl ?_
  refine .nil (.then ?_)
  obtain ⟨j_5, h, hK5⟩ := bind_some h
  refine .thenJ (ι := Bool) (fun j_5 => [(20, ⟨True, rep j_5⟩)]) (fun j_5 => []) (fun s => j_5 = s) (.k 1 rfl (.k 3 rfl (.k 4 rfl .nil))) SubB.nil ?_ (fun j_5' hj5 => ?_)
  ·
   skip
   refine .cond (t := 20) rfl trivial (fun hb6 => ?_) (fun hb6 => ?_)
   ·
    replace h := bif_t h hb6
    refine .skip ?_
    exact Ends.join _ (some_eq h) (.k 20 rfl (.k 1 rfl (.k 3 rfl (.k 4 rfl .nil)))) SubB.nil
   ·
    replace h := bif_f h hb6
    refine .seq (.region [] mixed (by kernel_rfl) ?_)
    refine .cons (.fieldAddr .none fd34_2 hfd34_2 (.s rfl)) rfl ?_
    refine .cons (.load .none ty9 (.s rfl)) rfl ?_
    refine .cons (.neS .none (eqAt_str Tryd.underlying9) (.s rfl) (.str (l := []) (by decide))) rfl ?_
    refine .cons (.move .none (.s rfl)) rfl ?_
    refine .cons (.move (.at rfl rfl) (.s rfl)) rfl ?_
    refine .cons (.pickAnd .none (.s rfl) (.tmp rfl id)) rfl ?_
    obtain ⟨v2, hv7, h⟩ := bnd_some h
    refine .cons (.re hv7 (.assign .none (.s rfl))) rfl ?_
    refine .nil (.then ?_)
    refine .cond (t := 20) rfl trivial (fun hb8 => ?_) (fun hb8 => ?_)
    ·
     replace h := bif_t h hb8
     refine .skip ?_
     exact Ends.join _ (some_eq h) (.k 20 rfl (.k 1 rfl (.k 3 rfl (.k 4 rfl .nil)))) SubB.nil
    ·
     replace h := bif_f h hb8
     refine .region [] mixed (by kernel_rfl) ?_
     refine .cons (.fieldAddr .none fd34_3 hfd34_3 (.s rfl)) rfl ?_
     refine .cons (.load .none ty9 (.s rfl)) rfl ?_
     refine .cons (.neS .none (eqAt_str Tryd.underlying9) (.s rfl) (.str (l := []) (by decide))) rfl ?_
     refine .cons (.move .none (.s rfl)) rfl ?_
     refine .cons (.fieldAddr (.at rfl rfl) fd34_4 hfd34_4 (.s rfl)) rfl ?_
     refine .cons (.load (.at rfl rfl) ty9 (.tmp rfl id)) rfl ?_
     refine .cons (.neS (.at rfl rfl) (eqAt_str Tryd.underlying9) (.tmp rfl id) (.str (l := []) (by decide))) rfl ?_
     refine .cons (.pickOr .none (.s rfl) (.tmp rfl id)) rfl ?_
     refine .cons (.move .none (.s rfl)) rfl ?_
     refine .cons (.move (.at rfl rfl) (.s rfl)) rfl ?_
     refine .cons (.not (.at rfl rfl) (.tmp rfl id)) rfl ?_
     refine .cons (.pickAnd .none (.s rfl) (.tmp rfl id)) rfl ?_
     obtain ⟨v3, hv9, h⟩ := bnd_some h
     refine .cons (.re hv9 (.assign .none (.s rfl))) rfl ?_
     refine .nil ?_
     exact Ends.join _ (some_eq h) (.k 20 rfl (.k 1 rfl (.k 3 rfl (.k 4 rfl .nil)))) SubB.nil
  ·
   subst hj5; have h := hK5; clear hK5
   refine .cond (t := 20) rfl trivial (fun hb10 => ?_) (fun hb10 => ?_)
   ·
    replace h := bif_t h hb10
    refine .seq (.region [] mixed (by kernel_rfl) ?_)
    refine .cons (.assign .none (.int (by decide))) rfl ?_
    refine .nil (.then ?_)
    refine .ret ?_
    refine .blkRet ?_
    refine .thenRet ?_
    obtain rfl := some_eq h
    exact Ends.ret1 (.inl rfl) Tryd.results58 (ResOK.tmp rfl trivial Imp.refl)
   ·
    replace h := bif_f h hb10
    refine .seq ?_
    refine .seq (.region [] mixed (by kernel_rfl) ?_)
    refine .cons (.move .none (.s rfl)) rfl ?_
    refine .cons (.not .none (.s rfl)) rfl ?_
    refine .cons (.move .none (.s rfl)) rfl ?_
    refine .cons (.fieldAddr (.at rfl rfl) fd34_2 hfd34_2 (.s rfl)) rfl ?_
    refine .cons (.load (.at rfl rfl) ty9 (.tmp rfl id)) rfl ?_
    obtain ⟨r1, hv11, h⟩ := bind_some h
    refine .cons (.callIf (.at rfl rfl) fnok32 (fun hg => edit_isName_ok ((fun hg => gd_some hv11 (hg.2)) hg)) (.cons (.tmp rfl id) .nil) (fun h => h)) rfl ?_
    refine .cons (.not (.at rfl rfl) (.tmp rfl id)) rfl ?_
    refine .cons (.pickAnd .none (.s rfl) (.tmp rfl id)) rfl ?_
    obtain ⟨v4, hv12, h⟩ := bnd_some h
    refine .cons (.re hv12 (.assign .none (.s rfl))) rfl ?_
    refine .nil (.then ?_)
    obtain ⟨j_13, h, hK13⟩ := bind_some h
    refine .thenJ (ι := Bool) (fun j_13 => [(46, ⟨True, rep j_13⟩)]) (fun j_13 => []) (fun s => j_13 = s) (.k 1 rfl (.k 3 rfl (.k 4 rfl .nil))) SubB.nil ?_ (fun j_13' hj13 => ?_)
    ·
     skip
     refine .cond (t := 46) rfl trivial (fun hb14 => ?_) (fun hb14 => ?_)
     ·
      replace h := bif_t h hb14
      refine .skip ?_
      exact Ends.join _ (some_eq h) (.k 46 rfl (.k 1 rfl (.k 3 rfl (.k 4 rfl .nil)))) SubB.nil
     ·
      replace h := bif_f h hb14
      refine .region [] mixed (by kernel_rfl) ?_
      refine .cons (.move .none (.s rfl)) rfl ?_
      refine .cons (.move .none (.s rfl)) rfl ?_
      refine .cons (.fieldAddr (.at rfl rfl) fd34_3 hfd34_3 (.s rfl)) rfl ?_
      refine .cons (.load (.at rfl rfl) ty9 (.tmp rfl id)) rfl ?_
      obtain ⟨r2, hv15, h⟩ := bind_some h
      refine .cons (.callIf (.at rfl rfl) fnok32 (fun hg => edit_isName_ok ((fun hg => gd_some hv15 (hg.2)) hg)) (.cons (.tmp rfl id) .nil) (fun h => h)) rfl ?_
      refine .cons (.not (.at rfl rfl) (.tmp rfl id)) rfl ?_
      refine .cons (.pickAnd .none (.s rfl) (.tmp rfl id)) rfl ?_
      obtain ⟨v5, hv16, h⟩ := bnd_some h
      refine .cons (.re hv16 (.assign .none (.s rfl))) rfl ?_
      refine .nil ?_
      exact Ends.join _ (some_eq h) (.k 46 rfl (.k 1 rfl (.k 3 rfl (.k 4 rfl .nil)))) SubB.nil
    ·
     subst hj13; have h := hK13; clear hK13
     refine .cond (t := 46) rfl trivial (fun hb17 => ?_) (fun hb17 => ?_)
     ·
      replace h := bif_t h hb17
      refine .seq (.region [] mixed (by kernel_rfl) ?_)
      refine .cons (.assign .none (.int (by decide))) rfl ?_
      refine .nil (.then ?_)
      refine .ret ?_
      refine .blkRet ?_
      refine .thenRet ?_
      obtain rfl := some_eq h
      exact Ends.ret1 (.inl rfl) Tryd.results58 (ResOK.tmp rfl trivial Imp.refl)
     ·
      replace h := bif_f h hb17
      refine .skip ?_
      refine .blkNormal ?_
      refine .then ?_
      refine .seq ?_
      refine .seq (.region [] mixed (by kernel_rfl) ?_)
      refine .cons (.move .none (.s rfl)) rfl ?_
      refine .nil (.then ?_)
      obtain ⟨o_18, h, hK18⟩ := bindR_some h
      refine .thenJ (ι := Unit) (fun j_18 => []) (fun j_18 => []) (fun s => o_18 = Res.nx s) (.k 1 rfl (.k 4 rfl .nil)) SubB.nil ?_ (fun j_18 hj18 => ?_)
      ·
       skip
       refine .cond (t := 62) rfl trivial (fun hb19 => ?_) (fun hb19 => ?_)
       ·
        replace h := bif_t h hb19
        refine .seq (.region [] mixed (by kernel_rfl) ?_)
        refine .cons (.fieldAddr .none fd34_4 hfd34_4 (.s rfl)) rfl ?_
        refine .cons (.load .none ty9 (.s rfl)) rfl ?_
        obtain ⟨e1, hv20, h⟩ := bind_some h
        refine .cons (.call .none (shape_CheckText_ok hv20) (.cons (.s rfl) .nil)) rfl ?_
        refine .cons (.assign .none (.s rfl)) rfl ?_
        refine .nil (.then ?_)
        refine .seq (.region [] mixed (by kernel_rfl) ?_)
        refine .cons (.move .none (.s rfl)) rfl ?_
        refine .cons (.neI .none (.s rfl) (.int (by decide))) rfl ?_
        refine .nil (.then ?_)
        refine .cond (t := 67) rfl trivial (fun hb21 => ?_) (fun hb21 => ?_)
        ·
         replace h := bif_t h hb21
         refine .seq (.region [] mixed (by kernel_rfl) ?_)
         refine .cons (.move .none (.s rfl)) rfl ?_
         refine .cons (.assign .none (.s rfl)) rfl ?_
         refine .nil (.then ?_)
         refine .ret ?_
         refine .thenRet ?_
         replace h := resb_ab hK18 (some_eq h)
         obtain rfl := some_eq h
         exact Ends.ret1 (.inl rfl) Tryd.results58 (ResOK.tmp rfl trivial Imp.refl)
        ·
         replace h := bif_f h hb21
         refine .skip ?_
         exact Ends.join _ (some_eq h) (.k 1 rfl (.k 4 rfl .nil)) SubB.nil
       ·
        replace h := bif_f h hb19
        refine .skip ?_
        exact Ends.join _ (some_eq h) (.k 1 rfl (.k 4 rfl .nil)) SubB.nil
      ·
       have h := resb_nx hK18 hj18
       refine .seq ?_
       refine .seq (.region [] mixed (by kernel_rfl) ?_)
       refine .cons (.move .none (.s rfl)) rfl ?_
       refine .cons (.move .none (.s rfl)) rfl ?_
       refine .cons (.fieldAddr (.at rfl rfl) fd34_5 hfd34_5 (.s rfl)) rfl ?_
       refine .cons (.load (.at rfl rfl) ty3 (.tmp rfl id)) rfl ?_
       refine .cons (.lt (.at rfl rfl) (.tmp rfl id) (.int (by decide))) rfl ?_
       refine .cons (.move (.at rfl rfl) (.tmp rfl id)) rfl ?_
       refine .cons (.fieldAddr (.at rfl rfl) fd34_5 hfd34_5 (.s rfl)) rfl ?_
       refine .cons (.load (.at rfl rfl) ty3 (.tmp rfl id)) rfl ?_
       refine .cons (.fieldAddr (.at rfl rfl) fd34_0 hfd34_0 (.s rfl)) rfl ?_
       refine .cons (.fieldAddr (.at rfl rfl) fd32_2 hfd32_2 (.tmp rfl id)) rfl ?_
       refine .cons (.load (.at rfl rfl) ty3 (.tmp rfl id)) rfl ?_
       refine .cons (.subW (.at rfl rfl) (.tmp rfl id) (.int (by decide))) rfl ?_
       refine .cons (.gt (.at rfl rfl) (.tmp rfl id) (.tmp rfl id)) rfl ?_
       refine .cons (.pickOr (.at rfl rfl) (.tmp rfl id) (.tmp rfl id)) rfl ?_
       refine .cons (.pickAnd .none (.s rfl) (.tmp rfl id)) rfl ?_
       refine .nil (.then ?_)
       refine .cond (t := 83) rfl trivial (fun hb22 => ?_) (fun hb22 => ?_)
       ·
        replace h := bif_t h hb22
        refine .seq (.region [] mixed (by kernel_rfl) ?_)
        refine .cons (.assign .none (.int (by decide))) rfl ?_
        refine .nil (.then ?_)
        refine .ret ?_
        refine .thenRet ?_
        obtain rfl := some_eq h
        exact Ends.ret1 (.inl rfl) Tryd.results58 (ResOK.tmp rfl trivial Imp.refl)
       ·
        replace h := bif_f h hb22
        refine .skip ?_
        refine .then ?_
        refine .seq (.region [] mixed (by kernel_rfl) ?_)
        refine .cons (.assign .none (.int (by decide))) rfl ?_
        refine .nil (.then ?_)
        refine .ret ?_
        obtain rfl := some_eq h
        exact Ends.ret1 (.inl rfl) Tryd.results58 (ResOK.tmp rfl trivial Imp.refl)

theorem edit_Check_ok {l1 : (List DOp)} {r : Int}  (h : edit_Check l1 = some r) : FSpec Tryd.prog 31 [rep l1] (rep r) := by
 unfold edit_Check at h
 refine FSpec.intro (n := 90) fnok31 Tryd.func31 rfl Tryd.ntmps31 rfl (fun F => ?_)
 refine .seq (.region [] mixed (by kernel_rfl) ?_)
 refine .cons (.assign .none (.int (by decide))) rfl ?_
 refine .nil (.then ?_)
 refine .seq ?_
 refine .seq (.region [] mixed (by kernel_rfl) ?_)
 refine .cons (.move .none (.s rfl)) rfl ?_
 refine .cons (.len .none sl22 (.s rfl)) rfl ?_
 refine .cons (.gt .none (.s rfl) (.int (by decide))) rfl ?_
 refine .nil (.then ?_)
 refine .cond (t := 9) rfl trivial (fun hb1 => ?_) (fun hb1 => ?_)
 ·
  replace h := bif_t h hb1
  refine .seq (.region [] mixed (by kernel_rfl) ?_)
  refine .cons (.assign .none (.int (by decide))) rfl ?_
  refine .nil (.then ?_)
  refine .ret ?_
  refine .thenRet ?_
  obtain rfl := some_eq h
  exact Ends.ret1 (.inl rfl) Tryd.results31 (ResOK.tmp rfl trivial Imp.refl)
 ·
  replace h := bif_f h hb1
  refine .skip ?_
  refine .then ?_
  refine .seq ?_
  refine .seq (.region [] mixed (by kernel_rfl) ?_)
  refine .cons (.move .none (.s rfl)) rfl ?_
  refine .cons (.len .none sl22 (.s rfl)) rfl ?_
  refine .cons (.move .none (.int (by decide))) rfl ?_
  refine .nil (.then ?_)
  obtain ⟨o_2, h, hK2⟩ := bindR_some h
  refine .thenJ (ι := Unit) (fun j_2 => []) (fun j_2 => []) (fun s => o_2 = Res.nx s) Sub.nil SubB.nil ?_ (fun j_2 hj2 => ?_)
  ·
   skip
   refine .block ?_
   refine .rforEL h (fun p3_ => [(12, ⟨True, rep p3_.1⟩)]) (fun p3_ => []) (.k 12 rfl .nil) SubB.nil (.k 0 rfl (.k 10 rfl (.k 11 rfl .nil))) SubB.nil (fun p3_ o_3 h hD3 => ?_)
   refine .seq (.region [] mixed (by kernel_rfl) ?_)
   refine .cons (.lt .none (.s rfl) (.s rfl)) rfl ?_
   refine .nil (.then ?_)
   refine .seq ?_
   refine .cond (t := 13) rfl trivial (fun hb4 => ?_) (fun hb4 => ?_)
   ·
    replace h := bif_t h hb4
    refine .skip ?_
    refine .then ?_
    refine .seq ?_
    obtain ⟨o_5, h, hK5⟩ := bindD_some h
    unfold edit_Check_L1 at h
    refine .thenJ (ι := Unit) (fun j_5 => []) (fun j_5 => []) (fun s => o_5 = Res.nx s) (.k 0 rfl (.k 10 rfl (.k 11 rfl (.k 12 rfl .nil)))) SubB.nil ?_ (fun j_5 hj5 => ?_)
    ·
     skip
     refine .block ?_
     refine .seq (.region [([], []), ([], []), ([], []), ([], [4]), ([], []), ([4], [4])] mixed (by kernel_rfl) ?_)
     refine .consA (.move .none (.s rfl)) rfl ?_
     obtain ⟨hn6, h⟩ := need_some h
     refine .consA (.indexAddr .none sl22 ty34 (.s rfl) (.s rfl) (fun _ => hn6)) rfl ?_
     obtain ⟨v1, hv7, h⟩ := bnd_some h
     refine .consA (.re hv7 (.load .none ty34 (.s rfl))) rfl ?_
     refine .consW (.alloc zo34 rfl) rfl rfl ?_
     refine .consA (.assign .none (.s rfl)) rfl ?_
     refine .consN (.store ty34 rfl rfl (.s rfl)) rfl ?_
     refine .nil (.then ?_)
     refine .freeze (t := 4) rfl rfl SubB.nil rfl ?_
     refine .seq (.region [([], []), ([], [5]), ([5], [5])] mixed (by kernel_rfl) ?_)
     obtain ⟨v2, hv8, h⟩ := bnd_some h
     refine .consA (.re hv8 (.buildF (y := (⟨(⟨(0 : Int), Str.nil, (0 : Int)⟩ : Stamp), (0 : Int), Str.nil, Str.nil, Str.nil, (0 : Int)⟩ : DOp)) .none bu34 zc34 rfl .nil .nil)) rfl ?_
     refine .consW (.alloc zo34 rfl) rfl rfl ?_
     refine .consN (.store ty34 rfl rfl (.s rfl)) rfl ?_
     refine .nil (.then ?_)
     refine .nameBox (t := 5) (g := 5001) rfl rfl (fun m5001 => ?_)
     refine .seq ?_
     refine .seq (.region [] mixed (by kernel_rfl) ?_)
     refine .cons (.move .none (.s rfl)) rfl ?_
     refine .cons (.gt .none (.s rfl) (.int (by decide))) rfl ?_
     refine .cons (.move .none (.s rfl)) rfl ?_
     refine .cons (.move (.at rfl rfl) (.s rfl)) rfl ?_
     refine .cons (.move (.at rfl rfl) (.s rfl)) rfl ?_
     refine .cons (.subW (.at rfl rfl) (.tmp rfl id) (.int (by decide))) rfl ?_
     obtain ⟨hn9, h⟩ := need_some h
     refine .cons (.indexAddr (.at rfl rfl) sl22 ty34 (.tmp rfl id) (.tmp rfl id) (fun hg => hn9 hg.2)) rfl ?_
     refine .cons (.fieldAddr (.at rfl rfl) fd34_0 hfd34_0 (.tmp rfl id)) rfl ?_
     refine .cons (.fieldAddr (.at rfl rfl) fd32_1 hfd32_1 (.tmp rfl id)) rfl ?_
     refine .cons (.load (.at rfl rfl) ty9 (.tmp rfl id)) rfl ?_
     refine .cons (.fieldAddr (.at rfl rfl) fd34_0 hfd34_0 (.s rfl)) rfl ?_
     refine .cons (.fieldAddr (.at rfl rfl) fd32_1 hfd32_1 (.tmp rfl id)) rfl ?_
     refine .cons (.load (.at rfl rfl) ty9 (.tmp rfl id)) rfl ?_
     refine .cons (.eqS (.at rfl rfl) (eqAt_str Tryd.underlying9) (.tmp rfl id) (.tmp rfl id)) rfl ?_
     refine .cons (.pickAnd .none (.s rfl) (.tmp rfl id)) rfl ?_
     refine .nil (.then ?_)
     obtain ⟨j_10, h, hK10⟩ := bind_some h
     refine .thenJ (ι := DOp) (fun j_10 => []) (fun j_10 => [(5001, some (boxAt m5001 34 j_10))]) (fun s => j_10 = s) (.k 0 rfl (.k 3 rfl (.k 4 rfl (.k 5 rfl (.k 10 rfl (.k 11 rfl (.k 12 rfl .nil))))))) SubB.nil ?_ (fun j_10' hj10 => ?_)
     ·
      skip
      refine .cond (t := 32) rfl trivial (fun hb11 => ?_) (fun hb11 => ?_)
      ·
       replace h := bif_t h hb11
       refine .region [([], []), ([], []), ([], []), ([], []), ([], []), ([5001], [5001])] mixed (by kernel_rfl) ?_
       refine .consA (.move .none (.s rfl)) rfl ?_
       refine .consA (.move .none (.s rfl)) rfl ?_
       refine .consA (.subW .none (.s rfl) (.int (by decide))) rfl ?_
       obtain ⟨hn12, h⟩ := need_some h
       refine .consA (.indexAddr .none sl22 ty34 (.s rfl) (.s rfl) (fun _ => hn12)) rfl ?_
       obtain ⟨v3, hv13, h⟩ := bnd_some h
       refine .consA (.re hv13 (.load .none ty34 (.s rfl))) rfl ?_
       refine .consN (.storeAt0 (g := 5001) ty34 rfl (.s rfl) (.s rfl)) rfl ?_
       refine .nil ?_
       exact Ends.join _ (some_eq h) (.k 0 rfl (.k 3 rfl (.k 4 rfl (.k 5 rfl (.k 10 rfl (.k 11 rfl (.k 12 rfl .nil))))))) (.k 5001 rfl .nil)
      ·
       replace h := bif_f h hb11
       refine .skip ?_
       exact Ends.join _ (some_eq h) (.k 0 rfl (.k 3 rfl (.k 4 rfl (.k 5 rfl (.k 10 rfl (.k 11 rfl (.k 12 rfl .nil))))))) (.k 5001 rfl .nil)
     ·
      subst hj10; have h := hK10; clear hK10
      refine .freezeBox (g := 5001) (ts := [5]) rfl (.cons (t := 5) rfl trivial .nil) SubB.nil rfl ?_
      refine .seq ?_
      refine .block ?_
      refine .seq (.region [] mixed (by kernel_rfl) ?_)
      refine .cons (.fieldAddr .none fd34_0 hfd34_0 (.s rfl)) rfl ?_
      refine .cons (.fieldAddr .none fd32_1 hfd32_1 (.s rfl)) rfl ?_
      refine .cons (.load .none ty9 (.s rfl)) rfl ?_
      obtain ⟨r1, hv14, h⟩ := bind_some h
      refine .cons (.call .none (edit_isName_ok hv14) (.cons (.s rfl) .nil)) rfl ?_
      refine .cons (.not .none (.s rfl)) rfl ?_
      refine .cons (.assign .none (.s rfl)) rfl ?_
      refine .nil (.then ?_)
      refine .cond (t := 38) rfl trivial (fun hb15 => ?_) (fun hb15 => ?_)
      ·
       replace h := bif_t h hb15
       refine .seq (.region [] mixed (by kernel_rfl) ?_)
       refine .cons (.assign .none (.int (by decide))) rfl ?_
       refine .nil (.then ?_)
       refine .ret ?_
       refine .blkRet ?_
       refine .thenRet ?_
       refine .blkRet ?_
       refine .thenRet ?_
       refine .thenRet ?_
       refine .blkRet ?_
       refine .thenRet ?_
       replace h := resd_ab hK5 (some_eq h)
       replace h := hD3 _ (some_eq h)
       replace h := resb_ab hK2 (some_eq h)
       obtain rfl := some_eq h
       exact Ends.ret1 (.inl rfl) Tryd.results31 (ResOK.tmp rfl trivial Imp.refl)
      ·
       replace h := bif_f h hb15
       refine .seq (.region [] mixed (by kernel_rfl) ?_)
       refine .cons (.move .none (.s rfl)) rfl ?_
       refine .cons (.gt .none (.s rfl) (.int (by decide))) rfl ?_
       refine .cons (.move .none (.s rfl)) rfl ?_
       refine .cons (.move (.at rfl rfl) (.s rfl)) rfl ?_
       refine .cons (.move (.at rfl rfl) (.s rfl)) rfl ?_
       refine .cons (.subW (.at rfl rfl) (.tmp rfl id) (.int (by decide))) rfl ?_
       obtain ⟨hn16, h⟩ := need_some h
       refine .cons (.indexAddr (.at rfl rfl) sl22 ty34 (.tmp rfl id) (.tmp rfl id) (fun hg => hn16 hg.2)) rfl ?_
       refine .cons (.load (.at rfl rfl) ty34 (.tmp rfl id)) rfl ?_
       refine .cons (.load (.at rfl rfl) ty34 (.s rfl)) rfl ?_
       obtain ⟨r2, hv17, h⟩ := bind_some h
       refine .cons (.callIf (.at rfl rfl) fnok43 (fun hg => edit_order_ok ((fun hg => gd_some hv17 (hg.2)) hg)) (.cons (.tmp rfl id) (.cons (.tmp rfl id) .nil)) (fun h => h)) rfl ?_
       refine .cons (.ge (.at rfl rfl) (.tmp rfl id) (.int (by decide))) rfl ?_
       refine .cons (.pickAnd .none (.s rfl) (.tmp rfl id)) rfl ?_
       refine .cons (.assign .none (.s rfl)) rfl ?_
       refine .nil (.then ?_)
       refine .cond (t := 44) rfl trivial (fun hb18 => ?_) (fun hb18 => ?_)
       ·
        replace h := bif_t h hb18
        refine .seq (.region [] mixed (by kernel_rfl) ?_)
        refine .cons (.assign .none (.int (by decide))) rfl ?_
        refine .nil (.then ?_)
        refine .ret ?_
        refine .blkRet ?_
        refine .thenRet ?_
        refine .blkRet ?_
        refine .thenRet ?_
        refine .thenRet ?_
        refine .blkRet ?_
        refine .thenRet ?_
        replace h := resd_ab hK5 (some_eq h)
        replace h := hD3 _ (some_eq h)
        replace h := resb_ab hK2 (some_eq h)
        obtain rfl := some_eq h
        exact Ends.ret1 (.inl rfl) Tryd.results31 (ResOK.tmp rfl trivial Imp.refl)
       ·
        replace h := bif_f h hb18
        refine .seq ?_
        refine .seq (.region [] mixed (by kernel_rfl) ?_)
        refine .cons (.fieldAddr .none fd34_0 hfd34_0 (.s rfl)) rfl ?_
        refine .cons (.fieldAddr .none fd32_2 hfd32_2 (.s rfl)) rfl ?_
        refine .cons (.load .none ty3 (.s rfl)) rfl ?_
        refine .cons (.fieldAddr .none fd34_0 hfd34_0 (.s rfl)) rfl ?_
        refine .cons (.fieldAddr .none fd32_2 hfd32_2 (.s rfl)) rfl ?_
        refine .cons (.load .none ty3 (.s rfl)) rfl ?_
        refine .cons (.addW .none (.s rfl) (.int (by decide))) rfl ?_
        refine .cons (.neI .none (.s rfl) (.s rfl)) rfl ?_
        obtain ⟨v4, hv19, h⟩ := bnd_some h
        refine .cons (.re hv19 (.assign .none (.s rfl))) rfl ?_
        refine .nil (.then ?_)
        obtain ⟨j_20, h, hK20⟩ := bind_some h
        refine .thenJ (ι := Bool) (fun j_20 => [(57, ⟨True, rep j_20⟩)]) (fun j_20 => []) (fun s => j_20 = s) (.k 0 rfl (.k 4 rfl (.k 5 rfl (.k 10 rfl (.k 11 rfl (.k 12 rfl .nil)))))) SubB.nil ?_ (fun j_20' hj20 => ?_)
        ·
         skip
         refine .cond (t := 57) rfl trivial (fun hb21 => ?_) (fun hb21 => ?_)
         ·
          replace h := bif_t h hb21
          refine .skip ?_
          exact Ends.join _ (some_eq h) (.k 57 rfl (.k 0 rfl (.k 4 rfl (.k 5 rfl (.k 10 rfl (.k 11 rfl (.k 12 rfl .nil))))))) SubB.nil
         ·
          replace h := bif_f h hb21
          refine .region [] mixed (by kernel_rfl) ?_
          refine .cons (.fieldAddr .none fd34_0 hfd34_0 (.s rfl)) rfl ?_
          refine .cons (.fieldAddr .none fd32_0 hfd32_0 (.s rfl)) rfl ?_
          refine .cons (.load .none ty3 (.s rfl)) rfl ?_
          refine .cons (.lt .none (.s rfl) (.int (by decide))) rfl ?_
          refine .cons (.move .none (.s rfl)) rfl ?_
          refine .cons (.fieldAddr (.at rfl rfl) fd34_0 hfd34_0 (.s rfl)) rfl ?_
          refine .cons (.fieldAddr (.at rfl rfl) fd32_0 hfd32_0 (.tmp rfl id)) rfl ?_
          refine .cons (.load (.at rfl rfl) ty3 (.tmp rfl id)) rfl ?_
          refine .cons (.gt (.at rfl rfl) (.tmp rfl id) (.int (by decide))) rfl ?_
          refine .cons (.pickOr .none (.s rfl) (.tmp rfl id)) rfl ?_
          obtain ⟨v5, hv22, h⟩ := bnd_some h
          refine .cons (.re hv22 (.assign .none (.s rfl))) rfl ?_
          refine .nil ?_
          exact Ends.join _ (some_eq h) (.k 57 rfl (.k 0 rfl (.k 4 rfl (.k 5 rfl (.k 10 rfl (.k 11 rfl (.k 12 rfl .nil))))))) SubB.nil
        ·
         subst hj20; have h := hK20; clear hK20
         refine .cond (t := 57) rfl trivial (fun hb23 => ?_) (fun hb23 => ?_)
         ·
          replace h := bif_t h hb23
          refine .seq (.region [] mixed (by kernel_rfl) ?_)
          refine .cons (.assign .none (.int (by decide))) rfl ?_
          refine .nil (.then ?_)
          refine .ret ?_
          refine .blkRet ?_
          refine .thenRet ?_
          refine .blkRet ?_
          refine .thenRet ?_
          refine .thenRet ?_
          refine .blkRet ?_
          refine .thenRet ?_
          replace h := resd_ab hK5 (some_eq h)
          replace h := hD3 _ (some_eq h)
          replace h := resb_ab hK2 (some_eq h)
          obtain rfl := some_eq h
          exact Ends.ret1 (.inl rfl) Tryd.results31 (ResOK.tmp rfl trivial Imp.refl)
         ·
          replace h := bif_f h hb23
          refine .seq (.region [] mixed (by kernel_rfl) ?_)
          refine .cons (.fieldAddr .none fd34_0 hfd34_0 (.s rfl)) rfl ?_
          refine .cons (.fieldAddr .none fd32_0 hfd32_0 (.s rfl)) rfl ?_
          refine .cons (.load .none ty3 (.s rfl)) rfl ?_
          refine .cons (.fieldAddr .none fd34_0 hfd34_0 (.s rfl)) rfl ?_
          refine .cons (.fieldAddr .none fd32_0 hfd32_0 (.s rfl)) rfl ?_
          refine .cons (.load .none ty3 (.s rfl)) rfl ?_
          refine .cons (.le .none (.s rfl) (.s rfl)) rfl ?_
          refine .cons (.assign .none (.s rfl)) rfl ?_
          refine .nil (.then ?_)
          refine .cond (t := 76) rfl trivial (fun hb24 => ?_) (fun hb24 => ?_)
          ·
           replace h := bif_t h hb24
           refine .seq (.region [] mixed (by kernel_rfl) ?_)
           refine .cons (.assign .none (.int (by decide))) rfl ?_
           refine .nil (.then ?_)
           refine .ret ?_
           refine .blkRet ?_
           refine .thenRet ?_
           refine .blkRet ?_
           refine .thenRet ?_
           refine .thenRet ?_
           refine .blkRet ?_
           refine .thenRet ?_
           replace h := resd_ab hK5 (some_eq h)
           replace h := hD3 _ (some_eq h)
           replace h := resb_ab hK2 (some_eq h)
           obtain rfl := some_eq h
           exact Ends.ret1 (.inl rfl) Tryd.results31 (ResOK.tmp rfl trivial Imp.refl)
          ·
           replace h := bif_f h hb24
           refine .skip ?_
           refine .blkNormal ?_
           refine .then ?_
           refine .seq (.region [] mixed (by kernel_rfl) ?_)
           refine .cons (.load .none ty34 (.s rfl)) rfl ?_
           obtain ⟨e1, hv25, h⟩ := bind_some h
           refine .cons (.call .none (edit_checkBody_ok hv25) (.cons (.s rfl) .nil)) rfl ?_
           refine .cons (.assign .none (.s rfl)) rfl ?_
           refine .nil (.then ?_)
           refine .seq (.region [] mixed (by kernel_rfl) ?_)
           refine .cons (.move .none (.s rfl)) rfl ?_
           refine .cons (.neI .none (.s rfl) (.int (by decide))) rfl ?_
           refine .nil (.then ?_)
           refine .cond (t := 87) rfl trivial (fun hb26 => ?_) (fun hb26 => ?_)
           ·
            replace h := bif_t h hb26
            refine .seq (.region [] mixed (by kernel_rfl) ?_)
            refine .cons (.move .none (.s rfl)) rfl ?_
            refine .cons (.assign .none (.s rfl)) rfl ?_
            refine .nil (.then ?_)
            refine .ret ?_
            refine .blkRet ?_
            refine .thenRet ?_
            refine .thenRet ?_
            refine .blkRet ?_
            refine .thenRet ?_
            replace h := resd_ab hK5 (some_eq h)
            replace h := hD3 _ (some_eq h)
            replace h := resb_ab hK2 (some_eq h)
            obtain rfl := some_eq h
            exact Ends.ret1 (.inl rfl) Tryd.results31 (ResOK.tmp rfl trivial Imp.refl)
           ·
            replace h := bif_f h hb26
            refine .skip ?_
            refine .blkNormal ?_
            exact Ends.join _ (some_eq h) (.k 0 rfl (.k 10 rfl (.k 11 rfl (.k 12 rfl .nil)))) SubB.nil
    ·
     have h := resd_nx hK5 hj5
     refine .region [] mixed (by kernel_rfl) ?_
     refine .cons (.addW .none (.s rfl) (.int (by decide))) rfl ?_
     refine .cons (.move .none (.s rfl)) rfl ?_
     refine .nil ?_
     exact Ends.againL (some_eq h) (.k 12 rfl (.k 0 rfl (.k 10 rfl (.k 11 rfl .nil)))) SubB.nil
   ·
    replace h := bif_f h hb4
    refine .exit ?_
    refine .thenExit ?_
    refine .thenExit ?_
    refine .blkExit ?_
    replace h := hD3 _ (some_eq h)
    exact Ends.join _ (some_eq h) Sub.nil SubB.nil
  ·
   have h := resb_nx hK2 hj2
   refine .seq (.region [] mixed (by kernel_rfl) ?_)
   refine .cons (.assign .none (.int (by decide))) rfl ?_
   refine .nil (.then ?_)
   refine .ret ?_
   obtain rfl := some_eq h
   exact Ends.ret1 (.inl rfl) Tryd.results31 (ResOK.tmp rfl trivial Imp.refl)

theorem slices_Concat_Op_ok {slices1 : (List (List DOp))} {r : (List DOp)}  (h : slices_Concat_Op slices1 = some r) : FSpecO Tryd.prog 41 [rep slices1] [] (anyV) [some (rowV 34 r)] := by
 unfold slices_Concat_Op at h
 refine FSpecO.intro (n := 36) fnok41 Tryd.func41 rfl Tryd.ntmps41 rfl (fun F => ?_)
 refine .seq (.region [] mixed (by kernel_rfl) ?_)
 refine .cons (.assign .none (.const (x := ([] : (List DOp))) (fun M w => ⟨_, ⟨none, 0, rfl, Nat.le_refl _, by decide, rfl⟩, rfl⟩))) rfl ?_
 refine .nil (.then ?_)
 refine .seq (.region [] mixed (by kernel_rfl) ?_)
 refine .cons (.assign .none (.int (by decide))) rfl ?_
 refine .nil (.then ?_)
 refine .seq ?_
 refine .seq (.region [] mixed (by kernel_rfl) ?_)
 refine .cons (.move .none (.s rfl)) rfl ?_
 refine .cons (.len .none sl83 (.s rfl)) rfl ?_
 refine .cons (.move .none (.int (by decide))) rfl ?_
 refine .nil (.then ?_)
 obtain ⟨j_1, h, hK1⟩ := bind_some h
 refine .thenJ (ι := Int) (fun j_1 => [(3, ⟨True, rep j_1⟩)]) (fun j_1 => []) (fun s => j_1 = s) (.k 0 rfl .nil) SubB.nil ?_ (fun j_1' hj1 => ?_)
 ·
  skip
  refine .block ?_
  refine .rforL h (fun p2_ => [(11, ⟨True, rep p2_.1⟩), (3, ⟨True, rep p2_.2⟩)]) (fun p2_ => []) (.k 11 rfl (.k 3 rfl .nil)) SubB.nil (.k 0 rfl (.k 9 rfl (.k 10 rfl .nil))) SubB.nil (fun p2_ o_2 h hD2 => ?_)
  refine .seq (.region [] mixed (by kernel_rfl) ?_)
  refine .cons (.lt .none (.s rfl) (.s rfl)) rfl ?_
  refine .nil (.then ?_)
  refine .seq ?_
  refine .cond (t := 12) rfl trivial (fun hb3 => ?_) (fun hb3 => ?_)
  ·
   replace h := bif_t h hb3
   refine .skip ?_
   refine .then ?_
   refine .seq ?_
   obtain ⟨j_4, h, hK4⟩ := bind_some h
   unfold slices_Concat_Op_L1 at h
   refine .thenJ (ι := Int) (fun j_4 => [(3, ⟨True, rep j_4⟩)]) (fun j_4 => []) (fun s => j_4 = s) (.k 0 rfl (.k 9 rfl (.k 10 rfl (.k 11 rfl .nil)))) SubB.nil ?_ (fun j_4' hj4 => ?_)
   ·
    skip
    refine .block ?_
    refine .seq (.region [] mixed (by kernel_rfl) ?_)
    obtain ⟨hn5, h⟩ := need_some h
    refine .cons (.indexAddr .none sl83 ty22 (.s rfl) (.s rfl) (fun _ => hn5)) rfl ?_
    refine .cons (.load .none ty22 (.s rfl)) rfl ?_
    refine .cons (.assign .none (.s rfl)) rfl ?_
    refine .nil (.then ?_)
    refine .seq (.region [] mixed (by kernel_rfl) ?_)
    refine .cons (.move .none (.s rfl)) rfl ?_
    refine .cons (.move .none (.s rfl)) rfl ?_
    refine .cons (.len .none sl22 (.s rfl)) rfl ?_
    refine .cons (.addW .none (.s rfl) (.s rfl)) rfl ?_
    obtain ⟨size1, hv6, h⟩ := bnd_some h
    refine .cons (.re hv6 (.assign .none (.s rfl))) rfl ?_
    refine .nil (.then ?_)
    refine .seq (.region [] mixed (by kernel_rfl) ?_)
    refine .cons (.move .none (.s rfl)) rfl ?_
    refine .cons (.lt .none (.s rfl) (.int (by decide))) rfl ?_
    refine .nil (.then ?_)
    refine .cond (t := 20) rfl trivial (fun hb7 => ?_) (fun hb7 => ?_)
    ·
     replace h := bif_t h hb7
     cases h
    ·
     replace h := bif_f h hb7
     refine .skip ?_
     refine .blkNormal ?_
     exact Ends.join _ (some_eq h) (.k 3 rfl (.k 0 rfl (.k 9 rfl (.k 10 rfl (.k 11 rfl .nil))))) SubB.nil
   ·
    subst hj4; have h := hK4; clear hK4
    refine .region [] mixed (by kernel_rfl) ?_
    refine .cons (.addW .none (.s rfl) (.int (by decide))) rfl ?_
    refine .cons (.move .none (.s rfl)) rfl ?_
    refine .nil ?_
    exact Ends.againL (some_eq h) (.k 11 rfl (.k 3 rfl (.k 0 rfl (.k 9 rfl (.k 10 rfl .nil))))) SubB.nil
  ·
   replace h := bif_f h hb3
   refine .exit ?_
   refine .thenExit ?_
   refine .thenExit ?_
   refine .blkExit ?_
   replace h := hD2 _ (some_eq h)
   exact Ends.join _ (some_eq h) (.k 3 rfl (.k 0 rfl .nil)) SubB.nil
 ·
  subst hj1; have h := hK1; clear hK1
  refine .seq (.region [([], []), ([], [24]), ([24], [6, 24])] mixed (by kernel_rfl) ?_)
  refine .consA (.move .none (.s rfl)) rfl ?_
  obtain ⟨newslice1, hv8, h⟩ := bind_some h
  refine .consW (.callO [] (slices_Grow_Op_ok hv8) (.cons (.const (fun _ _ => rep_raw.2 ⟨rfl, rfl, rfl⟩)) (.cons (.s rfl) .nil)) .nil rfl (by decide) (by decide) (by intro d h; cases h; decide)) rfl rfl ?_
  refine .consW (.passRow rfl (.tmp rfl)) rfl rfl ?_
  refine .nil (.then ?_)
  refine .nameRow (t := 6) (g := 5001) rfl rfl rfl (fun s5001 => ?_)
  refine .seq ?_
  refine .seq (.region [] mixed (by kernel_rfl) ?_)
  refine .cons (.move .none (.s rfl)) rfl ?_
  refine .cons (.len .none sl83 (.s rfl)) rfl ?_
  refine .cons (.move .none (.int (by decide))) rfl ?_
  refine .nil (.then ?_)
  obtain ⟨j_9, h, hK9⟩ := bind_some h
  refine .thenJ (ι := (List DOp)) (fun j_9 => []) (fun j_9 => [(6, some (rowV 34 j_9))]) (fun s => j_9 = s) Sub.nil SubB.nil ?_ (fun j_9' hj9 => ?_)
  ·
   skip
   refine .block ?_
   refine .anon (t := 6) (g := 5001) rfl rfl trivial rfl ?_
   refine .rforL h (fun p10_ => [(27, ⟨True, rep p10_.1⟩)]) (fun p10_ => [(6, some (rowV 34 p10_.2))]) (.k 27 rfl .nil) (.k 6 rfl .nil) (.k 25 rfl (.k 26 rfl .nil)) SubB.nil (fun p10_ o_10 h hD10 => ?_)
   refine .nameRow (t := 6) (g := 5002) rfl rfl rfl (fun s5002 => ?_)
   refine .seq (.region [] mixed (by kernel_rfl) ?_)
   refine .cons (.lt .none (.s rfl) (.s rfl)) rfl ?_
   refine .nil (.then ?_)
   refine .seq ?_
   refine .cond (t := 28) rfl trivial (fun hb11 => ?_) (fun hb11 => ?_)
   ·
    replace h := bif_t h hb11
    refine .skip ?_
    refine .then ?_
    refine .seq ?_
    obtain ⟨j_12, h, hK12⟩ := bind_some h
    unfold slices_Concat_Op_L2 at h
    refine .thenJ (ι := (List DOp)) (fun j_12 => []) (fun j_12 => [(6, some (rowV 34 j_12))]) (fun s => j_12 = s) (.k 25 rfl (.k 26 rfl (.k 27 rfl .nil))) SubB.nil ?_ (fun j_12' hj12 => ?_)
    ·
     skip
     refine .block ?_
     refine .seq (.region [] mixed (by kernel_rfl) ?_)
     obtain ⟨hn13, h⟩ := need_some h
     refine .cons (.indexAddr .none sl83 ty22 (.s rfl) (.s rfl) (fun _ => hn13)) rfl ?_
     refine .cons (.load .none ty22 (.s rfl)) rfl ?_
     refine .cons (.assign .none (.s rfl)) rfl ?_
     refine .nil (.then ?_)
     refine .region [([], []), ([], []), ([5002], [33, 5002]), ([33], [6, 33])] mixed (by kernel_rfl) ?_
     refine .consA (.move .none (.s rfl)) rfl ?_
     refine .consA (.move .none (.s rfl)) rfl ?_
     obtain ⟨hn14, h⟩ := need_some h
     refine .consW (.append (k := 5002) rk22 rfl (.told (.s rfl) rfl) (.s rfl) hn14) rfl rfl ?_
     refine .consWD (.passRow rfl (.tmp rfl)) rfl rfl ?_
     refine .nil ?_
     refine .blkNormal ?_
     exact Ends.join _ (some_eq h) (.k 25 rfl (.k 26 rfl (.k 27 rfl .nil))) (.k 6 rfl .nil)
    ·
     subst hj12; have h := hK12; clear hK12
     refine .nameRow (t := 6) (g := 5003) rfl rfl rfl (fun s5003 => ?_)
     refine .region [] mixed (by kernel_rfl) ?_
     refine .cons (.addW .none (.s rfl) (.int (by decide))) rfl ?_
     refine .cons (.move .none (.s rfl)) rfl ?_
     refine .nil ?_
     refine .anon (t := 6) (g := 5003) rfl rfl trivial rfl ?_
     exact Ends.againL (some_eq h) (.k 27 rfl (.k 25 rfl (.k 26 rfl .nil))) (.k 6 rfl .nil)
   ·
    replace h := bif_f h hb11
    refine .exit ?_
    refine .thenExit ?_
    refine .thenExit ?_
    refine .blkExit ?_
    refine .anon (t := 6) (g := 5002) rfl rfl trivial rfl ?_
    replace h := hD10 _ (some_eq h)
    exact Ends.join _ (some_eq h) Sub.nil (.k 6 rfl .nil)
  ·
   subst hj9; have h := hK9; clear hK9
   refine .nameRow (t := 6) (g := 5004) rfl rfl rfl (fun s5004 => ?_)
   refine .seq (.region [] mixed (by kernel_rfl) ?_)
   refine .cons (.move .none (.s rfl)) rfl ?_
   refine .cons (.assign .none (.s rfl)) rfl ?_
   refine .nil (.then ?_)
   refine .ret ?_
   refine .anon (t := 2) (g := 5004) rfl rfl trivial rfl ?_
   obtain rfl := some_eq h
   exact Ends.ret1O (.inl rfl) [2] Tryd.results41 (by decide) (.res rfl rfl) (ResOK.tmp rfl trivial (fun _ _ _ _ => trivial))

theorem slices_insertionSortCmpFunc_Op_ok {data1 : (List DOp)} {a1 : Int} {b1 : Int} {cmp1 : (DOp → DOp → Option Int)} {r : (List DOp)} {s53 : Value} (h : slices_insertionSortCmpFunc_Op data1 a1 b1 cmp1 = some r) : FSpecO Tryd.prog 82 [isV s53, rep a1, rep b1, fn2 Tryd.prog (rep (α := Int)) cmp1] [(s53, rowV 34 data1)] (anyV) [some (rowV 34 r)] := by
 unfold slices_insertionSortCmpFunc_Op at h
 refine FSpecO.intro (n := 53) fnok82 Tryd.func82 rfl Tryd.ntmps82 rfl (fun F => ?_)
 refine .seq (.region [] mixed (by kernel_rfl) ?_)
 refine .cons (.move .none (.s rfl)) rfl ?_
 refine .cons (.addW .none (.s rfl) (.int (by decide))) rfl ?_
 obtain ⟨i1, hv1, h⟩ := bnd_some h
 refine .cons (.re hv1 (.assign .none (.s rfl))) rfl ?_
 refine .nil (.then ?_)
 refine .block ?_
 refine .loopL h (fun s2_ => [(8, ⟨True, rep s2_.1⟩)]) (fun s2_ => [(53, some (CPred.at s53 (rowV 34 s2_.2)))]) (.k 8 rfl .nil) (.k 53 rfl .nil) (.k 0 rfl (.k 1 rfl (.k 2 rfl (.k 3 rfl .nil)))) SubB.nil (fun s2_ o_2 h hD2 => ?_)
 unfold slices_insertionSortCmpFunc_Op_L1 at h
 refine .seq ?_
 refine .seq (.region [] mixed (by kernel_rfl) ?_)
 refine .cons (.move .none (.s rfl)) rfl ?_
 refine .cons (.move .none (.s rfl)) rfl ?_
 refine .cons (.lt .none (.s rfl) (.s rfl)) rfl ?_
 refine .nil (.then ?_)
 refine .cond (t := 14) rfl trivial (fun hb3 => ?_) (fun hb3 => ?_)
 ·
  replace h := bif_t h hb3
  refine .skip ?_
  refine .then ?_
  refine .seq ?_
  obtain ⟨j_4, h, hK4⟩ := bind_some h
  refine .thenJ (ι := (List DOp)) (fun j_4 => []) (fun j_4 => [(53, some (CPred.at s53 (rowV 34 j_4)))]) (fun s => j_4 = s) (.k 0 rfl (.k 1 rfl (.k 2 rfl (.k 3 rfl (.k 8 rfl .nil))))) SubB.nil ?_ (fun j_4' hj4 => ?_)
  ·
   skip
   refine .block ?_
   refine .seq (.region [] mixed (by kernel_rfl) ?_)
   refine .cons (.move .none (.s rfl)) rfl ?_
   refine .cons (.assign .none (.s rfl)) rfl ?_
   refine .nil (.then ?_)
   refine .block ?_
   refine .loopL h (fun s5_ => [(9, ⟨True, rep s5_.1⟩)]) (fun s5_ => [(53, some (CPred.at s53 (rowV 34 s5_.2)))]) (.k 9 rfl .nil) (.k 53 rfl .nil) (.k 0 rfl (.k 1 rfl (.k 2 rfl (.k 3 rfl (.k 8 rfl .nil))))) SubB.nil (fun s5_ o_5 h hD5 => ?_)
   unfold slices_insertionSortCmpFunc_Op_L2 at h
   refine .seq ?_
   refine .seq (.region [([], []), ([], []), ([], []), ([], []), ([], []), ([], []), ([], []), ([53], []), ([53], []), ([], []), ([], []), ([], []), ([53], []), ([53], []), ([], []), ([], []), ([], [])] mixed (by kernel_rfl) ?_)
   refine .consA (.move .none (.s rfl)) rfl ?_
   refine .consA (.move .none (.s rfl)) rfl ?_
   refine .consA (.gt .none (.s rfl) (.s rfl)) rfl ?_
   refine .consA (.move .none (.s rfl)) rfl ?_
   refine .consA (.move (.at rfl rfl) (.s rfl)) rfl ?_
   refine .consA (.move (.at rfl rfl) (.s rfl)) rfl ?_
   refine .consA (.move (.at rfl rfl) (.s rfl)) rfl ?_
   obtain ⟨hn6, h⟩ := need_some h
   refine .consA (.indexAddrO (k := 53) (.at rfl rfl) sl22 ty34 (.tmp rfl id) rfl (.tmp rfl id) (fun hg => hn6 hg.2)) rfl ?_
   refine .consA (.loadElem0 (k := 53) (.at rfl rfl) ty34 (.tmp rfl id) rfl (fun hg => hn6 hg.2)) rfl ?_
   refine .consA (.move (.at rfl rfl) (.s rfl)) rfl ?_
   refine .consA (.move (.at rfl rfl) (.s rfl)) rfl ?_
   refine .consA (.subW (.at rfl rfl) (.tmp rfl id) (.int (by decide))) rfl ?_
   obtain ⟨hn7, h⟩ := need_some h
   refine .consA (.indexAddrO (k := 53) (.at rfl rfl) sl22 ty34 (.tmp rfl id) rfl (.tmp rfl id) (fun hg => hn7 hg.2)) rfl ?_
   refine .consA (.loadElem0 (k := 53) (.at rfl rfl) ty34 (.tmp rfl id) rfl (fun hg => hn7 hg.2)) rfl ?_
   obtain ⟨r1, hv8, h⟩ := bind_some h
   refine .consA (.callV (gx s5_.2 s5_.1, gx s5_.2 (W (s5_.1 - 1)), r1) (.at rfl rfl) (.tmp rfl id) (fun hg => gd_some hv8 (hg.2)) (.cons (.tmp rfl id) (.cons (.tmp rfl id) .nil))) rfl ?_
   refine .consA (.lt (.at rfl rfl) (.tmp rfl id) (.int (by decide))) rfl ?_
   refine .consA (.pickAnd .none (.s rfl) (.tmp rfl id)) rfl ?_
   refine .nil (.then ?_)
   refine .cond (t := 34) rfl trivial (fun hb9 => ?_) (fun hb9 => ?_)
   ·
    replace h := bif_t h hb9
    refine .skip ?_
    refine .then ?_
    refine .seq ?_
    refine .block ?_
    refine .region [([], []), ([], []), ([], []), ([], []), ([], []), ([], []), ([], []), ([], []), ([53], []), ([53], []), ([], []), ([], []), ([53], []), ([53], []), ([53], []), ([53], [53]), ([53], []), ([53], [53])] mixed (by kernel_rfl) ?_
    refine .consA (.move .none (.s rfl)) rfl ?_
    refine .consA (.move .none (.s rfl)) rfl ?_
    refine .consA (.move .none (.s rfl)) rfl ?_
    refine .consA (.move .none (.s rfl)) rfl ?_
    refine .consA (.subW .none (.s rfl) (.int (by decide))) rfl ?_
    refine .consA (.move .none (.s rfl)) rfl ?_
    refine .consA (.move .none (.s rfl)) rfl ?_
    refine .consA (.subW .none (.s rfl) (.int (by decide))) rfl ?_
    obtain ⟨hn10, h⟩ := need_some h
    refine .consA (.indexAddrO (k := 53) .none sl22 ty34 (.s rfl) rfl (.s rfl) (fun _ => hn10)) rfl ?_
    obtain ⟨v1, hv11, h⟩ := bnd_some h
    refine .consA (.re hv11 (.loadElem0 (k := 53) .none ty34 (.s rfl) rfl (fun _ => hn10))) rfl ?_
    refine .consA (.move .none (.s rfl)) rfl ?_
    refine .consA (.move .none (.s rfl)) rfl ?_
    obtain ⟨hn12, h⟩ := need_some h
    refine .consA (.indexAddrO (k := 53) .none sl22 ty34 (.s rfl) rfl (.s rfl) (fun _ => hn12)) rfl ?_
    obtain ⟨v2, hv13, h⟩ := bnd_some h
    refine .consA (.re hv13 (.loadElem0 (k := 53) .none ty34 (.s rfl) rfl (fun _ => hn12))) rfl ?_
    obtain ⟨hn14, h⟩ := need_some h
    refine .consA (.indexAddrO (k := 53) .none sl22 ty34 (.s rfl) rfl (.s rfl) (fun _ => hn14)) rfl ?_
    refine .consN (.storeElem0 (k := 53) ty34 (.s rfl) rfl (.s rfl) hn14) rfl ?_
    obtain ⟨hn15, h⟩ := need_some h
    refine .consA (.indexAddrO (k := 53) .none sl22 ty34 (.s rfl) rfl (.s rfl) (fun _ => hn15)) rfl ?_
    refine .consN (.storeElem0 (k := 53) ty34 (.s rfl) rfl (.s rfl) hn15) rfl ?_
    refine .nil ?_
    refine .blkNormal ?_
    refine .then ?_
    obtain ⟨data2, hv16, h⟩ := bnd_some h
    refine .reB (t := 53) rfl (congrArg (fun y => CPred.at s53 (rowV 34 y)) hv16) ?_
    refine .region [] mixed (by kernel_rfl) ?_
    refine .cons (.move .none (.s rfl)) rfl ?_
    refine .cons (.subW .none (.s rfl) (.int (by decide))) rfl ?_
    obtain ⟨j1, hv17, h⟩ := bnd_some h
    refine .cons (.re hv17 (.assign .none (.s rfl))) rfl ?_
    refine .nil ?_
    exact Ends.againL (some_eq h) (.k 9 rfl (.k 0 rfl (.k 1 rfl (.k 2 rfl (.k 3 rfl (.k 8 rfl .nil)))))) (.k 53 rfl .nil)
   ·
    replace h := bif_f h hb9
    refine .exit ?_
    refine .thenExit ?_
    refine .thenExit ?_
    refine .blkExit ?_
    refine .blkNormal ?_
    replace h := hD5 _ (some_eq h)
    exact Ends.join _ (some_eq h) (.k 0 rfl (.k 1 rfl (.k 2 rfl (.k 3 rfl (.k 8 rfl .nil))))) (.k 53 rfl .nil)
  ·
   subst hj4; have h := hK4; clear hK4
   refine .region [] mixed (by kernel_rfl) ?_
   refine .cons (.move .none (.s rfl)) rfl ?_
   refine .cons (.addW .none (.s rfl) (.int (by decide))) rfl ?_
   obtain ⟨i2, hv18, h⟩ := bnd_some h
   refine .cons (.re hv18 (.assign .none (.s rfl))) rfl ?_
   refine .nil ?_
   exact Ends.againL (some_eq h) (.k 8 rfl (.k 0 rfl (.k 1 rfl (.k 2 rfl (.k 3 rfl .nil))))) (.k 53 rfl .nil)
 ·
  replace h := bif_f h hb3
  refine .exit ?_
  refine .thenExit ?_
  refine .thenExit ?_
  refine .blkExit ?_
  replace h := hD2 _ (some_eq h)
  obtain rfl := some_eq h
  exact Ends.ret0O (.inr rfl) [53] Tryd.results82 (by decide) (.held rfl .nil) 

theorem slices_swapRangeCmpFunc_Op_ok {data1 : (List DOp)} {a1 : Int} {b1 : Int} {n1 : Int} {cmp1 : (DOp → DOp → Option Int)} {r : (List DOp)} {s38 : Value} (h : slices_swapRangeCmpFunc_Op data1 a1 b1 n1 cmp1 = some r) : FSpecO Tryd.prog 110 [isV s38, rep a1, rep b1, rep n1, fn2 Tryd.prog (rep (α := Int)) cmp1] [(s38, rowV 34 data1)] (anyV) [some (rowV 34 r)] := by
 unfold slices_swapRangeCmpFunc_Op at h
 refine FSpecO.intro (n := 38) fnok110 Tryd.func110 rfl Tryd.ntmps110 rfl (fun F => ?_)
 refine .seq (.region [] mixed (by kernel_rfl) ?_)
 refine .cons (.assign .none (.int (by decide))) rfl ?_
 refine .nil (.then ?_)
 refine .block ?_
 refine .loopL h (fun s1_ => [(10, ⟨True, rep s1_.1⟩)]) (fun s1_ => [(38, some (CPred.at s38 (rowV 34 s1_.2)))]) (.k 10 rfl .nil) (.k 38 rfl .nil) (.k 0 rfl (.k 1 rfl (.k 2 rfl (.k 3 rfl .nil)))) SubB.nil (fun s1_ o_1 h hD1 => ?_)
 unfold slices_swapRangeCmpFunc_Op_L1 at h
 refine .seq ?_
 refine .seq (.region [] mixed (by kernel_rfl) ?_)
 refine .cons (.move .none (.s rfl)) rfl ?_
 refine .cons (.move .none (.s rfl)) rfl ?_
 refine .cons (.lt .none (.s rfl) (.s rfl)) rfl ?_
 refine .nil (.then ?_)
 refine .cond (t := 13) rfl trivial (fun hb2 => ?_) (fun hb2 => ?_)
 ·
  replace h := bif_t h hb2
  refine .skip ?_
  refine .then ?_
  refine .seq ?_
  refine .block ?_
  refine .region [([], []), ([], []), ([], []), ([], []), ([], []), ([], []), ([], []), ([], []), ([], []), ([], []), ([], []), ([], []), ([38], []), ([38], []), ([], []), ([], []), ([], []), ([], []), ([38], []), ([38], []), ([38], []), ([38], [38]), ([38], []), ([38], [38])] mixed (by kernel_rfl) ?_
  refine .consA (.move .none (.s rfl)) rfl ?_
  refine .consA (.move .none (.s rfl)) rfl ?_
  refine .consA (.move .none (.s rfl)) rfl ?_
  refine .consA (.addW .none (.s rfl) (.s rfl)) rfl ?_
  refine .consA (.move .none (.s rfl)) rfl ?_
  refine .consA (.move .none (.s rfl)) rfl ?_
  refine .consA (.move .none (.s rfl)) rfl ?_
  refine .consA (.addW .none (.s rfl) (.s rfl)) rfl ?_
  refine .consA (.move .none (.s rfl)) rfl ?_
  refine .consA (.move .none (.s rfl)) rfl ?_
  refine .consA (.move .none (.s rfl)) rfl ?_
  refine .consA (.addW .none (.s rfl) (.s rfl)) rfl ?_
  obtain ⟨hn3, h⟩ := need_some h
  refine .consA (.indexAddrO (k := 38) .none sl22 ty34 (.s rfl) rfl (.s rfl) (fun _ => hn3)) rfl ?_
  obtain ⟨v1, hv4, h⟩ := bnd_some h
  refine .consA (.re hv4 (.loadElem0 (k := 38) .none ty34 (.s rfl) rfl (fun _ => hn3))) rfl ?_
  refine .consA (.move .none (.s rfl)) rfl ?_
  refine .consA (.move .none (.s rfl)) rfl ?_
  refine .consA (.move .none (.s rfl)) rfl ?_
  refine .consA (.addW .none (.s rfl) (.s rfl)) rfl ?_
  obtain ⟨hn5, h⟩ := need_some h
  refine .consA (.indexAddrO (k := 38) .none sl22 ty34 (.s rfl) rfl (.s rfl) (fun _ => hn5)) rfl ?_
  obtain ⟨v2, hv6, h⟩ := bnd_some h
  refine .consA (.re hv6 (.loadElem0 (k := 38) .none ty34 (.s rfl) rfl (fun _ => hn5))) rfl ?_
  obtain ⟨hn7, h⟩ := need_some h
  refine .consA (.indexAddrO (k := 38) .none sl22 ty34 (.s rfl) rfl (.s rfl) (fun _ => hn7)) rfl ?_
  refine .consN (.storeElem0 (k := 38) ty34 (.s rfl) rfl (.s rfl) hn7) rfl ?_
  obtain ⟨hn8, h⟩ := need_some h
  refine .consA (.indexAddrO (k := 38) .none sl22 ty34 (.s rfl) rfl (.s rfl) (fun _ => hn8)) rfl ?_
  refine .consN (.storeElem0 (k := 38) ty34 (.s rfl) rfl (.s rfl) hn8) rfl ?_
  refine .nil ?_
  refine .blkNormal ?_
  refine .then ?_
  obtain ⟨data2, hv9, h⟩ := bnd_some h
  refine .reB (t := 38) rfl (congrArg (fun y => CPred.at s38 (rowV 34 y)) hv9) ?_
  refine .region [] mixed (by kernel_rfl) ?_
  refine .cons (.move .none (.s rfl)) rfl ?_
  refine .cons (.addW .none (.s rfl) (.int (by decide))) rfl ?_
  obtain ⟨i1, hv10, h⟩ := bnd_some h
  refine .cons (.re hv10 (.assign .none (.s rfl))) rfl ?_
  refine .nil ?_
  exact Ends.againL (some_eq h) (.k 10 rfl (.k 0 rfl (.k 1 rfl (.k 2 rfl (.k 3 rfl .nil))))) (.k 38 rfl .nil)
 ·
  replace h := bif_f h hb2
  refine .exit ?_
  refine .thenExit ?_
  refine .thenExit ?_
  refine .blkExit ?_
  replace h := hD1 _ (some_eq h)
  obtain rfl := some_eq h
  exact Ends.ret0O (.inr rfl) [38] Tryd.results110 (by decide) (.held rfl .nil) 

theorem slices_rotateCmpFunc_Op_ok {data1 : (List DOp)} {a1 : Int} {m1 : Int} {b1 : Int} {cmp1 : (DOp → DOp → Option Int)} {r : (List DOp)} {s58 : Value} (h : slices_rotateCmpFunc_Op data1 a1 m1 b1 cmp1 = some r) : FSpecO Tryd.prog 100 [isV s58, rep a1, rep m1, rep b1, fn2 Tryd.prog (rep (α := Int)) cmp1] [(s58, rowV 34 data1)] (anyV) [some (rowV 34 r)] := by
 unfold slices_rotateCmpFunc_Op at h
 refine FSpecO.intro (n := 58) fnok100 Tryd.func100 rfl Tryd.ntmps100 rfl (fun F => ?_)
 refine .seq (.region [] mixed (by kernel_rfl) ?_)
 refine .cons (.move .none (.s rfl)) rfl ?_
 refine .cons (.move .none (.s rfl)) rfl ?_
 refine .cons (.subW .none (.s rfl) (.s rfl)) rfl ?_
 obtain ⟨i1, hv1, h⟩ := bnd_some h
 refine .cons (.re hv1 (.assign .none (.s rfl))) rfl ?_
 refine .nil (.then ?_)
 refine .seq (.region [] mixed (by kernel_rfl) ?_)
 refine .cons (.move .none (.s rfl)) rfl ?_
 refine .cons (.move .none (.s rfl)) rfl ?_
 refine .cons (.subW .none (.s rfl) (.s rfl)) rfl ?_
 obtain ⟨j1, hv2, h⟩ := bnd_some h
 refine .cons (.re hv2 (.assign .none (.s rfl))) rfl ?_
 refine .nil (.then ?_)
 refine .seq ?_
 obtain ⟨j_3, h, hK3⟩ := bind_some h
 refine .thenJ (ι := (Int × (List DOp))) (fun j_3 => [(10, ⟨True, rep j_3.1⟩)]) (fun j_3 => [(58, some (CPred.at s58 (rowV 34 j_3.2)))]) (fun s => j_3 = s) (.k 0 rfl (.k 2 rfl (.k 4 rfl .nil))) SubB.nil ?_ (fun j_3' hj3 => ?_)
 ·
  skip
  refine .block ?_
  refine .loopL h (fun s4_ => [(10, ⟨True, rep s4_.1⟩), (11, ⟨True, rep s4_.2.1⟩)]) (fun s4_ => [(58, some (CPred.at s58 (rowV 34 s4_.2.2)))]) (.k 10 rfl (.k 11 rfl .nil)) (.k 58 rfl .nil) (.k 0 rfl (.k 2 rfl (.k 4 rfl .nil))) SubB.nil (fun s4_ o_4 h hD4 => ?_)
  unfold slices_rotateCmpFunc_Op_L1 at h
  refine .seq ?_
  refine .seq (.region [] mixed (by kernel_rfl) ?_)
  refine .cons (.move .none (.s rfl)) rfl ?_
  refine .cons (.move .none (.s rfl)) rfl ?_
  refine .cons (.neI .none (.s rfl) (.s rfl)) rfl ?_
  refine .nil (.then ?_)
  refine .cond (t := 20) rfl trivial (fun hb5 => ?_) (fun hb5 => ?_)
  ·
   replace h := bif_t h hb5
   refine .skip ?_
   refine .then ?_
   refine .block ?_
   refine .seq (.region [] mixed (by kernel_rfl) ?_)
   refine .cons (.move .none (.s rfl)) rfl ?_
   refine .cons (.move .none (.s rfl)) rfl ?_
   refine .cons (.gt .none (.s rfl) (.s rfl)) rfl ?_
   refine .nil (.then ?_)
   refine .cond (t := 23) rfl trivial (fun hb6 => ?_) (fun hb6 => ?_)
   ·
    replace h := bif_t h hb6
    refine .seq (.region [([], []), ([], []), ([], []), ([], []), ([], []), ([], []), ([], []), ([58], [58])] mixed (by kernel_rfl) ?_)
    refine .consA (.move .none (.s rfl)) rfl ?_
    refine .consA (.move .none (.s rfl)) rfl ?_
    refine .consA (.move .none (.s rfl)) rfl ?_
    refine .consA (.subW .none (.s rfl) (.s rfl)) rfl ?_
    refine .consA (.move .none (.s rfl)) rfl ?_
    refine .consA (.move .none (.s rfl)) rfl ?_
    refine .consA (.move .none (.s rfl)) rfl ?_
    obtain ⟨r1, hv7, h⟩ := bind_some h
    refine .consW (.callO [58] (slices_swapRangeCmpFunc_Op_ok hv7) (.cons (.s rfl) (.cons (.s rfl) (.cons (.s rfl) (.cons (.s rfl) (.cons (.s rfl) .nil))))) (.cons (k := 58) rfl .nil) rfl (by decide) (by decide) (by intro d h; cases h; decide)) rfl rfl ?_
    refine .nil (.then ?_)
    refine .region [] mixed (by kernel_rfl) ?_
    refine .cons (.move .none (.s rfl)) rfl ?_
    refine .cons (.move .none (.s rfl)) rfl ?_
    refine .cons (.subW .none (.s rfl) (.s rfl)) rfl ?_
    obtain ⟨i2, hv8, h⟩ := bnd_some h
    refine .cons (.re hv8 (.assign .none (.s rfl))) rfl ?_
    refine .nil ?_
    refine .blkNormal ?_
    exact Ends.againL (some_eq h) (.k 10 rfl (.k 11 rfl (.k 0 rfl (.k 2 rfl (.k 4 rfl .nil))))) (.k 58 rfl .nil)
   ·
    replace h := bif_f h hb6
    refine .seq (.region [([], []), ([], []), ([], []), ([], []), ([], []), ([], []), ([], []), ([], []), ([], []), ([], []), ([], []), ([58], [58])] mixed (by kernel_rfl) ?_)
    refine .consA (.move .none (.s rfl)) rfl ?_
    refine .consA (.move .none (.s rfl)) rfl ?_
    refine .consA (.move .none (.s rfl)) rfl ?_
    refine .consA (.subW .none (.s rfl) (.s rfl)) rfl ?_
    refine .consA (.move .none (.s rfl)) rfl ?_
    refine .consA (.move .none (.s rfl)) rfl ?_
    refine .consA (.addW .none (.s rfl) (.s rfl)) rfl ?_
    refine .consA (.move .none (.s rfl)) rfl ?_
    refine .consA (.subW .none (.s rfl) (.s rfl)) rfl ?_
    refine .consA (.move .none (.s rfl)) rfl ?_
    refine .consA (.move .none (.s rfl)) rfl ?_
    obtain ⟨r2, hv9, h⟩ := bind_some h
    refine .consW (.callO [58] (slices_swapRangeCmpFunc_Op_ok hv9) (.cons (.s rfl) (.cons (.s rfl) (.cons (.s rfl) (.cons (.s rfl) (.cons (.s rfl) .nil))))) (.cons (k := 58) rfl .nil) rfl (by decide) (by decide) (by intro d h; cases h; decide)) rfl rfl ?_
    refine .nil (.then ?_)
    refine .region [] mixed (by kernel_rfl) ?_
    refine .cons (.move .none (.s rfl)) rfl ?_
    refine .cons (.move .none (.s rfl)) rfl ?_
    refine .cons (.subW .none (.s rfl) (.s rfl)) rfl ?_
    obtain ⟨j2, hv10, h⟩ := bnd_some h
    refine .cons (.re hv10 (.assign .none (.s rfl))) rfl ?_
    refine .nil ?_
    refine .blkNormal ?_
    exact Ends.againL (some_eq h) (.k 10 rfl (.k 11 rfl (.k 0 rfl (.k 2 rfl (.k 4 rfl .nil))))) (.k 58 rfl .nil)
  ·
   replace h := bif_f h hb5
   refine .exit ?_
   refine .thenExit ?_
   refine .thenExit ?_
   refine .blkExit ?_
   replace h := hD4 _ (some_eq h)
   exact Ends.join _ (some_eq h) (.k 10 rfl (.k 0 rfl (.k 2 rfl (.k 4 rfl .nil)))) (.k 58 rfl .nil)
 ·
  subst hj3; have h := hK3; clear hK3
  refine .region [([], []), ([], []), ([], []), ([], []), ([], []), ([], []), ([], []), ([58], [58])] mixed (by kernel_rfl) ?_
  refine .consA (.move .none (.s rfl)) rfl ?_
  refine .consA (.move .none (.s rfl)) rfl ?_
  refine .consA (.move .none (.s rfl)) rfl ?_
  refine .consA (.subW .none (.s rfl) (.s rfl)) rfl ?_
  refine .consA (.move .none (.s rfl)) rfl ?_
  refine .consA (.move .none (.s rfl)) rfl ?_
  refine .consA (.move .none (.s rfl)) rfl ?_
  obtain ⟨r3, hv11, h⟩ := bind_some h
  refine .consW (.callO [58] (slices_swapRangeCmpFunc_Op_ok hv11) (.cons (.s rfl) (.cons (.s rfl) (.cons (.s rfl) (.cons (.s rfl) (.cons (.s rfl) .nil))))) (.cons (k := 58) rfl .nil) rfl (by decide) (by decide) (by intro d h; cases h; decide)) rfl rfl ?_
  refine .nil ?_
  obtain rfl := some_eq h
  exact Ends.ret0O (.inr rfl) [58] Tryd.results100 (by decide) (.held rfl .nil) 

set_option maxHeartbeats 4000000 in
theorem slices_symMergeCmpFunc_Op_okS {self : ((List DOp) × Int × Int × Int × (DOp → DOp → Option Int)) → Option (List DOp)} (hself : ∀ {s220 : Value} (x : ((List DOp) × Int × Int × Int × (DOp → DOp → Option Int))) (r : (List DOp)), self x = some r → FSpecO Tryd.prog 83 [isV s220, rep x.2.1, rep x.2.2.1, rep x.2.2.2.1, fn2 Tryd.prog (rep (α := Int)) x.2.2.2.2] [(s220, rowV 34 x.1)] (anyV) [some (rowV 34 r)]) {s220 : Value} {x : ((List DOp) × Int × Int × Int × (DOp → DOp → Option Int))} {r : (List DOp)} (h : slices_symMergeCmpFunc_Op_body self x = some r) : FSpecO Tryd.prog 83 [isV s220, rep x.2.1, rep x.2.2.1, rep x.2.2.2.1, fn2 Tryd.prog (rep (α := Int)) x.2.2.2.2] [(s220, rowV 34 x.1)] (anyV) [some (rowV 34 r)] := by
 unfold slices_symMergeCmpFunc_Op_body at h
 refine FSpecO.intro (n := 220) fnok83 Tryd.func83 rfl Tryd.ntmps83 rfl (fun F => ?_)
 refine .seq ?_
 refine .seq (.region [] mixed (by kernel_rfl) ?_)
 refine .cons (.move .none (.s rfl)) rfl ?_
 refine .cons (.move .none (.s rfl)) rfl ?_
 refine .cons (.subW .none (.s rfl) (.s rfl)) rfl ?_
 refine .cons (.eqI .none (.s rfl) (.int (by decide))) rfl ?_
 refine .nil (.then ?_)
 obtain ⟨o_1, h, hK1⟩ := bindR_some h
 refine .thenJ (ι := Unit) (fun j_1 => []) (fun j_1 => []) (fun s => o_1 = Res.nx s) (.k 0 rfl (.k 1 rfl (.k 2 rfl (.k 3 rfl (.k 4 rfl .nil))))) (.k 220 rfl .nil) ?_ (fun j_1 hj1 => ?_)
 ·
  skip
  refine .cond (t := 28) rfl trivial (fun hb2 => ?_) (fun hb2 => ?_)
  ·
   replace h := bif_t h hb2
   refine .seq (.region [] mixed (by kernel_rfl) ?_)
   refine .cons (.move .none (.s rfl)) rfl ?_
   refine .cons (.assign .none (.s rfl)) rfl ?_
   refine .nil (.then ?_)
   refine .seq (.region [] mixed (by kernel_rfl) ?_)
   refine .cons (.move .none (.s rfl)) rfl ?_
   refine .cons (.assign .none (.s rfl)) rfl ?_
   refine .nil (.then ?_)
   refine .seq ?_
   obtain ⟨j_3, h, hK3⟩ := bind_some h
   refine .thenJ (ι := Int) (fun j_3 => [(10, ⟨True, rep j_3⟩)]) (fun j_3 => []) (fun s => j_3 = s) (.k 0 rfl (.k 1 rfl .nil)) (.k 220 rfl .nil) ?_ (fun j_3' hj3 => ?_)
   ·
    skip
    refine .block ?_
    refine .loopL h (fun s4_ => [(10, ⟨True, rep s4_.1⟩), (11, ⟨True, rep s4_.2⟩)]) (fun s4_ => []) (.k 10 rfl (.k 11 rfl .nil)) SubB.nil (.k 0 rfl (.k 1 rfl (.k 4 rfl .nil))) (.k 220 rfl .nil) (fun s4_ o_4 h hD4 => ?_)
    unfold slices_symMergeCmpFunc_Op_L1 at h
    refine .seq ?_
    refine .seq (.region [] mixed (by kernel_rfl) ?_)
    refine .cons (.move .none (.s rfl)) rfl ?_
    refine .cons (.move .none (.s rfl)) rfl ?_
    refine .cons (.lt .none (.s rfl) (.s rfl)) rfl ?_
    refine .nil (.then ?_)
    refine .cond (t := 33) rfl trivial (fun hb5 => ?_) (fun hb5 => ?_)
    ·
     replace h := bif_t h hb5
     refine .skip ?_
     refine .then ?_
     refine .block ?_
     refine .seq (.region [] mixed (by kernel_rfl) ?_)
     refine .cons (.move .none (.s rfl)) rfl ?_
     refine .cons (.move .none (.s rfl)) rfl ?_
     refine .cons (.addW .none (.s rfl) (.s rfl)) rfl ?_
     refine .cons (.toK .none (by kernel_rfl) Tryd.underlying88 (.s rfl)) rfl ?_
     refine .cons (.kshr .none (.s rfl) .ki (fun _ => by decide)) rfl ?_
     refine .cons (.toInt .none (by kernel_rfl) Tryd.underlying3 (.s rfl)) rfl ?_
     obtain ⟨h1, hv6, h⟩ := bnd_some h
     refine .cons (.re hv6 (.assign .none (.s rfl))) rfl ?_
     refine .nil (.then ?_)
     refine .seq (.region [([], []), ([], []), ([], []), ([220], []), ([220], []), ([], []), ([], []), ([220], []), ([220], []), ([], []), ([], [])] mixed (by kernel_rfl) ?_)
     refine .consA (.move .none (.s rfl)) rfl ?_
     refine .consA (.move .none (.s rfl)) rfl ?_
     refine .consA (.move .none (.s rfl)) rfl ?_
     obtain ⟨hn7, h⟩ := need_some h
     refine .consA (.indexAddrO (k := 220) .none sl22 ty34 (.s rfl) rfl (.s rfl) (fun _ => hn7)) rfl ?_
     refine .consA (.loadElem0 (k := 220) .none ty34 (.s rfl) rfl (fun _ => hn7)) rfl ?_
     refine .consA (.move .none (.s rfl)) rfl ?_
     refine .consA (.move .none (.s rfl)) rfl ?_
     obtain ⟨hn8, h⟩ := need_some h
     refine .consA (.indexAddrO (k := 220) .none sl22 ty34 (.s rfl) rfl (.s rfl) (fun _ => hn8)) rfl ?_
     refine .consA (.loadElem0 (k := 220) .none ty34 (.s rfl) rfl (fun _ => hn8)) rfl ?_
     obtain ⟨r1, hv9, h⟩ := bind_some h
     refine .consA (.callV (gx x.1 h1, gx x.1 x.2.1, r1) .none (.s rfl) (fun _ => hv9) (.cons (.s rfl) (.cons (.s rfl) .nil))) rfl ?_
     refine .consA (.lt .none (.s rfl) (.int (by decide))) rfl ?_
     refine .nil (.then ?_)
     refine .cond (t := 50) rfl trivial (fun hb10 => ?_) (fun hb10 => ?_)
     ·
      replace h := bif_t h hb10
      refine .region [] mixed (by kernel_rfl) ?_
      refine .cons (.move .none (.s rfl)) rfl ?_
      refine .cons (.addW .none (.s rfl) (.int (by decide))) rfl ?_
      obtain ⟨i1, hv11, h⟩ := bnd_some h
      refine .cons (.re hv11 (.assign .none (.s rfl))) rfl ?_
      refine .nil ?_
      refine .blkNormal ?_
      exact Ends.againL (some_eq h) (.k 10 rfl (.k 11 rfl (.k 0 rfl (.k 1 rfl (.k 4 rfl .nil))))) (.k 220 rfl .nil)
     ·
      replace h := bif_f h hb10
      refine .region [] mixed (by kernel_rfl) ?_
      refine .cons (.move .none (.s rfl)) rfl ?_
      refine .cons (.assign .none (.s rfl)) rfl ?_
      refine .nil ?_
      refine .blkNormal ?_
      exact Ends.againL (some_eq h) (.k 10 rfl (.k 11 rfl (.k 0 rfl (.k 1 rfl (.k 4 rfl .nil))))) (.k 220 rfl .nil)
    ·
     replace h := bif_f h hb5
     refine .exit ?_
     refine .thenExit ?_
     refine .thenExit ?_
     refine .blkExit ?_
     replace h := hD4 _ (some_eq h)
     exact Ends.join _ (some_eq h) (.k 10 rfl (.k 0 rfl (.k 1 rfl .nil))) (.k 220 rfl .nil)
   ·
    subst hj3; have h := hK3; clear hK3
    refine .seq ?_
    refine .seq (.region [] mixed (by kernel_rfl) ?_)
    refine .cons (.move .none (.s rfl)) rfl ?_
    refine .cons (.assign .none (.s rfl)) rfl ?_
    refine .nil (.then ?_)
    obtain ⟨j_12, h, hK12⟩ := bind_some h
    refine .thenJ (ι := (List DOp)) (fun j_12 => []) (fun j_12 => [(220, some (CPred.at s220 (rowV 34 j_12)))]) (fun s => j_12 = s) Sub.nil SubB.nil ?_ (fun j_12' hj12 => ?_)
    ·
     skip
     refine .block ?_
     refine .loopL h (fun s13_ => [(13, ⟨True, rep s13_.1⟩)]) (fun s13_ => [(220, some (CPred.at s220 (rowV 34 s13_.2)))]) (.k 13 rfl .nil) (.k 220 rfl .nil) (.k 0 rfl (.k 10 rfl .nil)) SubB.nil (fun s13_ o_13 h hD13 => ?_)
     unfold slices_symMergeCmpFunc_Op_L2 at h
     refine .seq ?_
     refine .seq (.region [] mixed (by kernel_rfl) ?_)
     refine .cons (.move .none (.s rfl)) rfl ?_
     refine .cons (.move .none (.s rfl)) rfl ?_
     refine .cons (.subW .none (.s rfl) (.int (by decide))) rfl ?_
     refine .cons (.lt .none (.s rfl) (.s rfl)) rfl ?_
     refine .nil (.then ?_)
     refine .cond (t := 58) rfl trivial (fun hb14 => ?_) (fun hb14 => ?_)
     ·
      replace h := bif_t h hb14
      refine .skip ?_
      refine .then ?_
      refine .seq ?_
      refine .block ?_
      refine .region [([], []), ([], []), ([], []), ([], []), ([], []), ([], []), ([], []), ([], []), ([220], []), ([220], []), ([], []), ([], []), ([220], []), ([220], []), ([220], []), ([220], [220]), ([220], []), ([220], [220])] mixed (by kernel_rfl) ?_
      refine .consA (.move .none (.s rfl)) rfl ?_
      refine .consA (.move .none (.s rfl)) rfl ?_
      refine .consA (.move .none (.s rfl)) rfl ?_
      refine .consA (.move .none (.s rfl)) rfl ?_
      refine .consA (.addW .none (.s rfl) (.int (by decide))) rfl ?_
      refine .consA (.move .none (.s rfl)) rfl ?_
      refine .consA (.move .none (.s rfl)) rfl ?_
      refine .consA (.addW .none (.s rfl) (.int (by decide))) rfl ?_
      obtain ⟨hn15, h⟩ := need_some h
      refine .consA (.indexAddrO (k := 220) .none sl22 ty34 (.s rfl) rfl (.s rfl) (fun _ => hn15)) rfl ?_
      obtain ⟨v1, hv16, h⟩ := bnd_some h
      refine .consA (.re hv16 (.loadElem0 (k := 220) .none ty34 (.s rfl) rfl (fun _ => hn15))) rfl ?_
      refine .consA (.move .none (.s rfl)) rfl ?_
      refine .consA (.move .none (.s rfl)) rfl ?_
      obtain ⟨hn17, h⟩ := need_some h
      refine .consA (.indexAddrO (k := 220) .none sl22 ty34 (.s rfl) rfl (.s rfl) (fun _ => hn17)) rfl ?_
      obtain ⟨v2, hv18, h⟩ := bnd_some h
      refine .consA (.re hv18 (.loadElem0 (k := 220) .none ty34 (.s rfl) rfl (fun _ => hn17))) rfl ?_
      obtain ⟨hn19, h⟩ := need_some h
      refine .consA (.indexAddrO (k := 220) .none sl22 ty34 (.s rfl) rfl (.s rfl) (fun _ => hn19)) rfl ?_
      refine .consN (.storeElem0 (k := 220) ty34 (.s rfl) rfl (.s rfl) hn19) rfl ?_
      obtain ⟨hn20, h⟩ := need_some h
      refine .consA (.indexAddrO (k := 220) .none sl22 ty34 (.s rfl) rfl (.s rfl) (fun _ => hn20)) rfl ?_
      refine .consN (.storeElem0 (k := 220) ty34 (.s rfl) rfl (.s rfl) hn20) rfl ?_
      refine .nil ?_
      refine .blkNormal ?_
      refine .then ?_
      obtain ⟨data2, hv21, h⟩ := bnd_some h
      refine .reB (t := 220) rfl (congrArg (fun y => CPred.at s220 (rowV 34 y)) hv21) ?_
      refine .region [] mixed (by kernel_rfl) ?_
      refine .cons (.move .none (.s rfl)) rfl ?_
      refine .cons (.addW .none (.s rfl) (.int (by decide))) rfl ?_
      obtain ⟨k1, hv22, h⟩ := bnd_some h
      refine .cons (.re hv22 (.assign .none (.s rfl))) rfl ?_
      refine .nil ?_
      exact Ends.againL (some_eq h) (.k 13 rfl (.k 0 rfl (.k 10 rfl .nil))) (.k 220 rfl .nil)
     ·
      replace h := bif_f h hb14
      refine .exit ?_
      refine .thenExit ?_
      refine .thenExit ?_
      refine .blkExit ?_
      replace h := hD13 _ (some_eq h)
      exact Ends.join _ (some_eq h) Sub.nil (.k 220 rfl .nil)
    ·
     subst hj12; have h := hK12; clear hK12
     refine .ret ?_
     refine .thenRet ?_
     replace h := resb_ab hK1 (some_eq h)
     obtain rfl := some_eq h
     exact Ends.ret0O (.inl rfl) [220] Tryd.results83 (by decide) (.held rfl .nil) 
  ·
   replace h := bif_f h hb2
   refine .skip ?_
   exact Ends.join _ (some_eq h) (.k 0 rfl (.k 1 rfl (.k 2 rfl (.k 3 rfl (.k 4 rfl .nil))))) (.k 220 rfl .nil)
 ·
  have h := resb_nx hK1 hj1
  refine .seq ?_
  refine .seq (.region [] mixed (by kernel_rfl) ?_)
  refine .cons (.move .none (.s rfl)) rfl ?_
  refine .cons (.move .none (.s rfl)) rfl ?_
  refine .cons (.subW .none (.s rfl) (.s rfl)) rfl ?_
  refine .cons (.eqI .none (.s rfl) (.int (by decide))) rfl ?_
  refine .nil (.then ?_)
  obtain ⟨o_23, h, hK23⟩ := bindR_some h
  refine .thenJ (ι := Unit) (fun j_23 => []) (fun j_23 => []) (fun s => o_23 = Res.nx s) (.k 0 rfl (.k 1 rfl (.k 2 rfl (.k 3 rfl (.k 4 rfl .nil))))) (.k 220 rfl .nil) ?_ (fun j_23 hj23 => ?_)
  ·
   skip
   refine .cond (t := 80) rfl trivial (fun hb24 => ?_) (fun hb24 => ?_)
   ·
    replace h := bif_t h hb24
    refine .seq (.region [] mixed (by kernel_rfl) ?_)
    refine .cons (.move .none (.s rfl)) rfl ?_
    refine .cons (.assign .none (.s rfl)) rfl ?_
    refine .nil (.then ?_)
    refine .seq (.region [] mixed (by kernel_rfl) ?_)
    refine .cons (.move .none (.s rfl)) rfl ?_
    refine .cons (.assign .none (.s rfl)) rfl ?_
    refine .nil (.then ?_)
    refine .seq ?_
    obtain ⟨j_25, h, hK25⟩ := bind_some h
    refine .thenJ (ι := Int) (fun j_25 => [(14, ⟨True, rep j_25⟩)]) (fun j_25 => []) (fun s => j_25 = s) (.k 0 rfl (.k 2 rfl .nil)) (.k 220 rfl .nil) ?_ (fun j_25' hj25 => ?_)
    ·
     skip
     refine .block ?_
     refine .loopL h (fun s26_ => [(14, ⟨True, rep s26_.1⟩), (15, ⟨True, rep s26_.2⟩)]) (fun s26_ => []) (.k 14 rfl (.k 15 rfl .nil)) SubB.nil (.k 0 rfl (.k 2 rfl (.k 4 rfl .nil))) (.k 220 rfl .nil) (fun s26_ o_26 h hD26 => ?_)
     unfold slices_symMergeCmpFunc_Op_L3 at h
     refine .seq ?_
     refine .seq (.region [] mixed (by kernel_rfl) ?_)
     refine .cons (.move .none (.s rfl)) rfl ?_
     refine .cons (.move .none (.s rfl)) rfl ?_
     refine .cons (.lt .none (.s rfl) (.s rfl)) rfl ?_
     refine .nil (.then ?_)
     refine .cond (t := 85) rfl trivial (fun hb27 => ?_) (fun hb27 => ?_)
     ·
      replace h := bif_t h hb27
      refine .skip ?_
      refine .then ?_
      refine .block ?_
      refine .seq (.region [] mixed (by kernel_rfl) ?_)
      refine .cons (.move .none (.s rfl)) rfl ?_
      refine .cons (.move .none (.s rfl)) rfl ?_
      refine .cons (.addW .none (.s rfl) (.s rfl)) rfl ?_
      refine .cons (.toK .none (by kernel_rfl) Tryd.underlying88 (.s rfl)) rfl ?_
      refine .cons (.kshr .none (.s rfl) .ki (fun _ => by decide)) rfl ?_
      refine .cons (.toInt .none (by kernel_rfl) Tryd.underlying3 (.s rfl)) rfl ?_
      obtain ⟨h2, hv28, h⟩ := bnd_some h
      refine .cons (.re hv28 (.assign .none (.s rfl))) rfl ?_
      refine .nil (.then ?_)
      refine .seq (.region [([], []), ([], []), ([], []), ([220], []), ([220], []), ([], []), ([], []), ([220], []), ([220], []), ([], []), ([], []), ([], [])] mixed (by kernel_rfl) ?_)
      refine .consA (.move .none (.s rfl)) rfl ?_
      refine .consA (.move .none (.s rfl)) rfl ?_
      refine .consA (.move .none (.s rfl)) rfl ?_
      obtain ⟨hn29, h⟩ := need_some h
      refine .consA (.indexAddrO (k := 220) .none sl22 ty34 (.s rfl) rfl (.s rfl) (fun _ => hn29)) rfl ?_
      refine .consA (.loadElem0 (k := 220) .none ty34 (.s rfl) rfl (fun _ => hn29)) rfl ?_
      refine .consA (.move .none (.s rfl)) rfl ?_
      refine .consA (.move .none (.s rfl)) rfl ?_
      obtain ⟨hn30, h⟩ := need_some h
      refine .consA (.indexAddrO (k := 220) .none sl22 ty34 (.s rfl) rfl (.s rfl) (fun _ => hn30)) rfl ?_
      refine .consA (.loadElem0 (k := 220) .none ty34 (.s rfl) rfl (fun _ => hn30)) rfl ?_
      obtain ⟨r2, hv31, h⟩ := bind_some h
      refine .consA (.callV (gx x.1 x.2.2.1, gx x.1 h2, r2) .none (.s rfl) (fun _ => hv31) (.cons (.s rfl) (.cons (.s rfl) .nil))) rfl ?_
      refine .consA (.lt .none (.s rfl) (.int (by decide))) rfl ?_
      refine .consA (.not .none (.s rfl)) rfl ?_
      refine .nil (.then ?_)
      refine .cond (t := 103) rfl trivial (fun hb32 => ?_) (fun hb32 => ?_)
      ·
       replace h := bif_t h hb32
       refine .region [] mixed (by kernel_rfl) ?_
       refine .cons (.move .none (.s rfl)) rfl ?_
       refine .cons (.addW .none (.s rfl) (.int (by decide))) rfl ?_
       obtain ⟨i2, hv33, h⟩ := bnd_some h
       refine .cons (.re hv33 (.assign .none (.s rfl))) rfl ?_
       refine .nil ?_
       refine .blkNormal ?_
       exact Ends.againL (some_eq h) (.k 14 rfl (.k 15 rfl (.k 0 rfl (.k 2 rfl (.k 4 rfl .nil))))) (.k 220 rfl .nil)
      ·
       replace h := bif_f h hb32
       refine .region [] mixed (by kernel_rfl) ?_
       refine .cons (.move .none (.s rfl)) rfl ?_
       refine .cons (.assign .none (.s rfl)) rfl ?_
       refine .nil ?_
       refine .blkNormal ?_
       exact Ends.againL (some_eq h) (.k 14 rfl (.k 15 rfl (.k 0 rfl (.k 2 rfl (.k 4 rfl .nil))))) (.k 220 rfl .nil)
     ·
      replace h := bif_f h hb27
      refine .exit ?_
      refine .thenExit ?_
      refine .thenExit ?_
      refine .blkExit ?_
      replace h := hD26 _ (some_eq h)
      exact Ends.join _ (some_eq h) (.k 14 rfl (.k 0 rfl (.k 2 rfl .nil))) (.k 220 rfl .nil)
    ·
     subst hj25; have h := hK25; clear hK25
     refine .seq ?_
     refine .seq (.region [] mixed (by kernel_rfl) ?_)
     refine .cons (.move .none (.s rfl)) rfl ?_
     refine .cons (.assign .none (.s rfl)) rfl ?_
     refine .nil (.then ?_)
     obtain ⟨j_34, h, hK34⟩ := bind_some h
     refine .thenJ (ι := (List DOp)) (fun j_34 => []) (fun j_34 => [(220, some (CPred.at s220 (rowV 34 j_34)))]) (fun s => j_34 = s) Sub.nil SubB.nil ?_ (fun j_34' hj34 => ?_)
     ·
      skip
      refine .block ?_
      refine .loopL h (fun s35_ => [(17, ⟨True, rep s35_.1⟩)]) (fun s35_ => [(220, some (CPred.at s220 (rowV 34 s35_.2)))]) (.k 17 rfl .nil) (.k 220 rfl .nil) (.k 0 rfl (.k 14 rfl .nil)) SubB.nil (fun s35_ o_35 h hD35 => ?_)
      unfold slices_symMergeCmpFunc_Op_L4 at h
      refine .seq ?_
      refine .seq (.region [] mixed (by kernel_rfl) ?_)
      refine .cons (.move .none (.s rfl)) rfl ?_
      refine .cons (.move .none (.s rfl)) rfl ?_
      refine .cons (.gt .none (.s rfl) (.s rfl)) rfl ?_
      refine .nil (.then ?_)
      refine .cond (t := 110) rfl trivial (fun hb36 => ?_) (fun hb36 => ?_)
      ·
       replace h := bif_t h hb36
       refine .skip ?_
       refine .then ?_
       refine .seq ?_
       refine .block ?_
       refine .region [([], []), ([], []), ([], []), ([], []), ([], []), ([], []), ([], []), ([], []), ([220], []), ([220], []), ([], []), ([], []), ([220], []), ([220], []), ([220], []), ([220], [220]), ([220], []), ([220], [220])] mixed (by kernel_rfl) ?_
       refine .consA (.move .none (.s rfl)) rfl ?_
       refine .consA (.move .none (.s rfl)) rfl ?_
       refine .consA (.move .none (.s rfl)) rfl ?_
       refine .consA (.move .none (.s rfl)) rfl ?_
       refine .consA (.subW .none (.s rfl) (.int (by decide))) rfl ?_
       refine .consA (.move .none (.s rfl)) rfl ?_
       refine .consA (.move .none (.s rfl)) rfl ?_
       refine .consA (.subW .none (.s rfl) (.int (by decide))) rfl ?_
       obtain ⟨hn37, h⟩ := need_some h
       refine .consA (.indexAddrO (k := 220) .none sl22 ty34 (.s rfl) rfl (.s rfl) (fun _ => hn37)) rfl ?_
       obtain ⟨v3, hv38, h⟩ := bnd_some h
       refine .consA (.re hv38 (.loadElem0 (k := 220) .none ty34 (.s rfl) rfl (fun _ => hn37))) rfl ?_
       refine .consA (.move .none (.s rfl)) rfl ?_
       refine .consA (.move .none (.s rfl)) rfl ?_
       obtain ⟨hn39, h⟩ := need_some h
       refine .consA (.indexAddrO (k := 220) .none sl22 ty34 (.s rfl) rfl (.s rfl) (fun _ => hn39)) rfl ?_
       obtain ⟨v4, hv40, h⟩ := bnd_some h
       refine .consA (.re hv40 (.loadElem0 (k := 220) .none ty34 (.s rfl) rfl (fun _ => hn39))) rfl ?_
       obtain ⟨hn41, h⟩ := need_some h
       refine .consA (.indexAddrO (k := 220) .none sl22 ty34 (.s rfl) rfl (.s rfl) (fun _ => hn41)) rfl ?_
       refine .consN (.storeElem0 (k := 220) ty34 (.s rfl) rfl (.s rfl) hn41) rfl ?_
       obtain ⟨hn42, h⟩ := need_some h
       refine .consA (.indexAddrO (k := 220) .none sl22 ty34 (.s rfl) rfl (.s rfl) (fun _ => hn42)) rfl ?_
       refine .consN (.storeElem0 (k := 220) ty34 (.s rfl) rfl (.s rfl) hn42) rfl ?_
       refine .nil ?_
       refine .blkNormal ?_
       refine .then ?_
       obtain ⟨data3, hv43, h⟩ := bnd_some h
       refine .reB (t := 220) rfl (congrArg (fun y => CPred.at s220 (rowV 34 y)) hv43) ?_
       refine .region [] mixed (by kernel_rfl) ?_
       refine .cons (.move .none (.s rfl)) rfl ?_
       refine .cons (.subW .none (.s rfl) (.int (by decide))) rfl ?_
       obtain ⟨k2, hv44, h⟩ := bnd_some h
       refine .cons (.re hv44 (.assign .none (.s rfl))) rfl ?_
       refine .nil ?_
       exact Ends.againL (some_eq h) (.k 17 rfl (.k 0 rfl (.k 14 rfl .nil))) (.k 220 rfl .nil)
      ·
       replace h := bif_f h hb36
       refine .exit ?_
       refine .thenExit ?_
       refine .thenExit ?_
       refine .blkExit ?_
       replace h := hD35 _ (some_eq h)
       exact Ends.join _ (some_eq h) Sub.nil (.k 220 rfl .nil)
     ·
      subst hj34; have h := hK34; clear hK34
      refine .ret ?_
      refine .thenRet ?_
      replace h := resb_ab hK23 (some_eq h)
      obtain rfl := some_eq h
      exact Ends.ret0O (.inl rfl) [220] Tryd.results83 (by decide) (.held rfl .nil) 
   ·
    replace h := bif_f h hb24
    refine .skip ?_
    exact Ends.join _ (some_eq h) (.k 0 rfl (.k 1 rfl (.k 2 rfl (.k 3 rfl (.k 4 rfl .nil))))) (.k 220 rfl .nil)
  ·
   have h := resb_nx hK23 hj23
   refine .seq (.region [] mixed (by kernel_rfl) ?_)
   refine .cons (.move .none (.s rfl)) rfl ?_
   refine .cons (.move .none (.s rfl)) rfl ?_
   refine .cons (.addW .none (.s rfl) (.s rfl)) rfl ?_
   refine .cons (.toK .none (by kernel_rfl) Tryd.underlying88 (.s rfl)) rfl ?_
   refine .cons (.kshr .none (.s rfl) .ki (fun _ => by decide)) rfl ?_
   refine .cons (.toInt .none (by kernel_rfl) Tryd.underlying3 (.s rfl)) rfl ?_
   obtain ⟨mid1, hv45, h⟩ := bnd_some h
   refine .cons (.re hv45 (.assign .none (.s rfl))) rfl ?_
   refine .nil (.then ?_)
   refine .seq (.region [] mixed (by kernel_rfl) ?_)
   refine .cons (.move .none (.s rfl)) rfl ?_
   refine .cons (.move .none (.s rfl)) rfl ?_
   refine .cons (.addW .none (.s rfl) (.s rfl)) rfl ?_
   obtain ⟨n1, hv46, h⟩ := bnd_some h
   refine .cons (.re hv46 (.assign .none (.s rfl))) rfl ?_
   refine .nil (.then ?_)
   refine .seq (.region [] mixed (by kernel_rfl) ?_)
   refine .cons (.assign .none (.int (by decide))) rfl ?_
   refine .cons (.assign .none (.int (by decide))) rfl ?_
   refine .nil (.then ?_)
   refine .seq ?_
   refine .seq (.region [] mixed (by kernel_rfl) ?_)
   refine .cons (.move .none (.s rfl)) rfl ?_
   refine .cons (.move .none (.s rfl)) rfl ?_
   refine .cons (.gt .none (.s rfl) (.s rfl)) rfl ?_
   refine .nil (.then ?_)
   obtain ⟨j_47, h, hK47⟩ := bind_some h
   refine .thenJ (ι := (Int × Int)) (fun j_47 => [(20, ⟨True, rep j_47.1⟩), (21, ⟨True, rep j_47.2⟩)]) (fun j_47 => []) (fun s => j_47 = s) (.k 0 rfl (.k 1 rfl (.k 2 rfl (.k 3 rfl (.k 4 rfl (.k 18 rfl (.k 19 rfl .nil))))))) (.k 220 rfl .nil) ?_ (fun j_47' hj47 => ?_)
   ·
    skip
    refine .cond (t := 140) rfl trivial (fun hb48 => ?_) (fun hb48 => ?_)
    ·
     replace h := bif_t h hb48
     refine .seq (.region [] mixed (by kernel_rfl) ?_)
     refine .cons (.move .none (.s rfl)) rfl ?_
     refine .cons (.move .none (.s rfl)) rfl ?_
     refine .cons (.subW .none (.s rfl) (.s rfl)) rfl ?_
     obtain ⟨start1, hv49, h⟩ := bnd_some h
     refine .cons (.re hv49 (.assign .none (.s rfl))) rfl ?_
     refine .nil (.then ?_)
     refine .region [] mixed (by kernel_rfl) ?_
     refine .cons (.move .none (.s rfl)) rfl ?_
     refine .cons (.assign .none (.s rfl)) rfl ?_
     refine .nil ?_
     exact Ends.join _ (some_eq h) (.k 20 rfl (.k 21 rfl (.k 0 rfl (.k 1 rfl (.k 2 rfl (.k 3 rfl (.k 4 rfl (.k 18 rfl (.k 19 rfl .nil))))))))) (.k 220 rfl .nil)
    ·
     replace h := bif_f h hb48
     refine .seq (.region [] mixed (by kernel_rfl) ?_)
     refine .cons (.move .none (.s rfl)) rfl ?_
     refine .cons (.assign .none (.s rfl)) rfl ?_
     refine .nil (.then ?_)
     refine .region [] mixed (by kernel_rfl) ?_
     refine .cons (.move .none (.s rfl)) rfl ?_
     refine .cons (.assign .none (.s rfl)) rfl ?_
     refine .nil ?_
     exact Ends.join _ (some_eq h) (.k 20 rfl (.k 21 rfl (.k 0 rfl (.k 1 rfl (.k 2 rfl (.k 3 rfl (.k 4 rfl (.k 18 rfl (.k 19 rfl .nil))))))))) (.k 220 rfl .nil)
   ·
    subst hj47; have h := hK47; clear hK47
    refine .seq (.region [] mixed (by kernel_rfl) ?_)
    refine .cons (.move .none (.s rfl)) rfl ?_
    refine .cons (.subW .none (.s rfl) (.int (by decide))) rfl ?_
    refine .cons (.assign .none (.s rfl)) rfl ?_
    refine .nil (.then ?_)
    refine .seq ?_
    obtain ⟨j_50, h, hK50⟩ := bind_some h
    refine .thenJ (ι := Int) (fun j_50 => [(20, ⟨True, rep j_50⟩)]) (fun j_50 => []) (fun s => j_50 = s) (.k 0 rfl (.k 1 rfl (.k 2 rfl (.k 3 rfl (.k 4 rfl (.k 18 rfl (.k 19 rfl .nil))))))) (.k 220 rfl .nil) ?_ (fun j_50' hj50 => ?_)
    ·
     skip
     refine .block ?_
     refine .loopL h (fun s51_ => [(20, ⟨True, rep s51_.1⟩), (21, ⟨True, rep s51_.2⟩)]) (fun s51_ => []) (.k 20 rfl (.k 21 rfl .nil)) SubB.nil (.k 0 rfl (.k 1 rfl (.k 2 rfl (.k 3 rfl (.k 4 rfl (.k 18 rfl (.k 19 rfl (.k 22 rfl .nil)))))))) (.k 220 rfl .nil) (fun s51_ o_51 h hD51 => ?_)
     unfold slices_symMergeCmpFunc_Op_L5 at h
     refine .seq ?_
     refine .seq (.region [] mixed (by kernel_rfl) ?_)
     refine .cons (.move .none (.s rfl)) rfl ?_
     refine .cons (.move .none (.s rfl)) rfl ?_
     refine .cons (.lt .none (.s rfl) (.s rfl)) rfl ?_
     refine .nil (.then ?_)
     refine .cond (t := 151) rfl trivial (fun hb52 => ?_) (fun hb52 => ?_)
     ·
      replace h := bif_t h hb52
      refine .skip ?_
      refine .then ?_
      refine .block ?_
      refine .seq (.region [] mixed (by kernel_rfl) ?_)
      refine .cons (.move .none (.s rfl)) rfl ?_
      refine .cons (.move .none (.s rfl)) rfl ?_
      refine .cons (.addW .none (.s rfl) (.s rfl)) rfl ?_
      refine .cons (.toK .none (by kernel_rfl) Tryd.underlying88 (.s rfl)) rfl ?_
      refine .cons (.kshr .none (.s rfl) .ki (fun _ => by decide)) rfl ?_
      refine .cons (.toInt .none (by kernel_rfl) Tryd.underlying3 (.s rfl)) rfl ?_
      obtain ⟨c1, hv53, h⟩ := bnd_some h
      refine .cons (.re hv53 (.assign .none (.s rfl))) rfl ?_
      refine .nil (.then ?_)
      refine .seq (.region [([], []), ([], []), ([], []), ([], []), ([], []), ([220], []), ([220], []), ([], []), ([], []), ([220], []), ([220], []), ([], []), ([], []), ([], [])] mixed (by kernel_rfl) ?_)
      refine .consA (.move .none (.s rfl)) rfl ?_
      refine .consA (.move .none (.s rfl)) rfl ?_
      refine .consA (.move .none (.s rfl)) rfl ?_
      refine .consA (.move .none (.s rfl)) rfl ?_
      refine .consA (.subW .none (.s rfl) (.s rfl)) rfl ?_
      obtain ⟨hn54, h⟩ := need_some h
      refine .consA (.indexAddrO (k := 220) .none sl22 ty34 (.s rfl) rfl (.s rfl) (fun _ => hn54)) rfl ?_
      refine .consA (.loadElem0 (k := 220) .none ty34 (.s rfl) rfl (fun _ => hn54)) rfl ?_
      refine .consA (.move .none (.s rfl)) rfl ?_
      refine .consA (.move .none (.s rfl)) rfl ?_
      obtain ⟨hn55, h⟩ := need_some h
      refine .consA (.indexAddrO (k := 220) .none sl22 ty34 (.s rfl) rfl (.s rfl) (fun _ => hn55)) rfl ?_
      refine .consA (.loadElem0 (k := 220) .none ty34 (.s rfl) rfl (fun _ => hn55)) rfl ?_
      obtain ⟨r3, hv56, h⟩ := bind_some h
      refine .consA (.callV (gx x.1 (W ((W (n1 - 1)) - c1)), gx x.1 c1, r3) .none (.s rfl) (fun _ => hv56) (.cons (.s rfl) (.cons (.s rfl) .nil))) rfl ?_
      refine .consA (.lt .none (.s rfl) (.int (by decide))) rfl ?_
      refine .consA (.not .none (.s rfl)) rfl ?_
      refine .nil (.then ?_)
      refine .cond (t := 171) rfl trivial (fun hb57 => ?_) (fun hb57 => ?_)
      ·
       replace h := bif_t h hb57
       refine .region [] mixed (by kernel_rfl) ?_
       refine .cons (.move .none (.s rfl)) rfl ?_
       refine .cons (.addW .none (.s rfl) (.int (by decide))) rfl ?_
       obtain ⟨start2, hv58, h⟩ := bnd_some h
       refine .cons (.re hv58 (.assign .none (.s rfl))) rfl ?_
       refine .nil ?_
       refine .blkNormal ?_
       exact Ends.againL (some_eq h) (.k 20 rfl (.k 21 rfl (.k 0 rfl (.k 1 rfl (.k 2 rfl (.k 3 rfl (.k 4 rfl (.k 18 rfl (.k 19 rfl (.k 22 rfl .nil)))))))))) (.k 220 rfl .nil)
      ·
       replace h := bif_f h hb57
       refine .region [] mixed (by kernel_rfl) ?_
       refine .cons (.move .none (.s rfl)) rfl ?_
       refine .cons (.assign .none (.s rfl)) rfl ?_
       refine .nil ?_
       refine .blkNormal ?_
       exact Ends.againL (some_eq h) (.k 20 rfl (.k 21 rfl (.k 0 rfl (.k 1 rfl (.k 2 rfl (.k 3 rfl (.k 4 rfl (.k 18 rfl (.k 19 rfl (.k 22 rfl .nil)))))))))) (.k 220 rfl .nil)
     ·
      replace h := bif_f h hb52
      refine .exit ?_
      refine .thenExit ?_
      refine .thenExit ?_
      refine .blkExit ?_
      replace h := hD51 _ (some_eq h)
      exact Ends.join _ (some_eq h) (.k 20 rfl (.k 0 rfl (.k 1 rfl (.k 2 rfl (.k 3 rfl (.k 4 rfl (.k 18 rfl (.k 19 rfl .nil)))))))) (.k 220 rfl .nil)
    ·
     subst hj50; have h := hK50; clear hK50
     refine .seq (.region [] mixed (by kernel_rfl) ?_)
     refine .cons (.move .none (.s rfl)) rfl ?_
     refine .cons (.move .none (.s rfl)) rfl ?_
     refine .cons (.subW .none (.s rfl) (.s rfl)) rfl ?_
     obtain ⟨end1, hv59, h⟩ := bnd_some h
     refine .cons (.re hv59 (.assign .none (.s rfl))) rfl ?_
     refine .nil (.then ?_)
     refine .seq ?_
     refine .seq (.region [] mixed (by kernel_rfl) ?_)
     refine .cons (.move .none (.s rfl)) rfl ?_
     refine .cons (.move .none (.s rfl)) rfl ?_
     refine .cons (.lt .none (.s rfl) (.s rfl)) rfl ?_
     refine .cons (.move .none (.s rfl)) rfl ?_
     refine .cons (.move (.at rfl rfl) (.s rfl)) rfl ?_
     refine .cons (.move (.at rfl rfl) (.s rfl)) rfl ?_
     refine .cons (.lt (.at rfl rfl) (.tmp rfl id) (.tmp rfl id)) rfl ?_
     refine .cons (.pickAnd .none (.s rfl) (.tmp rfl id)) rfl ?_
     refine .nil (.then ?_)
     obtain ⟨j_60, h, hK60⟩ := bind_some h
     refine .thenJ (ι := (List DOp)) (fun j_60 => []) (fun j_60 => [(220, some (CPred.at s220 (rowV 34 j_60)))]) (fun s => j_60 = s) (.k 0 rfl (.k 1 rfl (.k 3 rfl (.k 4 rfl (.k 18 rfl (.k 20 rfl (.k 24 rfl .nil))))))) SubB.nil ?_ (fun j_60' hj60 => ?_)
     ·
      skip
      refine .cond (t := 185) rfl trivial (fun hb61 => ?_) (fun hb61 => ?_)
      ·
       replace h := bif_t h hb61
       refine .region [([], []), ([], []), ([], []), ([], []), ([], []), ([220], [220])] mixed (by kernel_rfl) ?_
       refine .consA (.move .none (.s rfl)) rfl ?_
       refine .consA (.move .none (.s rfl)) rfl ?_
       refine .consA (.move .none (.s rfl)) rfl ?_
       refine .consA (.move .none (.s rfl)) rfl ?_
       refine .consA (.move .none (.s rfl)) rfl ?_
       obtain ⟨r4, hv62, h⟩ := bind_some h
       refine .consW (.callO [220] (slices_rotateCmpFunc_Op_ok hv62) (.cons (.s rfl) (.cons (.s rfl) (.cons (.s rfl) (.cons (.s rfl) (.cons (.s rfl) .nil))))) (.cons (k := 220) rfl .nil) rfl (by decide) (by decide) (by intro d h; cases h; decide)) rfl rfl ?_
       refine .nil ?_
       exact Ends.join _ (some_eq h) (.k 0 rfl (.k 1 rfl (.k 3 rfl (.k 4 rfl (.k 18 rfl (.k 20 rfl (.k 24 rfl .nil))))))) (.k 220 rfl .nil)
      ·
       replace h := bif_f h hb61
       refine .skip ?_
       exact Ends.join _ (some_eq h) (.k 0 rfl (.k 1 rfl (.k 3 rfl (.k 4 rfl (.k 18 rfl (.k 20 rfl (.k 24 rfl .nil))))))) (.k 220 rfl .nil)
     ·
      subst hj60; have h := hK60; clear hK60
      refine .seq ?_
      refine .seq (.region [] mixed (by kernel_rfl) ?_)
      refine .cons (.move .none (.s rfl)) rfl ?_
      refine .cons (.move .none (.s rfl)) rfl ?_
      refine .cons (.lt .none (.s rfl) (.s rfl)) rfl ?_
      refine .cons (.move .none (.s rfl)) rfl ?_
      refine .cons (.move (.at rfl rfl) (.s rfl)) rfl ?_
      refine .cons (.move (.at rfl rfl) (.s rfl)) rfl ?_
      refine .cons (.lt (.at rfl rfl) (.tmp rfl id) (.tmp rfl id)) rfl ?_
      refine .cons (.pickAnd .none (.s rfl) (.tmp rfl id)) rfl ?_
      refine .nil (.then ?_)
      obtain ⟨j_63, h, hK63⟩ := bind_some h
      refine .thenJ (ι := (List DOp)) (fun j_63 => []) (fun j_63 => [(220, some (CPred.at s220 (rowV 34 j_63)))]) (fun s => j_63 = s) (.k 0 rfl (.k 3 rfl (.k 4 rfl (.k 18 rfl (.k 24 rfl .nil))))) SubB.nil ?_ (fun j_63' hj63 => ?_)
      ·
       skip
       refine .cond (t := 199) rfl trivial (fun hb64 => ?_) (fun hb64 => ?_)
       ·
        replace h := bif_t h hb64
        refine .region [([], []), ([], []), ([], []), ([], []), ([], []), ([220], [220])] mixed (by kernel_rfl) ?_
        refine .consA (.move .none (.s rfl)) rfl ?_
        refine .consA (.move .none (.s rfl)) rfl ?_
        refine .consA (.move .none (.s rfl)) rfl ?_
        refine .consA (.move .none (.s rfl)) rfl ?_
        refine .consA (.move .none (.s rfl)) rfl ?_
        obtain ⟨r5, hv65, h⟩ := bind_some h
        refine .consW (.callO [220] (hself _ _ hv65) (.cons (.s rfl) (.cons (.s rfl) (.cons (.s rfl) (.cons (.s rfl) (.cons (.s rfl) .nil))))) (.cons (k := 220) rfl .nil) rfl (by decide) (by decide) (by intro d h; cases h; decide)) rfl rfl ?_
        refine .nil ?_
        exact Ends.join _ (some_eq h) (.k 0 rfl (.k 3 rfl (.k 4 rfl (.k 18 rfl (.k 24 rfl .nil))))) (.k 220 rfl .nil)
       ·
        replace h := bif_f h hb64
        refine .skip ?_
        exact Ends.join _ (some_eq h) (.k 0 rfl (.k 3 rfl (.k 4 rfl (.k 18 rfl (.k 24 rfl .nil))))) (.k 220 rfl .nil)
      ·
       subst hj63; have h := hK63; clear hK63
       refine .seq (.region [] mixed (by kernel_rfl) ?_)
       refine .cons (.move .none (.s rfl)) rfl ?_
       refine .cons (.move .none (.s rfl)) rfl ?_
       refine .cons (.lt .none (.s rfl) (.s rfl)) rfl ?_
       refine .cons (.move .none (.s rfl)) rfl ?_
       refine .cons (.move (.at rfl rfl) (.s rfl)) rfl ?_
       refine .cons (.move (.at rfl rfl) (.s rfl)) rfl ?_
       refine .cons (.lt (.at rfl rfl) (.tmp rfl id) (.tmp rfl id)) rfl ?_
       refine .cons (.pickAnd .none (.s rfl) (.tmp rfl id)) rfl ?_
       refine .nil (.then ?_)
       refine .cond (t := 213) rfl trivial (fun hb66 => ?_) (fun hb66 => ?_)
       ·
        replace h := bif_t h hb66
        refine .region [([], []), ([], []), ([], []), ([], []), ([], []), ([220], [220])] mixed (by kernel_rfl) ?_
        refine .consA (.move .none (.s rfl)) rfl ?_
        refine .consA (.move .none (.s rfl)) rfl ?_
        refine .consA (.move .none (.s rfl)) rfl ?_
        refine .consA (.move .none (.s rfl)) rfl ?_
        refine .consA (.move .none (.s rfl)) rfl ?_
        obtain ⟨r6, hv67, h⟩ := bind_some h
        refine .consW (.callO [220] (hself _ _ hv67) (.cons (.s rfl) (.cons (.s rfl) (.cons (.s rfl) (.cons (.s rfl) (.cons (.s rfl) .nil))))) (.cons (k := 220) rfl .nil) rfl (by decide) (by decide) (by intro d h; cases h; decide)) rfl rfl ?_
        refine .nil ?_
        obtain rfl := some_eq h
        exact Ends.ret0O (.inr rfl) [220] Tryd.results83 (by decide) (.held rfl .nil) 
       ·
        replace h := bif_f h hb66
        refine .skip ?_
        obtain rfl := some_eq h
        exact Ends.ret0O (.inr rfl) [220] Tryd.results83 (by decide) (.held rfl .nil) 
theorem slices_symMergeCmpFunc_Op_okN : ∀ (k : Nat) {s220 : Value} (x : ((List DOp) × Int × Int × Int × (DOp → DOp → Option Int))) (r : (List DOp)) (h : fixN slices_symMergeCmpFunc_Op_body k x = some r), FSpecO Tryd.prog 83 [isV s220, rep x.2.1, rep x.2.2.1, rep x.2.2.2.1, fn2 Tryd.prog (rep (α := Int)) x.2.2.2.2] [(s220, rowV 34 x.1)] (anyV) [some (rowV 34 r)]
 | 0, _, x, r, h => by simp [fixN] at h
 | k + 1, _, x, r, h => slices_symMergeCmpFunc_Op_okS (slices_symMergeCmpFunc_Op_okN k) h
theorem slices_symMergeCmpFunc_Op_ok {data1 : (List DOp)} {a1 : Int} {m1 : Int} {b1 : Int} {cmp1 : (DOp → DOp → Option Int)} {r : (List DOp)} {s220 : Value} (h : slices_symMergeCmpFunc_Op data1 a1 m1 b1 cmp1 = some r) : FSpecO Tryd.prog 83 [isV s220, rep a1, rep m1, rep b1, fn2 Tryd.prog (rep (α := Int)) cmp1] [(s220, rowV 34 data1)] (anyV) [some (rowV 34 r)] :=
 let ⟨k, hk⟩ := fixp_some h
 slices_symMergeCmpFunc_Op_okN k (data1, a1, m1, b1, cmp1) r hk

theorem slices_stableCmpFunc_Op_ok {data1 : (List DOp)} {n1 : Int} {cmp1 : (DOp → DOp → Option Int)} {r : (List DOp)} {s63 : Value} (h : slices_stableCmpFunc_Op data1 n1 cmp1 = some r) : FSpecO Tryd.prog 65 [isV s63, rep n1, fn2 Tryd.prog (rep (α := Int)) cmp1] [(s63, rowV 34 data1)] (anyV) [some (rowV 34 r)] := by
 unfold slices_stableCmpFunc_Op at h
 refine FSpecO.intro (n := 63) fnok65 Tryd.func65 rfl Tryd.ntmps65 rfl (fun F => ?_)
 refine .seq (.region [] mixed (by kernel_rfl) ?_)
 refine .cons (.assign .none (.int (by decide))) rfl ?_
 refine .nil (.then ?_)
 refine .seq (.region [] mixed (by kernel_rfl) ?_)
 refine .cons (.move .none (.s rfl)) rfl ?_
 refine .cons (.assign .none (.int (by decide))) rfl ?_
 refine .cons (.assign .none (.s rfl)) rfl ?_
 refine .nil (.then ?_)
 refine .seq ?_
 obtain ⟨j_1, h, hK1⟩ := bind_some h
 refine .thenJ (ι := (Int × (List DOp))) (fun j_1 => [(7, ⟨True, rep j_1.1⟩)]) (fun j_1 => [(63, some (CPred.at s63 (rowV 34 j_1.2)))]) (fun s => j_1 = s) (.k 0 rfl (.k 1 rfl (.k 2 rfl (.k 6 rfl .nil)))) SubB.nil ?_ (fun j_1' hj1 => ?_)
 ·
  skip
  refine .block ?_
  refine .loopL h (fun s2_ => [(7, ⟨True, rep s2_.1⟩), (8, ⟨True, rep s2_.2.1⟩)]) (fun s2_ => [(63, some (CPred.at s63 (rowV 34 s2_.2.2)))]) (.k 7 rfl (.k 8 rfl .nil)) (.k 63 rfl .nil) (.k 0 rfl (.k 1 rfl (.k 2 rfl (.k 6 rfl .nil)))) SubB.nil (fun s2_ o_2 h hD2 => ?_)
  unfold slices_stableCmpFunc_Op_L1 at h
  refine .seq ?_
  refine .seq (.region [] mixed (by kernel_rfl) ?_)
  refine .cons (.move .none (.s rfl)) rfl ?_
  refine .cons (.move .none (.s rfl)) rfl ?_
  refine .cons (.le .none (.s rfl) (.s rfl)) rfl ?_
  refine .nil (.then ?_)
  refine .cond (t := 13) rfl trivial (fun hb3 => ?_) (fun hb3 => ?_)
  ·
   replace h := bif_t h hb3
   refine .skip ?_
   refine .then ?_
   refine .block ?_
   refine .seq (.region [([], []), ([], []), ([], []), ([], []), ([63], [63])] mixed (by kernel_rfl) ?_)
   refine .consA (.move .none (.s rfl)) rfl ?_
   refine .consA (.move .none (.s rfl)) rfl ?_
   refine .consA (.move .none (.s rfl)) rfl ?_
   refine .consA (.move .none (.s rfl)) rfl ?_
   obtain ⟨r1, hv4, h⟩ := bind_some h
   refine .consW (.callO [63] (slices_insertionSortCmpFunc_Op_ok hv4) (.cons (.s rfl) (.cons (.s rfl) (.cons (.s rfl) (.cons (.s rfl) .nil)))) (.cons (k := 63) rfl .nil) rfl (by decide) (by decide) (by intro d h; cases h; decide)) rfl rfl ?_
   refine .nil (.then ?_)
   refine .seq (.region [] mixed (by kernel_rfl) ?_)
   refine .cons (.move .none (.s rfl)) rfl ?_
   refine .cons (.assign .none (.s rfl)) rfl ?_
   refine .nil (.then ?_)
   refine .region [] mixed (by kernel_rfl) ?_
   refine .cons (.move .none (.s rfl)) rfl ?_
   refine .cons (.move .none (.s rfl)) rfl ?_
   refine .cons (.addW .none (.s rfl) (.s rfl)) rfl ?_
   obtain ⟨b1, hv5, h⟩ := bnd_some h
   refine .cons (.re hv5 (.assign .none (.s rfl))) rfl ?_
   refine .nil ?_
   refine .blkNormal ?_
   exact Ends.againL (some_eq h) (.k 7 rfl (.k 8 rfl (.k 0 rfl (.k 1 rfl (.k 2 rfl (.k 6 rfl .nil)))))) (.k 63 rfl .nil)
  ·
   replace h := bif_f h hb3
   refine .exit ?_
   refine .thenExit ?_
   refine .thenExit ?_
   refine .blkExit ?_
   replace h := hD2 _ (some_eq h)
   exact Ends.join _ (some_eq h) (.k 7 rfl (.k 0 rfl (.k 1 rfl (.k 2 rfl (.k 6 rfl .nil))))) (.k 63 rfl .nil)
 ·
  subst hj1; have h := hK1; clear hK1
  refine .seq (.region [([], []), ([], []), ([], []), ([], []), ([63], [63])] mixed (by kernel_rfl) ?_)
  refine .consA (.move .none (.s rfl)) rfl ?_
  refine .consA (.move .none (.s rfl)) rfl ?_
  refine .consA (.move .none (.s rfl)) rfl ?_
  refine .consA (.move .none (.s rfl)) rfl ?_
  obtain ⟨r2, hv6, h⟩ := bind_some h
  refine .consW (.callO [63] (slices_insertionSortCmpFunc_Op_ok hv6) (.cons (.s rfl) (.cons (.s rfl) (.cons (.s rfl) (.cons (.s rfl) .nil)))) (.cons (k := 63) rfl .nil) rfl (by decide) (by decide) (by intro d h; cases h; decide)) rfl rfl ?_
  refine .nil (.then ?_)
  refine .block ?_
  refine .loopL h (fun s7_ => [(6, ⟨True, rep s7_.1⟩)]) (fun s7_ => [(63, some (CPred.at s63 (rowV 34 s7_.2)))]) (.k 6 rfl .nil) (.k 63 rfl .nil) (.k 0 rfl (.k 1 rfl (.k 2 rfl .nil))) SubB.nil (fun s7_ o_7 h hD7 => ?_)
  unfold slices_stableCmpFunc_Op_L2 at h
  refine .seq ?_
  refine .seq (.region [] mixed (by kernel_rfl) ?_)
  refine .cons (.move .none (.s rfl)) rfl ?_
  refine .cons (.move .none (.s rfl)) rfl ?_
  refine .cons (.lt .none (.s rfl) (.s rfl)) rfl ?_
  refine .nil (.then ?_)
  refine .cond (t := 30) rfl trivial (fun hb8 => ?_) (fun hb8 => ?_)
  ·
   replace h := bif_t h hb8
   refine .skip ?_
   refine .then ?_
   refine .block ?_
   refine .seq (.region [] mixed (by kernel_rfl) ?_)
   refine .cons (.move .none (.s rfl)) rfl ?_
   refine .cons (.mulW .none (.int (by decide)) (.s rfl)) rfl ?_
   refine .cons (.assign .none (.int (by decide))) rfl ?_
   obtain ⟨b2, hv9, h⟩ := bnd_some h
   refine .cons (.re hv9 (.assign .none (.s rfl))) rfl ?_
   refine .nil (.then ?_)
   refine .seq ?_
   obtain ⟨j_10, h, hK10⟩ := bind_some h
   refine .thenJ (ι := (Int × (List DOp))) (fun j_10 => [(7, ⟨True, rep j_10.1⟩)]) (fun j_10 => [(63, some (CPred.at s63 (rowV 34 j_10.2)))]) (fun s => j_10 = s) (.k 0 rfl (.k 1 rfl (.k 2 rfl (.k 6 rfl .nil)))) SubB.nil ?_ (fun j_10' hj10 => ?_)
   ·
    skip
    refine .block ?_
    refine .loopL h (fun s11_ => [(7, ⟨True, rep s11_.1⟩), (8, ⟨True, rep s11_.2.1⟩)]) (fun s11_ => [(63, some (CPred.at s63 (rowV 34 s11_.2.2)))]) (.k 7 rfl (.k 8 rfl .nil)) (.k 63 rfl .nil) (.k 0 rfl (.k 1 rfl (.k 2 rfl (.k 6 rfl .nil)))) SubB.nil (fun s11_ o_11 h hD11 => ?_)
    unfold slices_stableCmpFunc_Op_L3 at h
    refine .seq ?_
    refine .seq (.region [] mixed (by kernel_rfl) ?_)
    refine .cons (.move .none (.s rfl)) rfl ?_
    refine .cons (.move .none (.s rfl)) rfl ?_
    refine .cons (.le .none (.s rfl) (.s rfl)) rfl ?_
    refine .nil (.then ?_)
    refine .cond (t := 35) rfl trivial (fun hb12 => ?_) (fun hb12 => ?_)
    ·
     replace h := bif_t h hb12
     refine .skip ?_
     refine .then ?_
     refine .block ?_
     refine .seq (.region [([], []), ([], []), ([], []), ([], []), ([], []), ([], []), ([], []), ([63], [63])] mixed (by kernel_rfl) ?_)
     refine .consA (.move .none (.s rfl)) rfl ?_
     refine .consA (.move .none (.s rfl)) rfl ?_
     refine .consA (.move .none (.s rfl)) rfl ?_
     refine .consA (.move .none (.s rfl)) rfl ?_
     refine .consA (.addW .none (.s rfl) (.s rfl)) rfl ?_
     refine .consA (.move .none (.s rfl)) rfl ?_
     refine .consA (.move .none (.s rfl)) rfl ?_
     obtain ⟨r3, hv13, h⟩ := bind_some h
     refine .consW (.callO [63] (slices_symMergeCmpFunc_Op_ok hv13) (.cons (.s rfl) (.cons (.s rfl) (.cons (.s rfl) (.cons (.s rfl) (.cons (.s rfl) .nil))))) (.cons (k := 63) rfl .nil) rfl (by decide) (by decide) (by intro d h; cases h; decide)) rfl rfl ?_
     refine .nil (.then ?_)
     refine .seq (.region [] mixed (by kernel_rfl) ?_)
     refine .cons (.move .none (.s rfl)) rfl ?_
     refine .cons (.assign .none (.s rfl)) rfl ?_
     refine .nil (.then ?_)
     refine .region [] mixed (by kernel_rfl) ?_
     refine .cons (.move .none (.s rfl)) rfl ?_
     refine .cons (.move .none (.s rfl)) rfl ?_
     refine .cons (.mulW .none (.int (by decide)) (.s rfl)) rfl ?_
     refine .cons (.addW .none (.s rfl) (.s rfl)) rfl ?_
     obtain ⟨b3, hv14, h⟩ := bnd_some h
     refine .cons (.re hv14 (.assign .none (.s rfl))) rfl ?_
     refine .nil ?_
     refine .blkNormal ?_
     exact Ends.againL (some_eq h) (.k 7 rfl (.k 8 rfl (.k 0 rfl (.k 1 rfl (.k 2 rfl (.k 6 rfl .nil)))))) (.k 63 rfl .nil)
    ·
     replace h := bif_f h hb12
     refine .exit ?_
     refine .thenExit ?_
     refine .thenExit ?_
     refine .blkExit ?_
     replace h := hD11 _ (some_eq h)
     exact Ends.join _ (some_eq h) (.k 7 rfl (.k 0 rfl (.k 1 rfl (.k 2 rfl (.k 6 rfl .nil))))) (.k 63 rfl .nil)
   ·
    subst hj10; have h := hK10; clear hK10
    refine .seq ?_
    refine .seq (.region [] mixed (by kernel_rfl) ?_)
    refine .cons (.move .none (.s rfl)) rfl ?_
    refine .cons (.move .none (.s rfl)) rfl ?_
    refine .cons (.addW .none (.s rfl) (.s rfl)) rfl ?_
    obtain ⟨m1, hv15, h⟩ := bnd_some h
    refine .cons (.re hv15 (.assign .none (.s rfl))) rfl ?_
    refine .nil (.then ?_)
    refine .seq (.region [] mixed (by kernel_rfl) ?_)
    refine .cons (.move .none (.s rfl)) rfl ?_
    refine .cons (.move .none (.s rfl)) rfl ?_
    refine .cons (.lt .none (.s rfl) (.s rfl)) rfl ?_
    refine .nil (.then ?_)
    obtain ⟨j_16, h, hK16⟩ := bind_some h
    refine .thenJ (ι := (List DOp)) (fun j_16 => []) (fun j_16 => [(63, some (CPred.at s63 (rowV 34 j_16)))]) (fun s => j_16 = s) (.k 0 rfl (.k 1 rfl (.k 2 rfl (.k 6 rfl .nil)))) SubB.nil ?_ (fun j_16' hj16 => ?_)
    ·
     skip
     refine .cond (t := 54) rfl trivial (fun hb17 => ?_) (fun hb17 => ?_)
     ·
      replace h := bif_t h hb17
      refine .region [([], []), ([], []), ([], []), ([], []), ([], []), ([63], [63])] mixed (by kernel_rfl) ?_
      refine .consA (.move .none (.s rfl)) rfl ?_
      refine .consA (.move .none (.s rfl)) rfl ?_
      refine .consA (.move .none (.s rfl)) rfl ?_
      refine .consA (.move .none (.s rfl)) rfl ?_
      refine .consA (.move .none (.s rfl)) rfl ?_
      obtain ⟨r4, hv18, h⟩ := bind_some h
      refine .consW (.callO [63] (slices_symMergeCmpFunc_Op_ok hv18) (.cons (.s rfl) (.cons (.s rfl) (.cons (.s rfl) (.cons (.s rfl) (.cons (.s rfl) .nil))))) (.cons (k := 63) rfl .nil) rfl (by decide) (by decide) (by intro d h; cases h; decide)) rfl rfl ?_
      refine .nil ?_
      exact Ends.join _ (some_eq h) (.k 0 rfl (.k 1 rfl (.k 2 rfl (.k 6 rfl .nil)))) (.k 63 rfl .nil)
     ·
      replace h := bif_f h hb17
      refine .skip ?_
      exact Ends.join _ (some_eq h) (.k 0 rfl (.k 1 rfl (.k 2 rfl (.k 6 rfl .nil)))) (.k 63 rfl .nil)
    ·
     subst hj16; have h := hK16; clear hK16
     refine .region [] mixed (by kernel_rfl) ?_
     refine .cons (.move .none (.s rfl)) rfl ?_
     refine .cons (.mulW .none (.s rfl) (.int (by decide))) rfl ?_
     obtain ⟨blockSize1, hv19, h⟩ := bnd_some h
     refine .cons (.re hv19 (.assign .none (.s rfl))) rfl ?_
     refine .nil ?_
     refine .blkNormal ?_
     exact Ends.againL (some_eq h) (.k 6 rfl (.k 0 rfl (.k 1 rfl (.k 2 rfl .nil)))) (.k 63 rfl .nil)
  ·
   replace h := bif_f h hb8
   refine .exit ?_
   refine .thenExit ?_
   refine .thenExit ?_
   refine .blkExit ?_
   replace h := hD7 _ (some_eq h)
   obtain rfl := some_eq h
   exact Ends.ret0O (.inr rfl) [63] Tryd.results65 (by decide) (.held rfl .nil) 

theorem slices_SortStableFunc_Op_ok {x1 : (List DOp)} {cmp1 : (DOp → DOp → Option Int)} {r : (List DOp)} {s9 : Value} (h : slices_SortStableFunc_Op x1 cmp1 = some r) : FSpecO Tryd.prog 42 [isV s9, fn2 Tryd.prog (rep (α := Int)) cmp1] [(s9, rowV 34 x1)] (anyV) [some (rowV 34 r)] := by
 unfold slices_SortStableFunc_Op at h
 refine FSpecO.intro (n := 9) fnok42 Tryd.func42 rfl Tryd.ntmps42 rfl (fun F => ?_)
 refine .region [([], []), ([], []), ([9], []), ([], []), ([9], [9])] mixed (by kernel_rfl) ?_
 refine .consA (.move .none (.s rfl)) rfl ?_
 refine .consA (.move .none (.s rfl)) rfl ?_
 refine .consA (.lenO (k := 9) sl22 (.told (.s rfl) rfl)) rfl ?_
 refine .consA (.move .none (.s rfl)) rfl ?_
 obtain ⟨r1, hv1, h⟩ := bind_some h
 refine .consW (.callO [9] (slices_stableCmpFunc_Op_ok hv1) (.cons (.s rfl) (.cons (.s rfl) (.cons (.s rfl) .nil))) (.cons (k := 9) rfl .nil) rfl (by decide) (by decide) (by intro d h; cases h; decide)) rfl rfl ?_
 refine .nil ?_
 obtain rfl := some_eq h
 exact Ends.ret0O (.inr rfl) [9] Tryd.results42 (by decide) (.held rfl .nil) 

theorem slices_Compact_Op_ok {s1 : (List DOp)} {r : (List DOp)} {s61 : Value} (h : slices_Compact_Op s1 = some r) : FSpecO Tryd.prog 44 [isV s61] [(s61, rowV 34 s1)] (anyV) [none, some (rowV 34 r)] := by
 unfold slices_Compact_Op at h
 refine FSpecO.intro (n := 61) fnok44 Tryd.func44 rfl Tryd.ntmps44 rfl (fun F => ?_)
 refine .seq (.region [] mixed (by kernel_rfl) ?_)
 refine .cons (.assign .none (.const (x := ([] : (List DOp))) (fun M w => ⟨_, ⟨none, 0, rfl, Nat.le_refl _, by decide, rfl⟩, rfl⟩))) rfl ?_
 refine .nil (.then ?_)
 refine .seq ?_
 refine .seq (.region [([], []), ([61], []), ([], [])] mixed (by kernel_rfl) ?_)
 refine .consA (.move .none (.s rfl)) rfl ?_
 refine .consA (.lenO (k := 61) sl22 (.told (.s rfl) rfl)) rfl ?_
 refine .consA (.lt .none (.s rfl) (.int (by decide))) rfl ?_
 refine .nil (.then ?_)
 refine .cond (t := 8) rfl trivial (fun hb1 => ?_) (fun hb1 => ?_)
 ·
  replace h := bif_t h hb1
  refine .seq (.region [] mixed (by kernel_rfl) ?_)
  refine .cons (.move .none (.s rfl)) rfl ?_
  refine .cons (.assign .none (.s rfl)) rfl ?_
  refine .nil (.then ?_)
  refine .ret ?_
  refine .thenRet ?_
  refine .anon (t := 2) (g := 61) rfl rfl trivial rfl ?_
  obtain rfl := some_eq h
  exact Ends.ret1O (.inl rfl) [61, 2] Tryd.results44 (by decide) (.skip (.res rfl rfl)) (ResOK.tmp rfl trivial (fun _ _ _ _ => trivial))
 ·
  replace h := bif_f h hb1
  refine .skip ?_
  refine .then ?_
  refine .seq ?_
  refine .seq (.region [] mixed (by kernel_rfl) ?_)
  refine .cons (.assign .none (.int (by decide))) rfl ?_
  refine .nil (.then ?_)
  obtain ⟨o_2, h, hK2⟩ := bindR_some h
  refine .thenJ (ι := Unit) (fun j_2 => []) (fun j_2 => []) (fun s => o_2 = Res.nx s) (.k 0 rfl .nil) (.k 61 rfl .nil) ?_ (fun j_2 hj2 => ?_)
  ·
   skip
   refine .block ?_
   refine .loopL h (fun s3_ => [(3, ⟨True, rep s3_⟩)]) (fun s3_ => []) (.k 3 rfl .nil) SubB.nil (.k 0 rfl .nil) (.k 61 rfl .nil) (fun s3_ o_3 h hD3 => ?_)
   unfold slices_Compact_Op_L1 at h
   refine .seq ?_
   refine .seq (.region [([], []), ([], []), ([61], []), ([], [])] mixed (by kernel_rfl) ?_)
   refine .consA (.move .none (.s rfl)) rfl ?_
   refine .consA (.move .none (.s rfl)) rfl ?_
   refine .consA (.lenO (k := 61) sl22 (.told (.s rfl) rfl)) rfl ?_
   refine .consA (.lt .none (.s rfl) (.s rfl)) rfl ?_
   refine .nil (.then ?_)
   refine .cond (t := 13) rfl trivial (fun hb4 => ?_) (fun hb4 => ?_)
   ·
    replace h := bif_t h hb4
    refine .skip ?_
    refine .then ?_
    refine .seq ?_
    obtain ⟨o_5, h, hK5⟩ := bindR_some h
    refine .thenJ (ι := Unit) (fun j_5 => []) (fun j_5 => []) (fun s => o_5 = Res.nx s) (.k 0 rfl (.k 3 rfl .nil)) (.k 61 rfl .nil) ?_ (fun j_5 hj5 => ?_)
    ·
     skip
     refine .block ?_
     refine .seq (.region [([], []), ([], []), ([61], []), ([61], []), ([], []), ([], []), ([], []), ([61], []), ([61], []), ([], [])] mixed (by kernel_rfl) ?_)
     refine .consA (.move .none (.s rfl)) rfl ?_
     refine .consA (.move .none (.s rfl)) rfl ?_
     obtain ⟨hn6, h⟩ := need_some h
     refine .consA (.indexAddrO (k := 61) .none sl22 ty34 (.s rfl) rfl (.s rfl) (fun _ => hn6)) rfl ?_
     refine .consA (.loadElem0 (k := 61) .none ty34 (.s rfl) rfl (fun _ => hn6)) rfl ?_
     refine .consA (.move .none (.s rfl)) rfl ?_
     refine .consA (.move .none (.s rfl)) rfl ?_
     refine .consA (.subW .none (.s rfl) (.int (by decide))) rfl ?_
     obtain ⟨hn7, h⟩ := need_some h
     refine .consA (.indexAddrO (k := 61) .none sl22 ty34 (.s rfl) rfl (.s rfl) (fun _ => hn7)) rfl ?_
     refine .consA (.loadElem0 (k := 61) .none ty34 (.s rfl) rfl (fun _ => hn7)) rfl ?_
     refine .consA (.eqS .none eqa34 (.s rfl) (.s rfl)) rfl ?_
     refine .nil (.then ?_)
     refine .cond (t := 25) rfl trivial (fun hb8 => ?_) (fun hb8 => ?_)
     ·
      replace h := bif_t h hb8
      refine .seq (.region [([], []), ([], []), ([61], []), ([], [])] mixed (by kernel_rfl) ?_)
      refine .consA (.move .none (.s rfl)) rfl ?_
      refine .consA (.move .none (.s rfl)) rfl ?_
      obtain ⟨hn9, h⟩ := need_some h
      refine .consA (.sliceLend (k := 61) sl22 ty34 (.s rfl) rfl (.s rfl) rfl hn9) rfl ?_
      refine .consA (.assign .none (.s rfl)) rfl ?_
      refine .nil (.then ?_)
      refine .seq ?_
      refine .seq (.region [] mixed (by kernel_rfl) ?_)
      refine .cons (.assign .none (.int (by decide))) rfl ?_
      refine .nil (.then ?_)
      obtain ⟨j_10, h, hK10⟩ := bind_some h
      refine .thenJ (ι := (Int × (List DOp))) (fun j_10 => [(3, ⟨True, rep j_10.1⟩)]) (fun j_10 => [(61, some (CPred.at s61 (rowV 34 j_10.2)))]) (fun s => j_10 = s) (.k 0 rfl .nil) SubB.nil ?_ (fun j_10' hj10 => ?_)
      ·
       skip
       refine .block ?_
       refine .loopL h (fun s11_ => [(3, ⟨True, rep s11_.1⟩), (5, ⟨True, rep s11_.2.1⟩)]) (fun s11_ => [(61, some (CPred.at s61 (rowV 34 s11_.2.2)))]) (.k 3 rfl (.k 5 rfl .nil)) (.k 61 rfl .nil) (.k 0 rfl (.k 4 rfl .nil)) SubB.nil (fun s11_ o_11 h hD11 => ?_)
       unfold slices_Compact_Op_L2 at h
       refine .seq ?_
       refine .seq (.region [([], []), ([], []), ([61], []), ([], [])] mixed (by kernel_rfl) ?_)
       refine .consA (.move .none (.s rfl)) rfl ?_
       refine .consA (.move .none (.s rfl)) rfl ?_
       obtain ⟨hn12, h⟩ := need_some h
       refine .consA (.lenPart (k := 61) sl22 (.s rfl) rfl hn12) rfl ?_
       refine .consA (.lt .none (.s rfl) (.s rfl)) rfl ?_
       refine .nil (.then ?_)
       refine .cond (t := 32) rfl trivial (fun hb13 => ?_) (fun hb13 => ?_)
       ·
        replace h := bif_t h hb13
        refine .skip ?_
        refine .then ?_
        refine .seq ?_
        obtain ⟨j_14, h, hK14⟩ := bind_some h
        refine .thenJ (ι := (Int × (List DOp))) (fun j_14 => [(3, ⟨True, rep j_14.1⟩)]) (fun j_14 => [(61, some (CPred.at s61 (rowV 34 j_14.2)))]) (fun s => j_14 = s) (.k 0 rfl (.k 4 rfl (.k 5 rfl .nil))) SubB.nil ?_ (fun j_14' hj14 => ?_)
        ·
         skip
         refine .block ?_
         refine .seq (.region [([], []), ([], []), ([61], []), ([61], []), ([], []), ([], []), ([], []), ([61], []), ([61], []), ([], [])] mixed (by kernel_rfl) ?_)
         refine .consA (.move .none (.s rfl)) rfl ?_
         refine .consA (.move .none (.s rfl)) rfl ?_
         obtain ⟨hn15, h⟩ := need_some h
         obtain ⟨hn16, h⟩ := need_some h
         obtain ⟨hn17, h⟩ := need_some h
         refine .consA (.indexPart (k := 61) .none sl22 ty34 (.s rfl) rfl (.s rfl) (fun _ => hn15) (fun _ => hn16)) rfl ?_
         refine .consA (.loadElem0 (k := 61) .none ty34 (.s rfl) rfl (fun _ => hn17)) rfl ?_
         refine .consA (.move .none (.s rfl)) rfl ?_
         refine .consA (.move .none (.s rfl)) rfl ?_
         refine .consA (.subW .none (.s rfl) (.int (by decide))) rfl ?_
         obtain ⟨hn18, h⟩ := need_some h
         obtain ⟨hn19, h⟩ := need_some h
         obtain ⟨hn20, h⟩ := need_some h
         refine .consA (.indexPart (k := 61) .none sl22 ty34 (.s rfl) rfl (.s rfl) (fun _ => hn18) (fun _ => hn19)) rfl ?_
         refine .consA (.loadElem0 (k := 61) .none ty34 (.s rfl) rfl (fun _ => hn20)) rfl ?_
         refine .consA (.neS .none eqa34 (.s rfl) (.s rfl)) rfl ?_
         refine .nil (.then ?_)
         refine .cond (t := 44) rfl trivial (fun hb21 => ?_) (fun hb21 => ?_)
         ·
          replace h := bif_t h hb21
          refine .seq (.region [([], []), ([], []), ([], []), ([], []), ([61], []), ([61], []), ([61], []), ([61], [61])] mixed (by kernel_rfl) ?_)
          refine .consA (.move .none (.s rfl)) rfl ?_
          refine .consA (.move .none (.s rfl)) rfl ?_
          refine .consA (.move .none (.s rfl)) rfl ?_
          refine .consA (.move .none (.s rfl)) rfl ?_
          obtain ⟨hn22, h⟩ := need_some h
          obtain ⟨hn23, h⟩ := need_some h
          obtain ⟨hn24, h⟩ := need_some h
          refine .consA (.indexPart (k := 61) .none sl22 ty34 (.s rfl) rfl (.s rfl) (fun _ => hn22) (fun _ => hn23)) rfl ?_
          obtain ⟨v1, hv25, h⟩ := bnd_some h
          refine .consA (.re hv25 (.loadElem0 (k := 61) .none ty34 (.s rfl) rfl (fun _ => hn24))) rfl ?_
          obtain ⟨hn26, h⟩ := need_some h
          refine .consA (.indexAddrO (k := 61) .none sl22 ty34 (.s rfl) rfl (.s rfl) (fun _ => hn26)) rfl ?_
          refine .consN (.storeElem0 (k := 61) ty34 (.s rfl) rfl (.s rfl) hn26) rfl ?_
          refine .nil (.then ?_)
          obtain ⟨s2, hv27, h⟩ := bnd_some h
          refine .reB (t := 61) rfl (congrArg (fun y => CPred.at s61 (rowV 34 y)) hv27) ?_
          refine .region [] mixed (by kernel_rfl) ?_
          refine .cons (.move .none (.s rfl)) rfl ?_
          refine .cons (.addW .none (.s rfl) (.int (by decide))) rfl ?_
          obtain ⟨k1, hv28, h⟩ := bnd_some h
          refine .cons (.re hv28 (.assign .none (.s rfl))) rfl ?_
          refine .nil ?_
          refine .blkNormal ?_
          exact Ends.join _ (some_eq h) (.k 3 rfl (.k 0 rfl (.k 4 rfl (.k 5 rfl .nil)))) (.k 61 rfl .nil)
         ·
          replace h := bif_f h hb21
          refine .skip ?_
          refine .blkNormal ?_
          exact Ends.join _ (some_eq h) (.k 3 rfl (.k 0 rfl (.k 4 rfl (.k 5 rfl .nil)))) (.k 61 rfl .nil)
        ·
         subst hj14; have h := hK14; clear hK14
         refine .region [] mixed (by kernel_rfl) ?_
         refine .cons (.move .none (.s rfl)) rfl ?_
         refine .cons (.addW .none (.s rfl) (.int (by decide))) rfl ?_
         obtain ⟨k2_1, hv29, h⟩ := bnd_some h
         refine .cons (.re hv29 (.assign .none (.s rfl))) rfl ?_
         refine .nil ?_
         exact Ends.againL (some_eq h) (.k 3 rfl (.k 5 rfl (.k 0 rfl (.k 4 rfl .nil)))) (.k 61 rfl .nil)
       ·
        replace h := bif_f h hb13
        refine .exit ?_
        refine .thenExit ?_
        refine .thenExit ?_
        refine .blkExit ?_
        replace h := hD11 _ (some_eq h)
        exact Ends.join _ (some_eq h) (.k 3 rfl (.k 0 rfl .nil)) (.k 61 rfl .nil)
      ·
       subst hj10; have h := hK10; clear hK10
       refine .seq (.region [([], []), ([], []), ([61], []), ([61], [61])] mixed (by kernel_rfl) ?_)
       refine .consA (.move .none (.s rfl)) rfl ?_
       refine .consA (.move .none (.s rfl)) rfl ?_
       obtain ⟨hn30, h⟩ := need_some h
       refine .consA (.sliceLend (k := 61) sl22 ty34 (.s rfl) rfl (.s rfl) rfl hn30) rfl ?_
       refine .consN (.clearPart (k := 61) sl22 zo34 (.s rfl) rfl hn30) rfl ?_
       refine .nil (.then ?_)
       obtain ⟨s3, hv31, h⟩ := bnd_some h
       refine .reB (t := 61) rfl (congrArg (fun y => CPred.at s61 (rowV 34 y)) hv31) ?_
       refine .seq (.region [([], []), ([], []), ([61], [59, 61]), ([59], [2, 59])] mixed (by kernel_rfl) ?_)
       refine .consA (.move .none (.s rfl)) rfl ?_
       refine .consA (.move .none (.s rfl)) rfl ?_
       obtain ⟨hn32, h⟩ := need_some h
       refine .consW (.sliceRow (k := 61) sl22 ty34 rfl (.s rfl) rfl rfl (.s rfl) hn32) rfl rfl ?_
       refine .consW (.passRow rfl (.tmp rfl)) rfl rfl ?_
       refine .nil (.then ?_)
       obtain ⟨v2, hv33, h⟩ := bnd_some h
       refine .reB (t := 2) rfl (congrArg (rowV 34) hv33) ?_
       refine .nameRow (t := 2) (g := 5001) rfl rfl rfl (fun s5001 => ?_)
       refine .ret ?_
       refine .blkRet ?_
       refine .thenRet ?_
       refine .thenRet ?_
       refine .blkRet ?_
       refine .thenRet ?_
       refine .anon (t := 2) (g := 5001) rfl rfl trivial rfl ?_
       replace h := resb_ab hK5 (some_eq h)
       replace h := hD3 _ (some_eq h)
       replace h := resb_ab hK2 (some_eq h)
       obtain rfl := some_eq h
       exact Ends.ret1O (.inl rfl) [61, 2] Tryd.results44 (by decide) (.skip (.res rfl rfl)) (ResOK.tmp rfl trivial (fun _ _ _ _ => trivial))
     ·
      replace h := bif_f h hb8
      refine .skip ?_
      refine .blkNormal ?_
      exact Ends.join _ (some_eq h) (.k 0 rfl (.k 3 rfl .nil)) (.k 61 rfl .nil)
    ·
     have h := resb_nx hK5 hj5
     refine .region [] mixed (by kernel_rfl) ?_
     refine .cons (.move .none (.s rfl)) rfl ?_
     refine .cons (.addW .none (.s rfl) (.int (by decide))) rfl ?_
     obtain ⟨k2, hv34, h⟩ := bnd_some h
     refine .cons (.re hv34 (.assign .none (.s rfl))) rfl ?_
     refine .nil ?_
     exact Ends.againL (some_eq h) (.k 3 rfl (.k 0 rfl .nil)) (.k 61 rfl .nil)
   ·
    replace h := bif_f h hb4
    refine .exit ?_
    refine .thenExit ?_
    refine .thenExit ?_
    refine .blkExit ?_
    replace h := hD3 _ (some_eq h)
    exact Ends.join _ (some_eq h) (.k 0 rfl .nil) (.k 61 rfl .nil)
  ·
   have h := resb_nx hK2 hj2
   refine .seq (.region [] mixed (by kernel_rfl) ?_)
   refine .cons (.move .none (.s rfl)) rfl ?_
   refine .cons (.assign .none (.s rfl)) rfl ?_
   refine .nil (.then ?_)
   refine .ret ?_
   refine .anon (t := 2) (g := 61) rfl rfl trivial rfl ?_
   obtain rfl := some_eq h
   exact Ends.ret1O (.inl rfl) [61, 2] Tryd.results44 (by decide) (.skip (.res rfl rfl)) (ResOK.tmp rfl trivial (fun _ _ _ _ => trivial))

theorem edit_Merge_ok {a1 : (List DOp)} {b1 : (List DOp)} {r : ((List DOp) × Int)}  (h : edit_Merge a1 b1 = some r) : FSpec Tryd.prog 13 [rep a1, rep b1] (tup [rep r.1, rep r.2]) := by
 unfold edit_Merge at h
 refine FSpec.intro (n := 61) fnok13 Tryd.func13 rfl Tryd.ntmps13 rfl (fun F => ?_)
 refine .seq (.region [] mixed (by kernel_rfl) ?_)
 refine .cons (.assign .none (.const (x := ([] : (List DOp))) (fun M w => ⟨_, ⟨none, 0, rfl, Nat.le_refl _, by decide, rfl⟩, rfl⟩))) rfl ?_
 refine .cons (.assign .none (.int (by decide))) rfl ?_
 refine .nil (.then ?_)
 refine .seq ?_
 refine .seq (.region [] mixed (by kernel_rfl) ?_)
 refine .cons (.move .none (.s rfl)) rfl ?_
 obtain ⟨e1, hv1, h⟩ := bind_some h
 refine .cons (.call .none (edit_Check_ok hv1) (.cons (.s rfl) .nil)) rfl ?_
 refine .cons (.assign .none (.s rfl)) rfl ?_
 refine .nil (.then ?_)
 refine .seq (.region [] mixed (by kernel_rfl) ?_)
 refine .cons (.move .none (.s rfl)) rfl ?_
 refine .cons (.neI .none (.s rfl) (.int (by decide))) rfl ?_
 refine .nil (.then ?_)
 refine .cond (t := 13) rfl trivial (fun hb2 => ?_) (fun hb2 => ?_)
 ·
  replace h := bif_t h hb2
  refine .seq (.region [] mixed (by kernel_rfl) ?_)
  refine .cons (.move .none (.s rfl)) rfl ?_
  refine .cons (.assign .none (.const (x := ([] : (List DOp))) (fun M w => ⟨_, ⟨none, 0, rfl, Nat.le_refl _, by decide, rfl⟩, rfl⟩))) rfl ?_
  refine .cons (.assign .none (.s rfl)) rfl ?_
  refine .nil (.then ?_)
  refine .ret ?_
  refine .thenRet ?_
  obtain rfl := some_eq h
  exact Ends.ret2 (.inl rfl) Tryd.results13 (ResOK.tmp rfl trivial Imp.refl) (ResOK.tmp rfl trivial Imp.refl)
 ·
  replace h := bif_f h hb2
  refine .skip ?_
  refine .then ?_
  refine .seq ?_
  refine .seq (.region [] mixed (by kernel_rfl) ?_)
  refine .cons (.move .none (.s rfl)) rfl ?_
  refine .cons (.len .none sl22 (.s rfl)) rfl ?_
  refine .cons (.gt .none (.s rfl) (.int (by decide))) rfl ?_
  refine .nil (.then ?_)
  refine .cond (t := 17) rfl trivial (fun hb3 => ?_) (fun hb3 => ?_)
  ·
   replace h := bif_t h hb3
   refine .seq (.region [] mixed (by kernel_rfl) ?_)
   refine .cons (.assign .none (.const (x := ([] : (List DOp))) (fun M w => ⟨_, ⟨none, 0, rfl, Nat.le_refl _, by decide, rfl⟩, rfl⟩))) rfl ?_
   refine .cons (.assign .none (.int (by decide))) rfl ?_
   refine .nil (.then ?_)
   refine .ret ?_
   refine .thenRet ?_
   obtain rfl := some_eq h
   exact Ends.ret2 (.inl rfl) Tryd.results13 (ResOK.tmp rfl trivial Imp.refl) (ResOK.tmp rfl trivial Imp.refl)
  ·
   replace h := bif_f h hb3
   refine .skip ?_
   refine .then ?_
   refine .seq (.region [([], []), ([], []), ([], []), ([], [21]), ([21], [7, 21])] mixed (by kernel_rfl) ?_)
   refine .consA (.move .none (.s rfl)) rfl ?_
   refine .consA (.move .none (.s rfl)) rfl ?_
   refine .consA (.buildSlice (xs := [_, _]) .none sl83 ty22 hz22 (.cons (.s rfl) (.cons (.s rfl) .nil)) rfl (by decide)) rfl ?_
   obtain ⟨all1, hv4, h⟩ := bind_some h
   refine .consW (.callO [] (slices_Concat_Op_ok hv4) (.cons (.s rfl) .nil) .nil rfl (by decide) (by decide) (by intro d h; cases h; decide)) rfl rfl ?_
   refine .consW (.passRow rfl (.tmp rfl)) rfl rfl ?_
   refine .nil (.then ?_)
   refine .nameRow (t := 7) (g := 5001) rfl rfl rfl (fun s5001 => ?_)
   refine .seq (.region [([], []), ([5001], [5001])] mixed (by kernel_rfl) ?_)
   refine .consA (.move .none (.s rfl)) rfl ?_
   obtain ⟨r1, hv5, h⟩ := bind_some h
   refine .consW (.callO [5001] (slices_SortStableFunc_Op_ok hv5) (.cons (.s rfl) (.cons (Opd.func (ι := DOp × DOp × Int) (pre := fun i => edit_order i.1 i.2.1 = some i.2.2) (Ss := fun i => [rep i.1, rep i.2.1]) (S := fun i => rep i.2.2) fnok43 (fun i h => edit_order_ok h)) .nil)) (.cons (k := 5001) rfl .nil) rfl (by decide) (by decide) (by intro d h; cases h; decide)) rfl rfl ?_
   refine .nil (.then ?_)
   refine .seq ?_
   refine .seq (.region [] mixed (by kernel_rfl) ?_)
   refine .cons (.assign .none (.int (by decide))) rfl ?_
   refine .nil (.then ?_)
   obtain ⟨o_6, h, hK6⟩ := bindR_some h
   refine .thenJ (ι := Unit) (fun j_6 => []) (fun j_6 => []) (fun s => o_6 = Res.nx s) (.k 7 rfl .nil) (.k 5001 rfl .nil) ?_ (fun j_6 hj6 => ?_)
   ·
    skip
    refine .block ?_
    refine .loopL h (fun s7_ => [(8, ⟨True, rep s7_⟩)]) (fun s7_ => []) (.k 8 rfl .nil) SubB.nil (.k 7 rfl .nil) (.k 5001 rfl .nil) (fun s7_ o_7 h hD7 => ?_)
    unfold edit_Merge_L1 at h
    refine .seq ?_
    refine .seq (.region [([], []), ([], []), ([5001], []), ([], [])] mixed (by kernel_rfl) ?_)
    refine .consA (.move .none (.s rfl)) rfl ?_
    refine .consA (.move .none (.s rfl)) rfl ?_
    refine .consA (.lenO (k := 5001) sl22 (.told (.s rfl) rfl)) rfl ?_
    refine .consA (.lt .none (.s rfl) (.s rfl)) rfl ?_
    refine .nil (.then ?_)
    refine .cond (t := 27) rfl trivial (fun hb8 => ?_) (fun hb8 => ?_)
    ·
     replace h := bif_t h hb8
     refine .skip ?_
     refine .then ?_
     refine .seq ?_
     refine .block ?_
     refine .seq (.region [([], []), ([], []), ([], []), ([5001], []), ([5001], []), ([], []), ([], []), ([5001], []), ([5001], []), ([], []), ([], []), ([], []), ([], []), ([], []), ([], []), ([5001], []), ([5001], []), ([], []), ([], []), ([5001], []), ([5001], []), ([], []), ([], [])] mixed (by kernel_rfl) ?_)
     refine .consA (.move .none (.s rfl)) rfl ?_
     refine .consA (.move .none (.s rfl)) rfl ?_
     refine .consA (.subW .none (.s rfl) (.int (by decide))) rfl ?_
     obtain ⟨hn9, h⟩ := need_some h
     refine .consA (.indexAddrO (k := 5001) .none sl22 ty34 (.s rfl) rfl (.s rfl) (fun _ => hn9)) rfl ?_
     refine .consA (.loadElem0 (k := 5001) .none ty34 (.s rfl) rfl (fun _ => hn9)) rfl ?_
     refine .consA (.move .none (.s rfl)) rfl ?_
     refine .consA (.move .none (.s rfl)) rfl ?_
     obtain ⟨hn10, h⟩ := need_some h
     refine .consA (.indexAddrO (k := 5001) .none sl22 ty34 (.s rfl) rfl (.s rfl) (fun _ => hn10)) rfl ?_
     refine .consA (.loadElem0 (k := 5001) .none ty34 (.s rfl) rfl (fun _ => hn10)) rfl ?_
     obtain ⟨r2, hv11, h⟩ := bind_some h
     refine .consA (.call .none (edit_order_ok hv11) (.cons (.s rfl) (.cons (.s rfl) .nil))) rfl ?_
     refine .consA (.eqI .none (.s rfl) (.int (by decide))) rfl ?_
     refine .consA (.move .none (.s rfl)) rfl ?_
     refine .consA (.move (.at rfl rfl) (.s rfl)) rfl ?_
     refine .consA (.move (.at rfl rfl) (.s rfl)) rfl ?_
     refine .consA (.subW (.at rfl rfl) (.tmp rfl id) (.int (by decide))) rfl ?_
     obtain ⟨hn12, h⟩ := need_some h
     refine .consA (.indexAddrO (k := 5001) (.at rfl rfl) sl22 ty34 (.tmp rfl id) rfl (.tmp rfl id) (fun hg => hn12 hg.2)) rfl ?_
     refine .consA (.loadElem0 (k := 5001) (.at rfl rfl) ty34 (.tmp rfl id) rfl (fun hg => hn12 hg.2)) rfl ?_
     refine .consA (.move (.at rfl rfl) (.s rfl)) rfl ?_
     refine .consA (.move (.at rfl rfl) (.s rfl)) rfl ?_
     obtain ⟨hn13, h⟩ := need_some h
     refine .consA (.indexAddrO (k := 5001) (.at rfl rfl) sl22 ty34 (.tmp rfl id) rfl (.tmp rfl id) (fun hg => hn13 hg.2)) rfl ?_
     refine .consA (.loadElem0 (k := 5001) (.at rfl rfl) ty34 (.tmp rfl id) rfl (fun hg => hn13 hg.2)) rfl ?_
     refine .consA (.neS (.at rfl rfl) eqa34 (.tmp rfl id) (.tmp rfl id)) rfl ?_
     refine .consA (.pickAnd .none (.s rfl) (.tmp rfl id)) rfl ?_
     refine .nil (.then ?_)
     refine .cond (t := 52) rfl trivial (fun hb14 => ?_) (fun hb14 => ?_)
     ·
      replace h := bif_t h hb14
      refine .seq (.region [] mixed (by kernel_rfl) ?_)
      refine .cons (.assign .none (.const (x := ([] : (List DOp))) (fun M w => ⟨_, ⟨none, 0, rfl, Nat.le_refl _, by decide, rfl⟩, rfl⟩))) rfl ?_
      refine .cons (.assign .none (.int (by decide))) rfl ?_
      refine .nil (.then ?_)
      refine .ret ?_
      refine .blkRet ?_
      refine .thenRet ?_
      refine .thenRet ?_
      refine .blkRet ?_
      refine .thenRet ?_
      replace h := hD7 _ (some_eq h)
      replace h := resb_ab hK6 (some_eq h)
      obtain rfl := some_eq h
      exact Ends.ret2 (.inl rfl) Tryd.results13 (ResOK.tmp rfl trivial Imp.refl) (ResOK.tmp rfl trivial Imp.refl)
     ·
      replace h := bif_f h hb14
      refine .skip ?_
      refine .blkNormal ?_
      refine .then ?_
      refine .region [] mixed (by kernel_rfl) ?_
      refine .cons (.move .none (.s rfl)) rfl ?_
      refine .cons (.addW .none (.s rfl) (.int (by decide))) rfl ?_
      obtain ⟨i1, hv15, h⟩ := bnd_some h
      refine .cons (.re hv15 (.assign .none (.s rfl))) rfl ?_
      refine .nil ?_
      exact Ends.againL (some_eq h) (.k 8 rfl (.k 7 rfl .nil)) (.k 5001 rfl .nil)
    ·
     replace h := bif_f h hb8
     refine .exit ?_
     refine .thenExit ?_
     refine .thenExit ?_
     refine .blkExit ?_
     replace h := hD7 _ (some_eq h)
     exact Ends.join _ (some_eq h) (.k 7 rfl .nil) (.k 5001 rfl .nil)
   ·
    have h := resb_nx hK6 hj6
    refine .seq (.region [([], []), ([5001], [5001]), ([], [])] mixed (by kernel_rfl) ?_)
    refine .consA (.move .none (.s rfl)) rfl ?_
    obtain ⟨all2, hv16, h⟩ := bind_some h
    refine .consW (.callO [5001] ((slices_Compact_Op_ok hv16).frzO1) (.cons (.s rfl) .nil) (.cons (k := 5001) rfl .nil) rfl (by decide) (by decide) (by intro d h; cases h; decide)) rfl rfl ?_
    refine .consA (.assign .none (.s rfl)) rfl ?_
    refine .nil (.then ?_)
    refine .seq ?_
    refine .seq (.region [] mixed (by kernel_rfl) ?_)
    refine .cons (.move .none (.s rfl)) rfl ?_
    obtain ⟨e2, hv17, h⟩ := bind_some h
    refine .cons (.call .none (edit_Check_ok hv17) (.cons (.s rfl) .nil)) rfl ?_
    refine .cons (.assign .none (.s rfl)) rfl ?_
    refine .nil (.then ?_)
    refine .seq (.region [] mixed (by kernel_rfl) ?_)
    refine .cons (.move .none (.s rfl)) rfl ?_
    refine .cons (.neI .none (.s rfl) (.int (by decide))) rfl ?_
    refine .nil (.then ?_)
    refine .cond (t := 58) rfl trivial (fun hb18 => ?_) (fun hb18 => ?_)
    ·
     replace h := bif_t h hb18
     refine .seq (.region [] mixed (by kernel_rfl) ?_)
     refine .cons (.move .none (.s rfl)) rfl ?_
     refine .cons (.assign .none (.const (x := ([] : (List DOp))) (fun M w => ⟨_, ⟨none, 0, rfl, Nat.le_refl _, by decide, rfl⟩, rfl⟩))) rfl ?_
     refine .cons (.assign .none (.s rfl)) rfl ?_
     refine .nil (.then ?_)
     refine .ret ?_
     refine .thenRet ?_
     obtain rfl := some_eq h
     exact Ends.ret2 (.inl rfl) Tryd.results13 (ResOK.tmp rfl trivial Imp.refl) (ResOK.tmp rfl trivial Imp.refl)
    ·
     replace h := bif_f h hb18
     refine .skip ?_
     refine .then ?_
     refine .seq (.region [] mixed (by kernel_rfl) ?_)
     refine .cons (.move .none (.s rfl)) rfl ?_
     refine .cons (.assign .none (.s rfl)) rfl ?_
     refine .cons (.assign .none (.int (by decide))) rfl ?_
     refine .nil (.then ?_)
     refine .ret ?_
     obtain rfl := some_eq h
     exact Ends.ret2 (.inl rfl) Tryd.results13 (ResOK.tmp rfl trivial Imp.refl) (ResOK.tmp rfl trivial Imp.refl)

theorem ref_byOp_ok {a1 : DOp} {b1 : DOp} {r : Int}  (h : ref_byOp a1 b1 = some r) : FSpec Tryd.prog 26 [rep a1, rep b1] (rep r) := by
 unfold ref_byOp at h
 refine FSpec.intro (n := 21) fnok26 Tryd.func26 rfl Tryd.ntmps26 rfl (fun F => ?_)
 refine .seq (.region [] mixed (by kernel_rfl) ?_)
 refine .cons (.box .none (.s rfl)) rfl ?_
 refine .cons (.box .none (.s rfl)) rfl ?_
 refine .cons (.assign .none (.int (by decide))) rfl ?_
 refine .nil (.then ?_)
 refine .seq (.region [] mixed (by kernel_rfl) ?_)
 refine .cons (.fieldAddr .none fd34_0 hfd34_0 (.s rfl)) rfl ?_
 refine .cons (.fieldAddr .none fd32_1 hfd32_1 (.s rfl)) rfl ?_
 refine .cons (.load .none ty9 (.s rfl)) rfl ?_
 refine .cons (.fieldAddr .none fd34_0 hfd34_0 (.s rfl)) rfl ?_
 refine .cons (.fieldAddr .none fd32_1 hfd32_1 (.s rfl)) rfl ?_
 refine .cons (.load .none ty9 (.s rfl)) rfl ?_
 obtain ⟨r1, hv1, h⟩ := bind_some h
 refine .cons (.call .none (strings_Compare_ok hv1) (.cons (.s rfl) (.cons (.s rfl) .nil))) rfl ?_
 refine .cons (.fieldAddr .none fd34_0 hfd34_0 (.s rfl)) rfl ?_
 refine .cons (.fieldAddr .none fd32_2 hfd32_2 (.s rfl)) rfl ?_
 refine .cons (.load .none ty3 (.s rfl)) rfl ?_
 refine .cons (.fieldAddr .none fd34_0 hfd34_0 (.s rfl)) rfl ?_
 refine .cons (.fieldAddr .none fd32_2 hfd32_2 (.s rfl)) rfl ?_
 refine .cons (.load .none ty3 (.s rfl)) rfl ?_
 obtain ⟨r2, hv2, h⟩ := bind_some h
 refine .cons (.call .none (cmp_Compare_int_ok hv2) (.cons (.s rfl) (.cons (.s rfl) .nil))) rfl ?_
 refine .cons (.buildSlice (xs := [_, _]) .none sl90 ty3 hz3 (.cons (.s rfl) (.cons (.s rfl) .nil)) rfl (by decide)) rfl ?_
 obtain ⟨r3, hv3, h⟩ := bind_some h
 refine .cons (.call .none (cmp_Or_int_ok hv3) (.cons (.s rfl) .nil)) rfl ?_
 refine .cons (.assign .none (.s rfl)) rfl ?_
 refine .nil (.then ?_)
 refine .ret ?_
 obtain rfl := some_eq h
 exact Ends.ret1 (.inl rfl) Tryd.results26 (ResOK.tmp rfl trivial Imp.refl)

theorem ref_NameOf_ok {s1 : Str} {r : Bool}  (h : ref_NameOf s1 = some r) : FSpec Tryd.prog 28 [rep s1] (rep r) := by
 unfold ref_NameOf at h
 refine FSpec.intro (n := 45) fnok28 Tryd.func28 rfl Tryd.ntmps28 rfl (fun F => ?_)
 refine .seq (.region [] mixed (by kernel_rfl) ?_)
 refine .cons (.assign .none .bool) rfl ?_
 refine .nil (.then ?_)
 refine .seq ?_
 refine .seq (.region [] mixed (by kernel_rfl) ?_)
 refine .cons (.move .none (.s rfl)) rfl ?_
 refine .cons (.lenStr .none Tryd.underlying9 (.s rfl)) rfl ?_
 refine .cons (.move .none (.int (by decide))) rfl ?_
 refine .nil (.then ?_)
 obtain ⟨o_1, h, hK1⟩ := bindR_some h
 refine .thenJ (ι := Unit) (fun j_1 => []) (fun j_1 => []) (fun s => o_1 = Res.nx s) (.k 0 rfl .nil) SubB.nil ?_ (fun j_1 hj1 => ?_)
 ·
  skip
  refine .block ?_
  refine .rforEL h (fun p2_ => [(7, ⟨True, rep p2_.1⟩)]) (fun p2_ => []) (.k 7 rfl .nil) SubB.nil (.k 0 rfl (.k 6 rfl .nil)) SubB.nil (fun p2_ o_2 h hD2 => ?_)
  refine .seq (.region [] mixed (by kernel_rfl) ?_)
  refine .cons (.lt .none (.s rfl) (.s rfl)) rfl ?_
  refine .nil (.then ?_)
  refine .seq ?_
  refine .cond (t := 8) rfl trivial (fun hb3 => ?_) (fun hb3 => ?_)
  ·
   replace h := bif_t h hb3
   refine .skip ?_
   refine .then ?_
   refine .seq ?_
   obtain ⟨o_4, h, hK4⟩ := bindD_some h
   unfold ref_NameOf_L1 at h
   refine .thenJ (ι := Unit) (fun j_4 => []) (fun j_4 => []) (fun s => o_4 = Res.nx s) (.k 0 rfl (.k 6 rfl (.k 7 rfl .nil))) SubB.nil ?_ (fun j_4 hj4 => ?_)
   ·
    skip
    refine .block ?_
    refine .seq (.region [] mixed (by kernel_rfl) ?_)
    refine .cons (.move .none (.s rfl)) rfl ?_
    refine .cons (.assign .none (.s rfl)) rfl ?_
    refine .nil (.then ?_)
    refine .seq (.region [] mixed (by kernel_rfl) ?_)
    refine .cons (.move .none (.s rfl)) rfl ?_
    refine .cons (.move .none (.s rfl)) rfl ?_
    obtain ⟨hn5, h⟩ := need_some h
    refine .cons (.indexStr .none Tryd.underlying9 (.s rfl) (.s rfl) (fun _ => hn5)) rfl ?_
    obtain ⟨c1, hv6, h⟩ := bnd_some h
    refine .cons (.re hv6 (.assign .none (.s rfl))) rfl ?_
    refine .nil (.then ?_)
    refine .seq (.region [] mixed (by kernel_rfl) ?_)
    refine .cons (.move .none (.s rfl)) rfl ?_
    refine .cons (.kgeq .none (.s rfl) .ki) rfl ?_
    refine .cons (.move .none (.s rfl)) rfl ?_
    refine .cons (.move (.at rfl rfl) (.s rfl)) rfl ?_
    refine .cons (.kleq (.at rfl rfl) (.tmp rfl id) .ki) rfl ?_
    refine .cons (.pickAnd .none (.s rfl) (.tmp rfl id)) rfl ?_
    refine .cons (.not .none (.s rfl)) rfl ?_
    refine .cons (.move .none (.s rfl)) rfl ?_
    refine .cons (.move (.at rfl rfl) (.s rfl)) rfl ?_
    refine .cons (.eqI (.at rfl rfl) (.tmp rfl id) (.int (by decide))) rfl ?_
    refine .cons (.move (.at rfl rfl) (.tmp rfl id)) rfl ?_
    refine .cons (.move (.at rfl rfl) (.s rfl)) rfl ?_
    refine .cons (.kgeq (.at rfl rfl) (.tmp rfl id) .ki) rfl ?_
    refine .cons (.move (.at rfl rfl) (.tmp rfl id)) rfl ?_
    refine .cons (.move (.at rfl rfl) (.s rfl)) rfl ?_
    refine .cons (.kleq (.at rfl rfl) (.tmp rfl id) .ki) rfl ?_
    refine .cons (.pickAnd (.at rfl rfl) (.tmp rfl id) (.tmp rfl id)) rfl ?_
    refine .cons (.not (.at rfl rfl) (.tmp rfl id)) rfl ?_
    refine .cons (.move (.at rfl rfl) (.tmp rfl id)) rfl ?_
    refine .cons (.move (.at rfl rfl) (.s rfl)) rfl ?_
    refine .cons (.kneq (.at rfl rfl) (.tmp rfl id) .ki) rfl ?_
    refine .cons (.pickAnd (.at rfl rfl) (.tmp rfl id) (.tmp rfl id)) rfl ?_
    refine .cons (.pickOr (.at rfl rfl) (.tmp rfl id) (.tmp rfl id)) rfl ?_
    refine .cons (.pickAnd .none (.s rfl) (.tmp rfl id)) rfl ?_
    refine .nil (.then ?_)
    refine .cond (t := 36) rfl trivial (fun hb7 => ?_) (fun hb7 => ?_)
    ·
     replace h := bif_t h hb7
     refine .seq (.region [] mixed (by kernel_rfl) ?_)
     refine .cons (.assign .none .bool) rfl ?_
     refine .nil (.then ?_)
     refine .ret ?_
     refine .blkRet ?_
     refine .thenRet ?_
     refine .thenRet ?_
     refine .blkRet ?_
     refine .thenRet ?_
     replace h := resd_ab hK4 (some_eq h)
     replace h := hD2 _ (some_eq h)
     replace h := resb_ab hK1 (some_eq h)
     obtain rfl := some_eq h
     exact Ends.ret1 (.inl rfl) Tryd.results28 (ResOK.tmp rfl trivial Imp.refl)
    ·
     replace h := bif_f h hb7
     refine .skip ?_
     refine .blkNormal ?_
     exact Ends.join _ (some_eq h) (.k 0 rfl (.k 6 rfl (.k 7 rfl .nil))) SubB.nil
   ·
    have h := resd_nx hK4 hj4
    refine .region [] mixed (by kernel_rfl) ?_
    refine .cons (.addW .none (.s rfl) (.int (by decide))) rfl ?_
    refine .cons (.move .none (.s rfl)) rfl ?_
    refine .nil ?_
    exact Ends.againL (some_eq h) (.k 7 rfl (.k 0 rfl (.k 6 rfl .nil))) SubB.nil
  ·
   replace h := bif_f h hb3
   refine .exit ?_
   refine .thenExit ?_
   refine .thenExit ?_
   refine .blkExit ?_
   replace h := hD2 _ (some_eq h)
   exact Ends.join _ (some_eq h) (.k 0 rfl .nil) SubB.nil
 ·
  have h := resb_nx hK1 hj1
  refine .seq (.region [] mixed (by kernel_rfl) ?_)
  refine .cons (.move .none (.s rfl)) rfl ?_
  refine .cons (.neS .none (eqAt_str Tryd.underlying9) (.s rfl) (.str (l := []) (by decide))) rfl ?_
  refine .cons (.move .none (.s rfl)) rfl ?_
  refine .cons (.move (.at rfl rfl) (.s rfl)) rfl ?_
  refine .cons (.lenStr (.at rfl rfl) Tryd.underlying9 (.tmp rfl id)) rfl ?_
  refine .cons (.le (.at rfl rfl) (.tmp rfl id) (.int (by decide))) rfl ?_
  refine .cons (.pickAnd .none (.s rfl) (.tmp rfl id)) rfl ?_
  refine .cons (.assign .none (.s rfl)) rfl ?_
  refine .nil (.then ?_)
  refine .ret ?_
  obtain rfl := some_eq h
  exact Ends.ret1 (.inl rfl) Tryd.results28 (ResOK.tmp rfl trivial Imp.refl)

theorem ref_When_ok {is1 : Bool} {e1 : Int} {r : Int}  (h : ref_When is1 e1 = some r) : FSpec Tryd.prog 27 [rep is1, rep e1] (rep r) := by
 unfold ref_When at h
 refine FSpec.intro (n := 7) fnok27 Tryd.func27 rfl Tryd.ntmps27 rfl (fun F => ?_)
 refine .seq (.region [] mixed (by kernel_rfl) ?_)
 refine .cons (.assign .none (.int (by decide))) rfl ?_
 refine .nil (.then ?_)
 refine .seq ?_
 refine .seq (.region [] mixed (by kernel_rfl) ?_)
 refine .cons (.move .none (.s rfl)) rfl ?_
 refine .nil (.then ?_)
 refine .cond (t := 5) rfl trivial (fun hb1 => ?_) (fun hb1 => ?_)
 ·
  replace h := bif_t h hb1
  refine .seq (.region [] mixed (by kernel_rfl) ?_)
  refine .cons (.move .none (.s rfl)) rfl ?_
  refine .cons (.assign .none (.s rfl)) rfl ?_
  refine .nil (.then ?_)
  refine .ret ?_
  refine .thenRet ?_
  obtain rfl := some_eq h
  exact Ends.ret1 (.inl rfl) Tryd.results27 (ResOK.tmp rfl trivial Imp.refl)
 ·
  replace h := bif_f h hb1
  refine .skip ?_
  refine .then ?_
  refine .seq (.region [] mixed (by kernel_rfl) ?_)
  refine .cons (.assign .none (.int (by decide))) rfl ?_
  refine .nil (.then ?_)
  refine .ret ?_
  obtain rfl := some_eq h
  exact Ends.ret1 (.inl rfl) Tryd.results27 (ResOK.tmp rfl trivial Imp.refl)

theorem ref_In_ok {n1 : Int} {low1 : Int} {high1 : Int} {r : Bool}  (h : ref_In n1 low1 high1 = some r) : FSpec Tryd.prog 29 [rep n1, rep low1, rep high1] (rep r) := by
 unfold ref_In at h
 refine FSpec.intro (n := 15) fnok29 Tryd.func29 rfl Tryd.ntmps29 rfl (fun F => ?_)
 refine .seq (.region [] mixed (by kernel_rfl) ?_)
 refine .cons (.assign .none .bool) rfl ?_
 refine .nil (.then ?_)
 refine .seq (.region [] mixed (by kernel_rfl) ?_)
 refine .cons (.move .none (.s rfl)) rfl ?_
 refine .cons (.move .none (.s rfl)) rfl ?_
 refine .cons (.ge .none (.s rfl) (.s rfl)) rfl ?_
 refine .cons (.move .none (.s rfl)) rfl ?_
 refine .cons (.move (.at rfl rfl) (.s rfl)) rfl ?_
 refine .cons (.move (.at rfl rfl) (.s rfl)) rfl ?_
 refine .cons (.le (.at rfl rfl) (.tmp rfl id) (.tmp rfl id)) rfl ?_
 refine .cons (.pickAnd .none (.s rfl) (.tmp rfl id)) rfl ?_
 refine .cons (.assign .none (.s rfl)) rfl ?_
 refine .nil (.then ?_)
 refine .ret ?_
 obtain rfl := some_eq h
 exact Ends.ret1 (.inl rfl) Tryd.results29 (ResOK.tmp rfl trivial Imp.refl)

theorem ref_First_ok {l1 : (List Int)} {r : Int}  (h : ref_First l1 = some r) : FSpec Tryd.prog 22 [rep l1] (rep r) := by
 unfold ref_First at h
 refine FSpec.intro (n := 15) fnok22 Tryd.func22 rfl Tryd.ntmps22 rfl (fun F => ?_)
 refine .seq (.region [] mixed (by kernel_rfl) ?_)
 refine .cons (.assign .none (.int (by decide))) rfl ?_
 refine .nil (.then ?_)
 refine .seq ?_
 refine .seq (.region [] mixed (by kernel_rfl) ?_)
 refine .cons (.move .none (.s rfl)) rfl ?_
 refine .cons (.len .none sl71 (.s rfl)) rfl ?_
 refine .cons (.move .none (.int (by decide))) rfl ?_
 refine .nil (.then ?_)
 obtain ⟨o_1, h, hK1⟩ := bindR_some h
 refine .thenJ (ι := Unit) (fun j_1 => []) (fun j_1 => []) (fun s => o_1 = Res.nx s) Sub.nil SubB.nil ?_ (fun j_1 hj1 => ?_)
 ·
  skip
  refine .block ?_
  refine .rforEL h (fun p2_ => [(7, ⟨True, rep p2_.1⟩)]) (fun p2_ => []) (.k 7 rfl .nil) SubB.nil (.k 5 rfl (.k 6 rfl .nil)) SubB.nil (fun p2_ o_2 h hD2 => ?_)
  refine .seq (.region [] mixed (by kernel_rfl) ?_)
  refine .cons (.lt .none (.s rfl) (.s rfl)) rfl ?_
  refine .nil (.then ?_)
  refine .seq ?_
  refine .cond (t := 8) rfl trivial (fun hb3 => ?_) (fun hb3 => ?_)
  ·
   replace h := bif_t h hb3
   refine .skip ?_
   refine .then ?_
   refine .seq ?_
   obtain ⟨o_4, h, hK4⟩ := bindD_some h
   unfold ref_First_L1 at h
   refine .thenJ (ι := Unit) (fun j_4 => []) (fun j_4 => []) (fun s => o_4 = Res.nx s) (.k 5 rfl (.k 6 rfl (.k 7 rfl .nil))) SubB.nil ?_ (fun j_4 hj4 => ?_)
   ·
    skip
    refine .block ?_
    refine .seq (.region [] mixed (by kernel_rfl) ?_)
    obtain ⟨hn5, h⟩ := need_some h
    refine .cons (.indexAddr .none sl71 ty23 (.s rfl) (.s rfl) (fun _ => hn5)) rfl ?_
    refine .cons (.load .none ty23 (.s rfl)) rfl ?_
    obtain ⟨e1, hv6, h⟩ := bnd_some h
    refine .cons (.re hv6 (.assign .none (.s rfl))) rfl ?_
    refine .nil (.then ?_)
    refine .seq (.region [] mixed (by kernel_rfl) ?_)
    refine .cons (.move .none (.s rfl)) rfl ?_
    refine .cons (.neI .none (.s rfl) (.int (by decide))) rfl ?_
    refine .nil (.then ?_)
    refine .cond (t := 12) rfl trivial (fun hb7 => ?_) (fun hb7 => ?_)
    ·
     replace h := bif_t h hb7
     refine .seq (.region [] mixed (by kernel_rfl) ?_)
     refine .cons (.move .none (.s rfl)) rfl ?_
     refine .cons (.assign .none (.s rfl)) rfl ?_
     refine .nil (.then ?_)
     refine .ret ?_
     refine .blkRet ?_
     refine .thenRet ?_
     refine .thenRet ?_
     refine .blkRet ?_
     refine .thenRet ?_
     replace h := resd_ab hK4 (some_eq h)
     replace h := hD2 _ (some_eq h)
     replace h := resb_ab hK1 (some_eq h)
     obtain rfl := some_eq h
     exact Ends.ret1 (.inl rfl) Tryd.results22 (ResOK.tmp rfl trivial Imp.refl)
    ·
     replace h := bif_f h hb7
     refine .skip ?_
     refine .blkNormal ?_
     exact Ends.join _ (some_eq h) (.k 5 rfl (.k 6 rfl (.k 7 rfl .nil))) SubB.nil
   ·
    have h := resd_nx hK4 hj4
    refine .region [] mixed (by kernel_rfl) ?_
    refine .cons (.addW .none (.s rfl) (.int (by decide))) rfl ?_
    refine .cons (.move .none (.s rfl)) rfl ?_
    refine .nil ?_
    exact Ends.againL (some_eq h) (.k 7 rfl (.k 5 rfl (.k 6 rfl .nil))) SubB.nil
  ·
   replace h := bif_f h hb3
   refine .exit ?_
   refine .thenExit ?_
   refine .thenExit ?_
   refine .blkExit ?_
   replace h := hD2 _ (some_eq h)
   exact Ends.join _ (some_eq h) Sub.nil SubB.nil
 ·
  have h := resb_nx hK1 hj1
  refine .seq (.region [] mixed (by kernel_rfl) ?_)
  refine .cons (.assign .none (.int (by decide))) rfl ?_
  refine .nil (.then ?_)
  refine .ret ?_
  obtain rfl := some_eq h
  exact Ends.ret1 (.inl rfl) Tryd.results22 (ResOK.tmp rfl trivial Imp.refl)

theorem ref_TextError_ok {s1 : Str} {r : Int}  (h : ref_TextError s1 = some r) : FSpec Tryd.prog 57 [rep s1] (rep r) := by
 unfold ref_TextError at h
 refine FSpec.intro (n := 41) fnok57 Tryd.func57 rfl Tryd.ntmps57 rfl (fun F => ?_)
 refine .seq (.region [] mixed (by kernel_rfl) ?_)
 refine .cons (.assign .none (.int (by decide))) rfl ?_
 refine .nil (.then ?_)
 refine .seq (.region [] mixed (by kernel_rfl) ?_)
 refine .cons (.move .none (.s rfl)) rfl ?_
 obtain ⟨r1, hv1, h⟩ := bind_some h
 refine .cons (.call .none (utf8_ValidString_ok hv1) (.cons (.s rfl) .nil)) rfl ?_
 refine .cons (.not .none (.s rfl)) rfl ?_
 obtain ⟨bad1, hv2, h⟩ := bnd_some h
 refine .cons (.re hv2 (.assign .none (.s rfl))) rfl ?_
 refine .nil (.then ?_)
 refine .seq ?_
 refine .seq (.region [] mixed (by kernel_rfl) ?_)
 refine .cons (.move .none (.s rfl)) rfl ?_
 refine .cons (.lenStr .none Tryd.underlying9 (.s rfl)) rfl ?_
 refine .cons (.move .none (.int (by decide))) rfl ?_
 refine .nil (.then ?_)
 obtain ⟨j_3, h, hK3⟩ := bind_some h
 refine .thenJ (ι := Bool) (fun j_3 => [(3, ⟨True, rep j_3⟩)]) (fun j_3 => []) (fun s => j_3 = s) (.k 0 rfl .nil) SubB.nil ?_ (fun j_3' hj3 => ?_)
 ·
  skip
  refine .block ?_
  refine .rforL h (fun p4_ => [(10, ⟨True, rep p4_.1⟩), (3, ⟨True, rep p4_.2⟩)]) (fun p4_ => []) (.k 10 rfl (.k 3 rfl .nil)) SubB.nil (.k 0 rfl (.k 9 rfl .nil)) SubB.nil (fun p4_ o_4 h hD4 => ?_)
  refine .seq (.region [] mixed (by kernel_rfl) ?_)
  refine .cons (.lt .none (.s rfl) (.s rfl)) rfl ?_
  refine .nil (.then ?_)
  refine .seq ?_
  refine .cond (t := 11) rfl trivial (fun hb5 => ?_) (fun hb5 => ?_)
  ·
   replace h := bif_t h hb5
   refine .skip ?_
   refine .then ?_
   refine .seq ?_
   obtain ⟨j_6, h, hK6⟩ := bind_some h
   unfold ref_TextError_L1 at h
   refine .thenJ (ι := Bool) (fun j_6 => [(3, ⟨True, rep j_6⟩)]) (fun j_6 => []) (fun s => j_6 = s) (.k 0 rfl (.k 9 rfl (.k 10 rfl .nil))) SubB.nil ?_ (fun j_6' hj6 => ?_)
   ·
    skip
    refine .block ?_
    refine .seq (.region [] mixed (by kernel_rfl) ?_)
    refine .cons (.move .none (.s rfl)) rfl ?_
    refine .cons (.assign .none (.s rfl)) rfl ?_
    refine .nil (.then ?_)
    refine .region [] mixed (by kernel_rfl) ?_
    refine .cons (.move .none (.s rfl)) rfl ?_
    refine .cons (.move .none (.s rfl)) rfl ?_
    refine .cons (.move (.at rfl rfl) (.s rfl)) rfl ?_
    refine .cons (.move (.at rfl rfl) (.s rfl)) rfl ?_
    obtain ⟨hn7, h⟩ := need_some h
    refine .cons (.indexStr (.at rfl rfl) Tryd.underlying9 (.tmp rfl id) (.tmp rfl id) (fun hg => hn7 hg.2)) rfl ?_
    refine .cons (.klss (.at rfl rfl) (.tmp rfl id) .ki) rfl ?_
    refine .cons (.move (.at rfl rfl) (.tmp rfl id)) rfl ?_
    refine .cons (.move (.at rfl rfl) (.s rfl)) rfl ?_
    refine .cons (.move (.at rfl rfl) (.s rfl)) rfl ?_
    obtain ⟨hn8, h⟩ := need_some h
    refine .cons (.indexStr (.at rfl rfl) Tryd.underlying9 (.tmp rfl id) (.tmp rfl id) (fun hg => hn8 hg.1.2 hg.2)) rfl ?_
    refine .cons (.kneq (.at rfl rfl) (.tmp rfl id) .ki) rfl ?_
    refine .cons (.pickAnd (.at rfl rfl) (.tmp rfl id) (.tmp rfl id)) rfl ?_
    refine .cons (.pickOr .none (.s rfl) (.tmp rfl id)) rfl ?_
    refine .cons (.move .none (.s rfl)) rfl ?_
    refine .cons (.move (.at rfl rfl) (.s rfl)) rfl ?_
    refine .cons (.move (.at rfl rfl) (.s rfl)) rfl ?_
    obtain ⟨hn9, h⟩ := need_some h
    refine .cons (.indexStr (.at rfl rfl) Tryd.underlying9 (.tmp rfl id) (.tmp rfl id) (fun hg => hn9 hg.2)) rfl ?_
    refine .cons (.keql (.at rfl rfl) (.tmp rfl id) .ki) rfl ?_
    refine .cons (.pickOr .none (.s rfl) (.tmp rfl id)) rfl ?_
    obtain ⟨bad2, hv10, h⟩ := bnd_some h
    refine .cons (.re hv10 (.assign .none (.s rfl))) rfl ?_
    refine .nil ?_
    refine .blkNormal ?_
    exact Ends.join _ (some_eq h) (.k 3 rfl (.k 0 rfl (.k 9 rfl (.k 10 rfl .nil)))) SubB.nil
   ·
    subst hj6; have h := hK6; clear hK6
    refine .region [] mixed (by kernel_rfl) ?_
    refine .cons (.addW .none (.s rfl) (.int (by decide))) rfl ?_
    refine .cons (.move .none (.s rfl)) rfl ?_
    refine .nil ?_
    exact Ends.againL (some_eq h) (.k 10 rfl (.k 3 rfl (.k 0 rfl (.k 9 rfl .nil)))) SubB.nil
  ·
   replace h := bif_f h hb5
   refine .exit ?_
   refine .thenExit ?_
   refine .thenExit ?_
   refine .blkExit ?_
   replace h := hD4 _ (some_eq h)
   exact Ends.join _ (some_eq h) (.k 3 rfl (.k 0 rfl .nil)) SubB.nil
 ·
  subst hj3; have h := hK3; clear hK3
  refine .seq (.region [] mixed (by kernel_rfl) ?_)
  refine .cons (.move .none (.s rfl)) rfl ?_
  refine .cons (.lenStr .none Tryd.underlying9 (.s rfl)) rfl ?_
  refine .cons (.gt .none (.s rfl) (.int (by decide))) rfl ?_
  obtain ⟨r2, hv11, h⟩ := bind_some h
  refine .cons (.call .none (ref_When_ok hv11) (.cons (.s rfl) (.cons (.int (by decide)) .nil))) rfl ?_
  refine .cons (.move .none (.s rfl)) rfl ?_
  obtain ⟨r3, hv12, h⟩ := bind_some h
  refine .cons (.call .none (ref_When_ok hv12) (.cons (.s rfl) (.cons (.int (by decide)) .nil))) rfl ?_
  refine .cons (.buildSlice (xs := [_, _]) .none sl71 ty23 hz23 (.cons (.s rfl) (.cons (.s rfl) .nil)) rfl (by decide)) rfl ?_
  obtain ⟨r4, hv13, h⟩ := bind_some h
  refine .cons (.call .none (ref_First_ok hv13) (.cons (.s rfl) .nil)) rfl ?_
  refine .cons (.assign .none (.s rfl)) rfl ?_
  refine .nil (.then ?_)
  refine .ret ?_
  obtain rfl := some_eq h
  exact Ends.ret1 (.inl rfl) Tryd.results57 (ResOK.tmp rfl trivial Imp.refl)

theorem ref_opError_ok {x1 : DOp} {r : Int}  (h : ref_opError x1 = some r) : FSpec Tryd.prog 30 [rep x1] (rep r) := by
 unfold ref_opError at h
 refine FSpec.intro (n := 75) fnok30 Tryd.func30 rfl Tryd.ntmps30 rfl (fun F => ?_)
 refine .seq (.region [] mixed (by kernel_rfl) ?_)
 refine .cons (.box .none (.s rfl)) rfl ?_
 refine .cons (.assign .none (.int (by decide))) rfl ?_
 refine .nil (.then ?_)
 refine .seq ?_
 refine .seq (.region [] mixed (by kernel_rfl) ?_)
 refine .cons (.fieldAddr .none fd34_1 hfd34_1 (.s rfl)) rfl ?_
 refine .cons (.load .none ty3 (.s rfl)) rfl ?_
 obtain ⟨r1, hv1, h⟩ := bind_some h
 refine .cons (.call .none (ref_In_ok hv1) (.cons (.s rfl) (.cons (.int (by decide)) (.cons (.int (by decide)) .nil)))) rfl ?_
 refine .cons (.not .none (.s rfl)) rfl ?_
 refine .nil (.then ?_)
 refine .cond (t := 7) rfl trivial (fun hb2 => ?_) (fun hb2 => ?_)
 ·
  replace h := bif_t h hb2
  refine .seq (.region [] mixed (by kernel_rfl) ?_)
  refine .cons (.assign .none (.int (by decide))) rfl ?_
  refine .nil (.then ?_)
  refine .ret ?_
  refine .thenRet ?_
  obtain rfl := some_eq h
  exact Ends.ret1 (.inl rfl) Tryd.results30 (ResOK.tmp rfl trivial Imp.refl)
 ·
  replace h := bif_f h hb2
  refine .skip ?_
  refine .then ?_
  refine .seq (.region [] mixed (by kernel_rfl) ?_)
  refine .cons (.fieldAddr .none fd34_1 hfd34_1 (.s rfl)) rfl ?_
  refine .cons (.load .none ty3 (.s rfl)) rfl ?_
  refine .cons (.neI .none (.s rfl) (.int (by decide))) rfl ?_
  refine .cons (.move .none (.s rfl)) rfl ?_
  refine .cons (.fieldAddr (.at rfl rfl) fd34_3 hfd34_3 (.s rfl)) rfl ?_
  refine .cons (.load (.at rfl rfl) ty9 (.tmp rfl id)) rfl ?_
  refine .cons (.neS (.at rfl rfl) (eqAt_str Tryd.underlying9) (.tmp rfl id) (.str (l := []) (by decide))) rfl ?_
  refine .cons (.move (.at rfl rfl) (.tmp rfl id)) rfl ?_
  refine .cons (.fieldAddr (.at rfl rfl) fd34_4 hfd34_4 (.s rfl)) rfl ?_
  refine .cons (.load (.at rfl rfl) ty9 (.tmp rfl id)) rfl ?_
  refine .cons (.neS (.at rfl rfl) (eqAt_str Tryd.underlying9) (.tmp rfl id) (.str (l := []) (by decide))) rfl ?_
  refine .cons (.pickOr (.at rfl rfl) (.tmp rfl id) (.tmp rfl id)) rfl ?_
  refine .cons (.pickAnd .none (.s rfl) (.tmp rfl id)) rfl ?_
  refine .cons (.move .none (.s rfl)) rfl ?_
  refine .cons (.fieldAddr (.at rfl rfl) fd34_1 hfd34_1 (.s rfl)) rfl ?_
  refine .cons (.load (.at rfl rfl) ty3 (.tmp rfl id)) rfl ?_
  refine .cons (.eqI (.at rfl rfl) (.tmp rfl id) (.int (by decide))) rfl ?_
  refine .cons (.move (.at rfl rfl) (.tmp rfl id)) rfl ?_
  refine .cons (.fieldAddr (.at rfl rfl) fd34_2 hfd34_2 (.s rfl)) rfl ?_
  refine .cons (.load (.at rfl rfl) ty9 (.tmp rfl id)) rfl ?_
  refine .cons (.neS (.at rfl rfl) (eqAt_str Tryd.underlying9) (.tmp rfl id) (.str (l := []) (by decide))) rfl ?_
  refine .cons (.pickAnd (.at rfl rfl) (.tmp rfl id) (.tmp rfl id)) rfl ?_
  refine .cons (.pickOr .none (.s rfl) (.tmp rfl id)) rfl ?_
  refine .cons (.move .none (.s rfl)) rfl ?_
  refine .cons (.fieldAddr (.at rfl rfl) fd34_1 hfd34_1 (.s rfl)) rfl ?_
  refine .cons (.load (.at rfl rfl) ty3 (.tmp rfl id)) rfl ?_
  refine .cons (.neI (.at rfl rfl) (.tmp rfl id) (.int (by decide))) rfl ?_
  refine .cons (.move (.at rfl rfl) (.tmp rfl id)) rfl ?_
  refine .cons (.fieldAddr (.at rfl rfl) fd34_5 hfd34_5 (.s rfl)) rfl ?_
  refine .cons (.load (.at rfl rfl) ty3 (.tmp rfl id)) rfl ?_
  refine .cons (.neI (.at rfl rfl) (.tmp rfl id) (.int (by decide))) rfl ?_
  refine .cons (.pickAnd (.at rfl rfl) (.tmp rfl id) (.tmp rfl id)) rfl ?_
  refine .cons (.pickOr .none (.s rfl) (.tmp rfl id)) rfl ?_
  refine .cons (.assign .none (.s rfl)) rfl ?_
  refine .nil (.then ?_)
  refine .seq ?_
  refine .seq (.region [] mixed (by kernel_rfl) ?_)
  refine .cons (.move .none (.s rfl)) rfl ?_
  refine .nil (.then ?_)
  refine .cond (t := 41) rfl trivial (fun hb3 => ?_) (fun hb3 => ?_)
  ·
   replace h := bif_t h hb3
   refine .seq (.region [] mixed (by kernel_rfl) ?_)
   refine .cons (.assign .none (.int (by decide))) rfl ?_
   refine .nil (.then ?_)
   refine .ret ?_
   refine .thenRet ?_
   obtain rfl := some_eq h
   exact Ends.ret1 (.inl rfl) Tryd.results30 (ResOK.tmp rfl trivial Imp.refl)
  ·
   replace h := bif_f h hb3
   refine .skip ?_
   refine .then ?_
   refine .seq ?_
   refine .seq (.region [] mixed (by kernel_rfl) ?_)
   refine .cons (.fieldAddr .none fd34_1 hfd34_1 (.s rfl)) rfl ?_
   refine .cons (.load .none ty3 (.s rfl)) rfl ?_
   refine .cons (.eqI .none (.s rfl) (.int (by decide))) rfl ?_
   refine .nil (.then ?_)
   refine .cond (t := 44) rfl trivial (fun hb4 => ?_) (fun hb4 => ?_)
   ·
    replace h := bif_t h hb4
    refine .seq (.region [] mixed (by kernel_rfl) ?_)
    refine .cons (.fieldAddr .none fd34_5 hfd34_5 (.s rfl)) rfl ?_
    refine .cons (.load .none ty3 (.s rfl)) rfl ?_
    refine .cons (.fieldAddr .none fd34_0 hfd34_0 (.s rfl)) rfl ?_
    refine .cons (.fieldAddr .none fd32_2 hfd32_2 (.s rfl)) rfl ?_
    refine .cons (.load .none ty3 (.s rfl)) rfl ?_
    refine .cons (.subW .none (.s rfl) (.int (by decide))) rfl ?_
    obtain ⟨r2, hv5, h⟩ := bind_some h
    refine .cons (.call .none (ref_In_ok hv5) (.cons (.s rfl) (.cons (.int (by decide)) (.cons (.s rfl) .nil)))) rfl ?_
    refine .cons (.not .none (.s rfl)) rfl ?_
    obtain ⟨r3, hv6, h⟩ := bind_some h
    refine .cons (.call .none (ref_When_ok hv6) (.cons (.s rfl) (.cons (.int (by decide)) .nil))) rfl ?_
    refine .cons (.assign .none (.s rfl)) rfl ?_
    refine .nil (.then ?_)
    refine .ret ?_
    refine .thenRet ?_
    obtain rfl := some_eq h
    exact Ends.ret1 (.inl rfl) Tryd.results30 (ResOK.tmp rfl trivial Imp.refl)
   ·
    replace h := bif_f h hb4
    refine .skip ?_
    refine .then ?_
    refine .seq (.region [] mixed (by kernel_rfl) ?_)
    refine .cons (.fieldAddr .none fd34_2 hfd34_2 (.s rfl)) rfl ?_
    refine .cons (.load .none ty9 (.s rfl)) rfl ?_
    obtain ⟨r4, hv7, h⟩ := bind_some h
    refine .cons (.call .none (ref_NameOf_ok hv7) (.cons (.s rfl) .nil)) rfl ?_
    refine .cons (.not .none (.s rfl)) rfl ?_
    refine .cons (.move .none (.s rfl)) rfl ?_
    refine .cons (.fieldAddr (.at rfl rfl) fd34_1 hfd34_1 (.s rfl)) rfl ?_
    refine .cons (.load (.at rfl rfl) ty3 (.tmp rfl id)) rfl ?_
    refine .cons (.eqI (.at rfl rfl) (.tmp rfl id) (.int (by decide))) rfl ?_
    refine .cons (.move (.at rfl rfl) (.tmp rfl id)) rfl ?_
    refine .cons (.fieldAddr (.at rfl rfl) fd34_3 hfd34_3 (.s rfl)) rfl ?_
    refine .cons (.load (.at rfl rfl) ty9 (.tmp rfl id)) rfl ?_
    obtain ⟨r5, hv8, h⟩ := bind_some h
    refine .cons (.callIf (.at rfl rfl) fnok28 (fun hg => ref_NameOf_ok ((fun hg => gd_some hv8 ((andT (notT hg.1.2) hg.2))) hg)) (.cons (.tmp rfl id) .nil) (fun h => h)) rfl ?_
    refine .cons (.not (.at rfl rfl) (.tmp rfl id)) rfl ?_
    refine .cons (.pickAnd (.at rfl rfl) (.tmp rfl id) (.tmp rfl id)) rfl ?_
    refine .cons (.pickOr .none (.s rfl) (.tmp rfl id)) rfl ?_
    obtain ⟨r6, hv9, h⟩ := bind_some h
    refine .cons (.call .none (ref_When_ok hv9) (.cons (.s rfl) (.cons (.int (by decide)) .nil))) rfl ?_
    refine .cons (.fieldAddr .none fd34_4 hfd34_4 (.s rfl)) rfl ?_
    refine .cons (.load .none ty9 (.s rfl)) rfl ?_
    obtain ⟨r7, hv10, h⟩ := bind_some h
    refine .cons (.call .none (ref_TextError_ok hv10) (.cons (.s rfl) .nil)) rfl ?_
    refine .cons (.buildSlice (xs := [_, _]) .none sl71 ty23 hz23 (.cons (.s rfl) (.cons (.s rfl) .nil)) rfl (by decide)) rfl ?_
    obtain ⟨r8, hv11, h⟩ := bind_some h
    refine .cons (.call .none (ref_First_ok hv11) (.cons (.s rfl) .nil)) rfl ?_
    refine .cons (.assign .none (.s rfl)) rfl ?_
    refine .nil (.then ?_)
    refine .ret ?_
    obtain rfl := some_eq h
    exact Ends.ret1 (.inl rfl) Tryd.results30 (ResOK.tmp rfl trivial Imp.refl)


end Go.Proofs.YtfpmjncooelplaaDoor
