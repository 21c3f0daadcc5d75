/-
  The walks: what a function computes is what its plain function says (printed by a program of one's own).
-/
import Derived.Test.YtclcheggnlhamaaDoorUngFa
set_option maxRecDepth 100000
set_option linter.unusedSimpArgs false
set_option linter.unusedVariables false
namespace Go.Proofs.YtclcheggnlhamaaDoor
open Go Go.DB Go.RowKit

theorem strings_Trim_ok {s cs : Str} {r : Str} (h : strings_Trim s cs = some r) : FSpec Tryd.prog 112 [rep s, rep cs] (rep r) := by
  obtain ⟨hn, h⟩ := need_some h
  obtain rfl := some_eq h
  exact trimS_spec trimStr_lay (by kernel_rfl) rfl fnok112 hn

theorem utf8_ValidString_ok {s : Str} {r : Bool} (h : utf8_ValidString s = some r) : FSpec Tryd.prog 106 [rep s] (rep r) := by
  obtain rfl := some_eq h
  exact validS_spec validStr_lay rfl rfl rfl fnok106

theorem page_isName_ok {s1 : Str} {r : Bool}  (h : page_isName s1 = some r) : FSpec Tryd.prog 92 [rep s1] (rep r) := by
  unfold page_isName at h
  refine FSpec.intro (n := 25) fnok92 Tryd.func92 rfl Tryd.ntmps92 rfl (fun F => ?_)
  refine .seq ?_
  refine .region [] mixed (by kernel_rfl) ?_
  refine .cons (.assign .none .bool) rfl ?_
  refine .nil ?_
  refine .then ?_
  refine .seq ?_
  refine .region [] mixed (by kernel_rfl) ?_
  refine .cons (.move .none (.s rfl)) rfl ?_
  refine .cons (.neS .none (eqAt_str Tryd.underlying9) (.s rfl) (.str (l := []) (by decide))) rfl ?_
  refine .cons (.move .none (.s rfl)) rfl ?_
  refine .cons (.move (.at rfl rfl) (.s rfl)) rfl ?_
  refine .cons (.lenStr (.at rfl rfl) Tryd.underlying9 (.tmp rfl id)) rfl ?_
  refine .cons (.le (.at rfl rfl) (.tmp rfl id) (.int (by decide))) rfl ?_
  refine .cons (.pickAnd .none (.s rfl) (.tmp rfl id)) rfl ?_
  refine .cons (.move .none (.s rfl)) rfl ?_
  refine .cons (.move (.at rfl rfl) (.s rfl)) rfl ?_
  obtain ⟨hn1, h⟩ := need_some h
  refine .cons (.indexStr (.at rfl rfl) Tryd.underlying9 (.tmp rfl id) (.int (by decide)) (fun hg => hn1 hg.2)) rfl ?_
  refine .cons (.kgeq (.at rfl rfl) (.tmp rfl id) .ki) rfl ?_
  refine .cons (.move (.at rfl rfl) (.tmp rfl id)) rfl ?_
  refine .cons (.move (.at rfl rfl) (.s rfl)) rfl ?_
  obtain ⟨hn2, h⟩ := need_some h
  refine .cons (.indexStr (.at rfl rfl) Tryd.underlying9 (.tmp rfl id) (.int (by decide)) (fun hg => hn2 hg.1.2 hg.2)) rfl ?_
  refine .cons (.kleq (.at rfl rfl) (.tmp rfl id) .ki) rfl ?_
  refine .cons (.pickAnd (.at rfl rfl) (.tmp rfl id) (.tmp rfl id)) rfl ?_
  refine .cons (.pickAnd .none (.s rfl) (.tmp rfl id)) rfl ?_
  refine .cons (.move .none (.s rfl)) rfl ?_
  refine .cons (.move (.at rfl rfl) (.s rfl)) rfl ?_
  obtain ⟨r1, hv3, h⟩ := bind_some h
  refine .cons (.callIf (.at rfl rfl) fnok112 (fun hg => strings_Trim_ok ((fun hg => gd_some hv3 (hg.2)) hg)) (.cons (.tmp rfl id) (.cons (.str (l := [97, 98, 99, 100, 101, 102, 103, 104, 105, 106, 107, 108, 109, 110, 111, 112, 113, 114, 115, 116, 117, 118, 119, 120, 121, 122, 48, 49, 50, 51, 52, 53, 54, 55, 56, 57, 45]) (by decide)) .nil)) (fun h => h)) rfl ?_
  refine .cons (.eqS (.at rfl rfl) (eqAt_str Tryd.underlying9) (.tmp rfl id) (.str (l := []) (by decide))) rfl ?_
  refine .cons (.pickAnd .none (.s rfl) (.tmp rfl id)) rfl ?_
  refine .cons (.assign .none (.s rfl)) rfl ?_
  refine .nil ?_
  refine .then ?_
  refine .ret ?_
  obtain rfl := some_eq h
  exact Ends.ret1 (.inl rfl) Tryd.results92 (ResOK.tmp rfl trivial Imp.refl)

theorem geom_out_ok {n1 : Int} {r : Bool}  (h : geom_out n1 = some r) : FSpec Tryd.prog 113 [rep n1] (rep r) := by
  unfold geom_out at h
  refine FSpec.intro (n := 9) fnok113 Tryd.func113 rfl Tryd.ntmps113 rfl (fun F => ?_)
  refine .seq ?_
  refine .region [] mixed (by kernel_rfl) ?_
  refine .cons (.assign .none .bool) rfl ?_
  refine .nil ?_
  refine .then ?_
  refine .seq ?_
  refine .region [] mixed (by kernel_rfl) ?_
  refine .cons (.move .none (.s rfl)) rfl ?_
  refine .cons (.lt .none (.s rfl) (.int (by decide))) rfl ?_
  refine .cons (.move .none (.s rfl)) rfl ?_
  refine .cons (.move (.at rfl rfl) (.s rfl)) rfl ?_
  refine .cons (.gt (.at rfl rfl) (.tmp rfl id) (.int (by decide))) rfl ?_
  refine .cons (.pickOr .none (.s rfl) (.tmp rfl id)) rfl ?_
  refine .cons (.assign .none (.s rfl)) rfl ?_
  refine .nil ?_
  refine .then ?_
  refine .ret ?_
  obtain rfl := some_eq h
  exact Ends.ret1 (.inl rfl) Tryd.results113 (ResOK.tmp rfl trivial Imp.refl)

theorem geom_CheckBox_ok {b1 : Box} {r : Int}  (h : geom_CheckBox b1 = some r) : FSpec Tryd.prog 93 [rep b1] (rep r) := by
  unfold geom_CheckBox at h
  refine FSpec.intro (n := 31) fnok93 Tryd.func93 rfl Tryd.ntmps93 rfl (fun F => ?_)
  refine .seq ?_
  refine .region [] mixed (by kernel_rfl) ?_
  refine .cons (.box .none (.s rfl)) rfl ?_
  refine .cons (.assign .none (.int (by decide))) rfl ?_
  refine .nil ?_
  refine .then ?_
  refine .seq ?_
  refine .seq ?_
  refine .region [] mixed (by kernel_rfl) ?_
  refine .cons (.fieldAddr .none fd41_0 hfd41_0 (.s rfl)) rfl ?_
  refine .cons (.load .none ty3 (.s rfl)) rfl ?_
  obtain ⟨r1, hv1, h⟩ := bind_some h
  refine .cons (.call .none (geom_out_ok hv1) (.cons (.s rfl) .nil)) rfl ?_
  refine .cons (.move .none (.s rfl)) rfl ?_
  refine .cons (.fieldAddr (.at rfl rfl) fd41_1 hfd41_1 (.s rfl)) rfl ?_
  refine .cons (.load (.at rfl rfl) ty3 (.tmp rfl id)) rfl ?_
  obtain ⟨r2, hv2, h⟩ := bind_some h
  refine .cons (.callIf (.at rfl rfl) fnok113 (fun hg => geom_out_ok ((fun hg => gd_some hv2 ((notT hg.2))) hg)) (.cons (.tmp rfl id) .nil) (fun h => h)) rfl ?_
  refine .cons (.pickOr .none (.s rfl) (.tmp rfl id)) rfl ?_
  refine .cons (.move .none (.s rfl)) rfl ?_
  refine .cons (.fieldAddr (.at rfl rfl) fd41_2 hfd41_2 (.s rfl)) rfl ?_
  refine .cons (.load (.at rfl rfl) ty3 (.tmp rfl id)) rfl ?_
  refine .cons (.lt (.at rfl rfl) (.tmp rfl id) (.int (by decide))) rfl ?_
  refine .cons (.pickOr .none (.s rfl) (.tmp rfl id)) rfl ?_
  refine .cons (.move .none (.s rfl)) rfl ?_
  refine .cons (.fieldAddr (.at rfl rfl) fd41_2 hfd41_2 (.s rfl)) rfl ?_
  refine .cons (.load (.at rfl rfl) ty3 (.tmp rfl id)) rfl ?_
  refine .cons (.gt (.at rfl rfl) (.tmp rfl id) (.int (by decide))) rfl ?_
  refine .cons (.pickOr .none (.s rfl) (.tmp rfl id)) rfl ?_
  refine .cons (.move .none (.s rfl)) rfl ?_
  refine .cons (.fieldAddr (.at rfl rfl) fd41_3 hfd41_3 (.s rfl)) rfl ?_
  refine .cons (.load (.at rfl rfl) ty3 (.tmp rfl id)) rfl ?_
  refine .cons (.lt (.at rfl rfl) (.tmp rfl id) (.int (by decide))) rfl ?_
  refine .cons (.pickOr .none (.s rfl) (.tmp rfl id)) rfl ?_
  refine .cons (.move .none (.s rfl)) rfl ?_
  refine .cons (.fieldAddr (.at rfl rfl) fd41_3 hfd41_3 (.s rfl)) rfl ?_
  refine .cons (.load (.at rfl rfl) ty3 (.tmp rfl id)) rfl ?_
  refine .cons (.gt (.at rfl rfl) (.tmp rfl id) (.int (by decide))) rfl ?_
  refine .cons (.pickOr .none (.s rfl) (.tmp rfl id)) rfl ?_
  refine .nil ?_
  refine .then ?_
  refine .cond (t := 30) rfl trivial (fun hb3 => ?_) (fun hb3 => ?_)
  · replace h := bif_t h hb3
    refine .seq ?_
    refine .region [] mixed (by kernel_rfl) ?_
    refine .cons (.assign .none (.int (by decide))) rfl ?_
    refine .nil ?_
    refine .then ?_
    refine .ret ?_
    refine .thenRet ?_
    obtain rfl := some_eq h
    exact Ends.ret1 (.inl rfl) Tryd.results93 (ResOK.tmp rfl trivial Imp.refl)
  · replace h := bif_f h hb3
    refine .skip ?_
    refine .then ?_
    refine .seq ?_
    refine .region [] mixed (by kernel_rfl) ?_
    refine .cons (.assign .none (.int (by decide))) rfl ?_
    refine .nil ?_
    refine .then ?_
    refine .ret ?_
    obtain rfl := some_eq h
    exact Ends.ret1 (.inl rfl) Tryd.results93 (ResOK.tmp rfl trivial Imp.refl)

theorem shape_CheckText_ok {s1 : Str} {r : Int}  (h : shape_CheckText s1 = some r) : FSpec Tryd.prog 94 [rep s1] (rep r) := by
  unfold shape_CheckText at h
  refine FSpec.intro (n := 32) fnok94 Tryd.func94 rfl Tryd.ntmps94 rfl (fun F => ?_)
  refine .seq ?_
  refine .region [] mixed (by kernel_rfl) ?_
  refine .cons (.assign .none (.int (by decide))) rfl ?_
  refine .nil ?_
  refine .then ?_
  refine .seq ?_
  refine .seq ?_
  refine .region [] mixed (by kernel_rfl) ?_
  refine .cons (.move .none (.s rfl)) rfl ?_
  refine .cons (.lenStr .none Tryd.underlying9 (.s rfl)) rfl ?_
  refine .cons (.gt .none (.s rfl) (.int (by decide))) rfl ?_
  refine .nil ?_
  refine .then ?_
  refine .cond (t := 6) rfl trivial (fun hb1 => ?_) (fun hb1 => ?_)
  · replace h := bif_t h hb1
    refine .seq ?_
    refine .region [] mixed (by kernel_rfl) ?_
    refine .cons (.assign .none (.int (by decide))) rfl ?_
    refine .nil ?_
    refine .then ?_
    refine .ret ?_
    refine .thenRet ?_
    obtain rfl := some_eq h
    exact Ends.ret1 (.inl rfl) Tryd.results94 (ResOK.tmp rfl trivial Imp.refl)
  · replace h := bif_f h hb1
    refine .skip ?_
    refine .then ?_
    refine .seq ?_
    refine .seq ?_
    refine .region [] mixed (by kernel_rfl) ?_
    refine .cons (.move .none (.s rfl)) rfl ?_
    obtain ⟨r1, hv2, h⟩ := bind_some h
    refine .cons (.call .none (utf8_ValidString_ok hv2) (.cons (.s rfl) .nil)) rfl ?_
    refine .cons (.not .none (.s rfl)) rfl ?_
    refine .nil ?_
    refine .then ?_
    refine .cond (t := 9) rfl trivial (fun hb3 => ?_) (fun hb3 => ?_)
    · replace h := bif_t h hb3
      refine .seq ?_
      refine .region [] mixed (by kernel_rfl) ?_
      refine .cons (.assign .none (.int (by decide))) rfl ?_
      refine .nil ?_
      refine .then ?_
      refine .ret ?_
      refine .thenRet ?_
      obtain rfl := some_eq h
      exact Ends.ret1 (.inl rfl) Tryd.results94 (ResOK.tmp rfl trivial Imp.refl)
    · replace h := bif_f h hb3
      refine .skip ?_
      refine .then ?_
      refine .seq ?_
      refine .seq ?_
      refine .region [] mixed (by kernel_rfl) ?_
      refine .cons (.move .none (.s rfl)) rfl ?_
      refine .cons (.lenStr .none Tryd.underlying9 (.s rfl)) rfl ?_
      refine .cons (.move .none (.int (by decide))) rfl ?_
      refine .nil ?_
      refine .then ?_
      obtain ⟨o_4, h, hK4⟩ := bindR_some h
      refine .thenJ (ι := Unit) (fun j_4 => []) (fun j_4 => []) (fun s => o_4 = Res.nx s) Sub.nil SubB.nil ?_ (fun j_4 hj4 => ?_)
      · skip
        refine .block ?_
        refine .rforEL h (fun p5_ => [(12, ⟨True, rep p5_.1⟩)]) (fun p5_ => []) (.cons (t := 12) rfl Sub.nil) SubB.nil (.cons (t := 0) rfl (.cons (t := 11) rfl Sub.nil)) SubB.nil (fun p5_ o_5 h hD5 => ?_)
        refine .seq ?_
        refine .region [] mixed (by kernel_rfl) ?_
        refine .cons (.lt .none (.s rfl) (.s rfl)) rfl ?_
        refine .nil ?_
        refine .then ?_
        refine .seq ?_
        refine .cond (t := 13) rfl trivial (fun hb6 => ?_) (fun hb6 => ?_)
        · replace h := bif_t h hb6
          refine .skip ?_
          refine .then ?_
          refine .seq ?_
          obtain ⟨o_7, h, hK7⟩ := bindD_some h
          unfold shape_CheckText_L1 at h
          refine .thenJ (ι := Unit) (fun j_7 => []) (fun j_7 => []) (fun s => o_7 = Res.nx s) (.cons (t := 0) rfl (.cons (t := 11) rfl (.cons (t := 12) rfl Sub.nil))) SubB.nil ?_ (fun j_7 hj7 => ?_)
          · skip
            refine .block ?_
            refine .seq ?_
            refine .region [] mixed (by kernel_rfl) ?_
            refine .cons (.move .none (.s rfl)) rfl ?_
            refine .cons (.assign .none (.s rfl)) rfl ?_
            refine .nil ?_
            refine .then ?_
            refine .seq ?_
            refine .region [] mixed (by kernel_rfl) ?_
            refine .cons (.move .none (.s rfl)) rfl ?_
            refine .cons (.move .none (.s rfl)) rfl ?_
            obtain ⟨hn8, h⟩ := need_some h
            refine .cons (.indexStr .none Tryd.underlying9 (.s rfl) (.s rfl) (fun _ => hn8)) rfl ?_
            refine .cons (.klss .none (.s rfl) .ki) rfl ?_
            refine .cons (.move .none (.s rfl)) rfl ?_
            refine .cons (.move (.at rfl rfl) (.s rfl)) rfl ?_
            refine .cons (.move (.at rfl rfl) (.s rfl)) rfl ?_
            obtain ⟨hn9, h⟩ := need_some h
            refine .cons (.indexStr (.at rfl rfl) Tryd.underlying9 (.tmp rfl id) (.tmp rfl id) (fun hg => hn9 hg.2)) rfl ?_
            refine .cons (.kneq (.at rfl rfl) (.tmp rfl id) .ki) rfl ?_
            refine .cons (.pickAnd .none (.s rfl) (.tmp rfl id)) rfl ?_
            refine .cons (.move .none (.s rfl)) rfl ?_
            refine .cons (.move (.at rfl rfl) (.s rfl)) rfl ?_
            refine .cons (.move (.at rfl rfl) (.s rfl)) rfl ?_
            obtain ⟨hn10, h⟩ := need_some h
            refine .cons (.indexStr (.at rfl rfl) Tryd.underlying9 (.tmp rfl id) (.tmp rfl id) (fun hg => hn10 hg.2)) rfl ?_
            refine .cons (.keql (.at rfl rfl) (.tmp rfl id) .ki) rfl ?_
            refine .cons (.pickOr .none (.s rfl) (.tmp rfl id)) rfl ?_
            refine .nil ?_
            refine .then ?_
            refine .cond (t := 30) rfl trivial (fun hb11 => ?_) (fun hb11 => ?_)
            · replace h := bif_t h hb11
              refine .seq ?_
              refine .region [] mixed (by kernel_rfl) ?_
              refine .cons (.assign .none (.int (by decide))) rfl ?_
              refine .nil ?_
              refine .then ?_
              refine .ret ?_
              refine .blkRet ?_
              refine .thenRet ?_
              refine .thenRet ?_
              refine .blkRet ?_
              refine .thenRet ?_
              replace h := resd_ab hK7 (some_eq h)
              replace h := hD5 _ (some_eq h)
              replace h := resb_ab hK4 (some_eq h)
              obtain rfl := some_eq h
              exact Ends.ret1 (.inl rfl) Tryd.results94 (ResOK.tmp rfl trivial Imp.refl)
            · replace h := bif_f h hb11
              refine .skip ?_
              refine .blkNormal ?_
              exact Ends.join _ (some_eq h) (.cons (t := 0) rfl (.cons (t := 11) rfl (.cons (t := 12) rfl Sub.nil))) SubB.nil
          · have h := resd_nx hK7 hj7
            refine .region [] mixed (by kernel_rfl) ?_
            refine .cons (.addW .none (.s rfl) (.int (by decide))) rfl ?_
            refine .cons (.move .none (.s rfl)) rfl ?_
            refine .nil ?_
            exact Ends.againL (some_eq h) (.cons (t := 12) rfl (.cons (t := 0) rfl (.cons (t := 11) rfl Sub.nil))) SubB.nil
        · replace h := bif_f h hb6
          refine .exit ?_
          refine .thenExit ?_
          refine .thenExit ?_
          refine .blkExit ?_
          replace h := hD5 _ (some_eq h)
          exact Ends.join _ (some_eq h) Sub.nil SubB.nil
      · have h := resb_nx hK4 hj4
        refine .seq ?_
        refine .region [] mixed (by kernel_rfl) ?_
        refine .cons (.assign .none (.int (by decide))) rfl ?_
        refine .nil ?_
        refine .then ?_
        refine .ret ?_
        obtain rfl := some_eq h
        exact Ends.ret1 (.inl rfl) Tryd.results94 (ResOK.tmp rfl trivial Imp.refl)

theorem page_checkNode_ok {n1 : DNode} {twice1 : Bool} {r : Int}  (h : page_checkNode n1 twice1 = some r) : FSpec Tryd.prog 48 [rep n1, rep twice1] (rep r) := by
  unfold page_checkNode at h
  refine FSpec.intro (n := 57) fnok48 Tryd.func48 rfl Tryd.ntmps48 rfl (fun F => ?_)
  refine .seq ?_
  refine .region [] mixed (by kernel_rfl) ?_
  refine .cons (.box .none (.s rfl)) rfl ?_
  refine .cons (.assign .none (.int (by decide))) rfl ?_
  refine .nil ?_
  refine .then ?_
  refine .seq ?_
  refine .block ?_
  refine .seq ?_
  refine .region [] mixed (by kernel_rfl) ?_
  refine .cons (.fieldAddr .none fd43_0 hfd43_0 (.s rfl)) rfl ?_
  refine .cons (.load .none ty9 (.s rfl)) rfl ?_
  obtain ⟨r1, hv1, h⟩ := bind_some h
  refine .cons (.call .none (page_isName_ok hv1) (.cons (.s rfl) .nil)) rfl ?_
  refine .cons (.not .none (.s rfl)) rfl ?_
  refine .cons (.assign .none (.s rfl)) rfl ?_
  refine .nil ?_
  refine .then ?_
  refine .cond (t := 7) rfl trivial (fun hb2 => ?_) (fun hb2 => ?_)
  · replace h := bif_t h hb2
    refine .seq ?_
    refine .region [] mixed (by kernel_rfl) ?_
    refine .cons (.assign .none (.int (by decide))) rfl ?_
    refine .nil ?_
    refine .then ?_
    refine .ret ?_
    refine .blkRet ?_
    refine .thenRet ?_
    obtain rfl := some_eq h
    exact Ends.ret1 (.inl rfl) Tryd.results48 (ResOK.tmp rfl trivial Imp.refl)
  · replace h := bif_f h hb2
    refine .seq ?_
    refine .region [] mixed (by kernel_rfl) ?_
    refine .cons (.move .none (.s rfl)) rfl ?_
    refine .cons (.assign .none (.s rfl)) rfl ?_
    refine .nil ?_
    refine .then ?_
    refine .cond (t := 12) rfl trivial (fun hb3 => ?_) (fun hb3 => ?_)
    · replace h := bif_t h hb3
      refine .seq ?_
      refine .region [] mixed (by kernel_rfl) ?_
      refine .cons (.assign .none (.int (by decide))) rfl ?_
      refine .nil ?_
      refine .then ?_
      refine .ret ?_
      refine .blkRet ?_
      refine .thenRet ?_
      obtain rfl := some_eq h
      exact Ends.ret1 (.inl rfl) Tryd.results48 (ResOK.tmp rfl trivial Imp.refl)
    · replace h := bif_f h hb3
      refine .seq ?_
      refine .region [] mixed (by kernel_rfl) ?_
      refine .cons (.fieldAddr .none fd43_1 hfd43_1 (.s rfl)) rfl ?_
      refine .cons (.load .none ty3 (.s rfl)) rfl ?_
      refine .cons (.lt .none (.s rfl) (.int (by decide))) rfl ?_
      refine .cons (.move .none (.s rfl)) rfl ?_
      refine .cons (.fieldAddr (.at rfl rfl) fd43_1 hfd43_1 (.s rfl)) rfl ?_
      refine .cons (.load (.at rfl rfl) ty3 (.tmp rfl id)) rfl ?_
      refine .cons (.gt (.at rfl rfl) (.tmp rfl id) (.int (by decide))) rfl ?_
      refine .cons (.pickOr .none (.s rfl) (.tmp rfl id)) rfl ?_
      refine .cons (.assign .none (.s rfl)) rfl ?_
      refine .nil ?_
      refine .then ?_
      refine .cond (t := 14) rfl trivial (fun hb4 => ?_) (fun hb4 => ?_)
      · replace h := bif_t h hb4
        refine .seq ?_
        refine .region [] mixed (by kernel_rfl) ?_
        refine .cons (.assign .none (.int (by decide))) rfl ?_
        refine .nil ?_
        refine .then ?_
        refine .ret ?_
        refine .blkRet ?_
        refine .thenRet ?_
        obtain rfl := some_eq h
        exact Ends.ret1 (.inl rfl) Tryd.results48 (ResOK.tmp rfl trivial Imp.refl)
      · replace h := bif_f h hb4
        refine .seq ?_
        refine .region [] mixed (by kernel_rfl) ?_
        refine .cons (.fieldAddr .none fd43_1 hfd43_1 (.s rfl)) rfl ?_
        refine .cons (.load .none ty3 (.s rfl)) rfl ?_
        refine .cons (.eqI .none (.s rfl) (.int (by decide))) rfl ?_
        refine .cons (.move .none (.s rfl)) rfl ?_
        refine .cons (.fieldAddr (.at rfl rfl) fd43_2 hfd43_2 (.s rfl)) rfl ?_
        refine .cons (.load (.at rfl rfl) ty41 (.tmp rfl id)) rfl ?_
        refine .cons (.buildF (y := (⟨(0 : Int), (0 : Int), (0 : Int), (0 : Int)⟩ : Box)) (.at rfl rfl) bu41 zc41 rfl .nil .nil) rfl ?_
        refine .cons (.neS (.at rfl rfl) eq41 (.tmp rfl id) (.tmp rfl id)) rfl ?_
        refine .cons (.pickAnd .none (.s rfl) (.tmp rfl id)) rfl ?_
        refine .cons (.assign .none (.s rfl)) rfl ?_
        refine .nil ?_
        refine .then ?_
        refine .cond (t := 23) rfl trivial (fun hb5 => ?_) (fun hb5 => ?_)
        · replace h := bif_t h hb5
          refine .seq ?_
          refine .region [] mixed (by kernel_rfl) ?_
          refine .cons (.assign .none (.int (by decide))) rfl ?_
          refine .nil ?_
          refine .then ?_
          refine .ret ?_
          refine .blkRet ?_
          refine .thenRet ?_
          obtain rfl := some_eq h
          exact Ends.ret1 (.inl rfl) Tryd.results48 (ResOK.tmp rfl trivial Imp.refl)
        · replace h := bif_f h hb5
          refine .skip ?_
          refine .blkNormal ?_
          refine .then ?_
          refine .seq ?_
          refine .seq ?_
          refine .region [] mixed (by kernel_rfl) ?_
          refine .cons (.fieldAddr .none fd43_1 hfd43_1 (.s rfl)) rfl ?_
          refine .cons (.load .none ty3 (.s rfl)) rfl ?_
          refine .cons (.neI .none (.s rfl) (.int (by decide))) rfl ?_
          refine .nil ?_
          refine .then ?_
          obtain ⟨o_6, h, hK6⟩ := bindR_some h
          refine .thenJ (ι := Unit) (fun j_6 => []) (fun j_6 => []) (fun s => o_6 = Res.nx s) (.cons (t := 2) rfl Sub.nil) SubB.nil ?_ (fun j_6 hj6 => ?_)
          · skip
            refine .cond (t := 35) rfl trivial (fun hb7 => ?_) (fun hb7 => ?_)
            · replace h := bif_t h hb7
              refine .seq ?_
              refine .region [] mixed (by kernel_rfl) ?_
              refine .cons (.fieldAddr .none fd43_2 hfd43_2 (.s rfl)) rfl ?_
              refine .cons (.load .none ty41 (.s rfl)) rfl ?_
              obtain ⟨e1, hv8, h⟩ := bind_some h
              refine .cons (.call .none (geom_CheckBox_ok hv8) (.cons (.s rfl) .nil)) rfl ?_
              refine .cons (.assign .none (.s rfl)) rfl ?_
              refine .nil ?_
              refine .then ?_
              refine .seq ?_
              refine .region [] mixed (by kernel_rfl) ?_
              refine .cons (.move .none (.s rfl)) rfl ?_
              refine .cons (.neI .none (.s rfl) (.int (by decide))) rfl ?_
              refine .nil ?_
              refine .then ?_
              refine .cond (t := 40) rfl trivial (fun hb9 => ?_) (fun hb9 => ?_)
              · replace h := bif_t h hb9
                refine .seq ?_
                refine .region [] mixed (by kernel_rfl) ?_
                refine .cons (.move .none (.s rfl)) rfl ?_
                refine .cons (.assign .none (.s rfl)) rfl ?_
                refine .nil ?_
                refine .then ?_
                refine .ret ?_
                refine .thenRet ?_
                replace h := resb_ab hK6 (some_eq h)
                obtain rfl := some_eq h
                exact Ends.ret1 (.inl rfl) Tryd.results48 (ResOK.tmp rfl trivial Imp.refl)
              · replace h := bif_f h hb9
                refine .skip ?_
                exact Ends.join _ (some_eq h) (.cons (t := 2) rfl Sub.nil) SubB.nil
            · replace h := bif_f h hb7
              refine .skip ?_
              exact Ends.join _ (some_eq h) (.cons (t := 2) rfl Sub.nil) SubB.nil
          · have h := resb_nx hK6 hj6
            refine .seq ?_
            refine .seq ?_
            refine .region [] mixed (by kernel_rfl) ?_
            refine .cons (.fieldAddr .none fd43_3 hfd43_3 (.s rfl)) rfl ?_
            refine .cons (.load .none ty9 (.s rfl)) rfl ?_
            obtain ⟨e2, hv10, h⟩ := bind_some h
            refine .cons (.call .none (shape_CheckText_ok hv10) (.cons (.s rfl) .nil)) rfl ?_
            refine .cons (.assign .none (.s rfl)) rfl ?_
            refine .nil ?_
            refine .then ?_
            refine .seq ?_
            refine .region [] mixed (by kernel_rfl) ?_
            refine .cons (.move .none (.s rfl)) rfl ?_
            refine .cons (.neI .none (.s rfl) (.int (by decide))) rfl ?_
            refine .nil ?_
            refine .then ?_
            refine .cond (t := 46) rfl trivial (fun hb11 => ?_) (fun hb11 => ?_)
            · replace h := bif_t h hb11
              refine .seq ?_
              refine .region [] mixed (by kernel_rfl) ?_
              refine .cons (.move .none (.s rfl)) rfl ?_
              refine .cons (.assign .none (.s rfl)) rfl ?_
              refine .nil ?_
              refine .then ?_
              refine .ret ?_
              refine .thenRet ?_
              obtain rfl := some_eq h
              exact Ends.ret1 (.inl rfl) Tryd.results48 (ResOK.tmp rfl trivial Imp.refl)
            · replace h := bif_f h hb11
              refine .skip ?_
              refine .then ?_
              refine .seq ?_
              refine .seq ?_
              refine .region [] mixed (by kernel_rfl) ?_
              refine .cons (.fieldAddr .none fd43_4 hfd43_4 (.s rfl)) rfl ?_
              refine .cons (.load .none ty9 (.s rfl)) rfl ?_
              refine .cons (.neS .none (eqAt_str Tryd.underlying9) (.s rfl) (.str (l := []) (by decide))) rfl ?_
              refine .cons (.move .none (.s rfl)) rfl ?_
              refine .cons (.fieldAddr (.at rfl rfl) fd43_4 hfd43_4 (.s rfl)) rfl ?_
              refine .cons (.load (.at rfl rfl) ty9 (.tmp rfl id)) rfl ?_
              obtain ⟨r2, hv12, h⟩ := bind_some h
              refine .cons (.callIf (.at rfl rfl) fnok92 (fun hg => page_isName_ok ((fun hg => gd_some hv12 (hg.2)) hg)) (.cons (.tmp rfl id) .nil) (fun h => h)) rfl ?_
              refine .cons (.not (.at rfl rfl) (.tmp rfl id)) rfl ?_
              refine .cons (.pickAnd .none (.s rfl) (.tmp rfl id)) rfl ?_
              refine .nil ?_
              refine .then ?_
              refine .cond (t := 56) rfl trivial (fun hb13 => ?_) (fun hb13 => ?_)
              · replace h := bif_t h hb13
                refine .seq ?_
                refine .region [] mixed (by kernel_rfl) ?_
                refine .cons (.assign .none (.int (by decide))) rfl ?_
                refine .nil ?_
                refine .then ?_
                refine .ret ?_
                refine .thenRet ?_
                obtain rfl := some_eq h
                exact Ends.ret1 (.inl rfl) Tryd.results48 (ResOK.tmp rfl trivial Imp.refl)
              · replace h := bif_f h hb13
                refine .skip ?_
                refine .then ?_
                refine .seq ?_
                refine .region [] mixed (by kernel_rfl) ?_
                refine .cons (.assign .none (.int (by decide))) rfl ?_
                refine .nil ?_
                refine .then ?_
                refine .ret ?_
                obtain rfl := some_eq h
                exact Ends.ret1 (.inl rfl) Tryd.results48 (ResOK.tmp rfl trivial Imp.refl)

theorem page_viewOf_ok {d1 : Doc} {r : (Option Page_view)}  (h : page_viewOf d1 = some r) : FSpec Tryd.prog 49 [rep d1] (rep r) := by
  unfold page_viewOf at h
  refine FSpec.intro (n := 47) fnok49 Tryd.func49 rfl Tryd.ntmps49 rfl (fun F => ?_)
  refine .seq ?_
  refine .region [] mixed (by kernel_rfl) ?_
  refine .cons (.box .none (.s rfl)) rfl ?_
  refine .cons (.assign .none (.const (x := (none : (Option Page_view))) (fun M w => ⟨_, ptr_zero, rfl⟩))) rfl ?_
  refine .nil ?_
  refine .then ?_
  refine .seq ?_
  refine .region [([], []), ([], [7]), ([], [8]), ([7, 8], [9, 7, 8]), ([9], [10, 9]), ([10], [3, 10])] mixed (by kernel_rfl) ?_
  refine .consA (.load .none ty25 (.s rfl)) rfl ?_
  refine .consW (.makeMap (K := Str) (V := Int) rfl) rfl rfl ?_
  refine .consW (.makeMapW (K := Str) (α := Int) (E := 3) rfl) rfl rfl ?_
  refine .consW (.buildG2 (t1 := 7) (t2 := 8) oneMap oneMapW (mk := (fun z1 z2 => (⟨d1, ⟨z1⟩, ⟨z2⟩⟩ : Page_view_o12))) bu63 zvc_Page_view_o12 rfl rfl rfl rfl rfl rfl rfl rfl rfl (fun _ _ => (.cons (.s rfl) (.cons (.s rfl) (.cons (.s rfl) .nil)))) (fun _ _ => (.cons rfl sv_Page_view_o12_0 (.cons rfl sv_Page_view_o12_1 (.cons rfl sv_Page_view_o12_2 .nil))))) rfl rfl ?_
  refine .consW (.boxG2 (t := 9) rfl rfl) rfl rfl ?_
  refine .consW (.passRow rfl (.tmp rfl)) rfl rfl ?_
  refine .nil ?_
  refine .then ?_
  refine .nameAt (t := 3) (g := 5001) rfl rfl (isBox_deep fun _ => (isBox_deep fun _ => isBox_cont)) rfl (fun m5001 => ?_)
  refine .open (k := 5001) (g := 5002) rfl rfl (fun s5002 => ?_)
  refine .open (k := 5001) (g := 5003) rfl rfl (fun s5003 => ?_)
  refine .seq ?_
  refine .seq ?_
  refine .region [] mixed (by kernel_rfl) ?_
  refine .cons (.fieldAddr .none fd25_0 hfd25_0 (.s rfl)) rfl ?_
  refine .cons (.load .none ty22 (.s rfl)) rfl ?_
  refine .cons (.len .none sl22 (.s rfl)) rfl ?_
  refine .cons (.move .none (.int (by decide))) rfl ?_
  refine .nil ?_
  refine .then ?_
  obtain ⟨c1, hv1, h⟩ := bnd_some h
  refine .reB (t := 5002) rfl (congrArg (fun y => CPred.at s5002 (mapV y)) hv1) ?_
  obtain ⟨c2, hv2, h⟩ := bnd_some h
  refine .reB (t := 5003) rfl (congrArg (fun y => CPred.at s5003 (mapW 3 y)) hv2) ?_
  obtain ⟨j_3, h, hK3⟩ := bind_some h
  refine .thenJ (ι := ((GMap Str Int) × (GMap Str (List Int)))) (fun j_3 => []) (fun j_3 => [(5002, some (CPred.at s5002 (mapV j_3.1))), (5003, some (CPred.at s5003 (mapW 3 j_3.2)))]) (fun s => j_3 = s) (.cons (t := 3) rfl Sub.nil) (.cons (t := 5001) rfl SubB.nil) ?_ (fun j_3' hj3 => ?_)
  · skip
    refine .block ?_
    refine .rforL h (fun p4_ => [(14, ⟨True, rep p4_.1⟩)]) (fun p4_ => [(5002, some (CPred.at s5002 (mapV p4_.2.1))), (5003, some (CPred.at s5003 (mapW 3 p4_.2.2)))]) (.cons (t := 14) rfl Sub.nil) (.cons (t := 5002) rfl (.cons (t := 5003) rfl SubB.nil)) (.cons (t := 3) rfl (.cons (t := 12) rfl (.cons (t := 13) rfl Sub.nil))) (.cons (t := 5001) rfl SubB.nil) (fun p4_ o_4 h hD4 => ?_)
    refine .seq ?_
    refine .region [] mixed (by kernel_rfl) ?_
    refine .cons (.lt .none (.s rfl) (.s rfl)) rfl ?_
    refine .nil ?_
    refine .then ?_
    refine .seq ?_
    refine .cond (t := 15) rfl trivial (fun hb5 => ?_) (fun hb5 => ?_)
    · replace h := bif_t h hb5
      refine .skip ?_
      refine .then ?_
      refine .seq ?_
      obtain ⟨j_6, h, hK6⟩ := bind_some h
      unfold page_viewOf_L1 at h
      refine .thenJ (ι := ((GMap Str Int) × (GMap Str (List Int)))) (fun j_6 => []) (fun j_6 => [(5002, some (CPred.at s5002 (mapV j_6.1))), (5003, some (CPred.at s5003 (mapW 3 j_6.2)))]) (fun s => j_6 = s) (.cons (t := 3) rfl (.cons (t := 12) rfl (.cons (t := 13) rfl (.cons (t := 14) rfl Sub.nil)))) (.cons (t := 5001) rfl SubB.nil) ?_ (fun j_6' hj6 => ?_)
      · skip
        refine .block ?_
        refine .seq ?_
        refine .region [([], []), ([], []), ([], []), ([], [5]), ([], []), ([5], [5])] mixed (by kernel_rfl) ?_
        refine .consA (.move .none (.s rfl)) rfl ?_
        obtain ⟨hn7, h⟩ := need_some h
        refine .consA (.indexAddr .none sl22 ty43 (.s rfl) (.s rfl) (fun _ => hn7)) rfl ?_
        obtain ⟨v1, hv8, h⟩ := bnd_some h
        refine .consA (.re hv8 (.load .none ty43 (.s rfl))) rfl ?_
        refine .consW (.alloc zo43 rfl) rfl rfl ?_
        refine .consA (.assign .none (.s rfl)) rfl ?_
        refine .consN (.store ty43 rfl rfl (.s rfl)) rfl ?_
        refine .nil ?_
        refine .then ?_
        refine .freeze (t := 5) rfl rfl (.cons (t := 5001) rfl (.cons (t := 5002) rfl (.cons (t := 5003) rfl SubB.nil))) rfl ?_
        refine .seq ?_
        refine .region [([], []), ([], []), ([], []), ([5001], []), ([], []), ([], []), ([], []), ([5002], [5002])] mixed (by kernel_rfl) ?_
        refine .consA (.move .none (.s rfl)) rfl ?_
        refine .consA (.nilCheckP .none (.s rfl)) rfl ?_
        refine .consA (.fieldPtr .none fd63_1 (.s rfl)) rfl ?_
        refine .consA (.loadAt (k := 5001) .none tr60 rfl (.s rfl) hv_Page_view_o12_1) rfl ?_
        refine .consA (.fieldAddr .none fd43_0 hfd43_0 (.s rfl)) rfl ?_
        refine .consA (.load .none ty9 (.s rfl)) rfl ?_
        refine .consA (.move .none (.s rfl)) rfl ?_
        refine .consN (.mapUpdate (q := 5002) mo60 (.s rfl) rfl (.s rfl) (.s rfl)) rfl ?_
        refine .nil ?_
        refine .then ?_
        obtain ⟨c3, hv9, h⟩ := bnd_some h
        refine .reB (t := 5002) rfl (congrArg (fun y => CPred.at s5002 (mapV y)) hv9) ?_
        refine .seq ?_
        refine .region [] mixed (by kernel_rfl) ?_
        refine .cons (.fieldAddr .none fd43_5 hfd43_5 (.s rfl)) rfl ?_
        refine .cons (.load .none ty9 (.s rfl)) rfl ?_
        refine .cons (.neS .none (eqAt_str Tryd.underlying9) (.s rfl) (.str (l := []) (by decide))) rfl ?_
        refine .nil ?_
        refine .then ?_
        refine .cond (t := 28) rfl trivial (fun hb10 => ?_) (fun hb10 => ?_)
        · replace h := bif_t h hb10
          refine .region [([], []), ([], []), ([], []), ([5001], []), ([], []), ([], []), ([], []), ([], []), ([], []), ([5001], []), ([], []), ([], []), ([5003], [41, 5003]), ([], []), ([], []), ([41], [44, 41]), ([5003, 44], [5003, 44])] mixed (by kernel_rfl) ?_
          refine .consA (.move .none (.s rfl)) rfl ?_
          refine .consA (.nilCheckP .none (.s rfl)) rfl ?_
          refine .consA (.fieldPtr .none fd63_2 (.s rfl)) rfl ?_
          refine .consA (.loadAt (k := 5001) .none tr61 rfl (.s rfl) hv_Page_view_o12_2) rfl ?_
          refine .consA (.fieldAddr .none fd43_5 hfd43_5 (.s rfl)) rfl ?_
          refine .consA (.load .none ty9 (.s rfl)) rfl ?_
          refine .consA (.move .none (.s rfl)) rfl ?_
          refine .consA (.nilCheckP .none (.s rfl)) rfl ?_
          refine .consA (.fieldPtr .none fd63_2 (.s rfl)) rfl ?_
          refine .consA (.loadAt (k := 5001) .none tr61 rfl (.s rfl) hv_Page_view_o12_2) rfl ?_
          refine .consA (.fieldAddr .none fd43_5 hfd43_5 (.s rfl)) rfl ?_
          refine .consA (.load .none ty9 (.s rfl)) rfl ?_
          refine .consW (.mapTake (q := 5003) mo61 zraw59 rfl rfl (.s rfl) rfl (.s rfl)) rfl rfl ?_
          refine .consA (.move .none (.s rfl)) rfl ?_
          refine .consA (.buildSlice (xs := [_]) .none sl59 ty3 hz3 (.cons (.s rfl) .nil) rfl (by decide)) rfl ?_
          obtain ⟨hn11, h⟩ := need_some h
          refine .consW (.append (k := 41) rk59 rfl (.tmp rfl) (.s rfl) hn11) rfl rfl ?_
          refine .consN (.mapPut (q := 5003) (t := 44) mo61 rfl (.s rfl) rfl (fun _ h => h) rfl rfl (.s rfl)) rfl ?_
          refine .nil ?_
          refine .blkNormal ?_
          exact Ends.join _ (some_eq h) (.cons (t := 3) rfl (.cons (t := 12) rfl (.cons (t := 13) rfl (.cons (t := 14) rfl Sub.nil)))) (.cons (t := 5002) rfl (.cons (t := 5003) rfl (.cons (t := 5001) rfl SubB.nil)))
        · replace h := bif_f h hb10
          refine .skip ?_
          refine .blkNormal ?_
          exact Ends.join _ (some_eq h) (.cons (t := 3) rfl (.cons (t := 12) rfl (.cons (t := 13) rfl (.cons (t := 14) rfl Sub.nil)))) (.cons (t := 5002) rfl (.cons (t := 5003) rfl (.cons (t := 5001) rfl SubB.nil)))
      · subst hj6; have h := hK6; clear hK6
        refine .region [] mixed (by kernel_rfl) ?_
        refine .cons (.addW .none (.s rfl) (.int (by decide))) rfl ?_
        refine .cons (.move .none (.s rfl)) rfl ?_
        refine .nil ?_
        exact Ends.againL (some_eq h) (.cons (t := 14) rfl (.cons (t := 3) rfl (.cons (t := 12) rfl (.cons (t := 13) rfl Sub.nil)))) (.cons (t := 5002) rfl (.cons (t := 5003) rfl (.cons (t := 5001) rfl SubB.nil)))
    · replace h := bif_f h hb5
      refine .exit ?_
      refine .thenExit ?_
      refine .thenExit ?_
      refine .blkExit ?_
      replace h := hD4 _ (some_eq h)
      exact Ends.join _ (some_eq h) (.cons (t := 3) rfl Sub.nil) (.cons (t := 5002) rfl (.cons (t := 5003) rfl (.cons (t := 5001) rfl SubB.nil)))
  · subst hj3; have h := hK3; clear hK3
    refine .close (k := 5001) (g := 5003) (fun z => cont 63 (⟨d1, ⟨s5002⟩, ⟨z⟩⟩ : Page_view_o12)) rfl rfl rfl ?_
    refine .close (k := 5001) (g := 5002) (fun z => deep (fun z0 => cont 63 (⟨d1, ⟨z⟩, ⟨z0⟩⟩ : Page_view_o12)) (mapW 3 j_3.2)) rfl rfl rfl ?_
    refine .freezeAt (g := 5001) (S := ref ((⟨d1, j_3.1, j_3.2⟩ : Page_view) : Page_view)) (ts := [3]) rfl (.cons (t := 3) rfl trivial .nil) SubB.nil rfl (fun M D w h hms => deep_ref2 (mk := (fun s1_ s2_ => (⟨d1, ⟨s1_⟩, ⟨s2_⟩⟩ : Page_view_o12))) (y := ((⟨d1, j_3.1, j_3.2⟩ : Page_view) : Page_view)) frzMap frzMapW rfl (fun M s1_ s2_ cs w hc g1 g2 => by obtain ⟨c0, q0, e0, h0, c1, q1, e1, h1, h2⟩ := hc; exact ⟨c0, q0, e0, h0, c1, q1, e1, raw_cells rfl rfl h1 g1, raw_cells rfl rfl h2 g2⟩) M D w h hms) ?_
    refine .seq ?_
    refine .region [] mixed (by kernel_rfl) ?_
    refine .cons (.move .none (.s rfl)) rfl ?_
    refine .cons (.assign .none (.s rfl)) rfl ?_
    refine .nil ?_
    refine .then ?_
    refine .ret ?_
    obtain rfl := some_eq h
    exact Ends.ret1 (.inl rfl) Tryd.results49 (ResOK.tmp rfl trivial Imp.refSome)

theorem page_view_node_ok {v1 : Page_view} {id1 : Str} {r : DNode}  (h : page_view_node v1 id1 = some r) : FSpec Tryd.prog 114 [ref v1, rep id1] (rep r) := by
  unfold page_view_node at h
  refine FSpec.intro (n := 18) fnok114 Tryd.func114 rfl Tryd.ntmps114 rfl (fun F => ?_)
  refine .seq ?_
  refine .region [([], [4])] mixed (by kernel_rfl) ?_
  refine .consW (.alloc zo43 rfl) rfl rfl ?_
  refine .nil ?_
  refine .then ?_
  obtain ⟨v2, hv1, h⟩ := bnd_some h
  refine .reB (t := 4) rfl (congrArg (cont 43) hv1) ?_
  refine .nameBox (t := 4) (g := 5001) rfl rfl (fun m5001 => ?_)
  refine .seq ?_
  refine .region [([], []), ([], []), ([], []), ([], []), ([], []), ([], []), ([], []), ([], []), ([], []), ([], []), ([], []), ([], []), ([], []), ([5001], [5001])] mixed (by kernel_rfl) ?_
  refine .consA (.move .none (.s rfl)) rfl ?_
  refine .consA (.nilCheckR .none (.s rfl)) rfl ?_
  refine .consA (.fieldAddr .none fd63_0 hfd63_0 (.s rfl)) rfl ?_
  refine .consA (.fieldAddr .none fd25_0 hfd25_0 (.s rfl)) rfl ?_
  refine .consA (.load .none ty22 (.s rfl)) rfl ?_
  refine .consA (.move .none (.s rfl)) rfl ?_
  refine .consA (.nilCheckR .none (.s rfl)) rfl ?_
  refine .consA (.fieldAddr .none fd63_1 hfd63_1 (.s rfl)) rfl ?_
  refine .consA (.load .none ty60 (.s rfl)) rfl ?_
  refine .consA (.move .none (.s rfl)) rfl ?_
  refine .consA (.lookup .none mo60 zo3 (.s rfl) (.s rfl)) rfl ?_
  obtain ⟨hn2, h⟩ := need_some h
  refine .consA (.indexAddr .none sl22 ty43 (.s rfl) (.s rfl) (fun _ => hn2)) rfl ?_
  obtain ⟨v3, hv3, h⟩ := bnd_some h
  refine .consA (.re hv3 (.load .none ty43 (.s rfl))) rfl ?_
  refine .consN (.storeAt0 (g := 5001) ty43 rfl (.s rfl) (.s rfl)) rfl ?_
  refine .nil ?_
  refine .then ?_
  refine .freezeBox (g := 5001) (ts := [4]) rfl (.cons (t := 4) rfl trivial .nil) SubB.nil rfl ?_
  refine .ret ?_
  obtain rfl := some_eq h
  exact Ends.ret1 (.inl rfl) Tryd.results114 (ResOK.cellR ty43 rfl trivial Imp.refl)

theorem page_view_above_ok {v1 : Page_view} {n1 : DNode} {r : (Int × Bool)}  (h : page_view_above v1 n1 = some r) : FSpec Tryd.prog 95 [ref v1, rep n1] (tup [rep r.1, rep r.2]) := by
  unfold page_view_above at h
  refine FSpec.intro (n := 39) fnok95 Tryd.func95 rfl Tryd.ntmps95 rfl (fun F => ?_)
  refine .seq ?_
  refine .region [([], [3]), ([], []), ([], [])] mixed (by kernel_rfl) ?_
  refine .consW (.boxO rfl (.s rfl)) rfl rfl ?_
  refine .consA (.assign .none (.int (by decide))) rfl ?_
  refine .consA (.assign .none .bool) rfl ?_
  refine .nil ?_
  refine .then ?_
  refine .nameBox (t := 3) (g := 5001) rfl rfl (fun m5001 => ?_)
  refine .seq ?_
  refine .region [([], []), ([5001], []), ([], []), ([], [])] mixed (by kernel_rfl) ?_
  refine .consA (.fieldPtr .none fd43_0 (.s rfl)) rfl ?_
  refine .consA (.loadAt (k := 5001) .none ty9 rfl (.s rfl) hfd43_0) rfl ?_
  refine .consA (.assign .none (.s rfl)) rfl ?_
  refine .consA (.assign .none (.int (by decide))) rfl ?_
  refine .nil ?_
  refine .then ?_
  refine .seq ?_
  obtain ⟨o_1, h, hK1⟩ := bindR_some h
  refine .thenJ (ι := Int) (fun j_1 => [(7, ⟨True, rep j_1⟩)]) (fun j_1 => []) (fun s => o_1 = Res.nx s) Sub.nil SubB.nil ?_ (fun j_1 hj1 => ?_)
  · skip
    refine .block ?_
    refine .loopL h (fun s2_ => [(7, ⟨True, rep s2_.1⟩)]) (fun s2_ => [(5001, some (boxAt m5001 43 s2_.2))]) (.cons (t := 7) rfl Sub.nil) (.cons (t := 5001) rfl SubB.nil) (.cons (t := 0) rfl (.cons (t := 3) rfl (.cons (t := 6) rfl Sub.nil))) SubB.nil (fun s2_ o_2 h hD2 => ?_)
    unfold page_view_above_L1 at h
    refine .seq ?_
    refine .seq ?_
    refine .region [([], []), ([5001], []), ([], [])] mixed (by kernel_rfl) ?_
    refine .consA (.fieldPtr .none fd43_5 (.s rfl)) rfl ?_
    refine .consA (.loadAt (k := 5001) .none ty9 rfl (.s rfl) hfd43_5) rfl ?_
    refine .consA (.neS .none (eqAt_str Tryd.underlying9) (.s rfl) (.str (l := []) (by decide))) rfl ?_
    refine .nil ?_
    refine .then ?_
    refine .cond (t := 12) rfl trivial (fun hb3 => ?_) (fun hb3 => ?_)
    · replace h := bif_t h hb3
      refine .skip ?_
      refine .then ?_
      refine .block ?_
      refine .seq ?_
      refine .seq ?_
      refine .region [] mixed (by kernel_rfl) ?_
      refine .cons (.move .none (.s rfl)) rfl ?_
      refine .cons (.addW .none (.s rfl) (.int (by decide))) rfl ?_
      obtain ⟨many1, hv4, h⟩ := bnd_some h
      refine .cons (.re hv4 (.assign .none (.s rfl))) rfl ?_
      refine .nil ?_
      refine .then ?_
      refine .seq ?_
      refine .region [([], []), ([5001], []), ([], []), ([], []), ([], []), ([], []), ([], []), ([], []), ([], []), ([], []), ([], []), ([], []), ([], []), ([], [])] mixed (by kernel_rfl) ?_
      refine .consA (.fieldPtr .none fd43_5 (.s rfl)) rfl ?_
      refine .consA (.loadAt (k := 5001) .none ty9 rfl (.s rfl) hfd43_5) rfl ?_
      refine .consA (.move .none (.s rfl)) rfl ?_
      refine .consA (.eqS .none (eqAt_str Tryd.underlying9) (.s rfl) (.s rfl)) rfl ?_
      refine .consA (.move .none (.s rfl)) rfl ?_
      refine .consA (.move (.at rfl rfl) (.s rfl)) rfl ?_
      refine .consA (.move (.at rfl rfl) (.s rfl)) rfl ?_
      refine .consA (.nilCheckR (.at rfl rfl) (.tmp rfl id)) rfl ?_
      refine .consA (.fieldAddr (.at rfl rfl) fd63_0 hfd63_0 (.tmp rfl id)) rfl ?_
      refine .consA (.fieldAddr (.at rfl rfl) fd25_0 hfd25_0 (.tmp rfl id)) rfl ?_
      refine .consA (.load (.at rfl rfl) ty22 (.tmp rfl id)) rfl ?_
      refine .consA (.len (.at rfl rfl) sl22 (.tmp rfl id)) rfl ?_
      refine .consA (.gt (.at rfl rfl) (.tmp rfl id) (.tmp rfl id)) rfl ?_
      refine .consA (.pickOr .none (.s rfl) (.tmp rfl id)) rfl ?_
      refine .nil ?_
      refine .then ?_
      refine .cond (t := 28) rfl trivial (fun hb5 => ?_) (fun hb5 => ?_)
      · replace h := bif_t h hb5
        refine .seq ?_
        refine .region [([], []), ([], []), ([5001], []), ([], []), ([], []), ([], []), ([], [])] mixed (by kernel_rfl) ?_
        refine .consA (.move .none (.s rfl)) rfl ?_
        refine .consA (.fieldPtr .none fd43_5 (.s rfl)) rfl ?_
        refine .consA (.loadAt (k := 5001) .none ty9 rfl (.s rfl) hfd43_5) rfl ?_
        refine .consA (.move .none (.s rfl)) rfl ?_
        refine .consA (.neS .none (eqAt_str Tryd.underlying9) (.s rfl) (.s rfl)) rfl ?_
        refine .consA (.assign .none (.s rfl)) rfl ?_
        refine .consA (.assign .none (.s rfl)) rfl ?_
        refine .nil ?_
        refine .then ?_
        refine .ret ?_
        refine .thenRet ?_
        refine .blkRet ?_
        refine .thenRet ?_
        refine .blkRet ?_
        refine .thenRet ?_
        replace h := hD2 _ (some_eq h)
        replace h := resb_ab hK1 (some_eq h)
        obtain rfl := some_eq h
        exact Ends.ret2 (.inl rfl) Tryd.results95 (ResOK.tmp rfl trivial Imp.refl) (ResOK.tmp rfl trivial Imp.refl)
      · replace h := bif_f h hb5
        refine .skip ?_
        refine .then ?_
        refine .region [([], []), ([], []), ([5001], []), ([], []), ([5001], [5001])] mixed (by kernel_rfl) ?_
        refine .consA (.move .none (.s rfl)) rfl ?_
        refine .consA (.fieldPtr .none fd43_5 (.s rfl)) rfl ?_
        refine .consA (.loadAt (k := 5001) .none ty9 rfl (.s rfl) hfd43_5) rfl ?_
        obtain ⟨r1, hv6, h⟩ := bind_some h
        refine .consA (.call .none (page_view_node_ok hv6) (.cons (.s rfl) (.cons (.s rfl) .nil))) rfl ?_
        refine .consN (.storeAt0 (g := 5001) ty43 rfl (.s rfl) (.s rfl)) rfl ?_
        refine .nil ?_
        refine .blkNormal ?_
        exact Ends.againL (some_eq h) (.cons (t := 7) rfl (.cons (t := 0) rfl (.cons (t := 3) rfl (.cons (t := 6) rfl Sub.nil)))) (.cons (t := 5001) rfl SubB.nil)
    · replace h := bif_f h hb3
      refine .exit ?_
      refine .thenExit ?_
      refine .thenExit ?_
      refine .blkExit ?_
      replace h := hD2 _ (some_eq h)
      exact Ends.join _ (some_eq h) (.cons (t := 7) rfl Sub.nil) SubB.nil
  · have h := resb_nx hK1 hj1
    refine .seq ?_
    refine .region [] mixed (by kernel_rfl) ?_
    refine .cons (.move .none (.s rfl)) rfl ?_
    refine .cons (.assign .none (.s rfl)) rfl ?_
    refine .cons (.assign .none .bool) rfl ?_
    refine .nil ?_
    refine .then ?_
    refine .ret ?_
    obtain rfl := some_eq h
    exact Ends.ret2 (.inl rfl) Tryd.results95 (ResOK.tmp rfl trivial Imp.refl) (ResOK.tmp rfl trivial Imp.refl)

theorem page_view_checkGroups_ok {v1 : Page_view} {r : Int}  (h : page_view_checkGroups v1 = some r) : FSpec Tryd.prog 50 [ref v1] (rep r) := by
  unfold page_view_checkGroups at h
  refine FSpec.intro (n := 120) fnok50 Tryd.func50 rfl Tryd.ntmps50 rfl (fun F => ?_)
  refine .seq ?_
  refine .region [] mixed (by kernel_rfl) ?_
  refine .cons (.assign .none (.int (by decide))) rfl ?_
  refine .nil ?_
  refine .then ?_
  refine .seq ?_
  refine .seq ?_
  refine .region [] mixed (by kernel_rfl) ?_
  refine .cons (.move .none (.s rfl)) rfl ?_
  refine .cons (.nilCheckR .none (.s rfl)) rfl ?_
  refine .cons (.fieldAddr .none fd63_0 hfd63_0 (.s rfl)) rfl ?_
  refine .cons (.fieldAddr .none fd25_0 hfd25_0 (.s rfl)) rfl ?_
  refine .cons (.load .none ty22 (.s rfl)) rfl ?_
  refine .cons (.len .none sl22 (.s rfl)) rfl ?_
  refine .cons (.move .none (.int (by decide))) rfl ?_
  refine .nil ?_
  refine .then ?_
  obtain ⟨o_1, h, hK1⟩ := bindR_some h
  refine .thenJ (ι := Unit) (fun j_1 => []) (fun j_1 => []) (fun s => o_1 = Res.nx s) (.cons (t := 0) rfl Sub.nil) SubB.nil ?_ (fun j_1 hj1 => ?_)
  · skip
    refine .block ?_
    refine .rforEL h (fun p2_ => [(23, ⟨True, rep p2_.1⟩)]) (fun p2_ => []) (.cons (t := 23) rfl Sub.nil) SubB.nil (.cons (t := 0) rfl (.cons (t := 21) rfl (.cons (t := 22) rfl Sub.nil))) SubB.nil (fun p2_ o_2 h hD2 => ?_)
    refine .seq ?_
    refine .region [] mixed (by kernel_rfl) ?_
    refine .cons (.lt .none (.s rfl) (.s rfl)) rfl ?_
    refine .nil ?_
    refine .then ?_
    refine .seq ?_
    refine .cond (t := 24) rfl trivial (fun hb3 => ?_) (fun hb3 => ?_)
    · replace h := bif_t h hb3
      refine .skip ?_
      refine .then ?_
      refine .seq ?_
      obtain ⟨o_4, h, hK4⟩ := bindD_some h
      unfold page_view_checkGroups_L1 at h
      refine .thenJ (ι := Unit) (fun j_4 => []) (fun j_4 => []) (fun s => o_4 = Res.nx s) (.cons (t := 0) rfl (.cons (t := 21) rfl (.cons (t := 22) rfl (.cons (t := 23) rfl Sub.nil)))) SubB.nil ?_ (fun j_4 hj4 => ?_)
      · skip
        refine .block ?_
        refine .seq ?_
        refine .region [([], []), ([], []), ([], [4]), ([4], [4])] mixed (by kernel_rfl) ?_
        obtain ⟨hn5, h⟩ := need_some h
        refine .consA (.indexAddr .none sl22 ty43 (.s rfl) (.s rfl) (fun _ => hn5)) rfl ?_
        obtain ⟨v2, hv6, h⟩ := bnd_some h
        refine .consA (.re hv6 (.load .none ty43 (.s rfl))) rfl ?_
        refine .consW (.alloc zo43 rfl) rfl rfl ?_
        refine .consN (.store ty43 rfl rfl (.s rfl)) rfl ?_
        refine .nil ?_
        refine .then ?_
        refine .freeze (t := 4) rfl rfl SubB.nil rfl ?_
        refine .seq ?_
        refine .region [] mixed (by kernel_rfl) ?_
        refine .cons (.move .none (.s rfl)) rfl ?_
        refine .cons (.nilCheckR .none (.s rfl)) rfl ?_
        refine .cons (.fieldAddr .none fd63_1 hfd63_1 (.s rfl)) rfl ?_
        refine .cons (.load .none ty60 (.s rfl)) rfl ?_
        refine .cons (.fieldAddr .none fd43_5 hfd43_5 (.s rfl)) rfl ?_
        refine .cons (.load .none ty9 (.s rfl)) rfl ?_
        refine .cons (.lookupOk .none mo60 zo3 (.s rfl) (.s rfl)) rfl ?_
        refine .cons (.move .none (.s rfl)) rfl ?_
        refine .cons (.extract .none (.s rfl) rfl) rfl ?_
        refine .cons (.extract .none (.s rfl) rfl) rfl ?_
        refine .cons (.assign .none (.s rfl)) rfl ?_
        refine .cons (.assign .none (.s rfl)) rfl ?_
        refine .nil ?_
        refine .then ?_
        refine .seq ?_
        refine .region [] mixed (by kernel_rfl) ?_
        refine .cons (.fieldAddr .none fd43_5 hfd43_5 (.s rfl)) rfl ?_
        refine .cons (.load .none ty9 (.s rfl)) rfl ?_
        refine .cons (.neS .none (eqAt_str Tryd.underlying9) (.s rfl) (.str (l := []) (by decide))) rfl ?_
        refine .cons (.move .none (.s rfl)) rfl ?_
        refine .cons (.move (.at rfl rfl) (.s rfl)) rfl ?_
        refine .cons (.not (.at rfl rfl) (.tmp rfl id)) rfl ?_
        refine .cons (.move (.at rfl rfl) (.tmp rfl id)) rfl ?_
        refine .cons (.move (.at rfl rfl) (.s rfl)) rfl ?_
        refine .cons (.nilCheckR (.at rfl rfl) (.tmp rfl id)) rfl ?_
        refine .cons (.fieldAddr (.at rfl rfl) fd63_0 hfd63_0 (.tmp rfl id)) rfl ?_
        refine .cons (.fieldAddr (.at rfl rfl) fd25_0 hfd25_0 (.tmp rfl id)) rfl ?_
        refine .cons (.load (.at rfl rfl) ty22 (.tmp rfl id)) rfl ?_
        refine .cons (.move (.at rfl rfl) (.s rfl)) rfl ?_
        obtain ⟨hn7, h⟩ := need_some h
        refine .cons (.indexAddr (.at rfl rfl) sl22 ty43 (.tmp rfl id) (.tmp rfl id) (fun hg => hn7 hg.1.2 hg.2)) rfl ?_
        refine .cons (.fieldAddr (.at rfl rfl) fd43_1 hfd43_1 (.tmp rfl id)) rfl ?_
        refine .cons (.load (.at rfl rfl) ty3 (.tmp rfl id)) rfl ?_
        refine .cons (.neI (.at rfl rfl) (.tmp rfl id) (.int (by decide))) rfl ?_
        refine .cons (.pickOr (.at rfl rfl) (.tmp rfl id) (.tmp rfl id)) rfl ?_
        refine .cons (.pickAnd .none (.s rfl) (.tmp rfl id)) rfl ?_
        refine .nil ?_
        refine .then ?_
        refine .cond (t := 55) rfl trivial (fun hb8 => ?_) (fun hb8 => ?_)
        · replace h := bif_t h hb8
          refine .seq ?_
          refine .region [] mixed (by kernel_rfl) ?_
          refine .cons (.assign .none (.int (by decide))) rfl ?_
          refine .nil ?_
          refine .then ?_
          refine .ret ?_
          refine .blkRet ?_
          refine .thenRet ?_
          refine .thenRet ?_
          refine .blkRet ?_
          refine .thenRet ?_
          replace h := resd_ab hK4 (some_eq h)
          replace h := hD2 _ (some_eq h)
          replace h := resb_ab hK1 (some_eq h)
          obtain rfl := some_eq h
          exact Ends.ret1 (.inl rfl) Tryd.results50 (ResOK.tmp rfl trivial Imp.refl)
        · replace h := bif_f h hb8
          refine .skip ?_
          refine .blkNormal ?_
          exact Ends.join _ (some_eq h) (.cons (t := 0) rfl (.cons (t := 21) rfl (.cons (t := 22) rfl (.cons (t := 23) rfl Sub.nil)))) SubB.nil
      · have h := resd_nx hK4 hj4
        refine .region [] mixed (by kernel_rfl) ?_
        refine .cons (.addW .none (.s rfl) (.int (by decide))) rfl ?_
        refine .cons (.move .none (.s rfl)) rfl ?_
        refine .nil ?_
        exact Ends.againL (some_eq h) (.cons (t := 23) rfl (.cons (t := 0) rfl (.cons (t := 21) rfl (.cons (t := 22) rfl Sub.nil)))) SubB.nil
    · replace h := bif_f h hb3
      refine .exit ?_
      refine .thenExit ?_
      refine .thenExit ?_
      refine .blkExit ?_
      replace h := hD2 _ (some_eq h)
      exact Ends.join _ (some_eq h) (.cons (t := 0) rfl Sub.nil) SubB.nil
  · have h := resb_nx hK1 hj1
    refine .seq ?_
    refine .seq ?_
    refine .region [] mixed (by kernel_rfl) ?_
    refine .cons (.move .none (.s rfl)) rfl ?_
    refine .cons (.nilCheckR .none (.s rfl)) rfl ?_
    refine .cons (.fieldAddr .none fd63_0 hfd63_0 (.s rfl)) rfl ?_
    refine .cons (.fieldAddr .none fd25_0 hfd25_0 (.s rfl)) rfl ?_
    refine .cons (.load .none ty22 (.s rfl)) rfl ?_
    refine .cons (.len .none sl22 (.s rfl)) rfl ?_
    refine .cons (.move .none (.int (by decide))) rfl ?_
    refine .nil ?_
    refine .then ?_
    obtain ⟨o_9, h, hK9⟩ := bindR_some h
    refine .thenJ (ι := Unit) (fun j_9 => []) (fun j_9 => []) (fun s => o_9 = Res.nx s) (.cons (t := 0) rfl Sub.nil) SubB.nil ?_ (fun j_9 hj9 => ?_)
    · skip
      refine .block ?_
      refine .rforEL h (fun p10_ => [(63, ⟨True, rep p10_.1⟩)]) (fun p10_ => []) (.cons (t := 63) rfl Sub.nil) SubB.nil (.cons (t := 0) rfl (.cons (t := 61) rfl (.cons (t := 62) rfl Sub.nil))) SubB.nil (fun p10_ o_10 h hD10 => ?_)
      refine .seq ?_
      refine .region [] mixed (by kernel_rfl) ?_
      refine .cons (.lt .none (.s rfl) (.s rfl)) rfl ?_
      refine .nil ?_
      refine .then ?_
      refine .seq ?_
      refine .cond (t := 64) rfl trivial (fun hb11 => ?_) (fun hb11 => ?_)
      · replace h := bif_t h hb11
        refine .skip ?_
        refine .then ?_
        refine .seq ?_
        obtain ⟨o_12, h, hK12⟩ := bindD_some h
        unfold page_view_checkGroups_L2 at h
        refine .thenJ (ι := Unit) (fun j_12 => []) (fun j_12 => []) (fun s => o_12 = Res.nx s) (.cons (t := 0) rfl (.cons (t := 61) rfl (.cons (t := 62) rfl (.cons (t := 63) rfl Sub.nil)))) SubB.nil ?_ (fun j_12 hj12 => ?_)
        · skip
          refine .block ?_
          refine .seq ?_
          refine .region [([], []), ([], []), ([], [8]), ([8], [8])] mixed (by kernel_rfl) ?_
          obtain ⟨hn13, h⟩ := need_some h
          refine .consA (.indexAddr .none sl22 ty43 (.s rfl) (.s rfl) (fun _ => hn13)) rfl ?_
          obtain ⟨v3, hv14, h⟩ := bnd_some h
          refine .consA (.re hv14 (.load .none ty43 (.s rfl))) rfl ?_
          refine .consW (.alloc zo43 rfl) rfl rfl ?_
          refine .consN (.store ty43 rfl rfl (.s rfl)) rfl ?_
          refine .nil ?_
          refine .then ?_
          refine .freeze (t := 8) rfl rfl SubB.nil rfl ?_
          refine .seq ?_
          refine .region [] mixed (by kernel_rfl) ?_
          refine .cons (.move .none (.s rfl)) rfl ?_
          refine .cons (.load .none ty43 (.s rfl)) rfl ?_
          obtain ⟨r1, hv15, h⟩ := bind_some h
          refine .cons (.call .none (page_view_above_ok hv15) (.cons (.s rfl) (.cons (.s rfl) .nil))) rfl ?_
          refine .cons (.move .none (.s rfl)) rfl ?_
          refine .cons (.extract .none (.s rfl) rfl) rfl ?_
          refine .cons (.extract .none (.s rfl) rfl) rfl ?_
          refine .cons (.assign .none (.s rfl)) rfl ?_
          refine .cons (.assign .none (.s rfl)) rfl ?_
          refine .nil ?_
          refine .then ?_
          refine .seq ?_
          refine .region [] mixed (by kernel_rfl) ?_
          refine .cons (.move .none (.s rfl)) rfl ?_
          refine .cons (.not .none (.s rfl)) rfl ?_
          refine .nil ?_
          refine .then ?_
          refine .cond (t := 74) rfl trivial (fun hb16 => ?_) (fun hb16 => ?_)
          · replace h := bif_t h hb16
            refine .seq ?_
            refine .region [] mixed (by kernel_rfl) ?_
            refine .cons (.assign .none (.int (by decide))) rfl ?_
            refine .nil ?_
            refine .then ?_
            refine .ret ?_
            refine .blkRet ?_
            refine .thenRet ?_
            refine .thenRet ?_
            refine .blkRet ?_
            refine .thenRet ?_
            replace h := resd_ab hK12 (some_eq h)
            replace h := hD10 _ (some_eq h)
            replace h := resb_ab hK9 (some_eq h)
            obtain rfl := some_eq h
            exact Ends.ret1 (.inl rfl) Tryd.results50 (ResOK.tmp rfl trivial Imp.refl)
          · replace h := bif_f h hb16
            refine .skip ?_
            refine .blkNormal ?_
            exact Ends.join _ (some_eq h) (.cons (t := 0) rfl (.cons (t := 61) rfl (.cons (t := 62) rfl (.cons (t := 63) rfl Sub.nil)))) SubB.nil
        · have h := resd_nx hK12 hj12
          refine .region [] mixed (by kernel_rfl) ?_
          refine .cons (.addW .none (.s rfl) (.int (by decide))) rfl ?_
          refine .cons (.move .none (.s rfl)) rfl ?_
          refine .nil ?_
          exact Ends.againL (some_eq h) (.cons (t := 63) rfl (.cons (t := 0) rfl (.cons (t := 61) rfl (.cons (t := 62) rfl Sub.nil)))) SubB.nil
      · replace h := bif_f h hb11
        refine .exit ?_
        refine .thenExit ?_
        refine .thenExit ?_
        refine .blkExit ?_
        replace h := hD10 _ (some_eq h)
        exact Ends.join _ (some_eq h) (.cons (t := 0) rfl Sub.nil) SubB.nil
    · have h := resb_nx hK9 hj9
      refine .seq ?_
      refine .seq ?_
      refine .region [] mixed (by kernel_rfl) ?_
      refine .cons (.move .none (.s rfl)) rfl ?_
      refine .cons (.nilCheckR .none (.s rfl)) rfl ?_
      refine .cons (.fieldAddr .none fd63_0 hfd63_0 (.s rfl)) rfl ?_
      refine .cons (.fieldAddr .none fd25_0 hfd25_0 (.s rfl)) rfl ?_
      refine .cons (.load .none ty22 (.s rfl)) rfl ?_
      refine .cons (.len .none sl22 (.s rfl)) rfl ?_
      refine .cons (.move .none (.int (by decide))) rfl ?_
      refine .nil ?_
      refine .then ?_
      obtain ⟨o_17, h, hK17⟩ := bindR_some h
      refine .thenJ (ι := Unit) (fun j_17 => []) (fun j_17 => []) (fun s => o_17 = Res.nx s) (.cons (t := 0) rfl Sub.nil) SubB.nil ?_ (fun j_17 hj17 => ?_)
      · skip
        refine .block ?_
        refine .rforEL h (fun p18_ => [(82, ⟨True, rep p18_.1⟩)]) (fun p18_ => []) (.cons (t := 82) rfl Sub.nil) SubB.nil (.cons (t := 0) rfl (.cons (t := 80) rfl (.cons (t := 81) rfl Sub.nil))) SubB.nil (fun p18_ o_18 h hD18 => ?_)
        refine .seq ?_
        refine .region [] mixed (by kernel_rfl) ?_
        refine .cons (.lt .none (.s rfl) (.s rfl)) rfl ?_
        refine .nil ?_
        refine .then ?_
        refine .seq ?_
        refine .cond (t := 83) rfl trivial (fun hb19 => ?_) (fun hb19 => ?_)
        · replace h := bif_t h hb19
          refine .skip ?_
          refine .then ?_
          refine .seq ?_
          obtain ⟨o_20, h, hK20⟩ := bindD_some h
          unfold page_view_checkGroups_L3 at h
          refine .thenJ (ι := Unit) (fun j_20 => []) (fun j_20 => []) (fun s => o_20 = Res.nx s) (.cons (t := 0) rfl (.cons (t := 80) rfl (.cons (t := 81) rfl (.cons (t := 82) rfl Sub.nil)))) SubB.nil ?_ (fun j_20 hj20 => ?_)
          · skip
            refine .block ?_
            refine .seq ?_
            refine .region [([], []), ([], []), ([], [12]), ([12], [12])] mixed (by kernel_rfl) ?_
            obtain ⟨hn21, h⟩ := need_some h
            refine .consA (.indexAddr .none sl22 ty43 (.s rfl) (.s rfl) (fun _ => hn21)) rfl ?_
            obtain ⟨v4, hv22, h⟩ := bnd_some h
            refine .consA (.re hv22 (.load .none ty43 (.s rfl))) rfl ?_
            refine .consW (.alloc zo43 rfl) rfl rfl ?_
            refine .consN (.store ty43 rfl rfl (.s rfl)) rfl ?_
            refine .nil ?_
            refine .then ?_
            refine .freeze (t := 12) rfl rfl SubB.nil rfl ?_
            refine .seq ?_
            refine .region [] mixed (by kernel_rfl) ?_
            refine .cons (.move .none (.s rfl)) rfl ?_
            refine .cons (.load .none ty43 (.s rfl)) rfl ?_
            obtain ⟨r2, hv23, h⟩ := bind_some h
            refine .cons (.call .none (page_view_above_ok hv23) (.cons (.s rfl) (.cons (.s rfl) .nil))) rfl ?_
            refine .cons (.move .none (.s rfl)) rfl ?_
            refine .cons (.extract .none (.s rfl) rfl) rfl ?_
            refine .cons (.extract .none (.s rfl) rfl) rfl ?_
            refine .cons (.assign .none (.s rfl)) rfl ?_
            refine .cons (.assign .none (.s rfl)) rfl ?_
            refine .nil ?_
            refine .then ?_
            refine .seq ?_
            refine .region [] mixed (by kernel_rfl) ?_
            refine .cons (.move .none (.s rfl)) rfl ?_
            refine .cons (.gt .none (.s rfl) (.int (by decide))) rfl ?_
            refine .nil ?_
            refine .then ?_
            refine .cond (t := 93) rfl trivial (fun hb24 => ?_) (fun hb24 => ?_)
            · replace h := bif_t h hb24
              refine .seq ?_
              refine .region [] mixed (by kernel_rfl) ?_
              refine .cons (.assign .none (.int (by decide))) rfl ?_
              refine .nil ?_
              refine .then ?_
              refine .ret ?_
              refine .blkRet ?_
              refine .thenRet ?_
              refine .thenRet ?_
              refine .blkRet ?_
              refine .thenRet ?_
              replace h := resd_ab hK20 (some_eq h)
              replace h := hD18 _ (some_eq h)
              replace h := resb_ab hK17 (some_eq h)
              obtain rfl := some_eq h
              exact Ends.ret1 (.inl rfl) Tryd.results50 (ResOK.tmp rfl trivial Imp.refl)
            · replace h := bif_f h hb24
              refine .skip ?_
              refine .blkNormal ?_
              exact Ends.join _ (some_eq h) (.cons (t := 0) rfl (.cons (t := 80) rfl (.cons (t := 81) rfl (.cons (t := 82) rfl Sub.nil)))) SubB.nil
          · have h := resd_nx hK20 hj20
            refine .region [] mixed (by kernel_rfl) ?_
            refine .cons (.addW .none (.s rfl) (.int (by decide))) rfl ?_
            refine .cons (.move .none (.s rfl)) rfl ?_
            refine .nil ?_
            exact Ends.againL (some_eq h) (.cons (t := 82) rfl (.cons (t := 0) rfl (.cons (t := 80) rfl (.cons (t := 81) rfl Sub.nil)))) SubB.nil
        · replace h := bif_f h hb19
          refine .exit ?_
          refine .thenExit ?_
          refine .thenExit ?_
          refine .blkExit ?_
          replace h := hD18 _ (some_eq h)
          exact Ends.join _ (some_eq h) (.cons (t := 0) rfl Sub.nil) SubB.nil
      · have h := resb_nx hK17 hj17
        refine .seq ?_
        refine .seq ?_
        refine .region [] mixed (by kernel_rfl) ?_
        refine .cons (.move .none (.s rfl)) rfl ?_
        refine .cons (.nilCheckR .none (.s rfl)) rfl ?_
        refine .cons (.fieldAddr .none fd63_0 hfd63_0 (.s rfl)) rfl ?_
        refine .cons (.fieldAddr .none fd25_0 hfd25_0 (.s rfl)) rfl ?_
        refine .cons (.load .none ty22 (.s rfl)) rfl ?_
        refine .cons (.len .none sl22 (.s rfl)) rfl ?_
        refine .cons (.move .none (.int (by decide))) rfl ?_
        refine .nil ?_
        refine .then ?_
        obtain ⟨o_25, h, hK25⟩ := bindR_some h
        refine .thenJ (ι := Unit) (fun j_25 => []) (fun j_25 => []) (fun s => o_25 = Res.nx s) Sub.nil SubB.nil ?_ (fun j_25 hj25 => ?_)
        · skip
          refine .block ?_
          refine .rforEL h (fun p26_ => [(101, ⟨True, rep p26_.1⟩)]) (fun p26_ => []) (.cons (t := 101) rfl Sub.nil) SubB.nil (.cons (t := 0) rfl (.cons (t := 99) rfl (.cons (t := 100) rfl Sub.nil))) SubB.nil (fun p26_ o_26 h hD26 => ?_)
          refine .seq ?_
          refine .region [] mixed (by kernel_rfl) ?_
          refine .cons (.lt .none (.s rfl) (.s rfl)) rfl ?_
          refine .nil ?_
          refine .then ?_
          refine .seq ?_
          refine .cond (t := 102) rfl trivial (fun hb27 => ?_) (fun hb27 => ?_)
          · replace h := bif_t h hb27
            refine .skip ?_
            refine .then ?_
            refine .seq ?_
            obtain ⟨o_28, h, hK28⟩ := bindD_some h
            unfold page_view_checkGroups_L4 at h
            refine .thenJ (ι := Unit) (fun j_28 => []) (fun j_28 => []) (fun s => o_28 = Res.nx s) (.cons (t := 0) rfl (.cons (t := 99) rfl (.cons (t := 100) rfl (.cons (t := 101) rfl Sub.nil)))) SubB.nil ?_ (fun j_28 hj28 => ?_)
            · skip
              refine .block ?_
              refine .seq ?_
              refine .region [([], []), ([], []), ([], [16]), ([16], [16])] mixed (by kernel_rfl) ?_
              obtain ⟨hn29, h⟩ := need_some h
              refine .consA (.indexAddr .none sl22 ty43 (.s rfl) (.s rfl) (fun _ => hn29)) rfl ?_
              obtain ⟨v5, hv30, h⟩ := bnd_some h
              refine .consA (.re hv30 (.load .none ty43 (.s rfl))) rfl ?_
              refine .consW (.alloc zo43 rfl) rfl rfl ?_
              refine .consN (.store ty43 rfl rfl (.s rfl)) rfl ?_
              refine .nil ?_
              refine .then ?_
              refine .freeze (t := 16) rfl rfl SubB.nil rfl ?_
              refine .seq ?_
              refine .region [] mixed (by kernel_rfl) ?_
              refine .cons (.fieldAddr .none fd43_1 hfd43_1 (.s rfl)) rfl ?_
              refine .cons (.load .none ty3 (.s rfl)) rfl ?_
              refine .cons (.eqI .none (.s rfl) (.int (by decide))) rfl ?_
              refine .cons (.move .none (.s rfl)) rfl ?_
              refine .cons (.move (.at rfl rfl) (.s rfl)) rfl ?_
              refine .cons (.nilCheckR (.at rfl rfl) (.tmp rfl id)) rfl ?_
              refine .cons (.fieldAddr (.at rfl rfl) fd63_2 hfd63_2 (.tmp rfl id)) rfl ?_
              refine .cons (.load (.at rfl rfl) ty61 (.tmp rfl id)) rfl ?_
              refine .cons (.fieldAddr (.at rfl rfl) fd43_0 hfd43_0 (.s rfl)) rfl ?_
              refine .cons (.load (.at rfl rfl) ty9 (.tmp rfl id)) rfl ?_
              refine .cons (.lookup (.at rfl rfl) mo61 zo59 (.tmp rfl id) (.tmp rfl id)) rfl ?_
              refine .cons (.len (.at rfl rfl) sl59 (.tmp rfl id)) rfl ?_
              refine .cons (.eqI (.at rfl rfl) (.tmp rfl id) (.int (by decide))) rfl ?_
              refine .cons (.pickAnd .none (.s rfl) (.tmp rfl id)) rfl ?_
              refine .nil ?_
              refine .then ?_
              refine .cond (t := 118) rfl trivial (fun hb31 => ?_) (fun hb31 => ?_)
              · replace h := bif_t h hb31
                refine .seq ?_
                refine .region [] mixed (by kernel_rfl) ?_
                refine .cons (.assign .none (.int (by decide))) rfl ?_
                refine .nil ?_
                refine .then ?_
                refine .ret ?_
                refine .blkRet ?_
                refine .thenRet ?_
                refine .thenRet ?_
                refine .blkRet ?_
                refine .thenRet ?_
                replace h := resd_ab hK28 (some_eq h)
                replace h := hD26 _ (some_eq h)
                replace h := resb_ab hK25 (some_eq h)
                obtain rfl := some_eq h
                exact Ends.ret1 (.inl rfl) Tryd.results50 (ResOK.tmp rfl trivial Imp.refl)
              · replace h := bif_f h hb31
                refine .skip ?_
                refine .blkNormal ?_
                exact Ends.join _ (some_eq h) (.cons (t := 0) rfl (.cons (t := 99) rfl (.cons (t := 100) rfl (.cons (t := 101) rfl Sub.nil)))) SubB.nil
            · have h := resd_nx hK28 hj28
              refine .region [] mixed (by kernel_rfl) ?_
              refine .cons (.addW .none (.s rfl) (.int (by decide))) rfl ?_
              refine .cons (.move .none (.s rfl)) rfl ?_
              refine .nil ?_
              exact Ends.againL (some_eq h) (.cons (t := 101) rfl (.cons (t := 0) rfl (.cons (t := 99) rfl (.cons (t := 100) rfl Sub.nil)))) SubB.nil
          · replace h := bif_f h hb27
            refine .exit ?_
            refine .thenExit ?_
            refine .thenExit ?_
            refine .blkExit ?_
            replace h := hD26 _ (some_eq h)
            exact Ends.join _ (some_eq h) Sub.nil SubB.nil
        · have h := resb_nx hK25 hj25
          refine .seq ?_
          refine .region [] mixed (by kernel_rfl) ?_
          refine .cons (.assign .none (.int (by decide))) rfl ?_
          refine .nil ?_
          refine .then ?_
          refine .ret ?_
          obtain rfl := some_eq h
          exact Ends.ret1 (.inl rfl) Tryd.results50 (ResOK.tmp rfl trivial Imp.refl)

theorem page_view_checkEnd_ok {v1 : Page_view} {x1 : DEnd} {r : Int}  (h : page_view_checkEnd v1 x1 = some r) : FSpec Tryd.prog 96 [ref v1, rep x1] (rep r) := by
  unfold page_view_checkEnd at h
  refine FSpec.intro (n := 50) fnok96 Tryd.func96 rfl Tryd.ntmps96 rfl (fun F => ?_)
  refine .seq ?_
  refine .region [] mixed (by kernel_rfl) ?_
  refine .cons (.box .none (.s rfl)) rfl ?_
  refine .cons (.assign .none (.int (by decide))) rfl ?_
  refine .nil ?_
  refine .then ?_
  refine .seq ?_
  refine .region [] mixed (by kernel_rfl) ?_
  refine .cons (.move .none (.s rfl)) rfl ?_
  refine .cons (.nilCheckR .none (.s rfl)) rfl ?_
  refine .cons (.fieldAddr .none fd63_1 hfd63_1 (.s rfl)) rfl ?_
  refine .cons (.load .none ty60 (.s rfl)) rfl ?_
  refine .cons (.fieldAddr .none fd93_0 hfd93_0 (.s rfl)) rfl ?_
  refine .cons (.load .none ty9 (.s rfl)) rfl ?_
  refine .cons (.lookupOk .none mo60 zo3 (.s rfl) (.s rfl)) rfl ?_
  refine .cons (.move .none (.s rfl)) rfl ?_
  refine .cons (.extract .none (.s rfl) rfl) rfl ?_
  refine .cons (.extract .none (.s rfl) rfl) rfl ?_
  refine .cons (.assign .none (.s rfl)) rfl ?_
  refine .cons (.assign .none (.s rfl)) rfl ?_
  refine .nil ?_
  refine .then ?_
  refine .seq ?_
  refine .block ?_
  refine .seq ?_
  refine .region [] mixed (by kernel_rfl) ?_
  refine .cons (.move .none (.s rfl)) rfl ?_
  refine .cons (.not .none (.s rfl)) rfl ?_
  refine .cons (.assign .none (.s rfl)) rfl ?_
  refine .nil ?_
  refine .then ?_
  refine .cond (t := 17) rfl trivial (fun hb1 => ?_) (fun hb1 => ?_)
  · replace h := bif_t h hb1
    refine .seq ?_
    refine .region [] mixed (by kernel_rfl) ?_
    refine .cons (.assign .none (.int (by decide))) rfl ?_
    refine .nil ?_
    refine .then ?_
    refine .ret ?_
    refine .blkRet ?_
    refine .thenRet ?_
    obtain rfl := some_eq h
    exact Ends.ret1 (.inl rfl) Tryd.results96 (ResOK.tmp rfl trivial Imp.refl)
  · replace h := bif_f h hb1
    refine .seq ?_
    refine .region [] mixed (by kernel_rfl) ?_
    refine .cons (.move .none (.s rfl)) rfl ?_
    refine .cons (.nilCheckR .none (.s rfl)) rfl ?_
    refine .cons (.fieldAddr .none fd63_0 hfd63_0 (.s rfl)) rfl ?_
    refine .cons (.fieldAddr .none fd25_0 hfd25_0 (.s rfl)) rfl ?_
    refine .cons (.load .none ty22 (.s rfl)) rfl ?_
    refine .cons (.move .none (.s rfl)) rfl ?_
    obtain ⟨hn2, h⟩ := need_some h
    refine .cons (.indexAddr .none sl22 ty43 (.s rfl) (.s rfl) (fun _ => hn2)) rfl ?_
    refine .cons (.fieldAddr .none fd43_1 hfd43_1 (.s rfl)) rfl ?_
    refine .cons (.load .none ty3 (.s rfl)) rfl ?_
    refine .cons (.eqI .none (.s rfl) (.int (by decide))) rfl ?_
    refine .cons (.assign .none (.s rfl)) rfl ?_
    refine .nil ?_
    refine .then ?_
    refine .cond (t := 20) rfl trivial (fun hb3 => ?_) (fun hb3 => ?_)
    · replace h := bif_t h hb3
      refine .seq ?_
      refine .region [] mixed (by kernel_rfl) ?_
      refine .cons (.assign .none (.int (by decide))) rfl ?_
      refine .nil ?_
      refine .then ?_
      refine .ret ?_
      refine .blkRet ?_
      refine .thenRet ?_
      obtain rfl := some_eq h
      exact Ends.ret1 (.inl rfl) Tryd.results96 (ResOK.tmp rfl trivial Imp.refl)
    · replace h := bif_f h hb3
      refine .seq ?_
      refine .region [] mixed (by kernel_rfl) ?_
      refine .cons (.fieldAddr .none fd93_1 hfd93_1 (.s rfl)) rfl ?_
      refine .cons (.load .none ty3 (.s rfl)) rfl ?_
      refine .cons (.lt .none (.s rfl) (.int (by decide))) rfl ?_
      refine .cons (.move .none (.s rfl)) rfl ?_
      refine .cons (.fieldAddr (.at rfl rfl) fd93_1 hfd93_1 (.s rfl)) rfl ?_
      refine .cons (.load (.at rfl rfl) ty3 (.tmp rfl id)) rfl ?_
      refine .cons (.gt (.at rfl rfl) (.tmp rfl id) (.int (by decide))) rfl ?_
      refine .cons (.pickOr .none (.s rfl) (.tmp rfl id)) rfl ?_
      refine .cons (.move .none (.s rfl)) rfl ?_
      refine .cons (.fieldAddr (.at rfl rfl) fd93_2 hfd93_2 (.s rfl)) rfl ?_
      refine .cons (.load (.at rfl rfl) ty3 (.tmp rfl id)) rfl ?_
      refine .cons (.lt (.at rfl rfl) (.tmp rfl id) (.int (by decide))) rfl ?_
      refine .cons (.pickOr .none (.s rfl) (.tmp rfl id)) rfl ?_
      refine .cons (.move .none (.s rfl)) rfl ?_
      refine .cons (.fieldAddr (.at rfl rfl) fd93_2 hfd93_2 (.s rfl)) rfl ?_
      refine .cons (.load (.at rfl rfl) ty3 (.tmp rfl id)) rfl ?_
      refine .cons (.gt (.at rfl rfl) (.tmp rfl id) (.int (by decide))) rfl ?_
      refine .cons (.pickOr .none (.s rfl) (.tmp rfl id)) rfl ?_
      refine .cons (.assign .none (.s rfl)) rfl ?_
      refine .nil ?_
      refine .then ?_
      refine .cond (t := 31) rfl trivial (fun hb4 => ?_) (fun hb4 => ?_)
      · replace h := bif_t h hb4
        refine .seq ?_
        refine .region [] mixed (by kernel_rfl) ?_
        refine .cons (.assign .none (.int (by decide))) rfl ?_
        refine .nil ?_
        refine .then ?_
        refine .ret ?_
        refine .blkRet ?_
        refine .thenRet ?_
        obtain rfl := some_eq h
        exact Ends.ret1 (.inl rfl) Tryd.results96 (ResOK.tmp rfl trivial Imp.refl)
      · replace h := bif_f h hb4
        refine .skip ?_
        refine .blkNormal ?_
        refine .then ?_
        refine .seq ?_
        refine .region [] mixed (by kernel_rfl) ?_
        refine .cons (.assign .none (.int (by decide))) rfl ?_
        refine .nil ?_
        refine .then ?_
        refine .ret ?_
        obtain rfl := some_eq h
        exact Ends.ret1 (.inl rfl) Tryd.results96 (ResOK.tmp rfl trivial Imp.refl)

theorem geom_CheckPoint_ok {p1 : Point} {r : Int}  (h : geom_CheckPoint p1 = some r) : FSpec Tryd.prog 127 [rep p1] (rep r) := by
  unfold geom_CheckPoint at h
  refine FSpec.intro (n := 11) fnok127 Tryd.func127 rfl Tryd.ntmps127 rfl (fun F => ?_)
  refine .seq ?_
  refine .region [] mixed (by kernel_rfl) ?_
  refine .cons (.box .none (.s rfl)) rfl ?_
  refine .cons (.assign .none (.int (by decide))) rfl ?_
  refine .nil ?_
  refine .then ?_
  refine .seq ?_
  refine .seq ?_
  refine .region [] mixed (by kernel_rfl) ?_
  refine .cons (.fieldAddr .none fd118_0 hfd118_0 (.s rfl)) rfl ?_
  refine .cons (.load .none ty3 (.s rfl)) rfl ?_
  obtain ⟨r1, hv1, h⟩ := bind_some h
  refine .cons (.call .none (geom_out_ok hv1) (.cons (.s rfl) .nil)) rfl ?_
  refine .cons (.move .none (.s rfl)) rfl ?_
  refine .cons (.fieldAddr (.at rfl rfl) fd118_1 hfd118_1 (.s rfl)) rfl ?_
  refine .cons (.load (.at rfl rfl) ty3 (.tmp rfl id)) rfl ?_
  obtain ⟨r2, hv2, h⟩ := bind_some h
  refine .cons (.callIf (.at rfl rfl) fnok113 (fun hg => geom_out_ok ((fun hg => gd_some hv2 ((notT hg.2))) hg)) (.cons (.tmp rfl id) .nil) (fun h => h)) rfl ?_
  refine .cons (.pickOr .none (.s rfl) (.tmp rfl id)) rfl ?_
  refine .nil ?_
  refine .then ?_
  refine .cond (t := 10) rfl trivial (fun hb3 => ?_) (fun hb3 => ?_)
  · replace h := bif_t h hb3
    refine .seq ?_
    refine .region [] mixed (by kernel_rfl) ?_
    refine .cons (.assign .none (.int (by decide))) rfl ?_
    refine .nil ?_
    refine .then ?_
    refine .ret ?_
    refine .thenRet ?_
    obtain rfl := some_eq h
    exact Ends.ret1 (.inl rfl) Tryd.results127 (ResOK.tmp rfl trivial Imp.refl)
  · replace h := bif_f h hb3
    refine .skip ?_
    refine .then ?_
    refine .seq ?_
    refine .region [] mixed (by kernel_rfl) ?_
    refine .cons (.assign .none (.int (by decide))) rfl ?_
    refine .nil ?_
    refine .then ?_
    refine .ret ?_
    obtain rfl := some_eq h
    exact Ends.ret1 (.inl rfl) Tryd.results127 (ResOK.tmp rfl trivial Imp.refl)

theorem geom_points_ok {l1 : (List Point)} {r : Int}  (h : geom_points l1 = some r) : FSpec Tryd.prog 115 [rep l1] (rep r) := by
  unfold geom_points at h
  refine FSpec.intro (n := 18) fnok115 Tryd.func115 rfl Tryd.ntmps115 rfl (fun F => ?_)
  refine .seq ?_
  refine .region [] mixed (by kernel_rfl) ?_
  refine .cons (.assign .none (.int (by decide))) rfl ?_
  refine .nil ?_
  refine .then ?_
  refine .seq ?_
  refine .seq ?_
  refine .region [] mixed (by kernel_rfl) ?_
  refine .cons (.move .none (.s rfl)) rfl ?_
  refine .cons (.len .none sl94 (.s rfl)) rfl ?_
  refine .cons (.move .none (.int (by decide))) rfl ?_
  refine .nil ?_
  refine .then ?_
  obtain ⟨o_1, h, hK1⟩ := bindR_some h
  refine .thenJ (ι := Unit) (fun j_1 => []) (fun j_1 => []) (fun s => o_1 = Res.nx s) Sub.nil SubB.nil ?_ (fun j_1 hj1 => ?_)
  · skip
    refine .block ?_
    refine .rforEL h (fun p2_ => [(8, ⟨True, rep p2_.1⟩)]) (fun p2_ => []) (.cons (t := 8) rfl Sub.nil) SubB.nil (.cons (t := 6) rfl (.cons (t := 7) rfl Sub.nil)) SubB.nil (fun p2_ o_2 h hD2 => ?_)
    refine .seq ?_
    refine .region [] mixed (by kernel_rfl) ?_
    refine .cons (.lt .none (.s rfl) (.s rfl)) rfl ?_
    refine .nil ?_
    refine .then ?_
    refine .seq ?_
    refine .cond (t := 9) rfl trivial (fun hb3 => ?_) (fun hb3 => ?_)
    · replace h := bif_t h hb3
      refine .skip ?_
      refine .then ?_
      refine .seq ?_
      obtain ⟨o_4, h, hK4⟩ := bindD_some h
      unfold geom_points_L1 at h
      refine .thenJ (ι := Unit) (fun j_4 => []) (fun j_4 => []) (fun s => o_4 = Res.nx s) (.cons (t := 6) rfl (.cons (t := 7) rfl (.cons (t := 8) rfl Sub.nil))) SubB.nil ?_ (fun j_4 hj4 => ?_)
      · skip
        refine .block ?_
        refine .seq ?_
        refine .region [([], []), ([], []), ([], [4]), ([4], [4])] mixed (by kernel_rfl) ?_
        obtain ⟨hn5, h⟩ := need_some h
        refine .consA (.indexAddr .none sl94 ty118 (.s rfl) (.s rfl) (fun _ => hn5)) rfl ?_
        obtain ⟨v1, hv6, h⟩ := bnd_some h
        refine .consA (.re hv6 (.load .none ty118 (.s rfl))) rfl ?_
        refine .consW (.alloc zo118 rfl) rfl rfl ?_
        refine .consN (.store ty118 rfl rfl (.s rfl)) rfl ?_
        refine .nil ?_
        refine .then ?_
        refine .freeze (t := 4) rfl rfl SubB.nil rfl ?_
        refine .seq ?_
        refine .region [] mixed (by kernel_rfl) ?_
        refine .cons (.load .none ty118 (.s rfl)) rfl ?_
        obtain ⟨e1, hv7, h⟩ := bind_some h
        refine .cons (.call .none (geom_CheckPoint_ok hv7) (.cons (.s rfl) .nil)) rfl ?_
        refine .cons (.assign .none (.s rfl)) rfl ?_
        refine .nil ?_
        refine .then ?_
        refine .seq ?_
        refine .region [] mixed (by kernel_rfl) ?_
        refine .cons (.move .none (.s rfl)) rfl ?_
        refine .cons (.neI .none (.s rfl) (.int (by decide))) rfl ?_
        refine .nil ?_
        refine .then ?_
        refine .cond (t := 15) rfl trivial (fun hb8 => ?_) (fun hb8 => ?_)
        · replace h := bif_t h hb8
          refine .seq ?_
          refine .region [] mixed (by kernel_rfl) ?_
          refine .cons (.move .none (.s rfl)) rfl ?_
          refine .cons (.assign .none (.s rfl)) rfl ?_
          refine .nil ?_
          refine .then ?_
          refine .ret ?_
          refine .blkRet ?_
          refine .thenRet ?_
          refine .thenRet ?_
          refine .blkRet ?_
          refine .thenRet ?_
          replace h := resd_ab hK4 (some_eq h)
          replace h := hD2 _ (some_eq h)
          replace h := resb_ab hK1 (some_eq h)
          obtain rfl := some_eq h
          exact Ends.ret1 (.inl rfl) Tryd.results115 (ResOK.tmp rfl trivial Imp.refl)
        · replace h := bif_f h hb8
          refine .skip ?_
          refine .blkNormal ?_
          exact Ends.join _ (some_eq h) (.cons (t := 6) rfl (.cons (t := 7) rfl (.cons (t := 8) rfl Sub.nil))) SubB.nil
      · have h := resd_nx hK4 hj4
        refine .region [] mixed (by kernel_rfl) ?_
        refine .cons (.addW .none (.s rfl) (.int (by decide))) rfl ?_
        refine .cons (.move .none (.s rfl)) rfl ?_
        refine .nil ?_
        exact Ends.againL (some_eq h) (.cons (t := 8) rfl (.cons (t := 6) rfl (.cons (t := 7) rfl Sub.nil))) SubB.nil
    · replace h := bif_f h hb3
      refine .exit ?_
      refine .thenExit ?_
      refine .thenExit ?_
      refine .blkExit ?_
      replace h := hD2 _ (some_eq h)
      exact Ends.join _ (some_eq h) Sub.nil SubB.nil
  · have h := resb_nx hK1 hj1
    refine .seq ?_
    refine .region [] mixed (by kernel_rfl) ?_
    refine .cons (.assign .none (.int (by decide))) rfl ?_
    refine .nil ?_
    refine .then ?_
    refine .ret ?_
    obtain rfl := some_eq h
    exact Ends.ret1 (.inl rfl) Tryd.results115 (ResOK.tmp rfl trivial Imp.refl)

theorem geom_CheckPoints_ok {l1 : (List Point)} {r : Int}  (h : geom_CheckPoints l1 = some r) : FSpec Tryd.prog 97 [rep l1] (rep r) := by
  unfold geom_CheckPoints at h
  refine FSpec.intro (n := 8) fnok97 Tryd.func97 rfl Tryd.ntmps97 rfl (fun F => ?_)
  refine .seq ?_
  refine .region [] mixed (by kernel_rfl) ?_
  refine .cons (.assign .none (.int (by decide))) rfl ?_
  refine .nil ?_
  refine .then ?_
  refine .seq ?_
  refine .seq ?_
  refine .region [] mixed (by kernel_rfl) ?_
  refine .cons (.move .none (.s rfl)) rfl ?_
  refine .cons (.len .none sl94 (.s rfl)) rfl ?_
  refine .cons (.gt .none (.s rfl) (.int (by decide))) rfl ?_
  refine .nil ?_
  refine .then ?_
  refine .cond (t := 5) rfl trivial (fun hb1 => ?_) (fun hb1 => ?_)
  · replace h := bif_t h hb1
    refine .seq ?_
    refine .region [] mixed (by kernel_rfl) ?_
    refine .cons (.assign .none (.int (by decide))) rfl ?_
    refine .nil ?_
    refine .then ?_
    refine .ret ?_
    refine .thenRet ?_
    obtain rfl := some_eq h
    exact Ends.ret1 (.inl rfl) Tryd.results97 (ResOK.tmp rfl trivial Imp.refl)
  · replace h := bif_f h hb1
    refine .skip ?_
    refine .then ?_
    refine .seq ?_
    refine .region [] mixed (by kernel_rfl) ?_
    refine .cons (.move .none (.s rfl)) rfl ?_
    obtain ⟨r1, hv2, h⟩ := bind_some h
    refine .cons (.call .none (geom_points_ok hv2) (.cons (.s rfl) .nil)) rfl ?_
    refine .cons (.assign .none (.s rfl)) rfl ?_
    refine .nil ?_
    refine .then ?_
    refine .ret ?_
    obtain rfl := some_eq h
    exact Ends.ret1 (.inl rfl) Tryd.results97 (ResOK.tmp rfl trivial Imp.refl)

theorem page_view_checkEdge_ok {v1 : Page_view} {x1 : DEdge} {twice1 : Bool} {r : Int}  (h : page_view_checkEdge v1 x1 twice1 = some r) : FSpec Tryd.prog 51 [ref v1, rep x1, rep twice1] (rep r) := by
  unfold page_view_checkEdge at h
  refine FSpec.intro (n := 61) fnok51 Tryd.func51 rfl Tryd.ntmps51 rfl (fun F => ?_)
  refine .seq ?_
  refine .region [] mixed (by kernel_rfl) ?_
  refine .cons (.box .none (.s rfl)) rfl ?_
  refine .cons (.assign .none (.int (by decide))) rfl ?_
  refine .nil ?_
  refine .then ?_
  refine .seq ?_
  refine .block ?_
  refine .seq ?_
  refine .region [] mixed (by kernel_rfl) ?_
  refine .cons (.fieldAddr .none fd96_0 hfd96_0 (.s rfl)) rfl ?_
  refine .cons (.load .none ty9 (.s rfl)) rfl ?_
  obtain ⟨r1, hv1, h⟩ := bind_some h
  refine .cons (.call .none (page_isName_ok hv1) (.cons (.s rfl) .nil)) rfl ?_
  refine .cons (.not .none (.s rfl)) rfl ?_
  refine .cons (.assign .none (.s rfl)) rfl ?_
  refine .nil ?_
  refine .then ?_
  refine .cond (t := 12) rfl trivial (fun hb2 => ?_) (fun hb2 => ?_)
  · replace h := bif_t h hb2
    refine .seq ?_
    refine .region [] mixed (by kernel_rfl) ?_
    refine .cons (.assign .none (.int (by decide))) rfl ?_
    refine .nil ?_
    refine .then ?_
    refine .ret ?_
    refine .blkRet ?_
    refine .thenRet ?_
    obtain rfl := some_eq h
    exact Ends.ret1 (.inl rfl) Tryd.results51 (ResOK.tmp rfl trivial Imp.refl)
  · replace h := bif_f h hb2
    refine .seq ?_
    refine .region [] mixed (by kernel_rfl) ?_
    refine .cons (.move .none (.s rfl)) rfl ?_
    refine .cons (.assign .none (.s rfl)) rfl ?_
    refine .nil ?_
    refine .then ?_
    refine .cond (t := 17) rfl trivial (fun hb3 => ?_) (fun hb3 => ?_)
    · replace h := bif_t h hb3
      refine .seq ?_
      refine .region [] mixed (by kernel_rfl) ?_
      refine .cons (.assign .none (.int (by decide))) rfl ?_
      refine .nil ?_
      refine .then ?_
      refine .ret ?_
      refine .blkRet ?_
      refine .thenRet ?_
      obtain rfl := some_eq h
      exact Ends.ret1 (.inl rfl) Tryd.results51 (ResOK.tmp rfl trivial Imp.refl)
    · replace h := bif_f h hb3
      refine .skip ?_
      refine .blkNormal ?_
      refine .then ?_
      refine .seq ?_
      refine .seq ?_
      refine .region [] mixed (by kernel_rfl) ?_
      refine .cons (.fieldAddr .none fd96_1 hfd96_1 (.s rfl)) rfl ?_
      refine .cons (.load .none ty93 (.s rfl)) rfl ?_
      refine .cons (.fieldAddr .none fd96_2 hfd96_2 (.s rfl)) rfl ?_
      refine .cons (.load .none ty93 (.s rfl)) rfl ?_
      obtain ⟨v2, hv4, h⟩ := bnd_some h
      refine .cons (.re hv4 (.buildSlice (xs := [_, _]) .none sl127 ty93 hz93 (.cons (.s rfl) (.cons (.s rfl) .nil)) rfl (by decide))) rfl ?_
      refine .cons (.len .none sl127 (.s rfl)) rfl ?_
      refine .cons (.move .none (.int (by decide))) rfl ?_
      refine .nil ?_
      refine .then ?_
      obtain ⟨o_5, h, hK5⟩ := bindR_some h
      refine .thenJ (ι := Unit) (fun j_5 => []) (fun j_5 => []) (fun s => o_5 = Res.nx s) (.cons (t := 4) rfl Sub.nil) SubB.nil ?_ (fun j_5 hj5 => ?_)
      · skip
        refine .block ?_
        refine .rforEL h (fun p6_ => [(25, ⟨True, rep p6_.1⟩)]) (fun p6_ => []) (.cons (t := 25) rfl Sub.nil) SubB.nil (.cons (t := 0) rfl (.cons (t := 4) rfl (.cons (t := 23) rfl (.cons (t := 24) rfl Sub.nil)))) SubB.nil (fun p6_ o_6 h hD6 => ?_)
        refine .seq ?_
        refine .region [] mixed (by kernel_rfl) ?_
        refine .cons (.lt .none (.s rfl) (.s rfl)) rfl ?_
        refine .nil ?_
        refine .then ?_
        refine .seq ?_
        refine .cond (t := 26) rfl trivial (fun hb7 => ?_) (fun hb7 => ?_)
        · replace h := bif_t h hb7
          refine .skip ?_
          refine .then ?_
          refine .seq ?_
          obtain ⟨o_8, h, hK8⟩ := bindD_some h
          unfold page_view_checkEdge_L1 at h
          refine .thenJ (ι := Unit) (fun j_8 => []) (fun j_8 => []) (fun s => o_8 = Res.nx s) (.cons (t := 0) rfl (.cons (t := 4) rfl (.cons (t := 23) rfl (.cons (t := 24) rfl (.cons (t := 25) rfl Sub.nil))))) SubB.nil ?_ (fun j_8 hj8 => ?_)
          · skip
            refine .block ?_
            refine .seq ?_
            refine .region [([], []), ([], []), ([], [8]), ([8], [8])] mixed (by kernel_rfl) ?_
            obtain ⟨hn9, h⟩ := need_some h
            refine .consA (.indexAddr .none sl127 ty93 (.s rfl) (.s rfl) (fun _ => hn9)) rfl ?_
            obtain ⟨v3, hv10, h⟩ := bnd_some h
            refine .consA (.re hv10 (.load .none ty93 (.s rfl))) rfl ?_
            refine .consW (.alloc zo93 rfl) rfl rfl ?_
            refine .consN (.store ty93 rfl rfl (.s rfl)) rfl ?_
            refine .nil ?_
            refine .then ?_
            refine .freeze (t := 8) rfl rfl SubB.nil rfl ?_
            refine .seq ?_
            refine .region [] mixed (by kernel_rfl) ?_
            refine .cons (.move .none (.s rfl)) rfl ?_
            refine .cons (.load .none ty93 (.s rfl)) rfl ?_
            obtain ⟨e1, hv11, h⟩ := bind_some h
            refine .cons (.call .none (page_view_checkEnd_ok hv11) (.cons (.s rfl) (.cons (.s rfl) .nil))) rfl ?_
            refine .cons (.assign .none (.s rfl)) rfl ?_
            refine .nil ?_
            refine .then ?_
            refine .seq ?_
            refine .region [] mixed (by kernel_rfl) ?_
            refine .cons (.move .none (.s rfl)) rfl ?_
            refine .cons (.neI .none (.s rfl) (.int (by decide))) rfl ?_
            refine .nil ?_
            refine .then ?_
            refine .cond (t := 33) rfl trivial (fun hb12 => ?_) (fun hb12 => ?_)
            · replace h := bif_t h hb12
              refine .seq ?_
              refine .region [] mixed (by kernel_rfl) ?_
              refine .cons (.move .none (.s rfl)) rfl ?_
              refine .cons (.assign .none (.s rfl)) rfl ?_
              refine .nil ?_
              refine .then ?_
              refine .ret ?_
              refine .blkRet ?_
              refine .thenRet ?_
              refine .thenRet ?_
              refine .blkRet ?_
              refine .thenRet ?_
              replace h := resd_ab hK8 (some_eq h)
              replace h := hD6 _ (some_eq h)
              replace h := resb_ab hK5 (some_eq h)
              obtain rfl := some_eq h
              exact Ends.ret1 (.inl rfl) Tryd.results51 (ResOK.tmp rfl trivial Imp.refl)
            · replace h := bif_f h hb12
              refine .skip ?_
              refine .blkNormal ?_
              exact Ends.join _ (some_eq h) (.cons (t := 0) rfl (.cons (t := 4) rfl (.cons (t := 23) rfl (.cons (t := 24) rfl (.cons (t := 25) rfl Sub.nil))))) SubB.nil
          · have h := resd_nx hK8 hj8
            refine .region [] mixed (by kernel_rfl) ?_
            refine .cons (.addW .none (.s rfl) (.int (by decide))) rfl ?_
            refine .cons (.move .none (.s rfl)) rfl ?_
            refine .nil ?_
            exact Ends.againL (some_eq h) (.cons (t := 25) rfl (.cons (t := 0) rfl (.cons (t := 4) rfl (.cons (t := 23) rfl (.cons (t := 24) rfl Sub.nil))))) SubB.nil
        · replace h := bif_f h hb7
          refine .exit ?_
          refine .thenExit ?_
          refine .thenExit ?_
          refine .blkExit ?_
          replace h := hD6 _ (some_eq h)
          exact Ends.join _ (some_eq h) (.cons (t := 4) rfl Sub.nil) SubB.nil
      · have h := resb_nx hK5 hj5
        refine .seq ?_
        refine .seq ?_
        refine .region [] mixed (by kernel_rfl) ?_
        refine .cons (.fieldAddr .none fd96_3 hfd96_3 (.s rfl)) rfl ?_
        refine .cons (.load .none ty94 (.s rfl)) rfl ?_
        refine .cons (.len .none sl94 (.s rfl)) rfl ?_
        refine .cons (.gt .none (.s rfl) (.int (by decide))) rfl ?_
        refine .nil ?_
        refine .then ?_
        refine .cond (t := 39) rfl trivial (fun hb13 => ?_) (fun hb13 => ?_)
        · replace h := bif_t h hb13
          refine .seq ?_
          refine .region [] mixed (by kernel_rfl) ?_
          refine .cons (.assign .none (.int (by decide))) rfl ?_
          refine .nil ?_
          refine .then ?_
          refine .ret ?_
          refine .thenRet ?_
          obtain rfl := some_eq h
          exact Ends.ret1 (.inl rfl) Tryd.results51 (ResOK.tmp rfl trivial Imp.refl)
        · replace h := bif_f h hb13
          refine .skip ?_
          refine .then ?_
          refine .seq ?_
          refine .seq ?_
          refine .region [] mixed (by kernel_rfl) ?_
          refine .cons (.fieldAddr .none fd96_3 hfd96_3 (.s rfl)) rfl ?_
          refine .cons (.load .none ty94 (.s rfl)) rfl ?_
          obtain ⟨e2, hv14, h⟩ := bind_some h
          refine .cons (.call .none (geom_CheckPoints_ok hv14) (.cons (.s rfl) .nil)) rfl ?_
          refine .cons (.assign .none (.s rfl)) rfl ?_
          refine .nil ?_
          refine .then ?_
          refine .seq ?_
          refine .region [] mixed (by kernel_rfl) ?_
          refine .cons (.move .none (.s rfl)) rfl ?_
          refine .cons (.neI .none (.s rfl) (.int (by decide))) rfl ?_
          refine .nil ?_
          refine .then ?_
          refine .cond (t := 44) rfl trivial (fun hb15 => ?_) (fun hb15 => ?_)
          · replace h := bif_t h hb15
            refine .seq ?_
            refine .region [] mixed (by kernel_rfl) ?_
            refine .cons (.move .none (.s rfl)) rfl ?_
            refine .cons (.assign .none (.s rfl)) rfl ?_
            refine .nil ?_
            refine .then ?_
            refine .ret ?_
            refine .thenRet ?_
            obtain rfl := some_eq h
            exact Ends.ret1 (.inl rfl) Tryd.results51 (ResOK.tmp rfl trivial Imp.refl)
          · replace h := bif_f h hb15
            refine .skip ?_
            refine .then ?_
            refine .seq ?_
            refine .seq ?_
            refine .region [] mixed (by kernel_rfl) ?_
            refine .cons (.fieldAddr .none fd96_4 hfd96_4 (.s rfl)) rfl ?_
            refine .cons (.load .none ty9 (.s rfl)) rfl ?_
            obtain ⟨e3, hv16, h⟩ := bind_some h
            refine .cons (.call .none (shape_CheckText_ok hv16) (.cons (.s rfl) .nil)) rfl ?_
            refine .cons (.assign .none (.s rfl)) rfl ?_
            refine .nil ?_
            refine .then ?_
            refine .seq ?_
            refine .region [] mixed (by kernel_rfl) ?_
            refine .cons (.move .none (.s rfl)) rfl ?_
            refine .cons (.neI .none (.s rfl) (.int (by decide))) rfl ?_
            refine .nil ?_
            refine .then ?_
            refine .cond (t := 50) rfl trivial (fun hb17 => ?_) (fun hb17 => ?_)
            · replace h := bif_t h hb17
              refine .seq ?_
              refine .region [] mixed (by kernel_rfl) ?_
              refine .cons (.move .none (.s rfl)) rfl ?_
              refine .cons (.assign .none (.s rfl)) rfl ?_
              refine .nil ?_
              refine .then ?_
              refine .ret ?_
              refine .thenRet ?_
              obtain rfl := some_eq h
              exact Ends.ret1 (.inl rfl) Tryd.results51 (ResOK.tmp rfl trivial Imp.refl)
            · replace h := bif_f h hb17
              refine .skip ?_
              refine .then ?_
              refine .seq ?_
              refine .seq ?_
              refine .region [] mixed (by kernel_rfl) ?_
              refine .cons (.fieldAddr .none fd96_5 hfd96_5 (.s rfl)) rfl ?_
              refine .cons (.load .none ty9 (.s rfl)) rfl ?_
              refine .cons (.neS .none (eqAt_str Tryd.underlying9) (.s rfl) (.str (l := []) (by decide))) rfl ?_
              refine .cons (.move .none (.s rfl)) rfl ?_
              refine .cons (.fieldAddr (.at rfl rfl) fd96_5 hfd96_5 (.s rfl)) rfl ?_
              refine .cons (.load (.at rfl rfl) ty9 (.tmp rfl id)) rfl ?_
              obtain ⟨r2, hv18, h⟩ := bind_some h
              refine .cons (.callIf (.at rfl rfl) fnok92 (fun hg => page_isName_ok ((fun hg => gd_some hv18 (hg.2)) hg)) (.cons (.tmp rfl id) .nil) (fun h => h)) rfl ?_
              refine .cons (.not (.at rfl rfl) (.tmp rfl id)) rfl ?_
              refine .cons (.pickAnd .none (.s rfl) (.tmp rfl id)) rfl ?_
              refine .nil ?_
              refine .then ?_
              refine .cond (t := 60) rfl trivial (fun hb19 => ?_) (fun hb19 => ?_)
              · replace h := bif_t h hb19
                refine .seq ?_
                refine .region [] mixed (by kernel_rfl) ?_
                refine .cons (.assign .none (.int (by decide))) rfl ?_
                refine .nil ?_
                refine .then ?_
                refine .ret ?_
                refine .thenRet ?_
                obtain rfl := some_eq h
                exact Ends.ret1 (.inl rfl) Tryd.results51 (ResOK.tmp rfl trivial Imp.refl)
              · replace h := bif_f h hb19
                refine .skip ?_
                refine .then ?_
                refine .seq ?_
                refine .region [] mixed (by kernel_rfl) ?_
                refine .cons (.assign .none (.int (by decide))) rfl ?_
                refine .nil ?_
                refine .then ?_
                refine .ret ?_
                obtain rfl := some_eq h
                exact Ends.ret1 (.inl rfl) Tryd.results51 (ResOK.tmp rfl trivial Imp.refl)

theorem geom_boxes_ok {l1 : (List Box)} {r : Int}  (h : geom_boxes l1 = some r) : FSpec Tryd.prog 108 [rep l1] (rep r) := by
  unfold geom_boxes at h
  refine FSpec.intro (n := 18) fnok108 Tryd.func108 rfl Tryd.ntmps108 rfl (fun F => ?_)
  refine .seq ?_
  refine .region [] mixed (by kernel_rfl) ?_
  refine .cons (.assign .none (.int (by decide))) rfl ?_
  refine .nil ?_
  refine .then ?_
  refine .seq ?_
  refine .seq ?_
  refine .region [] mixed (by kernel_rfl) ?_
  refine .cons (.move .none (.s rfl)) rfl ?_
  refine .cons (.len .none sl51 (.s rfl)) rfl ?_
  refine .cons (.move .none (.int (by decide))) rfl ?_
  refine .nil ?_
  refine .then ?_
  obtain ⟨o_1, h, hK1⟩ := bindR_some h
  refine .thenJ (ι := Unit) (fun j_1 => []) (fun j_1 => []) (fun s => o_1 = Res.nx s) Sub.nil SubB.nil ?_ (fun j_1 hj1 => ?_)
  · skip
    refine .block ?_
    refine .rforEL h (fun p2_ => [(8, ⟨True, rep p2_.1⟩)]) (fun p2_ => []) (.cons (t := 8) rfl Sub.nil) SubB.nil (.cons (t := 6) rfl (.cons (t := 7) rfl Sub.nil)) SubB.nil (fun p2_ o_2 h hD2 => ?_)
    refine .seq ?_
    refine .region [] mixed (by kernel_rfl) ?_
    refine .cons (.lt .none (.s rfl) (.s rfl)) rfl ?_
    refine .nil ?_
    refine .then ?_
    refine .seq ?_
    refine .cond (t := 9) rfl trivial (fun hb3 => ?_) (fun hb3 => ?_)
    · replace h := bif_t h hb3
      refine .skip ?_
      refine .then ?_
      refine .seq ?_
      obtain ⟨o_4, h, hK4⟩ := bindD_some h
      unfold geom_boxes_L1 at h
      refine .thenJ (ι := Unit) (fun j_4 => []) (fun j_4 => []) (fun s => o_4 = Res.nx s) (.cons (t := 6) rfl (.cons (t := 7) rfl (.cons (t := 8) rfl Sub.nil))) SubB.nil ?_ (fun j_4 hj4 => ?_)
      · skip
        refine .block ?_
        refine .seq ?_
        refine .region [([], []), ([], []), ([], [4]), ([4], [4])] mixed (by kernel_rfl) ?_
        obtain ⟨hn5, h⟩ := need_some h
        refine .consA (.indexAddr .none sl51 ty41 (.s rfl) (.s rfl) (fun _ => hn5)) rfl ?_
        obtain ⟨v1, hv6, h⟩ := bnd_some h
        refine .consA (.re hv6 (.load .none ty41 (.s rfl))) rfl ?_
        refine .consW (.alloc zo41 rfl) rfl rfl ?_
        refine .consN (.store ty41 rfl rfl (.s rfl)) rfl ?_
        refine .nil ?_
        refine .then ?_
        refine .freeze (t := 4) rfl rfl SubB.nil rfl ?_
        refine .seq ?_
        refine .region [] mixed (by kernel_rfl) ?_
        refine .cons (.load .none ty41 (.s rfl)) rfl ?_
        obtain ⟨e1, hv7, h⟩ := bind_some h
        refine .cons (.call .none (geom_CheckBox_ok hv7) (.cons (.s rfl) .nil)) rfl ?_
        refine .cons (.assign .none (.s rfl)) rfl ?_
        refine .nil ?_
        refine .then ?_
        refine .seq ?_
        refine .region [] mixed (by kernel_rfl) ?_
        refine .cons (.move .none (.s rfl)) rfl ?_
        refine .cons (.neI .none (.s rfl) (.int (by decide))) rfl ?_
        refine .nil ?_
        refine .then ?_
        refine .cond (t := 15) rfl trivial (fun hb8 => ?_) (fun hb8 => ?_)
        · replace h := bif_t h hb8
          refine .seq ?_
          refine .region [] mixed (by kernel_rfl) ?_
          refine .cons (.move .none (.s rfl)) rfl ?_
          refine .cons (.assign .none (.s rfl)) rfl ?_
          refine .nil ?_
          refine .then ?_
          refine .ret ?_
          refine .blkRet ?_
          refine .thenRet ?_
          refine .thenRet ?_
          refine .blkRet ?_
          refine .thenRet ?_
          replace h := resd_ab hK4 (some_eq h)
          replace h := hD2 _ (some_eq h)
          replace h := resb_ab hK1 (some_eq h)
          obtain rfl := some_eq h
          exact Ends.ret1 (.inl rfl) Tryd.results108 (ResOK.tmp rfl trivial Imp.refl)
        · replace h := bif_f h hb8
          refine .skip ?_
          refine .blkNormal ?_
          exact Ends.join _ (some_eq h) (.cons (t := 6) rfl (.cons (t := 7) rfl (.cons (t := 8) rfl Sub.nil))) SubB.nil
      · have h := resd_nx hK4 hj4
        refine .region [] mixed (by kernel_rfl) ?_
        refine .cons (.addW .none (.s rfl) (.int (by decide))) rfl ?_
        refine .cons (.move .none (.s rfl)) rfl ?_
        refine .nil ?_
        exact Ends.againL (some_eq h) (.cons (t := 8) rfl (.cons (t := 6) rfl (.cons (t := 7) rfl Sub.nil))) SubB.nil
    · replace h := bif_f h hb3
      refine .exit ?_
      refine .thenExit ?_
      refine .thenExit ?_
      refine .blkExit ?_
      replace h := hD2 _ (some_eq h)
      exact Ends.join _ (some_eq h) Sub.nil SubB.nil
  · have h := resb_nx hK1 hj1
    refine .seq ?_
    refine .region [] mixed (by kernel_rfl) ?_
    refine .cons (.assign .none (.int (by decide))) rfl ?_
    refine .nil ?_
    refine .then ?_
    refine .ret ?_
    obtain rfl := some_eq h
    exact Ends.ret1 (.inl rfl) Tryd.results108 (ResOK.tmp rfl trivial Imp.refl)

theorem geom_Hull_ok {l1 : (List Box)} {r : (Box × Int)}  (h : geom_Hull l1 = some r) : FSpec Tryd.prog 84 [rep l1] (tup [rep r.1, rep r.2]) := by
  unfold geom_Hull at h
  refine FSpec.intro (n := 83) fnok84 Tryd.func84 rfl Tryd.ntmps84 rfl (fun F => ?_)
  refine .seq ?_
  refine .region [([], [2]), ([], [])] mixed (by kernel_rfl) ?_
  refine .consW (.alloc zo41 rfl) rfl rfl ?_
  refine .consA (.assign .none (.int (by decide))) rfl ?_
  refine .nil ?_
  refine .then ?_
  obtain ⟨v1, hv1, h⟩ := bnd_some h
  refine .reB (t := 2) rfl (congrArg (cont 41) hv1) ?_
  refine .nameBox (t := 2) (g := 5001) rfl rfl (fun m5001 => ?_)
  refine .seq ?_
  refine .seq ?_
  refine .region [] mixed (by kernel_rfl) ?_
  refine .cons (.move .none (.s rfl)) rfl ?_
  refine .cons (.len .none sl51 (.s rfl)) rfl ?_
  refine .cons (.gt .none (.s rfl) (.int (by decide))) rfl ?_
  refine .nil ?_
  refine .then ?_
  refine .cond (t := 12) rfl trivial (fun hb2 => ?_) (fun hb2 => ?_)
  · replace h := bif_t h hb2
    refine .seq ?_
    refine .region [([], []), ([5001], [5001]), ([], [])] mixed (by kernel_rfl) ?_
    obtain ⟨v2, hv3, h⟩ := bnd_some h
    refine .consA (.re hv3 (.buildF (y := (⟨(0 : Int), (0 : Int), (0 : Int), (0 : Int)⟩ : Box)) .none bu41 zc41 rfl .nil .nil)) rfl ?_
    refine .consN (.storeAt0 (g := 5001) ty41 rfl (.s rfl) (.s rfl)) rfl ?_
    refine .consA (.assign .none (.int (by decide))) rfl ?_
    refine .nil ?_
    refine .then ?_
    refine .freezeBox (g := 5001) (ts := [2]) rfl (.cons (t := 2) rfl trivial .nil) SubB.nil rfl ?_
    refine .ret ?_
    refine .thenRet ?_
    obtain rfl := some_eq h
    exact Ends.ret2 (.inl rfl) Tryd.results84 (ResOK.cellR ty41 rfl trivial Imp.refl) (ResOK.tmp rfl trivial Imp.refl)
  · replace h := bif_f h hb2
    refine .skip ?_
    refine .then ?_
    refine .seq ?_
    refine .seq ?_
    refine .region [] mixed (by kernel_rfl) ?_
    refine .cons (.move .none (.s rfl)) rfl ?_
    obtain ⟨e1, hv4, h⟩ := bind_some h
    refine .cons (.call .none (geom_boxes_ok hv4) (.cons (.s rfl) .nil)) rfl ?_
    refine .cons (.assign .none (.s rfl)) rfl ?_
    refine .nil ?_
    refine .then ?_
    refine .seq ?_
    refine .region [] mixed (by kernel_rfl) ?_
    refine .cons (.move .none (.s rfl)) rfl ?_
    refine .cons (.neI .none (.s rfl) (.int (by decide))) rfl ?_
    refine .nil ?_
    refine .then ?_
    refine .cond (t := 17) rfl trivial (fun hb5 => ?_) (fun hb5 => ?_)
    · replace h := bif_t h hb5
      refine .seq ?_
      refine .region [([], []), ([], []), ([5001], [5001]), ([], [])] mixed (by kernel_rfl) ?_
      obtain ⟨v3, hv6, h⟩ := bnd_some h
      refine .consA (.re hv6 (.buildF (y := (⟨(0 : Int), (0 : Int), (0 : Int), (0 : Int)⟩ : Box)) .none bu41 zc41 rfl .nil .nil)) rfl ?_
      refine .consA (.move .none (.s rfl)) rfl ?_
      refine .consN (.storeAt0 (g := 5001) ty41 rfl (.s rfl) (.s rfl)) rfl ?_
      refine .consA (.assign .none (.s rfl)) rfl ?_
      refine .nil ?_
      refine .then ?_
      refine .freezeBox (g := 5001) (ts := [2]) rfl (.cons (t := 2) rfl trivial .nil) SubB.nil rfl ?_
      refine .ret ?_
      refine .thenRet ?_
      obtain rfl := some_eq h
      exact Ends.ret2 (.inl rfl) Tryd.results84 (ResOK.cellR ty41 rfl trivial Imp.refl) (ResOK.tmp rfl trivial Imp.refl)
    · replace h := bif_f h hb5
      refine .skip ?_
      refine .then ?_
      refine .seq ?_
      refine .seq ?_
      refine .region [] mixed (by kernel_rfl) ?_
      refine .cons (.move .none (.s rfl)) rfl ?_
      refine .cons (.len .none sl51 (.s rfl)) rfl ?_
      refine .cons (.eqI .none (.s rfl) (.int (by decide))) rfl ?_
      refine .nil ?_
      refine .then ?_
      refine .cond (t := 22) rfl trivial (fun hb7 => ?_) (fun hb7 => ?_)
      · replace h := bif_t h hb7
        refine .seq ?_
        refine .region [([], []), ([5001], [5001]), ([], [])] mixed (by kernel_rfl) ?_
        obtain ⟨v4, hv8, h⟩ := bnd_some h
        refine .consA (.re hv8 (.buildF (y := (⟨(0 : Int), (0 : Int), (0 : Int), (0 : Int)⟩ : Box)) .none bu41 zc41 rfl .nil .nil)) rfl ?_
        refine .consN (.storeAt0 (g := 5001) ty41 rfl (.s rfl) (.s rfl)) rfl ?_
        refine .consA (.assign .none (.int (by decide))) rfl ?_
        refine .nil ?_
        refine .then ?_
        refine .freezeBox (g := 5001) (ts := [2]) rfl (.cons (t := 2) rfl trivial .nil) SubB.nil rfl ?_
        refine .ret ?_
        refine .thenRet ?_
        obtain rfl := some_eq h
        exact Ends.ret2 (.inl rfl) Tryd.results84 (ResOK.cellR ty41 rfl trivial Imp.refl) (ResOK.tmp rfl trivial Imp.refl)
      · replace h := bif_f h hb7
        refine .skip ?_
        refine .then ?_
        refine .seq ?_
        refine .region [([], []), ([], []), ([], []), ([], [5]), ([5], [5])] mixed (by kernel_rfl) ?_
        refine .consA (.move .none (.s rfl)) rfl ?_
        obtain ⟨hn9, h⟩ := need_some h
        refine .consA (.indexAddr .none sl51 ty41 (.s rfl) (.int (by decide)) (fun _ => hn9)) rfl ?_
        obtain ⟨v5, hv10, h⟩ := bnd_some h
        refine .consA (.re hv10 (.load .none ty41 (.s rfl))) rfl ?_
        refine .consW (.alloc zo41 rfl) rfl rfl ?_
        refine .consN (.store ty41 rfl rfl (.s rfl)) rfl ?_
        refine .nil ?_
        refine .then ?_
        refine .nameBox (t := 5) (g := 5002) rfl rfl (fun m5002 => ?_)
        refine .seq ?_
        refine .seq ?_
        refine .region [] mixed (by kernel_rfl) ?_
        refine .cons (.move .none (.s rfl)) rfl ?_
        refine .cons (.len .none sl51 (.s rfl)) rfl ?_
        refine .cons (.move .none (.int (by decide))) rfl ?_
        refine .nil ?_
        refine .then ?_
        obtain ⟨j_11, h, hK11⟩ := bind_some h
        refine .thenJ (ι := Box) (fun j_11 => []) (fun j_11 => [(5002, some (boxAt m5002 41 j_11))]) (fun s => j_11 = s) (.cons (t := 2) rfl (.cons (t := 5) rfl Sub.nil)) (.cons (t := 5001) rfl SubB.nil) ?_ (fun j_11' hj11 => ?_)
        · skip
          refine .block ?_
          refine .rforL h (fun p12_ => [(29, ⟨True, rep p12_.1⟩)]) (fun p12_ => [(5002, some (boxAt m5002 41 p12_.2))]) (.cons (t := 29) rfl Sub.nil) (.cons (t := 5002) rfl SubB.nil) (.cons (t := 2) rfl (.cons (t := 5) rfl (.cons (t := 27) rfl (.cons (t := 28) rfl Sub.nil)))) (.cons (t := 5001) rfl SubB.nil) (fun p12_ o_12 h hD12 => ?_)
          refine .seq ?_
          refine .region [] mixed (by kernel_rfl) ?_
          refine .cons (.lt .none (.s rfl) (.s rfl)) rfl ?_
          refine .nil ?_
          refine .then ?_
          refine .seq ?_
          refine .cond (t := 30) rfl trivial (fun hb13 => ?_) (fun hb13 => ?_)
          · replace h := bif_t h hb13
            refine .skip ?_
            refine .then ?_
            refine .seq ?_
            obtain ⟨j_14, h, hK14⟩ := bind_some h
            unfold geom_Hull_L1 at h
            refine .thenJ (ι := Box) (fun j_14 => []) (fun j_14 => [(5002, some (boxAt m5002 41 j_14))]) (fun s => j_14 = s) (.cons (t := 2) rfl (.cons (t := 5) rfl (.cons (t := 27) rfl (.cons (t := 28) rfl (.cons (t := 29) rfl Sub.nil))))) (.cons (t := 5001) rfl SubB.nil) ?_ (fun j_14' hj14 => ?_)
            · skip
              refine .block ?_
              refine .seq ?_
              refine .region [([], []), ([], []), ([], [7]), ([7], [7])] mixed (by kernel_rfl) ?_
              obtain ⟨hn15, h⟩ := need_some h
              refine .consA (.indexAddr .none sl51 ty41 (.s rfl) (.s rfl) (fun _ => hn15)) rfl ?_
              obtain ⟨v6, hv16, h⟩ := bnd_some h
              refine .consA (.re hv16 (.load .none ty41 (.s rfl))) rfl ?_
              refine .consW (.alloc zo41 rfl) rfl rfl ?_
              refine .consN (.store ty41 rfl rfl (.s rfl)) rfl ?_
              refine .nil ?_
              refine .then ?_
              refine .freeze (t := 7) rfl rfl (.cons (t := 5001) rfl (.cons (t := 5002) rfl SubB.nil)) rfl ?_
              refine .seq ?_
              refine .region [([], []), ([5002], []), ([], []), ([], []), ([], []), ([], []), ([5002], []), ([], []), ([], []), ([], []), ([], []), ([], [])] mixed (by kernel_rfl) ?_
              refine .consA (.fieldPtr .none fd41_0 (.s rfl)) rfl ?_
              refine .consA (.loadAt (k := 5002) .none ty3 rfl (.s rfl) hfd41_0) rfl ?_
              refine .consA (.fieldAddr .none fd41_0 hfd41_0 (.s rfl)) rfl ?_
              refine .consA (.load .none ty3 (.s rfl)) rfl ?_
              refine .consA (.min2 .none (.s rfl) (.s rfl)) rfl ?_
              refine .consA (.fieldPtr .none fd41_1 (.s rfl)) rfl ?_
              refine .consA (.loadAt (k := 5002) .none ty3 rfl (.s rfl) hfd41_1) rfl ?_
              refine .consA (.fieldAddr .none fd41_1 hfd41_1 (.s rfl)) rfl ?_
              refine .consA (.load .none ty3 (.s rfl)) rfl ?_
              refine .consA (.min2 .none (.s rfl) (.s rfl)) rfl ?_
              obtain ⟨x1, hv17, h⟩ := bnd_some h
              refine .consA (.re hv17 (.assign .none (.s rfl))) rfl ?_
              obtain ⟨y1, hv18, h⟩ := bnd_some h
              refine .consA (.re hv18 (.assign .none (.s rfl))) rfl ?_
              refine .nil ?_
              refine .then ?_
              refine .region [([], []), ([], []), ([], []), ([5002], []), ([], []), ([5002], []), ([], []), ([], []), ([], []), ([], []), ([], []), ([], []), ([], []), ([], []), ([], []), ([], []), ([5002], []), ([], []), ([5002], []), ([], []), ([], []), ([], []), ([], []), ([], []), ([], []), ([], []), ([], []), ([], []), ([], []), ([5002], [5002])] mixed (by kernel_rfl) ?_
              refine .consA (.move .none (.s rfl)) rfl ?_
              refine .consA (.move .none (.s rfl)) rfl ?_
              refine .consA (.fieldPtr .none fd41_0 (.s rfl)) rfl ?_
              refine .consA (.loadAt (k := 5002) .none ty3 rfl (.s rfl) hfd41_0) rfl ?_
              refine .consA (.fieldPtr .none fd41_2 (.s rfl)) rfl ?_
              refine .consA (.loadAt (k := 5002) .none ty3 rfl (.s rfl) hfd41_2) rfl ?_
              refine .consA (.addW .none (.s rfl) (.s rfl)) rfl ?_
              refine .consA (.fieldAddr .none fd41_0 hfd41_0 (.s rfl)) rfl ?_
              refine .consA (.load .none ty3 (.s rfl)) rfl ?_
              refine .consA (.fieldAddr .none fd41_2 hfd41_2 (.s rfl)) rfl ?_
              refine .consA (.load .none ty3 (.s rfl)) rfl ?_
              refine .consA (.addW .none (.s rfl) (.s rfl)) rfl ?_
              refine .consA (.max2 .none (.s rfl) (.s rfl)) rfl ?_
              refine .consA (.move .none (.s rfl)) rfl ?_
              refine .consA (.subW .none (.s rfl) (.s rfl)) rfl ?_
              refine .consA (.fieldPtr .none fd41_1 (.s rfl)) rfl ?_
              refine .consA (.loadAt (k := 5002) .none ty3 rfl (.s rfl) hfd41_1) rfl ?_
              refine .consA (.fieldPtr .none fd41_3 (.s rfl)) rfl ?_
              refine .consA (.loadAt (k := 5002) .none ty3 rfl (.s rfl) hfd41_3) rfl ?_
              refine .consA (.addW .none (.s rfl) (.s rfl)) rfl ?_
              refine .consA (.fieldAddr .none fd41_1 hfd41_1 (.s rfl)) rfl ?_
              refine .consA (.load .none ty3 (.s rfl)) rfl ?_
              refine .consA (.fieldAddr .none fd41_3 hfd41_3 (.s rfl)) rfl ?_
              refine .consA (.load .none ty3 (.s rfl)) rfl ?_
              refine .consA (.addW .none (.s rfl) (.s rfl)) rfl ?_
              refine .consA (.max2 .none (.s rfl) (.s rfl)) rfl ?_
              refine .consA (.move .none (.s rfl)) rfl ?_
              refine .consA (.subW .none (.s rfl) (.s rfl)) rfl ?_
              obtain ⟨v7, hv19, h⟩ := bnd_some h
              refine .consA (.re hv19 (.buildF (y := (⟨x1, y1, W ((max (W (p12_.2.X + p12_.2.W_)) (W (v6.X + v6.W_))) - x1), W ((max (W (p12_.2.Y + p12_.2.H)) (W (v6.Y + v6.H))) - y1)⟩ : Box)) .none bu41 zc41 rfl (.cons (.s rfl) (.cons (.s rfl) (.cons (.s rfl) (.cons (.s rfl) .nil)))) (.cons rfl sf41_0 (.cons rfl sf41_1 (.cons rfl sf41_2 (.cons rfl sf41_3 .nil)))))) rfl ?_
              refine .consN (.storeAt0 (g := 5002) ty41 rfl (.s rfl) (.s rfl)) rfl ?_
              refine .nil ?_
              refine .blkNormal ?_
              exact Ends.join _ (some_eq h) (.cons (t := 2) rfl (.cons (t := 5) rfl (.cons (t := 27) rfl (.cons (t := 28) rfl (.cons (t := 29) rfl Sub.nil))))) (.cons (t := 5002) rfl (.cons (t := 5001) rfl SubB.nil))
            · subst hj14; have h := hK14; clear hK14
              refine .region [] mixed (by kernel_rfl) ?_
              refine .cons (.addW .none (.s rfl) (.int (by decide))) rfl ?_
              refine .cons (.move .none (.s rfl)) rfl ?_
              refine .nil ?_
              exact Ends.againL (some_eq h) (.cons (t := 29) rfl (.cons (t := 2) rfl (.cons (t := 5) rfl (.cons (t := 27) rfl (.cons (t := 28) rfl Sub.nil))))) (.cons (t := 5002) rfl (.cons (t := 5001) rfl SubB.nil))
          · replace h := bif_f h hb13
            refine .exit ?_
            refine .thenExit ?_
            refine .thenExit ?_
            refine .blkExit ?_
            replace h := hD12 _ (some_eq h)
            exact Ends.join _ (some_eq h) (.cons (t := 2) rfl (.cons (t := 5) rfl Sub.nil)) (.cons (t := 5002) rfl (.cons (t := 5001) rfl SubB.nil))
        · subst hj11; have h := hK11; clear hK11
          refine .freezeBox (g := 5002) (ts := [5]) rfl (.cons (t := 5) rfl trivial .nil) (.cons (t := 5001) rfl SubB.nil) rfl ?_
          refine .seq ?_
          refine .seq ?_
          refine .region [] mixed (by kernel_rfl) ?_
          refine .cons (.fieldAddr .none fd41_2 hfd41_2 (.s rfl)) rfl ?_
          refine .cons (.load .none ty3 (.s rfl)) rfl ?_
          refine .cons (.gt .none (.s rfl) (.int (by decide))) rfl ?_
          refine .cons (.move .none (.s rfl)) rfl ?_
          refine .cons (.fieldAddr (.at rfl rfl) fd41_3 hfd41_3 (.s rfl)) rfl ?_
          refine .cons (.load (.at rfl rfl) ty3 (.tmp rfl id)) rfl ?_
          refine .cons (.gt (.at rfl rfl) (.tmp rfl id) (.int (by decide))) rfl ?_
          refine .cons (.pickOr .none (.s rfl) (.tmp rfl id)) rfl ?_
          refine .nil ?_
          refine .then ?_
          refine .cond (t := 80) rfl trivial (fun hb20 => ?_) (fun hb20 => ?_)
          · replace h := bif_t h hb20
            refine .seq ?_
            refine .region [([], []), ([5001], [5001]), ([], [])] mixed (by kernel_rfl) ?_
            obtain ⟨v8, hv21, h⟩ := bnd_some h
            refine .consA (.re hv21 (.buildF (y := (⟨(0 : Int), (0 : Int), (0 : Int), (0 : Int)⟩ : Box)) .none bu41 zc41 rfl .nil .nil)) rfl ?_
            refine .consN (.storeAt0 (g := 5001) ty41 rfl (.s rfl) (.s rfl)) rfl ?_
            refine .consA (.assign .none (.int (by decide))) rfl ?_
            refine .nil ?_
            refine .then ?_
            refine .freezeBox (g := 5001) (ts := [2]) rfl (.cons (t := 2) rfl trivial .nil) SubB.nil rfl ?_
            refine .ret ?_
            refine .thenRet ?_
            obtain rfl := some_eq h
            exact Ends.ret2 (.inl rfl) Tryd.results84 (ResOK.cellR ty41 rfl trivial Imp.refl) (ResOK.tmp rfl trivial Imp.refl)
          · replace h := bif_f h hb20
            refine .skip ?_
            refine .then ?_
            refine .seq ?_
            refine .region [([], []), ([5001], [5001]), ([], [])] mixed (by kernel_rfl) ?_
            refine .consA (.load .none ty41 (.s rfl)) rfl ?_
            refine .consN (.storeAt0 (g := 5001) ty41 rfl (.s rfl) (.s rfl)) rfl ?_
            refine .consA (.assign .none (.int (by decide))) rfl ?_
            refine .nil ?_
            refine .then ?_
            refine .freezeBox (g := 5001) (ts := [2]) rfl (.cons (t := 2) rfl trivial .nil) SubB.nil rfl ?_
            refine .ret ?_
            obtain rfl := some_eq h
            exact Ends.ret2 (.inl rfl) Tryd.results84 (ResOK.cellR ty41 rfl trivial Imp.refl) (ResOK.tmp rfl trivial Imp.refl)

theorem geom_Grow_ok {b1 : Box} {n1 : Int} {r : (Box × Int)}  (h : geom_Grow b1 n1 = some r) : FSpec Tryd.prog 98 [rep b1, rep n1] (tup [rep r.1, rep r.2]) := by
  unfold geom_Grow at h
  refine FSpec.intro (n := 57) fnok98 Tryd.func98 rfl Tryd.ntmps98 rfl (fun F => ?_)
  refine .seq ?_
  refine .region [([], []), ([], [4]), ([], [])] mixed (by kernel_rfl) ?_
  refine .consA (.box .none (.s rfl)) rfl ?_
  refine .consW (.alloc zo41 rfl) rfl rfl ?_
  refine .consA (.assign .none (.int (by decide))) rfl ?_
  refine .nil ?_
  refine .then ?_
  obtain ⟨v1, hv1, h⟩ := bnd_some h
  refine .reB (t := 4) rfl (congrArg (cont 41) hv1) ?_
  refine .nameBox (t := 4) (g := 5001) rfl rfl (fun m5001 => ?_)
  refine .seq ?_
  refine .seq ?_
  refine .region [] mixed (by kernel_rfl) ?_
  refine .cons (.load .none ty41 (.s rfl)) rfl ?_
  obtain ⟨e1, hv2, h⟩ := bind_some h
  refine .cons (.call .none (geom_CheckBox_ok hv2) (.cons (.s rfl) .nil)) rfl ?_
  refine .cons (.assign .none (.s rfl)) rfl ?_
  refine .nil ?_
  refine .then ?_
  refine .seq ?_
  refine .region [] mixed (by kernel_rfl) ?_
  refine .cons (.move .none (.s rfl)) rfl ?_
  refine .cons (.neI .none (.s rfl) (.int (by decide))) rfl ?_
  refine .nil ?_
  refine .then ?_
  refine .cond (t := 12) rfl trivial (fun hb3 => ?_) (fun hb3 => ?_)
  · replace h := bif_t h hb3
    refine .seq ?_
    refine .region [([], []), ([], []), ([5001], [5001]), ([], [])] mixed (by kernel_rfl) ?_
    obtain ⟨v2, hv4, h⟩ := bnd_some h
    refine .consA (.re hv4 (.buildF (y := (⟨(0 : Int), (0 : Int), (0 : Int), (0 : Int)⟩ : Box)) .none bu41 zc41 rfl .nil .nil)) rfl ?_
    refine .consA (.move .none (.s rfl)) rfl ?_
    refine .consN (.storeAt0 (g := 5001) ty41 rfl (.s rfl) (.s rfl)) rfl ?_
    refine .consA (.assign .none (.s rfl)) rfl ?_
    refine .nil ?_
    refine .then ?_
    refine .freezeBox (g := 5001) (ts := [4]) rfl (.cons (t := 4) rfl trivial .nil) SubB.nil rfl ?_
    refine .ret ?_
    refine .thenRet ?_
    obtain rfl := some_eq h
    exact Ends.ret2 (.inl rfl) Tryd.results98 (ResOK.cellR ty41 rfl trivial Imp.refl) (ResOK.tmp rfl trivial Imp.refl)
  · replace h := bif_f h hb3
    refine .skip ?_
    refine .then ?_
    refine .seq ?_
    refine .seq ?_
    refine .region [] mixed (by kernel_rfl) ?_
    refine .cons (.move .none (.s rfl)) rfl ?_
    refine .cons (.lt .none (.s rfl) (.int (by decide))) rfl ?_
    refine .cons (.move .none (.s rfl)) rfl ?_
    refine .cons (.move (.at rfl rfl) (.s rfl)) rfl ?_
    refine .cons (.gt (.at rfl rfl) (.tmp rfl id) (.int (by decide))) rfl ?_
    refine .cons (.pickOr .none (.s rfl) (.tmp rfl id)) rfl ?_
    refine .nil ?_
    refine .then ?_
    refine .cond (t := 20) rfl trivial (fun hb5 => ?_) (fun hb5 => ?_)
    · replace h := bif_t h hb5
      refine .seq ?_
      refine .region [([], []), ([5001], [5001]), ([], [])] mixed (by kernel_rfl) ?_
      obtain ⟨v3, hv6, h⟩ := bnd_some h
      refine .consA (.re hv6 (.buildF (y := (⟨(0 : Int), (0 : Int), (0 : Int), (0 : Int)⟩ : Box)) .none bu41 zc41 rfl .nil .nil)) rfl ?_
      refine .consN (.storeAt0 (g := 5001) ty41 rfl (.s rfl) (.s rfl)) rfl ?_
      refine .consA (.assign .none (.int (by decide))) rfl ?_
      refine .nil ?_
      refine .then ?_
      refine .freezeBox (g := 5001) (ts := [4]) rfl (.cons (t := 4) rfl trivial .nil) SubB.nil rfl ?_
      refine .ret ?_
      refine .thenRet ?_
      obtain rfl := some_eq h
      exact Ends.ret2 (.inl rfl) Tryd.results98 (ResOK.cellR ty41 rfl trivial Imp.refl) (ResOK.tmp rfl trivial Imp.refl)
    · replace h := bif_f h hb5
      refine .skip ?_
      refine .then ?_
      refine .seq ?_
      refine .region [([], []), ([], []), ([], []), ([], []), ([], []), ([], []), ([], []), ([], []), ([], []), ([], []), ([], []), ([], []), ([], []), ([], []), ([], []), ([], []), ([], []), ([], []), ([], []), ([], [7]), ([7], [7])] mixed (by kernel_rfl) ?_
      refine .consA (.fieldAddr .none fd41_0 hfd41_0 (.s rfl)) rfl ?_
      refine .consA (.load .none ty3 (.s rfl)) rfl ?_
      refine .consA (.move .none (.s rfl)) rfl ?_
      refine .consA (.subW .none (.s rfl) (.s rfl)) rfl ?_
      refine .consA (.fieldAddr .none fd41_1 hfd41_1 (.s rfl)) rfl ?_
      refine .consA (.load .none ty3 (.s rfl)) rfl ?_
      refine .consA (.move .none (.s rfl)) rfl ?_
      refine .consA (.subW .none (.s rfl) (.s rfl)) rfl ?_
      refine .consA (.fieldAddr .none fd41_2 hfd41_2 (.s rfl)) rfl ?_
      refine .consA (.load .none ty3 (.s rfl)) rfl ?_
      refine .consA (.move .none (.s rfl)) rfl ?_
      refine .consA (.mulW .none (.int (by decide)) (.s rfl)) rfl ?_
      refine .consA (.addW .none (.s rfl) (.s rfl)) rfl ?_
      refine .consA (.fieldAddr .none fd41_3 hfd41_3 (.s rfl)) rfl ?_
      refine .consA (.load .none ty3 (.s rfl)) rfl ?_
      refine .consA (.move .none (.s rfl)) rfl ?_
      refine .consA (.mulW .none (.int (by decide)) (.s rfl)) rfl ?_
      refine .consA (.addW .none (.s rfl) (.s rfl)) rfl ?_
      obtain ⟨v4, hv7, h⟩ := bnd_some h
      refine .consA (.re hv7 (.buildF (y := (⟨W (b1.X - n1), W (b1.Y - n1), W (b1.W_ + (W (2 * n1))), W (b1.H + (W (2 * n1)))⟩ : Box)) .none bu41 zc41 rfl (.cons (.s rfl) (.cons (.s rfl) (.cons (.s rfl) (.cons (.s rfl) .nil)))) (.cons rfl sf41_0 (.cons rfl sf41_1 (.cons rfl sf41_2 (.cons rfl sf41_3 .nil)))))) rfl ?_
      refine .consW (.alloc zo41 rfl) rfl rfl ?_
      refine .consN (.store ty41 rfl rfl (.s rfl)) rfl ?_
      refine .nil ?_
      refine .then ?_
      refine .freeze (t := 7) rfl rfl (.cons (t := 5001) rfl SubB.nil) rfl ?_
      refine .seq ?_
      refine .seq ?_
      refine .region [] mixed (by kernel_rfl) ?_
      refine .cons (.fieldAddr .none fd41_2 hfd41_2 (.s rfl)) rfl ?_
      refine .cons (.load .none ty3 (.s rfl)) rfl ?_
      refine .cons (.lt .none (.s rfl) (.int (by decide))) rfl ?_
      refine .cons (.move .none (.s rfl)) rfl ?_
      refine .cons (.fieldAddr (.at rfl rfl) fd41_3 hfd41_3 (.s rfl)) rfl ?_
      refine .cons (.load (.at rfl rfl) ty3 (.tmp rfl id)) rfl ?_
      refine .cons (.lt (.at rfl rfl) (.tmp rfl id) (.int (by decide))) rfl ?_
      refine .cons (.pickOr .none (.s rfl) (.tmp rfl id)) rfl ?_
      refine .nil ?_
      refine .then ?_
      refine .cond (t := 48) rfl trivial (fun hb8 => ?_) (fun hb8 => ?_)
      · replace h := bif_t h hb8
        refine .seq ?_
        refine .region [([], []), ([5001], [5001]), ([], [])] mixed (by kernel_rfl) ?_
        obtain ⟨v5, hv9, h⟩ := bnd_some h
        refine .consA (.re hv9 (.buildF (y := (⟨(0 : Int), (0 : Int), (0 : Int), (0 : Int)⟩ : Box)) .none bu41 zc41 rfl .nil .nil)) rfl ?_
        refine .consN (.storeAt0 (g := 5001) ty41 rfl (.s rfl) (.s rfl)) rfl ?_
        refine .consA (.assign .none (.int (by decide))) rfl ?_
        refine .nil ?_
        refine .then ?_
        refine .freezeBox (g := 5001) (ts := [4]) rfl (.cons (t := 4) rfl trivial .nil) SubB.nil rfl ?_
        refine .ret ?_
        refine .thenRet ?_
        obtain rfl := some_eq h
        exact Ends.ret2 (.inl rfl) Tryd.results98 (ResOK.cellR ty41 rfl trivial Imp.refl) (ResOK.tmp rfl trivial Imp.refl)
      · replace h := bif_f h hb8
        refine .skip ?_
        refine .then ?_
        refine .seq ?_
        refine .seq ?_
        refine .region [] mixed (by kernel_rfl) ?_
        refine .cons (.load .none ty41 (.s rfl)) rfl ?_
        obtain ⟨e2, hv10, h⟩ := bind_some h
        refine .cons (.call .none (geom_CheckBox_ok hv10) (.cons (.s rfl) .nil)) rfl ?_
        refine .cons (.assign .none (.s rfl)) rfl ?_
        refine .nil ?_
        refine .then ?_
        refine .seq ?_
        refine .region [] mixed (by kernel_rfl) ?_
        refine .cons (.move .none (.s rfl)) rfl ?_
        refine .cons (.neI .none (.s rfl) (.int (by decide))) rfl ?_
        refine .nil ?_
        refine .then ?_
        refine .cond (t := 53) rfl trivial (fun hb11 => ?_) (fun hb11 => ?_)
        · replace h := bif_t h hb11
          refine .seq ?_
          refine .region [([], []), ([], []), ([5001], [5001]), ([], [])] mixed (by kernel_rfl) ?_
          obtain ⟨v6, hv12, h⟩ := bnd_some h
          refine .consA (.re hv12 (.buildF (y := (⟨(0 : Int), (0 : Int), (0 : Int), (0 : Int)⟩ : Box)) .none bu41 zc41 rfl .nil .nil)) rfl ?_
          refine .consA (.move .none (.s rfl)) rfl ?_
          refine .consN (.storeAt0 (g := 5001) ty41 rfl (.s rfl) (.s rfl)) rfl ?_
          refine .consA (.assign .none (.s rfl)) rfl ?_
          refine .nil ?_
          refine .then ?_
          refine .freezeBox (g := 5001) (ts := [4]) rfl (.cons (t := 4) rfl trivial .nil) SubB.nil rfl ?_
          refine .ret ?_
          refine .thenRet ?_
          obtain rfl := some_eq h
          exact Ends.ret2 (.inl rfl) Tryd.results98 (ResOK.cellR ty41 rfl trivial Imp.refl) (ResOK.tmp rfl trivial Imp.refl)
        · replace h := bif_f h hb11
          refine .skip ?_
          refine .then ?_
          refine .seq ?_
          refine .region [([], []), ([5001], [5001]), ([], [])] mixed (by kernel_rfl) ?_
          refine .consA (.load .none ty41 (.s rfl)) rfl ?_
          refine .consN (.storeAt0 (g := 5001) ty41 rfl (.s rfl) (.s rfl)) rfl ?_
          refine .consA (.assign .none (.int (by decide))) rfl ?_
          refine .nil ?_
          refine .then ?_
          refine .freezeBox (g := 5001) (ts := [4]) rfl (.cons (t := 4) rfl trivial .nil) SubB.nil rfl ?_
          refine .ret ?_
          obtain rfl := some_eq h
          exact Ends.ret2 (.inl rfl) Tryd.results98 (ResOK.cellR ty41 rfl trivial Imp.refl) (ResOK.tmp rfl trivial Imp.refl)

theorem page_view_boxOf_okS {self : (Page_view × Int) → Option (Box × Int)} (hself : ∀  (x : (Page_view × Int)) (r : (Box × Int)), self x = some r → FSpec Tryd.prog 52 [ref x.1, rep x.2] (tup [rep r.1, rep r.2]))  {x : (Page_view × Int)} {r : (Box × Int)} (h : page_view_boxOf_body self x = some r) : FSpec Tryd.prog 52 [ref x.1, rep x.2] (tup [rep r.1, rep r.2]) := by
  unfold page_view_boxOf_body at h
  refine FSpec.intro (n := 67) fnok52 Tryd.func52 rfl Tryd.ntmps52 rfl (fun F => ?_)
  refine .seq ?_
  refine .region [([], [4]), ([], [])] mixed (by kernel_rfl) ?_
  refine .consW (.alloc zo41 rfl) rfl rfl ?_
  refine .consA (.assign .none (.int (by decide))) rfl ?_
  refine .nil ?_
  refine .then ?_
  obtain ⟨v2, hv1, h⟩ := bnd_some h
  refine .reB (t := 4) rfl (congrArg (cont 41) hv1) ?_
  refine .nameBox (t := 4) (g := 5001) rfl rfl (fun m5001 => ?_)
  refine .seq ?_
  refine .region [([], []), ([], []), ([], []), ([], []), ([], []), ([], []), ([], []), ([], []), ([], [6]), ([6], [6])] mixed (by kernel_rfl) ?_
  refine .consA (.move .none (.s rfl)) rfl ?_
  refine .consA (.nilCheckR .none (.s rfl)) rfl ?_
  refine .consA (.fieldAddr .none fd63_0 hfd63_0 (.s rfl)) rfl ?_
  refine .consA (.fieldAddr .none fd25_0 hfd25_0 (.s rfl)) rfl ?_
  refine .consA (.load .none ty22 (.s rfl)) rfl ?_
  refine .consA (.move .none (.s rfl)) rfl ?_
  obtain ⟨hn2, h⟩ := need_some h
  refine .consA (.indexAddr .none sl22 ty43 (.s rfl) (.s rfl) (fun _ => hn2)) rfl ?_
  obtain ⟨v3, hv3, h⟩ := bnd_some h
  refine .consA (.re hv3 (.load .none ty43 (.s rfl))) rfl ?_
  refine .consW (.alloc zo43 rfl) rfl rfl ?_
  refine .consN (.store ty43 rfl rfl (.s rfl)) rfl ?_
  refine .nil ?_
  refine .then ?_
  refine .freeze (t := 6) rfl rfl (.cons (t := 5001) rfl SubB.nil) rfl ?_
  refine .seq ?_
  refine .seq ?_
  refine .region [] mixed (by kernel_rfl) ?_
  refine .cons (.fieldAddr .none fd43_1 hfd43_1 (.s rfl)) rfl ?_
  refine .cons (.load .none ty3 (.s rfl)) rfl ?_
  refine .cons (.neI .none (.s rfl) (.int (by decide))) rfl ?_
  refine .nil ?_
  refine .then ?_
  refine .cond (t := 24) rfl trivial (fun hb4 => ?_) (fun hb4 => ?_)
  · replace h := bif_t h hb4
    refine .seq ?_
    refine .region [([], []), ([], []), ([5001], [5001]), ([], [])] mixed (by kernel_rfl) ?_
    refine .consA (.fieldAddr .none fd43_2 hfd43_2 (.s rfl)) rfl ?_
    refine .consA (.load .none ty41 (.s rfl)) rfl ?_
    refine .consN (.storeAt0 (g := 5001) ty41 rfl (.s rfl) (.s rfl)) rfl ?_
    refine .consA (.assign .none (.int (by decide))) rfl ?_
    refine .nil ?_
    refine .then ?_
    refine .freezeBox (g := 5001) (ts := [4]) rfl (.cons (t := 4) rfl trivial .nil) SubB.nil rfl ?_
    refine .ret ?_
    refine .thenRet ?_
    obtain rfl := some_eq h
    exact Ends.ret2 (.inl rfl) Tryd.results52 (ResOK.cellR ty41 rfl trivial Imp.refl) (ResOK.tmp rfl trivial Imp.refl)
  · replace h := bif_f h hb4
    refine .skip ?_
    refine .then ?_
    refine .seq ?_
    refine .region [([], [7])] mixed (by kernel_rfl) ?_
    refine .consW (.nilRow (T := 41) (α := Box) rfl) rfl rfl ?_
    refine .nil ?_
    refine .then ?_
    refine .nameRow (t := 7) (g := 5002) rfl rfl rfl (fun s5002 => ?_)
    refine .seq ?_
    refine .seq ?_
    refine .region [] mixed (by kernel_rfl) ?_
    refine .cons (.move .none (.s rfl)) rfl ?_
    refine .cons (.nilCheckR .none (.s rfl)) rfl ?_
    refine .cons (.fieldAddr .none fd63_2 hfd63_2 (.s rfl)) rfl ?_
    refine .cons (.load .none ty61 (.s rfl)) rfl ?_
    refine .cons (.fieldAddr .none fd43_0 hfd43_0 (.s rfl)) rfl ?_
    refine .cons (.load .none ty9 (.s rfl)) rfl ?_
    obtain ⟨v4, hv5, h⟩ := bnd_some h
    refine .cons (.re hv5 (.lookup .none mo61 zo59 (.s rfl) (.s rfl))) rfl ?_
    refine .cons (.len .none sl59 (.s rfl)) rfl ?_
    refine .cons (.move .none (.int (by decide))) rfl ?_
    refine .nil ?_
    refine .then ?_
    obtain ⟨o_6, h, hK6⟩ := bindR_some h
    refine .thenJ (ι := (List Box)) (fun j_6 => []) (fun j_6 => [(7, some (rowV 41 j_6))]) (fun s => o_6 = Res.nx s) (.cons (t := 4) rfl Sub.nil) (.cons (t := 5001) rfl SubB.nil) ?_ (fun j_6 hj6 => ?_)
    · skip
      refine .block ?_
      refine .anon (t := 7) (g := 5002) rfl rfl trivial rfl ?_
      refine .rforEL h (fun p7_ => [(35, ⟨True, rep p7_.1⟩)]) (fun p7_ => [(7, some (rowV 41 p7_.2))]) (.cons (t := 35) rfl Sub.nil) (.cons (t := 7) rfl SubB.nil) (.cons (t := 0) rfl (.cons (t := 4) rfl (.cons (t := 33) rfl (.cons (t := 34) rfl Sub.nil)))) (.cons (t := 5001) rfl SubB.nil) (fun p7_ o_7 h hD7 => ?_)
      refine .nameRow (t := 7) (g := 5003) rfl rfl rfl (fun s5003 => ?_)
      refine .seq ?_
      refine .region [] mixed (by kernel_rfl) ?_
      refine .cons (.lt .none (.s rfl) (.s rfl)) rfl ?_
      refine .nil ?_
      refine .then ?_
      refine .seq ?_
      refine .cond (t := 36) rfl trivial (fun hb8 => ?_) (fun hb8 => ?_)
      · replace h := bif_t h hb8
        refine .skip ?_
        refine .then ?_
        refine .seq ?_
        obtain ⟨o_9, h, hK9⟩ := bindD_some h
        unfold page_view_boxOf_L1 at h
        refine .thenJ (ι := (List Box)) (fun j_9 => []) (fun j_9 => [(7, some (rowV 41 j_9))]) (fun s => o_9 = Res.nx s) (.cons (t := 0) rfl (.cons (t := 4) rfl (.cons (t := 33) rfl (.cons (t := 34) rfl (.cons (t := 35) rfl Sub.nil))))) (.cons (t := 5001) rfl SubB.nil) ?_ (fun j_9 hj9 => ?_)
        · skip
          refine .block ?_
          refine .seq ?_
          refine .region [] mixed (by kernel_rfl) ?_
          obtain ⟨hn10, h⟩ := need_some h
          refine .cons (.indexAddr .none sl59 ty3 (.s rfl) (.s rfl) (fun _ => hn10)) rfl ?_
          refine .cons (.load .none ty3 (.s rfl)) rfl ?_
          refine .cons (.assign .none (.s rfl)) rfl ?_
          refine .nil ?_
          refine .then ?_
          refine .seq ?_
          refine .region [([], []), ([], []), ([], []), ([], []), ([], []), ([], []), ([], [10]), ([10], [10]), ([], [])] mixed (by kernel_rfl) ?_
          refine .consA (.move .none (.s rfl)) rfl ?_
          refine .consA (.move .none (.s rfl)) rfl ?_
          obtain ⟨r1, hv11, h⟩ := bind_some h
          refine .consA (.call .none (hself _ _ hv11) (.cons (.s rfl) (.cons (.s rfl) .nil))) rfl ?_
          refine .consA (.move .none (.s rfl)) rfl ?_
          refine .consA (.extract .none (.s rfl) rfl) rfl ?_
          refine .consA (.extract .none (.s rfl) rfl) rfl ?_
          refine .consW (.alloc zo41 rfl) rfl rfl ?_
          refine .consN (.store ty41 rfl rfl (.s rfl)) rfl ?_
          refine .consA (.assign .none (.s rfl)) rfl ?_
          refine .nil ?_
          refine .then ?_
          refine .freeze (t := 10) rfl rfl (.cons (t := 5001) rfl (.cons (t := 5003) rfl SubB.nil)) rfl ?_
          refine .seq ?_
          refine .seq ?_
          refine .region [] mixed (by kernel_rfl) ?_
          refine .cons (.move .none (.s rfl)) rfl ?_
          refine .cons (.neI .none (.s rfl) (.int (by decide))) rfl ?_
          refine .nil ?_
          refine .then ?_
          refine .cond (t := 46) rfl trivial (fun hb12 => ?_) (fun hb12 => ?_)
          · replace h := bif_t h hb12
            refine .seq ?_
            refine .region [([], []), ([], []), ([5001], [5001]), ([], [])] mixed (by kernel_rfl) ?_
            obtain ⟨v5, hv13, h⟩ := bnd_some h
            refine .consA (.re hv13 (.buildF (y := (⟨(0 : Int), (0 : Int), (0 : Int), (0 : Int)⟩ : Box)) .none bu41 zc41 rfl .nil .nil)) rfl ?_
            refine .consA (.move .none (.s rfl)) rfl ?_
            refine .consN (.storeAt0 (g := 5001) ty41 rfl (.s rfl) (.s rfl)) rfl ?_
            refine .consA (.assign .none (.s rfl)) rfl ?_
            refine .nil ?_
            refine .then ?_
            refine .freezeBox (g := 5001) (ts := [4]) rfl (.cons (t := 4) rfl trivial .nil) SubB.nil rfl ?_
            refine .ret ?_
            refine .thenRet ?_
            refine .blkRet ?_
            refine .thenRet ?_
            refine .thenRet ?_
            refine .blkRet ?_
            refine .thenRet ?_
            replace h := resd_ab hK9 (some_eq h)
            replace h := hD7 _ (some_eq h)
            replace h := resb_ab hK6 (some_eq h)
            obtain rfl := some_eq h
            exact Ends.ret2 (.inl rfl) Tryd.results52 (ResOK.cellR ty41 rfl trivial Imp.refl) (ResOK.tmp rfl trivial Imp.refl)
          · replace h := bif_f h hb12
            refine .skip ?_
            refine .then ?_
            refine .region [([], []), ([], []), ([], []), ([5003], [52, 5003]), ([52], [7, 52])] mixed (by kernel_rfl) ?_
            refine .consA (.move .none (.s rfl)) rfl ?_
            refine .consA (.load .none ty41 (.s rfl)) rfl ?_
            refine .consA (.buildSlice (xs := [_]) .none sl51 ty41 hz41 (.cons (.s rfl) .nil) rfl (by decide)) rfl ?_
            obtain ⟨hn14, h⟩ := need_some h
            refine .consW (.append (k := 5003) rk51 rfl (.told (.s rfl) rfl) (.s rfl) hn14) rfl rfl ?_
            refine .consW (.passRow rfl (.tmp rfl)) rfl rfl ?_
            refine .nil ?_
            refine .blkNormal ?_
            exact Ends.join _ (some_eq h) (.cons (t := 0) rfl (.cons (t := 4) rfl (.cons (t := 33) rfl (.cons (t := 34) rfl (.cons (t := 35) rfl Sub.nil))))) (.cons (t := 7) rfl (.cons (t := 5001) rfl SubB.nil))
        · have h := resd_nx hK9 hj9
          refine .nameRow (t := 7) (g := 5004) rfl rfl rfl (fun s5004 => ?_)
          refine .region [] mixed (by kernel_rfl) ?_
          refine .cons (.addW .none (.s rfl) (.int (by decide))) rfl ?_
          refine .cons (.move .none (.s rfl)) rfl ?_
          refine .nil ?_
          refine .anon (t := 7) (g := 5004) rfl rfl trivial rfl ?_
          exact Ends.againL (some_eq h) (.cons (t := 35) rfl (.cons (t := 0) rfl (.cons (t := 4) rfl (.cons (t := 33) rfl (.cons (t := 34) rfl Sub.nil))))) (.cons (t := 7) rfl (.cons (t := 5001) rfl SubB.nil))
      · replace h := bif_f h hb8
        refine .exit ?_
        refine .thenExit ?_
        refine .thenExit ?_
        refine .blkExit ?_
        refine .anon (t := 7) (g := 5003) rfl rfl trivial rfl ?_
        replace h := hD7 _ (some_eq h)
        exact Ends.join _ (some_eq h) (.cons (t := 4) rfl Sub.nil) (.cons (t := 7) rfl (.cons (t := 5001) rfl SubB.nil))
    · have h := resb_nx hK6 hj6
      refine .freezeRowA (t := 7) rfl rfl (.cons (t := 5001) rfl SubB.nil) rfl ?_
      refine .seq ?_
      refine .region [([], []), ([], []), ([], []), ([], []), ([], []), ([], [12]), ([12], [12]), ([], [])] mixed (by kernel_rfl) ?_
      refine .consA (.move .none (.s rfl)) rfl ?_
      obtain ⟨r2, hv15, h⟩ := bind_some h
      refine .consA (.call .none (geom_Hull_ok hv15) (.cons (.s rfl) .nil)) rfl ?_
      refine .consA (.move .none (.s rfl)) rfl ?_
      refine .consA (.extract .none (.s rfl) rfl) rfl ?_
      refine .consA (.extract .none (.s rfl) rfl) rfl ?_
      refine .consW (.alloc zo41 rfl) rfl rfl ?_
      refine .consN (.store ty41 rfl rfl (.s rfl)) rfl ?_
      refine .consA (.assign .none (.s rfl)) rfl ?_
      refine .nil ?_
      refine .then ?_
      refine .freeze (t := 12) rfl rfl (.cons (t := 5001) rfl SubB.nil) rfl ?_
      refine .seq ?_
      refine .seq ?_
      refine .region [] mixed (by kernel_rfl) ?_
      refine .cons (.move .none (.s rfl)) rfl ?_
      refine .cons (.neI .none (.s rfl) (.int (by decide))) rfl ?_
      refine .nil ?_
      refine .then ?_
      refine .cond (t := 60) rfl trivial (fun hb16 => ?_) (fun hb16 => ?_)
      · replace h := bif_t h hb16
        refine .seq ?_
        refine .region [([], []), ([], []), ([5001], [5001]), ([], [])] mixed (by kernel_rfl) ?_
        obtain ⟨v6, hv17, h⟩ := bnd_some h
        refine .consA (.re hv17 (.buildF (y := (⟨(0 : Int), (0 : Int), (0 : Int), (0 : Int)⟩ : Box)) .none bu41 zc41 rfl .nil .nil)) rfl ?_
        refine .consA (.move .none (.s rfl)) rfl ?_
        refine .consN (.storeAt0 (g := 5001) ty41 rfl (.s rfl) (.s rfl)) rfl ?_
        refine .consA (.assign .none (.s rfl)) rfl ?_
        refine .nil ?_
        refine .then ?_
        refine .freezeBox (g := 5001) (ts := [4]) rfl (.cons (t := 4) rfl trivial .nil) SubB.nil rfl ?_
        refine .ret ?_
        refine .thenRet ?_
        obtain rfl := some_eq h
        exact Ends.ret2 (.inl rfl) Tryd.results52 (ResOK.cellR ty41 rfl trivial Imp.refl) (ResOK.tmp rfl trivial Imp.refl)
      · replace h := bif_f h hb16
        refine .skip ?_
        refine .then ?_
        refine .seq ?_
        refine .region [([], []), ([], []), ([], []), ([], []), ([5001], [5001]), ([], [])] mixed (by kernel_rfl) ?_
        refine .consA (.load .none ty41 (.s rfl)) rfl ?_
        obtain ⟨r3, hv18, h⟩ := bind_some h
        refine .consA (.call .none (geom_Grow_ok hv18) (.cons (.s rfl) (.cons (.int (by decide)) .nil))) rfl ?_
        refine .consA (.extract .none (.s rfl) rfl) rfl ?_
        refine .consA (.extract .none (.s rfl) rfl) rfl ?_
        refine .consN (.storeAt0 (g := 5001) ty41 rfl (.s rfl) (.s rfl)) rfl ?_
        refine .consA (.assign .none (.s rfl)) rfl ?_
        refine .nil ?_
        refine .then ?_
        refine .freezeBox (g := 5001) (ts := [4]) rfl (.cons (t := 4) rfl trivial .nil) SubB.nil rfl ?_
        refine .ret ?_
        obtain rfl := some_eq h
        exact Ends.ret2 (.inl rfl) Tryd.results52 (ResOK.cellR ty41 rfl trivial Imp.refl) (ResOK.tmp rfl trivial Imp.refl)
theorem page_view_boxOf_okN : ∀ (k : Nat)  (x : (Page_view × Int)) (r : (Box × Int)) (h : fixN page_view_boxOf_body k x = some r), FSpec Tryd.prog 52 [ref x.1, rep x.2] (tup [rep r.1, rep r.2])
  | 0, x, r, h => by simp [fixN] at h
  | k + 1, x, r, h => page_view_boxOf_okS (page_view_boxOf_okN k) h
theorem page_view_boxOf_ok {v1 : Page_view} {i1 : Int} {r : (Box × Int)}  (h : page_view_boxOf v1 i1 = some r) : FSpec Tryd.prog 52 [ref v1, rep i1] (tup [rep r.1, rep r.2]) :=
  let ⟨k, hk⟩ := fixp_some h
  page_view_boxOf_okN k (v1, i1) r hk

theorem page_Check_ok {d1 : Doc} {r : Int}  (h : page_Check d1 = some r) : FSpec Tryd.prog 16 [rep d1] (rep r) := by
  unfold page_Check at h
  refine FSpec.intro (n := 90) fnok16 Tryd.func16 rfl Tryd.ntmps16 rfl (fun F => ?_)
  refine .seq ?_
  refine .region [] mixed (by kernel_rfl) ?_
  refine .cons (.box .none (.s rfl)) rfl ?_
  refine .cons (.assign .none (.int (by decide))) rfl ?_
  refine .nil ?_
  refine .then ?_
  refine .seq ?_
  refine .seq ?_
  refine .region [] mixed (by kernel_rfl) ?_
  refine .cons (.fieldAddr .none fd25_0 hfd25_0 (.s rfl)) rfl ?_
  refine .cons (.load .none ty22 (.s rfl)) rfl ?_
  refine .cons (.len .none sl22 (.s rfl)) rfl ?_
  refine .cons (.gt .none (.s rfl) (.int (by decide))) rfl ?_
  refine .cons (.move .none (.s rfl)) rfl ?_
  refine .cons (.fieldAddr (.at rfl rfl) fd25_1 hfd25_1 (.s rfl)) rfl ?_
  refine .cons (.load (.at rfl rfl) ty23 (.tmp rfl id)) rfl ?_
  refine .cons (.len (.at rfl rfl) sl23 (.tmp rfl id)) rfl ?_
  refine .cons (.gt (.at rfl rfl) (.tmp rfl id) (.int (by decide))) rfl ?_
  refine .cons (.pickOr .none (.s rfl) (.tmp rfl id)) rfl ?_
  refine .nil ?_
  refine .then ?_
  refine .cond (t := 24) rfl trivial (fun hb1 => ?_) (fun hb1 => ?_)
  · replace h := bif_t h hb1
    refine .seq ?_
    refine .region [] mixed (by kernel_rfl) ?_
    refine .cons (.assign .none (.int (by decide))) rfl ?_
    refine .nil ?_
    refine .then ?_
    refine .ret ?_
    refine .thenRet ?_
    obtain rfl := some_eq h
    exact Ends.ret1 (.inl rfl) Tryd.results16 (ResOK.tmp rfl trivial Imp.refl)
  · replace h := bif_f h hb1
    refine .skip ?_
    refine .then ?_
    refine .seq ?_
    refine .region [([], [25]), ([25], [3, 25])] mixed (by kernel_rfl) ?_
    refine .consW (.makeMap (K := Str) (V := Bool) rfl) rfl rfl ?_
    refine .consW (.passRow rfl (.tmp rfl)) rfl rfl ?_
    refine .nil ?_
    refine .then ?_
    obtain ⟨known1, hv2, h⟩ := bnd_some h
    refine .reB (t := 3) rfl (congrArg mapV hv2) ?_
    refine .nameMap (t := 3) (g := 5001) rfl rfl rfl (fun s5001 => ?_)
    refine .seq ?_
    refine .seq ?_
    refine .region [] mixed (by kernel_rfl) ?_
    refine .cons (.fieldAddr .none fd25_0 hfd25_0 (.s rfl)) rfl ?_
    refine .cons (.load .none ty22 (.s rfl)) rfl ?_
    refine .cons (.len .none sl22 (.s rfl)) rfl ?_
    refine .cons (.move .none (.int (by decide))) rfl ?_
    refine .nil ?_
    refine .then ?_
    obtain ⟨o_3, h, hK3⟩ := bindR_some h
    refine .thenJ (ι := (GMap Str Bool)) (fun j_3 => []) (fun j_3 => [(5001, some (CPred.at s5001 (mapV j_3)))]) (fun s => o_3 = Res.nx s) (.cons (t := 1) rfl (.cons (t := 3) rfl Sub.nil)) SubB.nil ?_ (fun j_3 hj3 => ?_)
    · skip
      refine .block ?_
      refine .rforEL h (fun p4_ => [(29, ⟨True, rep p4_.1⟩)]) (fun p4_ => [(5001, some (CPred.at s5001 (mapV p4_.2)))]) (.cons (t := 29) rfl Sub.nil) (.cons (t := 5001) rfl SubB.nil) (.cons (t := 1) rfl (.cons (t := 3) rfl (.cons (t := 27) rfl (.cons (t := 28) rfl Sub.nil)))) SubB.nil (fun p4_ o_4 h hD4 => ?_)
      refine .seq ?_
      refine .region [] mixed (by kernel_rfl) ?_
      refine .cons (.lt .none (.s rfl) (.s rfl)) rfl ?_
      refine .nil ?_
      refine .then ?_
      refine .seq ?_
      refine .cond (t := 30) rfl trivial (fun hb5 => ?_) (fun hb5 => ?_)
      · replace h := bif_t h hb5
        refine .skip ?_
        refine .then ?_
        refine .seq ?_
        obtain ⟨o_6, h, hK6⟩ := bindD_some h
        unfold page_Check_L1 at h
        refine .thenJ (ι := (GMap Str Bool)) (fun j_6 => []) (fun j_6 => [(5001, some (CPred.at s5001 (mapV j_6)))]) (fun s => o_6 = Res.nx s) (.cons (t := 1) rfl (.cons (t := 3) rfl (.cons (t := 27) rfl (.cons (t := 28) rfl (.cons (t := 29) rfl Sub.nil))))) SubB.nil ?_ (fun j_6 hj6 => ?_)
        · skip
          refine .block ?_
          refine .seq ?_
          refine .region [([], []), ([], []), ([], [5]), ([5], [5])] mixed (by kernel_rfl) ?_
          obtain ⟨hn7, h⟩ := need_some h
          refine .consA (.indexAddr .none sl22 ty43 (.s rfl) (.s rfl) (fun _ => hn7)) rfl ?_
          obtain ⟨v1, hv8, h⟩ := bnd_some h
          refine .consA (.re hv8 (.load .none ty43 (.s rfl))) rfl ?_
          refine .consW (.alloc zo43 rfl) rfl rfl ?_
          refine .consN (.store ty43 rfl rfl (.s rfl)) rfl ?_
          refine .nil ?_
          refine .then ?_
          refine .freeze (t := 5) rfl rfl (.cons (t := 5001) rfl SubB.nil) rfl ?_
          refine .seq ?_
          refine .seq ?_
          refine .region [([], []), ([], []), ([], []), ([], []), ([5001], []), ([], []), ([], [])] mixed (by kernel_rfl) ?_
          refine .consA (.load .none ty43 (.s rfl)) rfl ?_
          refine .consA (.move .none (.s rfl)) rfl ?_
          refine .consA (.fieldAddr .none fd43_0 hfd43_0 (.s rfl)) rfl ?_
          refine .consA (.load .none ty9 (.s rfl)) rfl ?_
          refine .consA (.lookupO (q := 5001) .none mo84 zo4 ownMap_self (.told (.s rfl) rfl) (.s rfl)) rfl ?_
          obtain ⟨e1, hv9, h⟩ := bind_some h
          refine .consA (.call .none (page_checkNode_ok hv9) (.cons (.s rfl) (.cons (.s rfl) .nil))) rfl ?_
          refine .consA (.assign .none (.s rfl)) rfl ?_
          refine .nil ?_
          refine .then ?_
          refine .seq ?_
          refine .region [] mixed (by kernel_rfl) ?_
          refine .cons (.move .none (.s rfl)) rfl ?_
          refine .cons (.neI .none (.s rfl) (.int (by decide))) rfl ?_
          refine .nil ?_
          refine .then ?_
          refine .cond (t := 40) rfl trivial (fun hb10 => ?_) (fun hb10 => ?_)
          · replace h := bif_t h hb10
            refine .seq ?_
            refine .region [] mixed (by kernel_rfl) ?_
            refine .cons (.move .none (.s rfl)) rfl ?_
            refine .cons (.assign .none (.s rfl)) rfl ?_
            refine .nil ?_
            refine .then ?_
            refine .ret ?_
            refine .thenRet ?_
            refine .blkRet ?_
            refine .thenRet ?_
            refine .thenRet ?_
            refine .blkRet ?_
            refine .thenRet ?_
            replace h := resd_ab hK6 (some_eq h)
            replace h := hD4 _ (some_eq h)
            replace h := resb_ab hK3 (some_eq h)
            obtain rfl := some_eq h
            exact Ends.ret1 (.inl rfl) Tryd.results16 (ResOK.tmp rfl trivial Imp.refl)
          · replace h := bif_f h hb10
            refine .skip ?_
            refine .then ?_
            refine .region [([], []), ([], []), ([], []), ([5001], [5001])] mixed (by kernel_rfl) ?_
            refine .consA (.move .none (.s rfl)) rfl ?_
            refine .consA (.fieldAddr .none fd43_0 hfd43_0 (.s rfl)) rfl ?_
            refine .consA (.load .none ty9 (.s rfl)) rfl ?_
            refine .consN (.mapUpdate (q := 5001) mo84 (.s rfl) rfl (.s rfl) .bool) rfl ?_
            refine .nil ?_
            refine .blkNormal ?_
            exact Ends.join _ (some_eq h) (.cons (t := 1) rfl (.cons (t := 3) rfl (.cons (t := 27) rfl (.cons (t := 28) rfl (.cons (t := 29) rfl Sub.nil))))) (.cons (t := 5001) rfl SubB.nil)
        · have h := resd_nx hK6 hj6
          refine .region [] mixed (by kernel_rfl) ?_
          refine .cons (.addW .none (.s rfl) (.int (by decide))) rfl ?_
          refine .cons (.move .none (.s rfl)) rfl ?_
          refine .nil ?_
          exact Ends.againL (some_eq h) (.cons (t := 29) rfl (.cons (t := 1) rfl (.cons (t := 3) rfl (.cons (t := 27) rfl (.cons (t := 28) rfl Sub.nil))))) (.cons (t := 5001) rfl SubB.nil)
      · replace h := bif_f h hb5
        refine .exit ?_
        refine .thenExit ?_
        refine .thenExit ?_
        refine .blkExit ?_
        replace h := hD4 _ (some_eq h)
        exact Ends.join _ (some_eq h) (.cons (t := 1) rfl (.cons (t := 3) rfl Sub.nil)) (.cons (t := 5001) rfl SubB.nil)
    · have h := resb_nx hK3 hj3
      refine .seq ?_
      refine .region [] mixed (by kernel_rfl) ?_
      refine .cons (.load .none ty25 (.s rfl)) rfl ?_
      obtain ⟨v2, hv11, h⟩ := bind_some h
      obtain ⟨p1, hv12, h⟩ := bind_some h
      refine .cons (.isRef hv12 (.call .none (page_viewOf_ok hv11) (.cons (.s rfl) .nil))) rfl ?_
      refine .cons (.assign .none (.s rfl)) rfl ?_
      refine .nil ?_
      refine .then ?_
      refine .seq ?_
      refine .seq ?_
      refine .region [] mixed (by kernel_rfl) ?_
      refine .cons (.move .none (.s rfl)) rfl ?_
      obtain ⟨e2, hv13, h⟩ := bind_some h
      refine .cons (.call .none (page_view_checkGroups_ok hv13) (.cons (.s rfl) .nil)) rfl ?_
      refine .cons (.assign .none (.s rfl)) rfl ?_
      refine .nil ?_
      refine .then ?_
      refine .seq ?_
      refine .region [] mixed (by kernel_rfl) ?_
      refine .cons (.move .none (.s rfl)) rfl ?_
      refine .cons (.neI .none (.s rfl) (.int (by decide))) rfl ?_
      refine .nil ?_
      refine .then ?_
      refine .cond (t := 51) rfl trivial (fun hb14 => ?_) (fun hb14 => ?_)
      · replace h := bif_t h hb14
        refine .seq ?_
        refine .region [] mixed (by kernel_rfl) ?_
        refine .cons (.move .none (.s rfl)) rfl ?_
        refine .cons (.assign .none (.s rfl)) rfl ?_
        refine .nil ?_
        refine .then ?_
        refine .ret ?_
        refine .thenRet ?_
        obtain rfl := some_eq h
        exact Ends.ret1 (.inl rfl) Tryd.results16 (ResOK.tmp rfl trivial Imp.refl)
      · replace h := bif_f h hb14
        refine .skip ?_
        refine .then ?_
        refine .seq ?_
        refine .seq ?_
        refine .region [] mixed (by kernel_rfl) ?_
        refine .cons (.fieldAddr .none fd25_1 hfd25_1 (.s rfl)) rfl ?_
        refine .cons (.load .none ty23 (.s rfl)) rfl ?_
        refine .cons (.len .none sl23 (.s rfl)) rfl ?_
        refine .cons (.move .none (.int (by decide))) rfl ?_
        refine .nil ?_
        refine .then ?_
        obtain ⟨o_15, h, hK15⟩ := bindR_some h
        refine .thenJ (ι := (GMap Str Bool)) (fun j_15 => []) (fun j_15 => [(5001, some (CPred.at s5001 (mapV j_15)))]) (fun s => o_15 = Res.nx s) (.cons (t := 1) rfl (.cons (t := 3) rfl (.cons (t := 7) rfl Sub.nil))) SubB.nil ?_ (fun j_15 hj15 => ?_)
        · skip
          refine .block ?_
          refine .rforEL h (fun p16_ => [(56, ⟨True, rep p16_.1⟩)]) (fun p16_ => [(5001, some (CPred.at s5001 (mapV p16_.2)))]) (.cons (t := 56) rfl Sub.nil) (.cons (t := 5001) rfl SubB.nil) (.cons (t := 1) rfl (.cons (t := 3) rfl (.cons (t := 7) rfl (.cons (t := 54) rfl (.cons (t := 55) rfl Sub.nil))))) SubB.nil (fun p16_ o_16 h hD16 => ?_)
          refine .seq ?_
          refine .region [] mixed (by kernel_rfl) ?_
          refine .cons (.lt .none (.s rfl) (.s rfl)) rfl ?_
          refine .nil ?_
          refine .then ?_
          refine .seq ?_
          refine .cond (t := 57) rfl trivial (fun hb17 => ?_) (fun hb17 => ?_)
          · replace h := bif_t h hb17
            refine .skip ?_
            refine .then ?_
            refine .seq ?_
            obtain ⟨o_18, h, hK18⟩ := bindD_some h
            unfold page_Check_L2 at h
            refine .thenJ (ι := (GMap Str Bool)) (fun j_18 => []) (fun j_18 => [(5001, some (CPred.at s5001 (mapV j_18)))]) (fun s => o_18 = Res.nx s) (.cons (t := 1) rfl (.cons (t := 3) rfl (.cons (t := 7) rfl (.cons (t := 54) rfl (.cons (t := 55) rfl (.cons (t := 56) rfl Sub.nil)))))) SubB.nil ?_ (fun j_18 hj18 => ?_)
            · skip
              refine .block ?_
              refine .seq ?_
              refine .region [([], []), ([], []), ([], [10]), ([10], [10])] mixed (by kernel_rfl) ?_
              obtain ⟨hn19, h⟩ := need_some h
              refine .consA (.indexAddr .none sl23 ty96 (.s rfl) (.s rfl) (fun _ => hn19)) rfl ?_
              obtain ⟨v3, hv20, h⟩ := bnd_some h
              refine .consA (.re hv20 (.load .none ty96 (.s rfl))) rfl ?_
              refine .consW (.alloc zo96 rfl) rfl rfl ?_
              refine .consN (.store ty96 rfl rfl (.s rfl)) rfl ?_
              refine .nil ?_
              refine .then ?_
              refine .freeze (t := 10) rfl rfl (.cons (t := 5001) rfl SubB.nil) rfl ?_
              refine .seq ?_
              refine .seq ?_
              refine .region [([], []), ([], []), ([], []), ([], []), ([], []), ([5001], []), ([], []), ([], [])] mixed (by kernel_rfl) ?_
              refine .consA (.move .none (.s rfl)) rfl ?_
              refine .consA (.load .none ty96 (.s rfl)) rfl ?_
              refine .consA (.move .none (.s rfl)) rfl ?_
              refine .consA (.fieldAddr .none fd96_0 hfd96_0 (.s rfl)) rfl ?_
              refine .consA (.load .none ty9 (.s rfl)) rfl ?_
              refine .consA (.lookupO (q := 5001) .none mo84 zo4 ownMap_self (.told (.s rfl) rfl) (.s rfl)) rfl ?_
              obtain ⟨e3, hv21, h⟩ := bind_some h
              refine .consA (.call .none (page_view_checkEdge_ok hv21) (.cons (.s rfl) (.cons (.s rfl) (.cons (.s rfl) .nil)))) rfl ?_
              refine .consA (.assign .none (.s rfl)) rfl ?_
              refine .nil ?_
              refine .then ?_
              refine .seq ?_
              refine .region [] mixed (by kernel_rfl) ?_
              refine .cons (.move .none (.s rfl)) rfl ?_
              refine .cons (.neI .none (.s rfl) (.int (by decide))) rfl ?_
              refine .nil ?_
              refine .then ?_
              refine .cond (t := 68) rfl trivial (fun hb22 => ?_) (fun hb22 => ?_)
              · replace h := bif_t h hb22
                refine .seq ?_
                refine .region [] mixed (by kernel_rfl) ?_
                refine .cons (.move .none (.s rfl)) rfl ?_
                refine .cons (.assign .none (.s rfl)) rfl ?_
                refine .nil ?_
                refine .then ?_
                refine .ret ?_
                refine .thenRet ?_
                refine .blkRet ?_
                refine .thenRet ?_
                refine .thenRet ?_
                refine .blkRet ?_
                refine .thenRet ?_
                replace h := resd_ab hK18 (some_eq h)
                replace h := hD16 _ (some_eq h)
                replace h := resb_ab hK15 (some_eq h)
                obtain rfl := some_eq h
                exact Ends.ret1 (.inl rfl) Tryd.results16 (ResOK.tmp rfl trivial Imp.refl)
              · replace h := bif_f h hb22
                refine .skip ?_
                refine .then ?_
                refine .region [([], []), ([], []), ([], []), ([5001], [5001])] mixed (by kernel_rfl) ?_
                refine .consA (.move .none (.s rfl)) rfl ?_
                refine .consA (.fieldAddr .none fd96_0 hfd96_0 (.s rfl)) rfl ?_
                refine .consA (.load .none ty9 (.s rfl)) rfl ?_
                refine .consN (.mapUpdate (q := 5001) mo84 (.s rfl) rfl (.s rfl) .bool) rfl ?_
                refine .nil ?_
                refine .blkNormal ?_
                exact Ends.join _ (some_eq h) (.cons (t := 1) rfl (.cons (t := 3) rfl (.cons (t := 7) rfl (.cons (t := 54) rfl (.cons (t := 55) rfl (.cons (t := 56) rfl Sub.nil)))))) (.cons (t := 5001) rfl SubB.nil)
            · have h := resd_nx hK18 hj18
              refine .region [] mixed (by kernel_rfl) ?_
              refine .cons (.addW .none (.s rfl) (.int (by decide))) rfl ?_
              refine .cons (.move .none (.s rfl)) rfl ?_
              refine .nil ?_
              exact Ends.againL (some_eq h) (.cons (t := 56) rfl (.cons (t := 1) rfl (.cons (t := 3) rfl (.cons (t := 7) rfl (.cons (t := 54) rfl (.cons (t := 55) rfl Sub.nil)))))) (.cons (t := 5001) rfl SubB.nil)
          · replace h := bif_f h hb17
            refine .exit ?_
            refine .thenExit ?_
            refine .thenExit ?_
            refine .blkExit ?_
            replace h := hD16 _ (some_eq h)
            exact Ends.join _ (some_eq h) (.cons (t := 1) rfl (.cons (t := 3) rfl (.cons (t := 7) rfl Sub.nil))) (.cons (t := 5001) rfl SubB.nil)
        · have h := resb_nx hK15 hj15
          refine .seq ?_
          refine .seq ?_
          refine .region [] mixed (by kernel_rfl) ?_
          refine .cons (.fieldAddr .none fd25_0 hfd25_0 (.s rfl)) rfl ?_
          refine .cons (.load .none ty22 (.s rfl)) rfl ?_
          refine .cons (.len .none sl22 (.s rfl)) rfl ?_
          refine .cons (.move .none (.int (by decide))) rfl ?_
          refine .nil ?_
          refine .then ?_
          obtain ⟨o_23, h, hK23⟩ := bindR_some h
          refine .thenJ (ι := Unit) (fun j_23 => []) (fun j_23 => []) (fun s => o_23 = Res.nx s) Sub.nil SubB.nil ?_ (fun j_23 hj23 => ?_)
          · skip
            refine .block ?_
            refine .rforEL h (fun p24_ => [(77, ⟨True, rep p24_.1⟩)]) (fun p24_ => []) (.cons (t := 77) rfl Sub.nil) SubB.nil (.cons (t := 7) rfl (.cons (t := 76) rfl Sub.nil)) SubB.nil (fun p24_ o_24 h hD24 => ?_)
            refine .seq ?_
            refine .region [] mixed (by kernel_rfl) ?_
            refine .cons (.lt .none (.s rfl) (.s rfl)) rfl ?_
            refine .nil ?_
            refine .then ?_
            refine .seq ?_
            refine .cond (t := 78) rfl trivial (fun hb25 => ?_) (fun hb25 => ?_)
            · replace h := bif_t h hb25
              refine .skip ?_
              refine .then ?_
              refine .seq ?_
              obtain ⟨o_26, h, hK26⟩ := bindD_some h
              unfold page_Check_L3 at h
              refine .thenJ (ι := Unit) (fun j_26 => []) (fun j_26 => []) (fun s => o_26 = Res.nx s) (.cons (t := 7) rfl (.cons (t := 76) rfl (.cons (t := 77) rfl Sub.nil))) SubB.nil ?_ (fun j_26 hj26 => ?_)
              · skip
                refine .block ?_
                refine .seq ?_
                refine .region [] mixed (by kernel_rfl) ?_
                refine .cons (.move .none (.s rfl)) rfl ?_
                refine .cons (.assign .none (.s rfl)) rfl ?_
                refine .nil ?_
                refine .then ?_
                refine .seq ?_
                refine .region [([], []), ([], []), ([], []), ([], []), ([], []), ([], []), ([], [13]), ([13], [13]), ([], [])] mixed (by kernel_rfl) ?_
                refine .consA (.move .none (.s rfl)) rfl ?_
                refine .consA (.move .none (.s rfl)) rfl ?_
                obtain ⟨r1, hv27, h⟩ := bind_some h
                refine .consA (.call .none (page_view_boxOf_ok hv27) (.cons (.s rfl) (.cons (.s rfl) .nil))) rfl ?_
                refine .consA (.move .none (.s rfl)) rfl ?_
                refine .consA (.extract .none (.s rfl) rfl) rfl ?_
                refine .consA (.extract .none (.s rfl) rfl) rfl ?_
                refine .consW (.alloc zo41 rfl) rfl rfl ?_
                refine .consN (.store ty41 rfl rfl (.s rfl)) rfl ?_
                refine .consA (.assign .none (.s rfl)) rfl ?_
                refine .nil ?_
                refine .then ?_
                refine .seq ?_
                refine .region [] mixed (by kernel_rfl) ?_
                refine .cons (.move .none (.s rfl)) rfl ?_
                refine .cons (.neI .none (.s rfl) (.int (by decide))) rfl ?_
                refine .nil ?_
                refine .then ?_
                refine .cond (t := 87) rfl trivial (fun hb28 => ?_) (fun hb28 => ?_)
                · replace h := bif_t h hb28
                  refine .seq ?_
                  refine .region [] mixed (by kernel_rfl) ?_
                  refine .cons (.move .none (.s rfl)) rfl ?_
                  refine .cons (.assign .none (.s rfl)) rfl ?_
                  refine .nil ?_
                  refine .then ?_
                  refine .ret ?_
                  refine .blkRet ?_
                  refine .thenRet ?_
                  refine .thenRet ?_
                  refine .blkRet ?_
                  refine .thenRet ?_
                  replace h := resd_ab hK26 (some_eq h)
                  replace h := hD24 _ (some_eq h)
                  replace h := resb_ab hK23 (some_eq h)
                  obtain rfl := some_eq h
                  exact Ends.ret1 (.inl rfl) Tryd.results16 (ResOK.tmp rfl trivial Imp.refl)
                · replace h := bif_f h hb28
                  refine .skip ?_
                  refine .blkNormal ?_
                  exact Ends.join _ (some_eq h) (.cons (t := 7) rfl (.cons (t := 76) rfl (.cons (t := 77) rfl Sub.nil))) SubB.nil
              · have h := resd_nx hK26 hj26
                refine .region [] mixed (by kernel_rfl) ?_
                refine .cons (.addW .none (.s rfl) (.int (by decide))) rfl ?_
                refine .cons (.move .none (.s rfl)) rfl ?_
                refine .nil ?_
                exact Ends.againL (some_eq h) (.cons (t := 77) rfl (.cons (t := 7) rfl (.cons (t := 76) rfl Sub.nil))) SubB.nil
            · replace h := bif_f h hb25
              refine .exit ?_
              refine .thenExit ?_
              refine .thenExit ?_
              refine .blkExit ?_
              replace h := hD24 _ (some_eq h)
              exact Ends.join _ (some_eq h) Sub.nil SubB.nil
          · have h := resb_nx hK23 hj23
            refine .seq ?_
            refine .region [] mixed (by kernel_rfl) ?_
            refine .cons (.assign .none (.int (by decide))) rfl ?_
            refine .nil ?_
            refine .then ?_
            refine .ret ?_
            obtain rfl := some_eq h
            exact Ends.ret1 (.inl rfl) Tryd.results16 (ResOK.tmp rfl trivial Imp.refl)

theorem page_look_ok {d1 : Doc} {r : ((Option Page_view) × Int)}  (h : page_look d1 = some r) : FSpec Tryd.prog 63 [rep d1] (tup [rep r.1, rep r.2]) := by
  unfold page_look at h
  refine FSpec.intro (n := 12) fnok63 Tryd.func63 rfl Tryd.ntmps63 rfl (fun F => ?_)
  refine .seq ?_
  refine .region [] mixed (by kernel_rfl) ?_
  refine .cons (.box .none (.s rfl)) rfl ?_
  refine .cons (.assign .none (.const (x := (none : (Option Page_view))) (fun M w => ⟨_, ptr_zero, rfl⟩))) rfl ?_
  refine .cons (.assign .none (.int (by decide))) rfl ?_
  refine .nil ?_
  refine .then ?_
  refine .seq ?_
  refine .seq ?_
  refine .region [] mixed (by kernel_rfl) ?_
  refine .cons (.load .none ty25 (.s rfl)) rfl ?_
  obtain ⟨e1, hv1, h⟩ := bind_some h
  refine .cons (.call .none (page_Check_ok hv1) (.cons (.s rfl) .nil)) rfl ?_
  refine .cons (.assign .none (.s rfl)) rfl ?_
  refine .nil ?_
  refine .then ?_
  refine .seq ?_
  refine .region [] mixed (by kernel_rfl) ?_
  refine .cons (.move .none (.s rfl)) rfl ?_
  refine .cons (.neI .none (.s rfl) (.int (by decide))) rfl ?_
  refine .nil ?_
  refine .then ?_
  refine .cond (t := 8) rfl trivial (fun hb2 => ?_) (fun hb2 => ?_)
  · replace h := bif_t h hb2
    refine .seq ?_
    refine .region [] mixed (by kernel_rfl) ?_
    refine .cons (.move .none (.s rfl)) rfl ?_
    refine .cons (.assign .none (.const (x := (none : (Option Page_view))) (fun M w => ⟨_, ptr_zero, rfl⟩))) rfl ?_
    refine .cons (.assign .none (.s rfl)) rfl ?_
    refine .nil ?_
    refine .then ?_
    refine .ret ?_
    refine .thenRet ?_
    obtain rfl := some_eq h
    exact Ends.ret2 (.inl rfl) Tryd.results63 (ResOK.tmp rfl trivial Imp.refl) (ResOK.tmp rfl trivial Imp.refl)
  · replace h := bif_f h hb2
    refine .skip ?_
    refine .then ?_
    refine .seq ?_
    refine .region [] mixed (by kernel_rfl) ?_
    refine .cons (.load .none ty25 (.s rfl)) rfl ?_
    obtain ⟨r1, hv3, h⟩ := bind_some h
    obtain ⟨p1, hv4, h⟩ := bind_some h
    refine .cons (.isRef hv4 (.call .none (page_viewOf_ok hv3) (.cons (.s rfl) .nil))) rfl ?_
    refine .cons (.assign .none (.s rfl)) rfl ?_
    refine .cons (.assign .none (.int (by decide))) rfl ?_
    refine .nil ?_
    refine .then ?_
    refine .ret ?_
    obtain rfl := some_eq h
    exact Ends.ret2 (.inl rfl) Tryd.results63 (ResOK.tmp rfl trivial Imp.refSome) (ResOK.tmp rfl trivial Imp.refl)

theorem page_find_ok {d1 : Doc} {id1 : Str} {r : ((Option Page_view) × Int × Int)}  (h : page_find d1 id1 = some r) : FSpec Tryd.prog 24 [rep d1, rep id1] (tup [rep r.1, rep r.2.1, rep r.2.2]) := by
  unfold page_find at h
  refine FSpec.intro (n := 32) fnok24 Tryd.func24 rfl Tryd.ntmps24 rfl (fun F => ?_)
  refine .seq ?_
  refine .region [] mixed (by kernel_rfl) ?_
  refine .cons (.box .none (.s rfl)) rfl ?_
  refine .cons (.assign .none (.const (x := (none : (Option Page_view))) (fun M w => ⟨_, ptr_zero, rfl⟩))) rfl ?_
  refine .cons (.assign .none (.int (by decide))) rfl ?_
  refine .cons (.assign .none (.int (by decide))) rfl ?_
  refine .nil ?_
  refine .then ?_
  refine .seq ?_
  refine .region [] mixed (by kernel_rfl) ?_
  refine .cons (.load .none ty25 (.s rfl)) rfl ?_
  obtain ⟨r1, hv1, h⟩ := bind_some h
  refine .cons (.call .none (page_look_ok hv1) (.cons (.s rfl) .nil)) rfl ?_
  refine .cons (.move .none (.s rfl)) rfl ?_
  refine .cons (.extract .none (.s rfl) rfl) rfl ?_
  refine .cons (.extract .none (.s rfl) rfl) rfl ?_
  refine .cons (.assign .none (.s rfl)) rfl ?_
  refine .cons (.assign .none (.s rfl)) rfl ?_
  refine .nil ?_
  refine .then ?_
  refine .seq ?_
  refine .seq ?_
  refine .region [] mixed (by kernel_rfl) ?_
  refine .cons (.move .none (.s rfl)) rfl ?_
  refine .cons (.neI .none (.s rfl) (.int (by decide))) rfl ?_
  refine .nil ?_
  refine .then ?_
  refine .cond (t := 17) rfl trivial (fun hb2 => ?_) (fun hb2 => ?_)
  · replace h := bif_t h hb2
    refine .seq ?_
    refine .region [] mixed (by kernel_rfl) ?_
    refine .cons (.move .none (.s rfl)) rfl ?_
    refine .cons (.assign .none (.const (x := (none : (Option Page_view))) (fun M w => ⟨_, ptr_zero, rfl⟩))) rfl ?_
    refine .cons (.assign .none (.int (by decide))) rfl ?_
    refine .cons (.assign .none (.s rfl)) rfl ?_
    refine .nil ?_
    refine .then ?_
    refine .ret ?_
    refine .thenRet ?_
    obtain rfl := some_eq h
    exact Ends.ret3 (.inl rfl) Tryd.results24 (ResOK.tmp rfl trivial Imp.refl) (ResOK.tmp rfl trivial Imp.refl) (ResOK.tmp rfl trivial Imp.refl)
  · replace h := bif_f h hb2
    refine .skip ?_
    refine .then ?_
    refine .seq ?_
    obtain ⟨v1, hv3, h⟩ := bind_some h
    refine .isRef (t := 7) hv3 rfl trivial ?_
    refine .region [] mixed (by kernel_rfl) ?_
    refine .cons (.move .none (.s rfl)) rfl ?_
    refine .cons (.nilCheckR .none (.s rfl)) rfl ?_
    refine .cons (.fieldAddr .none fd63_1 hfd63_1 (.s rfl)) rfl ?_
    refine .cons (.load .none ty60 (.s rfl)) rfl ?_
    refine .cons (.move .none (.s rfl)) rfl ?_
    refine .cons (.lookupOk .none mo60 zo3 (.s rfl) (.s rfl)) rfl ?_
    refine .cons (.move .none (.s rfl)) rfl ?_
    refine .cons (.extract .none (.s rfl) rfl) rfl ?_
    refine .cons (.extract .none (.s rfl) rfl) rfl ?_
    refine .cons (.assign .none (.s rfl)) rfl ?_
    refine .cons (.assign .none (.s rfl)) rfl ?_
    refine .nil ?_
    refine .then ?_
    refine .seq ?_
    refine .seq ?_
    refine .region [] mixed (by kernel_rfl) ?_
    refine .cons (.move .none (.s rfl)) rfl ?_
    refine .cons (.not .none (.s rfl)) rfl ?_
    refine .nil ?_
    refine .then ?_
    refine .cond (t := 29) rfl trivial (fun hb4 => ?_) (fun hb4 => ?_)
    · replace h := bif_t h hb4
      refine .seq ?_
      refine .region [] mixed (by kernel_rfl) ?_
      refine .cons (.assign .none (.const (x := (none : (Option Page_view))) (fun M w => ⟨_, ptr_zero, rfl⟩))) rfl ?_
      refine .cons (.assign .none (.int (by decide))) rfl ?_
      refine .cons (.assign .none (.int (by decide))) rfl ?_
      refine .nil ?_
      refine .then ?_
      refine .ret ?_
      refine .thenRet ?_
      obtain rfl := some_eq h
      exact Ends.ret3 (.inl rfl) Tryd.results24 (ResOK.tmp rfl trivial Imp.refl) (ResOK.tmp rfl trivial Imp.refl) (ResOK.tmp rfl trivial Imp.refl)
    · replace h := bif_f h hb4
      refine .skip ?_
      refine .then ?_
      refine .seq ?_
      refine .region [] mixed (by kernel_rfl) ?_
      refine .cons (.move .none (.s rfl)) rfl ?_
      refine .cons (.move .none (.s rfl)) rfl ?_
      refine .cons (.assign .none (.s rfl)) rfl ?_
      refine .cons (.assign .none (.s rfl)) rfl ?_
      refine .cons (.assign .none (.int (by decide))) rfl ?_
      refine .nil ?_
      refine .then ?_
      refine .ret ?_
      obtain rfl := some_eq h
      exact Ends.ret3 (.inl rfl) Tryd.results24 (ResOK.tmp rfl trivial Imp.refSome) (ResOK.tmp rfl trivial Imp.refl) (ResOK.tmp rfl trivial Imp.refl)

theorem slices_Clone_Node_ok {s1 : (List DNode)} {r : (List DNode)}  (h : slices_Clone_Node s1 = some r) : FSpecO Tryd.prog 64 [rep s1] [] (anyV) [some (rowV 43 r)] := by
  unfold slices_Clone_Node at h
  refine FSpecO.intro (n := 8) fnok64 Tryd.func64 rfl Tryd.ntmps64 rfl (fun F => ?_)
  refine .seq ?_
  refine .region [] mixed (by kernel_rfl) ?_
  refine .cons (.assign .none (.const (x := ([] : (List DNode))) (fun M w => ⟨_, ⟨none, 0, rfl, Nat.le_refl _, by decide, rfl⟩, rfl⟩))) rfl ?_
  refine .nil ?_
  refine .then ?_
  refine .seq ?_
  refine .seq ?_
  refine .region [] mixed (by kernel_rfl) ?_
  refine .cons (.move .none (.s rfl)) rfl ?_
  refine .cons (.eqNil .none sl22 (.s rfl)) rfl ?_
  refine .nil ?_
  refine .then ?_
  refine .condNil (t := 4) rfl trivial (fun hb1 => ?_) ?_
  · replace h := nilc_t h hb1
    refine .seq ?_
    refine .region [([], [2])] mixed (by kernel_rfl) ?_
    refine .consW (.nilRow (T := 43) (α := DNode) rfl) rfl rfl ?_
    refine .nil ?_
    refine .then ?_
    refine .nameRow (t := 2) (g := 5001) rfl rfl rfl (fun s5001 => ?_)
    refine .ret ?_
    refine .thenRet ?_
    refine .anon (t := 2) (g := 5001) rfl rfl trivial rfl ?_
    obtain rfl := some_eq h
    exact Ends.ret1O (.inl rfl) [2] Tryd.results64 (by decide) (.res rfl rfl) (ResOK.tmp rfl trivial (fun _ _ _ _ => trivial))
  · replace h := nilc_f h
    refine .skip ?_
    refine .then ?_
    refine .seq ?_
    refine .region [([], [5]), ([], []), ([5], [7, 5]), ([7], [2, 7])] mixed (by kernel_rfl) ?_
    refine .consW (.buildSliceO (xs := []) rfl sl22 ty43 hz43 .nil rfl (by decide)) rfl rfl ?_
    refine .consA (.move .none (.s rfl)) rfl ?_
    obtain ⟨hn2, h⟩ := need_some h
    refine .consW (.append (k := 5) rk22 rfl (.tmp rfl) (.s rfl) hn2) rfl rfl ?_
    refine .consW (.passRow rfl (.tmp rfl)) rfl rfl ?_
    refine .nil ?_
    refine .then ?_
    obtain ⟨v1, hv3, h⟩ := bnd_some h
    refine .reB (t := 2) rfl (congrArg (rowV 43) hv3) ?_
    refine .nameRow (t := 2) (g := 5002) rfl rfl rfl (fun s5002 => ?_)
    refine .ret ?_
    refine .anon (t := 2) (g := 5002) rfl rfl trivial rfl ?_
    obtain rfl := some_eq h
    exact Ends.ret1O (.inl rfl) [2] Tryd.results64 (by decide) (.res rfl rfl) (ResOK.tmp rfl trivial (fun _ _ _ _ => trivial))

theorem slices_Clone_Edge_ok {s1 : (List DEdge)} {r : (List DEdge)}  (h : slices_Clone_Edge s1 = some r) : FSpecO Tryd.prog 65 [rep s1] [] (anyV) [some (rowV 96 r)] := by
  unfold slices_Clone_Edge at h
  refine FSpecO.intro (n := 8) fnok65 Tryd.func65 rfl Tryd.ntmps65 rfl (fun F => ?_)
  refine .seq ?_
  refine .region [] mixed (by kernel_rfl) ?_
  refine .cons (.assign .none (.const (x := ([] : (List DEdge))) (fun M w => ⟨_, ⟨none, 0, rfl, Nat.le_refl _, by decide, rfl⟩, rfl⟩))) rfl ?_
  refine .nil ?_
  refine .then ?_
  refine .seq ?_
  refine .seq ?_
  refine .region [] mixed (by kernel_rfl) ?_
  refine .cons (.move .none (.s rfl)) rfl ?_
  refine .cons (.eqNil .none sl23 (.s rfl)) rfl ?_
  refine .nil ?_
  refine .then ?_
  refine .condNil (t := 4) rfl trivial (fun hb1 => ?_) ?_
  · replace h := nilc_t h hb1
    refine .seq ?_
    refine .region [([], [2])] mixed (by kernel_rfl) ?_
    refine .consW (.nilRow (T := 96) (α := DEdge) rfl) rfl rfl ?_
    refine .nil ?_
    refine .then ?_
    refine .nameRow (t := 2) (g := 5001) rfl rfl rfl (fun s5001 => ?_)
    refine .ret ?_
    refine .thenRet ?_
    refine .anon (t := 2) (g := 5001) rfl rfl trivial rfl ?_
    obtain rfl := some_eq h
    exact Ends.ret1O (.inl rfl) [2] Tryd.results65 (by decide) (.res rfl rfl) (ResOK.tmp rfl trivial (fun _ _ _ _ => trivial))
  · replace h := nilc_f h
    refine .skip ?_
    refine .then ?_
    refine .seq ?_
    refine .region [([], [5]), ([], []), ([5], [7, 5]), ([7], [2, 7])] mixed (by kernel_rfl) ?_
    refine .consW (.buildSliceO (xs := []) rfl sl23 ty96 hz96 .nil rfl (by decide)) rfl rfl ?_
    refine .consA (.move .none (.s rfl)) rfl ?_
    obtain ⟨hn2, h⟩ := need_some h
    refine .consW (.append (k := 5) rk23 rfl (.tmp rfl) (.s rfl) hn2) rfl rfl ?_
    refine .consW (.passRow rfl (.tmp rfl)) rfl rfl ?_
    refine .nil ?_
    refine .then ?_
    obtain ⟨v1, hv3, h⟩ := bnd_some h
    refine .reB (t := 2) rfl (congrArg (rowV 96) hv3) ?_
    refine .nameRow (t := 2) (g := 5002) rfl rfl rfl (fun s5002 => ?_)
    refine .ret ?_
    refine .anon (t := 2) (g := 5002) rfl rfl trivial rfl ?_
    obtain rfl := some_eq h
    exact Ends.ret1O (.inl rfl) [2] Tryd.results65 (by decide) (.res rfl rfl) (ResOK.tmp rfl trivial (fun _ _ _ _ => trivial))

theorem slices_Clone_Point_ok {s1 : (List Point)} {r : (List Point)}  (h : slices_Clone_Point s1 = some r) : FSpecO Tryd.prog 66 [rep s1] [] (anyV) [some (rowV 118 r)] := by
  unfold slices_Clone_Point at h
  refine FSpecO.intro (n := 8) fnok66 Tryd.func66 rfl Tryd.ntmps66 rfl (fun F => ?_)
  refine .seq ?_
  refine .region [] mixed (by kernel_rfl) ?_
  refine .cons (.assign .none (.const (x := ([] : (List Point))) (fun M w => ⟨_, ⟨none, 0, rfl, Nat.le_refl _, by decide, rfl⟩, rfl⟩))) rfl ?_
  refine .nil ?_
  refine .then ?_
  refine .seq ?_
  refine .seq ?_
  refine .region [] mixed (by kernel_rfl) ?_
  refine .cons (.move .none (.s rfl)) rfl ?_
  refine .cons (.eqNil .none sl94 (.s rfl)) rfl ?_
  refine .nil ?_
  refine .then ?_
  refine .condNil (t := 4) rfl trivial (fun hb1 => ?_) ?_
  · replace h := nilc_t h hb1
    refine .seq ?_
    refine .region [([], [2])] mixed (by kernel_rfl) ?_
    refine .consW (.nilRow (T := 118) (α := Point) rfl) rfl rfl ?_
    refine .nil ?_
    refine .then ?_
    refine .nameRow (t := 2) (g := 5001) rfl rfl rfl (fun s5001 => ?_)
    refine .ret ?_
    refine .thenRet ?_
    refine .anon (t := 2) (g := 5001) rfl rfl trivial rfl ?_
    obtain rfl := some_eq h
    exact Ends.ret1O (.inl rfl) [2] Tryd.results66 (by decide) (.res rfl rfl) (ResOK.tmp rfl trivial (fun _ _ _ _ => trivial))
  · replace h := nilc_f h
    refine .skip ?_
    refine .then ?_
    refine .seq ?_
    refine .region [([], [5]), ([], []), ([5], [7, 5]), ([7], [2, 7])] mixed (by kernel_rfl) ?_
    refine .consW (.buildSliceO (xs := []) rfl sl94 ty118 hz118 .nil rfl (by decide)) rfl rfl ?_
    refine .consA (.move .none (.s rfl)) rfl ?_
    obtain ⟨hn2, h⟩ := need_some h
    refine .consW (.append (k := 5) rk94 rfl (.tmp rfl) (.s rfl) hn2) rfl rfl ?_
    refine .consW (.passRow rfl (.tmp rfl)) rfl rfl ?_
    refine .nil ?_
    refine .then ?_
    obtain ⟨v1, hv3, h⟩ := bnd_some h
    refine .reB (t := 2) rfl (congrArg (rowV 118) hv3) ?_
    refine .nameRow (t := 2) (g := 5002) rfl rfl rfl (fun s5002 => ?_)
    refine .ret ?_
    refine .anon (t := 2) (g := 5002) rfl rfl trivial rfl ?_
    obtain rfl := some_eq h
    exact Ends.ret1O (.inl rfl) [2] Tryd.results66 (by decide) (.res rfl rfl) (ResOK.tmp rfl trivial (fun _ _ _ _ => trivial))

theorem page_cloned_ok {d1 : Doc} {r : Doc}  (h : page_cloned d1 = some r) : FSpecO Tryd.prog 25 [rep d1] [] (anyV) [some (deep (fun z0 => deep (fun z1 => valV (⟨⟨z0⟩, ⟨z1⟩⟩ : Doc_o01)) (rowV 96 r.Edges)) (rowV 43 r.Nodes))] := by
  unfold page_cloned at h
  refine FSpecO.intro (n := 32) fnok25 Tryd.func25 rfl Tryd.ntmps25 rfl (fun F => ?_)
  refine .seq ?_
  refine .region [([], [1]), ([], [2])] mixed (by kernel_rfl) ?_
  refine .consW (.boxO rfl (.s rfl)) rfl rfl ?_
  refine .consW (.alloc zo25 rfl) rfl rfl ?_
  refine .nil ?_
  refine .then ?_
  obtain ⟨v1, hv1, h⟩ := bnd_some h
  refine .reB (t := 2) rfl (congrArg (cont 25) hv1) ?_
  refine .nameBox (t := 1) (g := 5001) rfl rfl (fun m5001 => ?_)
  refine .nameBox (t := 2) (g := 5002) rfl rfl (fun m5002 => ?_)
  refine .seq ?_
  refine .region [([], []), ([5001], []), ([], [6]), ([], []), ([5001], []), ([], [9]), ([], []), ([5001, 6], [5001, 6]), ([], []), ([5001, 9], [5001, 9])] mixed (by kernel_rfl) ?_
  refine .consA (.fieldPtr .none fd25_0 (.s rfl)) rfl ?_
  refine .consA (.loadAt (k := 5001) .none ty22 rfl (.s rfl) hfd25_0) rfl ?_
  obtain ⟨r1, hv2, h⟩ := bind_some h
  refine .consW (.callO [] (slices_Clone_Node_ok hv2) (.cons (.s rfl) .nil) .nil rfl (by decide) (by decide) (by intro d h; cases h; decide)) rfl rfl ?_
  refine .consA (.fieldPtr .none fd25_1 (.s rfl)) rfl ?_
  refine .consA (.loadAt (k := 5001) .none ty23 rfl (.s rfl) hfd25_1) rfl ?_
  obtain ⟨r2, hv3, h⟩ := bind_some h
  refine .consW (.callO [] (slices_Clone_Edge_ok hv3) (.cons (.s rfl) .nil) .nil rfl (by decide) (by decide) (by intro d h; cases h; decide)) rfl rfl ?_
  refine .consA (.fieldPtr .none fd25_0 (.s rfl)) rfl ?_
  refine .consN (.storeRowF (k := 5001) (t := 6) (off := 0) (set := fun s => (⟨⟨s⟩, d1.Edges⟩ : Doc_o0)) ty22 rfl (.s rfl) (by decide) (fun M s cs w hc hs => by obtain ⟨c0, q0, e0, h0, h1⟩ := hc; obtain ⟨v, _, hv⟩ := cells_one rfl rfl h0; exact sv_Doc_o0_0.2 M (⟨⟨v⟩, d1.Edges⟩ : Doc_o0) ⟨s⟩ cs [s] w ⟨c0, q0, e0, hv, h1⟩ hs) rfl rfl) rfl ?_
  refine .consA (.fieldPtr .none fd25_1 (.s rfl)) rfl ?_
  refine .consN (.storeRowD (k := 5001) (t := 9) (off := 1) (mk := fun z => (⟨⟨z⟩, d1.Edges⟩ : Doc_o0)) (set := fun s z => (⟨⟨z⟩, ⟨s⟩⟩ : Doc_o01)) ty23 rfl (.s rfl) (by decide) (fun M z s cs w hc hs => by obtain ⟨c0, q0, e0, h0, h1⟩ := hc; obtain ⟨v, _, hv⟩ := cells_one rfl rfl h1; exact sv_Doc_o01_1.2 M (⟨⟨z⟩, ⟨v⟩⟩ : Doc_o01) ⟨s⟩ cs [s] w ⟨c0, q0, e0, h0, hv⟩ hs) rfl rfl) rfl ?_
  refine .nil ?_
  refine .then ?_
  refine .open (k := 5001) (g := 5003) rfl rfl (fun s5003 => ?_)
  refine .open (k := 5001) (g := 5004) rfl rfl (fun s5004 => ?_)
  refine .seq ?_
  refine .seq ?_
  refine .region [([], []), ([5001], []), ([5003], []), ([], [])] mixed (by kernel_rfl) ?_
  refine .consA (.fieldPtr .none fd25_1 (.s rfl)) rfl ?_
  refine .consA (.loadAt (k := 5001) .none tr23 rfl (.s rfl) hv_Doc_o01_1) rfl ?_
  refine .consA (.lenO (k := 5003) sl23 (.told (.s rfl) rfl)) rfl ?_
  refine .consA (.move .none (.int (by decide))) rfl ?_
  refine .nil ?_
  refine .then ?_
  obtain ⟨j_4, h, hK4⟩ := bind_some h
  refine .thenJ (ι := (List DEdge)) (fun j_4 => []) (fun j_4 => [(5003, some (CPred.at s5003 (rowV 96 j_4)))]) (fun s => j_4 = s) (.cons (t := 1) rfl (.cons (t := 2) rfl Sub.nil)) (.cons (t := 5001) rfl (.cons (t := 5002) rfl (.cons (t := 5004) rfl SubB.nil))) ?_ (fun j_4' hj4 => ?_)
  · skip
    refine .block ?_
    refine .rforL h (fun p5_ => [(15, ⟨True, rep p5_.1⟩)]) (fun p5_ => [(5003, some (CPred.at s5003 (rowV 96 p5_.2)))]) (.cons (t := 15) rfl Sub.nil) (.cons (t := 5003) rfl SubB.nil) (.cons (t := 1) rfl (.cons (t := 2) rfl (.cons (t := 14) rfl Sub.nil))) (.cons (t := 5001) rfl (.cons (t := 5002) rfl (.cons (t := 5004) rfl SubB.nil))) (fun p5_ o_5 h hD5 => ?_)
    refine .seq ?_
    refine .region [] mixed (by kernel_rfl) ?_
    refine .cons (.lt .none (.s rfl) (.s rfl)) rfl ?_
    refine .nil ?_
    refine .then ?_
    refine .seq ?_
    refine .cond (t := 16) rfl trivial (fun hb6 => ?_) (fun hb6 => ?_)
    · replace h := bif_t h hb6
      refine .skip ?_
      refine .then ?_
      refine .seq ?_
      obtain ⟨j_7, h, hK7⟩ := bind_some h
      unfold page_cloned_L1 at h
      refine .thenJ (ι := (List DEdge)) (fun j_7 => []) (fun j_7 => [(5003, some (CPred.at s5003 (rowV 96 j_7)))]) (fun s => j_7 = s) (.cons (t := 1) rfl (.cons (t := 2) rfl (.cons (t := 14) rfl (.cons (t := 15) rfl Sub.nil)))) (.cons (t := 5001) rfl (.cons (t := 5002) rfl (.cons (t := 5004) rfl SubB.nil))) ?_ (fun j_7' hj7 => ?_)
      · skip
        refine .block ?_
        refine .seq ?_
        refine .region [] mixed (by kernel_rfl) ?_
        refine .cons (.move .none (.s rfl)) rfl ?_
        refine .cons (.assign .none (.s rfl)) rfl ?_
        refine .nil ?_
        refine .then ?_
        refine .region [([], []), ([5001], []), ([], []), ([], []), ([5001], []), ([], []), ([5003], []), ([5003], []), ([5003], []), ([], []), ([5003], []), ([5003], []), ([5003], [5003])] mixed (by kernel_rfl) ?_
        refine .consA (.fieldPtr .none fd25_1 (.s rfl)) rfl ?_
        refine .consA (.loadAt (k := 5001) .none tr23 rfl (.s rfl) hv_Doc_o01_1) rfl ?_
        refine .consA (.move .none (.s rfl)) rfl ?_
        refine .consA (.fieldPtr .none fd25_1 (.s rfl)) rfl ?_
        refine .consA (.loadAt (k := 5001) .none tr23 rfl (.s rfl) hv_Doc_o01_1) rfl ?_
        refine .consA (.move .none (.s rfl)) rfl ?_
        obtain ⟨hn8, h⟩ := need_some h
        refine .consA (.indexAddrO (k := 5003) .none sl23 ty96 (.s rfl) rfl (.s rfl) (fun _ => hn8)) rfl ?_
        refine .consA (.fieldElem (k := 5003) .none fd96_3 (.s rfl) rfl (fun _ => hn8)) rfl ?_
        refine .consA (.loadElem (k := 5003) .none ty94 (.s rfl) rfl hfd96_3 (fun _ => hn8)) rfl ?_
        obtain ⟨r3, hv9, h⟩ := bind_some h
        refine .consA (.call .none (slices_Clone_Point_ok hv9).frz (.cons (.s rfl) .nil)) rfl ?_
        obtain ⟨hn10, h⟩ := need_some h
        refine .consA (.indexAddrO (k := 5003) .none sl23 ty96 (.s rfl) rfl (.s rfl) (fun _ => hn10)) rfl ?_
        refine .consA (.fieldElem (k := 5003) .none fd96_3 (.s rfl) rfl (fun _ => hn10)) rfl ?_
        refine .consN (.storeElem (k := 5003) ty94 (.s rfl) rfl sf96_3 (.s rfl) hn10) rfl ?_
        refine .nil ?_
        refine .blkNormal ?_
        exact Ends.join _ (some_eq h) (.cons (t := 1) rfl (.cons (t := 2) rfl (.cons (t := 14) rfl (.cons (t := 15) rfl Sub.nil)))) (.cons (t := 5003) rfl (.cons (t := 5001) rfl (.cons (t := 5002) rfl (.cons (t := 5004) rfl SubB.nil))))
      · subst hj7; have h := hK7; clear hK7
        refine .region [] mixed (by kernel_rfl) ?_
        refine .cons (.addW .none (.s rfl) (.int (by decide))) rfl ?_
        refine .cons (.move .none (.s rfl)) rfl ?_
        refine .nil ?_
        exact Ends.againL (some_eq h) (.cons (t := 15) rfl (.cons (t := 1) rfl (.cons (t := 2) rfl (.cons (t := 14) rfl Sub.nil)))) (.cons (t := 5003) rfl (.cons (t := 5001) rfl (.cons (t := 5002) rfl (.cons (t := 5004) rfl SubB.nil))))
    · replace h := bif_f h hb6
      refine .exit ?_
      refine .thenExit ?_
      refine .thenExit ?_
      refine .blkExit ?_
      replace h := hD5 _ (some_eq h)
      exact Ends.join _ (some_eq h) (.cons (t := 1) rfl (.cons (t := 2) rfl Sub.nil)) (.cons (t := 5003) rfl (.cons (t := 5001) rfl (.cons (t := 5002) rfl (.cons (t := 5004) rfl SubB.nil))))
  · subst hj4; have h := hK4; clear hK4
    refine .seq ?_
    refine .region [([5001], []), ([5002], [5002])] mixed (by kernel_rfl) ?_
    refine .consA (.loadAt0 (k := 5001) .none tyv_Doc_o01 rfl (.s rfl)) rfl ?_
    refine .consN (.storeAtH (g := 5002) tyv_Doc_o01 (by rfl) rfl (.s rfl) (.s rfl)) rfl ?_
    refine .nil ?_
    refine .then ?_
    refine .ret ?_
    refine .close (k := 5002) (g := 5003) (fun z => cont 25 (⟨⟨s5004⟩, ⟨z⟩⟩ : Doc_o01)) rfl rfl rfl ?_
    refine .close (k := 5002) (g := 5004) (fun z => deep (fun z0 => cont 25 (⟨⟨z⟩, ⟨z0⟩⟩ : Doc_o01)) (rowV 96 j_4)) rfl rfl rfl ?_
    obtain rfl := some_eq h
    exact Ends.ret1S (K := 5002) (.inl rfl) tyv_Doc_o01 Tryd.results25 rfl trivial rfl


end Go.Proofs.YtclcheggnlhamaaDoor
