/-
  The walks: what a function computes is what its plain function says (printed by a program of one's own).
-/
import Derived.Test.YtieepiblancbpaaAreFa
set_option maxRecDepth 100000
set_option linter.unusedSimpArgs false
set_option linter.unusedVariables false
namespace Go.Proofs.Ytieepiblancbpaa
open Go Go.DB Go.RowKit

theorem ref_In_ok {n1 : Int} {low1 : Int} {high1 : Int} {r : Bool}  (h : ref_In n1 low1 high1 = some r) : FSpec Try.prog 26 [rep n1, rep low1, rep high1] (rep r) := by
 unfold ref_In at h
 refine FSpec.intro (n := 15) fnok26 Try.func26 rfl Try.ntmps26 rfl (fun F => ?_)
 refine .seq (.region [] mixed (by kernel_rfl) ?_)
 refine .cons (.assign .none .bool) rfl ?_
 refine .nil (.then ?_)
 refine .seq (.region [] mixed (by kernel_rfl) ?_)
 refine .cons (.move .none (.s rfl)) rfl ?_
 refine .cons (.move .none (.s rfl)) rfl ?_
 refine .cons (.ge .none (.s rfl) (.s rfl)) rfl ?_
 refine .cons (.move .none (.s rfl)) rfl ?_
 refine .cons (.move (.at rfl rfl) (.s rfl)) rfl ?_
 refine .cons (.move (.at rfl rfl) (.s rfl)) rfl ?_
 refine .cons (.le (.at rfl rfl) (.tmp rfl id) (.tmp rfl id)) rfl ?_
 refine .cons (.pickAnd .none (.s rfl) (.tmp rfl id)) rfl ?_
 refine .cons (.assign .none (.s rfl)) rfl ?_
 refine .nil (.then ?_)
 refine .ret ?_
 obtain rfl := some_eq h
 exact Ends.ret1 (.inl rfl) Try.results26 (ResOK.tmp rfl trivial Imp.refl)

theorem ref_When_ok {is1 : Bool} {e1 : Int} {r : Int}  (h : ref_When is1 e1 = some r) : FSpec Try.prog 25 [rep is1, rep e1] (rep r) := by
 unfold ref_When at h
 refine FSpec.intro (n := 7) fnok25 Try.func25 rfl Try.ntmps25 rfl (fun F => ?_)
 refine .seq (.region [] mixed (by kernel_rfl) ?_)
 refine .cons (.assign .none (.int (by decide))) rfl ?_
 refine .nil (.then ?_)
 refine .seq ?_
 refine .seq (.region [] mixed (by kernel_rfl) ?_)
 refine .cons (.move .none (.s rfl)) rfl ?_
 refine .nil (.then ?_)
 refine .cond (t := 5) rfl trivial (fun hb1 => ?_) (fun hb1 => ?_)
 ·
  replace h := bif_t h hb1
  refine .seq (.region [] mixed (by kernel_rfl) ?_)
  refine .cons (.move .none (.s rfl)) rfl ?_
  refine .cons (.assign .none (.s rfl)) rfl ?_
  refine .nil (.then ?_)
  refine .ret ?_
  refine .thenRet ?_
  obtain rfl := some_eq h
  exact Ends.ret1 (.inl rfl) Try.results25 (ResOK.tmp rfl trivial Imp.refl)
 ·
  replace h := bif_f h hb1
  refine .skip ?_
  refine .then ?_
  refine .seq (.region [] mixed (by kernel_rfl) ?_)
  refine .cons (.assign .none (.int (by decide))) rfl ?_
  refine .nil (.then ?_)
  refine .ret ?_
  obtain rfl := some_eq h
  exact Ends.ret1 (.inl rfl) Try.results25 (ResOK.tmp rfl trivial Imp.refl)

theorem ref_PointError_ok {p1 : Point} {r : Int}  (h : ref_PointError p1 = some r) : FSpec Try.prog 10 [rep p1] (rep r) := by
 unfold ref_PointError at h
 refine FSpec.intro (n := 14) fnok10 Try.func10 rfl Try.ntmps10 rfl (fun F => ?_)
 refine .seq (.region [] mixed (by kernel_rfl) ?_)
 refine .cons (.box .none (.s rfl)) rfl ?_
 refine .cons (.assign .none (.int (by decide))) rfl ?_
 refine .nil (.then ?_)
 refine .seq (.region [] mixed (by kernel_rfl) ?_)
 refine .cons (.fieldAddr .none fd23_0 hfd23_0 (.s rfl)) rfl ?_
 refine .cons (.load .none ty3 (.s rfl)) rfl ?_
 obtain ⟨r1, hv1, h⟩ := bind_some h
 refine .cons (.call .none (ref_In_ok hv1) (.cons (.s rfl) (.cons (.int (by decide)) (.cons (.int (by decide)) .nil)))) rfl ?_
 refine .cons (.not .none (.s rfl)) rfl ?_
 refine .cons (.move .none (.s rfl)) rfl ?_
 refine .cons (.fieldAddr (.at rfl rfl) fd23_1 hfd23_1 (.s rfl)) rfl ?_
 refine .cons (.load (.at rfl rfl) ty3 (.tmp rfl id)) rfl ?_
 obtain ⟨r2, hv2, h⟩ := bind_some h
 refine .cons (.callIf (.at rfl rfl) fnok26 (fun hg => ref_In_ok ((fun hg => gd_some hv2 ((notT hg.2))) hg)) (.cons (.tmp rfl id) (.cons (.int (by decide)) (.cons (.int (by decide)) .nil))) (fun h => h)) rfl ?_
 refine .cons (.not (.at rfl rfl) (.tmp rfl id)) rfl ?_
 refine .cons (.pickOr .none (.s rfl) (.tmp rfl id)) rfl ?_
 obtain ⟨r3, hv3, h⟩ := bind_some h
 refine .cons (.call .none (ref_When_ok hv3) (.cons (.s rfl) (.cons (.int (by decide)) .nil))) rfl ?_
 refine .cons (.assign .none (.s rfl)) rfl ?_
 refine .nil (.then ?_)
 refine .ret ?_
 obtain rfl := some_eq h
 exact Ends.ret1 (.inl rfl) Try.results10 (ResOK.tmp rfl trivial Imp.refl)

theorem ref_PointsError_ok {l1 : (List Point)} {r : Int}  (h : ref_PointsError l1 = some r) : FSpec Try.prog 48 [rep l1] (rep r) := by
 unfold ref_PointsError at h
 refine FSpec.intro (n := 21) fnok48 Try.func48 rfl Try.ntmps48 rfl (fun F => ?_)
 refine .seq (.region [] mixed (by kernel_rfl) ?_)
 refine .cons (.assign .none (.int (by decide))) rfl ?_
 refine .nil (.then ?_)
 refine .seq ?_
 refine .seq (.region [] mixed (by kernel_rfl) ?_)
 refine .cons (.move .none (.s rfl)) rfl ?_
 refine .cons (.len .none sl66 (.s rfl)) rfl ?_
 refine .cons (.gt .none (.s rfl) (.int (by decide))) rfl ?_
 refine .nil (.then ?_)
 refine .cond (t := 8) rfl trivial (fun hb1 => ?_) (fun hb1 => ?_)
 ·
  replace h := bif_t h hb1
  refine .seq (.region [] mixed (by kernel_rfl) ?_)
  refine .cons (.assign .none (.int (by decide))) rfl ?_
  refine .nil (.then ?_)
  refine .ret ?_
  refine .thenRet ?_
  obtain rfl := some_eq h
  exact Ends.ret1 (.inl rfl) Try.results48 (ResOK.tmp rfl trivial Imp.refl)
 ·
  replace h := bif_f h hb1
  refine .skip ?_
  refine .then ?_
  refine .seq ?_
  refine .seq (.region [] mixed (by kernel_rfl) ?_)
  refine .cons (.move .none (.s rfl)) rfl ?_
  refine .cons (.len .none sl66 (.s rfl)) rfl ?_
  refine .cons (.move .none (.int (by decide))) rfl ?_
  refine .nil (.then ?_)
  obtain ⟨o_2, h, hK2⟩ := bindR_some h
  refine .thenJ (ι := Unit) (fun j_2 => []) (fun j_2 => []) (fun s => o_2 = Res.nx s) Sub.nil SubB.nil ?_ (fun j_2 hj2 => ?_)
  ·
   skip
   refine .block ?_
   refine .rforEL h (fun p3_ => [(11, ⟨True, rep p3_.1⟩)]) (fun p3_ => []) (.k 11 rfl .nil) SubB.nil (.k 9 rfl (.k 10 rfl .nil)) SubB.nil (fun p3_ o_3 h hD3 => ?_)
   refine .seq (.region [] mixed (by kernel_rfl) ?_)
   refine .cons (.lt .none (.s rfl) (.s rfl)) rfl ?_
   refine .nil (.then ?_)
   refine .seq ?_
   refine .cond (t := 12) rfl trivial (fun hb4 => ?_) (fun hb4 => ?_)
   ·
    replace h := bif_t h hb4
    refine .skip ?_
    refine .then ?_
    refine .seq ?_
    obtain ⟨o_5, h, hK5⟩ := bindD_some h
    unfold ref_PointsError_L1 at h
    refine .thenJ (ι := Unit) (fun j_5 => []) (fun j_5 => []) (fun s => o_5 = Res.nx s) (.k 9 rfl (.k 10 rfl (.k 11 rfl .nil))) SubB.nil ?_ (fun j_5 hj5 => ?_)
    ·
     skip
     refine .block ?_
     refine .seq (.region [([], []), ([], []), ([], [4]), ([4], [4])] mixed (by kernel_rfl) ?_)
     obtain ⟨hn6, h⟩ := need_some h
     refine .consA (.indexAddr .none sl66 ty23 (.s rfl) (.s rfl) (fun _ => hn6)) rfl ?_
     obtain ⟨v1, hv7, h⟩ := bnd_some h
     refine .consA (.re hv7 (.load .none ty23 (.s rfl))) rfl ?_
     refine .consW (.alloc zo23 rfl) rfl rfl ?_
     refine .consN (.store ty23 rfl rfl (.s rfl)) rfl ?_
     refine .nil (.then ?_)
     refine .freeze (t := 4) rfl rfl SubB.nil rfl ?_
     refine .seq (.region [] mixed (by kernel_rfl) ?_)
     refine .cons (.load .none ty23 (.s rfl)) rfl ?_
     obtain ⟨e1, hv8, h⟩ := bind_some h
     refine .cons (.call .none (ref_PointError_ok hv8) (.cons (.s rfl) .nil)) rfl ?_
     refine .cons (.assign .none (.s rfl)) rfl ?_
     refine .nil (.then ?_)
     refine .seq (.region [] mixed (by kernel_rfl) ?_)
     refine .cons (.move .none (.s rfl)) rfl ?_
     refine .cons (.neI .none (.s rfl) (.int (by decide))) rfl ?_
     refine .nil (.then ?_)
     refine .cond (t := 18) rfl trivial (fun hb9 => ?_) (fun hb9 => ?_)
     ·
      replace h := bif_t h hb9
      refine .seq (.region [] mixed (by kernel_rfl) ?_)
      refine .cons (.move .none (.s rfl)) rfl ?_
      refine .cons (.assign .none (.s rfl)) rfl ?_
      refine .nil (.then ?_)
      refine .ret ?_
      refine .blkRet ?_
      refine .thenRet ?_
      refine .thenRet ?_
      refine .blkRet ?_
      refine .thenRet ?_
      replace h := resd_ab hK5 (some_eq h)
      replace h := hD3 _ (some_eq h)
      replace h := resb_ab hK2 (some_eq h)
      obtain rfl := some_eq h
      exact Ends.ret1 (.inl rfl) Try.results48 (ResOK.tmp rfl trivial Imp.refl)
     ·
      replace h := bif_f h hb9
      refine .skip ?_
      refine .blkNormal ?_
      exact Ends.join _ (some_eq h) (.k 9 rfl (.k 10 rfl (.k 11 rfl .nil))) SubB.nil
    ·
     have h := resd_nx hK5 hj5
     refine .region [] mixed (by kernel_rfl) ?_
     refine .cons (.addW .none (.s rfl) (.int (by decide))) rfl ?_
     refine .cons (.move .none (.s rfl)) rfl ?_
     refine .nil ?_
     exact Ends.againL (some_eq h) (.k 11 rfl (.k 9 rfl (.k 10 rfl .nil))) SubB.nil
   ·
    replace h := bif_f h hb4
    refine .exit ?_
    refine .thenExit ?_
    refine .thenExit ?_
    refine .blkExit ?_
    replace h := hD3 _ (some_eq h)
    exact Ends.join _ (some_eq h) Sub.nil SubB.nil
  ·
   have h := resb_nx hK2 hj2
   refine .seq (.region [] mixed (by kernel_rfl) ?_)
   refine .cons (.assign .none (.int (by decide))) rfl ?_
   refine .nil (.then ?_)
   refine .ret ?_
   obtain rfl := some_eq h
   exact Ends.ret1 (.inl rfl) Try.results48 (ResOK.tmp rfl trivial Imp.refl)

theorem geom_out_ok {n1 : Int} {r : Bool}  (h : geom_out n1 = some r) : FSpec Try.prog 89 [rep n1] (rep r) := by
 unfold geom_out at h
 refine FSpec.intro (n := 9) fnok89 Try.func89 rfl Try.ntmps89 rfl (fun F => ?_)
 refine .seq (.region [] mixed (by kernel_rfl) ?_)
 refine .cons (.assign .none .bool) rfl ?_
 refine .nil (.then ?_)
 refine .seq (.region [] mixed (by kernel_rfl) ?_)
 refine .cons (.move .none (.s rfl)) rfl ?_
 refine .cons (.lt .none (.s rfl) (.int (by decide))) rfl ?_
 refine .cons (.move .none (.s rfl)) rfl ?_
 refine .cons (.move (.at rfl rfl) (.s rfl)) rfl ?_
 refine .cons (.gt (.at rfl rfl) (.tmp rfl id) (.int (by decide))) rfl ?_
 refine .cons (.pickOr .none (.s rfl) (.tmp rfl id)) rfl ?_
 refine .cons (.assign .none (.s rfl)) rfl ?_
 refine .nil (.then ?_)
 refine .ret ?_
 obtain rfl := some_eq h
 exact Ends.ret1 (.inl rfl) Try.results89 (ResOK.tmp rfl trivial Imp.refl)

theorem geom_CheckPoint_ok {p1 : Point} {r : Int}  (h : geom_CheckPoint p1 = some r) : FSpec Try.prog 34 [rep p1] (rep r) := by
 unfold geom_CheckPoint at h
 refine FSpec.intro (n := 11) fnok34 Try.func34 rfl Try.ntmps34 rfl (fun F => ?_)
 refine .seq (.region [] mixed (by kernel_rfl) ?_)
 refine .cons (.box .none (.s rfl)) rfl ?_
 refine .cons (.assign .none (.int (by decide))) rfl ?_
 refine .nil (.then ?_)
 refine .seq ?_
 refine .seq (.region [] mixed (by kernel_rfl) ?_)
 refine .cons (.fieldAddr .none fd23_0 hfd23_0 (.s rfl)) rfl ?_
 refine .cons (.load .none ty3 (.s rfl)) rfl ?_
 obtain ⟨r1, hv1, h⟩ := bind_some h
 refine .cons (.call .none (geom_out_ok hv1) (.cons (.s rfl) .nil)) rfl ?_
 refine .cons (.move .none (.s rfl)) rfl ?_
 refine .cons (.fieldAddr (.at rfl rfl) fd23_1 hfd23_1 (.s rfl)) rfl ?_
 refine .cons (.load (.at rfl rfl) ty3 (.tmp rfl id)) rfl ?_
 obtain ⟨r2, hv2, h⟩ := bind_some h
 refine .cons (.callIf (.at rfl rfl) fnok89 (fun hg => geom_out_ok ((fun hg => gd_some hv2 ((notT hg.2))) hg)) (.cons (.tmp rfl id) .nil) (fun h => h)) rfl ?_
 refine .cons (.pickOr .none (.s rfl) (.tmp rfl id)) rfl ?_
 refine .nil (.then ?_)
 refine .cond (t := 10) rfl trivial (fun hb3 => ?_) (fun hb3 => ?_)
 ·
  replace h := bif_t h hb3
  refine .seq (.region [] mixed (by kernel_rfl) ?_)
  refine .cons (.assign .none (.int (by decide))) rfl ?_
  refine .nil (.then ?_)
  refine .ret ?_
  refine .thenRet ?_
  obtain rfl := some_eq h
  exact Ends.ret1 (.inl rfl) Try.results34 (ResOK.tmp rfl trivial Imp.refl)
 ·
  replace h := bif_f h hb3
  refine .skip ?_
  refine .then ?_
  refine .seq (.region [] mixed (by kernel_rfl) ?_)
  refine .cons (.assign .none (.int (by decide))) rfl ?_
  refine .nil (.then ?_)
  refine .ret ?_
  obtain rfl := some_eq h
  exact Ends.ret1 (.inl rfl) Try.results34 (ResOK.tmp rfl trivial Imp.refl)

theorem geom_points_ok {l1 : (List Point)} {r : Int}  (h : geom_points l1 = some r) : FSpec Try.prog 79 [rep l1] (rep r) := by
 unfold geom_points at h
 refine FSpec.intro (n := 18) fnok79 Try.func79 rfl Try.ntmps79 rfl (fun F => ?_)
 refine .seq (.region [] mixed (by kernel_rfl) ?_)
 refine .cons (.assign .none (.int (by decide))) rfl ?_
 refine .nil (.then ?_)
 refine .seq ?_
 refine .seq (.region [] mixed (by kernel_rfl) ?_)
 refine .cons (.move .none (.s rfl)) rfl ?_
 refine .cons (.len .none sl66 (.s rfl)) rfl ?_
 refine .cons (.move .none (.int (by decide))) rfl ?_
 refine .nil (.then ?_)
 obtain ⟨o_1, h, hK1⟩ := bindR_some h
 refine .thenJ (ι := Unit) (fun j_1 => []) (fun j_1 => []) (fun s => o_1 = Res.nx s) Sub.nil SubB.nil ?_ (fun j_1 hj1 => ?_)
 ·
  skip
  refine .block ?_
  refine .rforEL h (fun p2_ => [(8, ⟨True, rep p2_.1⟩)]) (fun p2_ => []) (.k 8 rfl .nil) SubB.nil (.k 6 rfl (.k 7 rfl .nil)) SubB.nil (fun p2_ o_2 h hD2 => ?_)
  refine .seq (.region [] mixed (by kernel_rfl) ?_)
  refine .cons (.lt .none (.s rfl) (.s rfl)) rfl ?_
  refine .nil (.then ?_)
  refine .seq ?_
  refine .cond (t := 9) rfl trivial (fun hb3 => ?_) (fun hb3 => ?_)
  ·
   replace h := bif_t h hb3
   refine .skip ?_
   refine .then ?_
   refine .seq ?_
   obtain ⟨o_4, h, hK4⟩ := bindD_some h
   unfold geom_points_L1 at h
   refine .thenJ (ι := Unit) (fun j_4 => []) (fun j_4 => []) (fun s => o_4 = Res.nx s) (.k 6 rfl (.k 7 rfl (.k 8 rfl .nil))) SubB.nil ?_ (fun j_4 hj4 => ?_)
   ·
    skip
    refine .block ?_
    refine .seq (.region [([], []), ([], []), ([], [4]), ([4], [4])] mixed (by kernel_rfl) ?_)
    obtain ⟨hn5, h⟩ := need_some h
    refine .consA (.indexAddr .none sl66 ty23 (.s rfl) (.s rfl) (fun _ => hn5)) rfl ?_
    obtain ⟨v1, hv6, h⟩ := bnd_some h
    refine .consA (.re hv6 (.load .none ty23 (.s rfl))) rfl ?_
    refine .consW (.alloc zo23 rfl) rfl rfl ?_
    refine .consN (.store ty23 rfl rfl (.s rfl)) rfl ?_
    refine .nil (.then ?_)
    refine .freeze (t := 4) rfl rfl SubB.nil rfl ?_
    refine .seq (.region [] mixed (by kernel_rfl) ?_)
    refine .cons (.load .none ty23 (.s rfl)) rfl ?_
    obtain ⟨e1, hv7, h⟩ := bind_some h
    refine .cons (.call .none (geom_CheckPoint_ok hv7) (.cons (.s rfl) .nil)) rfl ?_
    refine .cons (.assign .none (.s rfl)) rfl ?_
    refine .nil (.then ?_)
    refine .seq (.region [] mixed (by kernel_rfl) ?_)
    refine .cons (.move .none (.s rfl)) rfl ?_
    refine .cons (.neI .none (.s rfl) (.int (by decide))) rfl ?_
    refine .nil (.then ?_)
    refine .cond (t := 15) rfl trivial (fun hb8 => ?_) (fun hb8 => ?_)
    ·
     replace h := bif_t h hb8
     refine .seq (.region [] mixed (by kernel_rfl) ?_)
     refine .cons (.move .none (.s rfl)) rfl ?_
     refine .cons (.assign .none (.s rfl)) rfl ?_
     refine .nil (.then ?_)
     refine .ret ?_
     refine .blkRet ?_
     refine .thenRet ?_
     refine .thenRet ?_
     refine .blkRet ?_
     refine .thenRet ?_
     replace h := resd_ab hK4 (some_eq h)
     replace h := hD2 _ (some_eq h)
     replace h := resb_ab hK1 (some_eq h)
     obtain rfl := some_eq h
     exact Ends.ret1 (.inl rfl) Try.results79 (ResOK.tmp rfl trivial Imp.refl)
    ·
     replace h := bif_f h hb8
     refine .skip ?_
     refine .blkNormal ?_
     exact Ends.join _ (some_eq h) (.k 6 rfl (.k 7 rfl (.k 8 rfl .nil))) SubB.nil
   ·
    have h := resd_nx hK4 hj4
    refine .region [] mixed (by kernel_rfl) ?_
    refine .cons (.addW .none (.s rfl) (.int (by decide))) rfl ?_
    refine .cons (.move .none (.s rfl)) rfl ?_
    refine .nil ?_
    exact Ends.againL (some_eq h) (.k 8 rfl (.k 6 rfl (.k 7 rfl .nil))) SubB.nil
  ·
   replace h := bif_f h hb3
   refine .exit ?_
   refine .thenExit ?_
   refine .thenExit ?_
   refine .blkExit ?_
   replace h := hD2 _ (some_eq h)
   exact Ends.join _ (some_eq h) Sub.nil SubB.nil
 ·
  have h := resb_nx hK1 hj1
  refine .seq (.region [] mixed (by kernel_rfl) ?_)
  refine .cons (.assign .none (.int (by decide))) rfl ?_
  refine .nil (.then ?_)
  refine .ret ?_
  obtain rfl := some_eq h
  exact Ends.ret1 (.inl rfl) Try.results79 (ResOK.tmp rfl trivial Imp.refl)

theorem geom_CheckPoints_ok {l1 : (List Point)} {r : Int}  (h : geom_CheckPoints l1 = some r) : FSpec Try.prog 47 [rep l1] (rep r) := by
 unfold geom_CheckPoints at h
 refine FSpec.intro (n := 8) fnok47 Try.func47 rfl Try.ntmps47 rfl (fun F => ?_)
 refine .seq (.region [] mixed (by kernel_rfl) ?_)
 refine .cons (.assign .none (.int (by decide))) rfl ?_
 refine .nil (.then ?_)
 refine .seq ?_
 refine .seq (.region [] mixed (by kernel_rfl) ?_)
 refine .cons (.move .none (.s rfl)) rfl ?_
 refine .cons (.len .none sl66 (.s rfl)) rfl ?_
 refine .cons (.gt .none (.s rfl) (.int (by decide))) rfl ?_
 refine .nil (.then ?_)
 refine .cond (t := 5) rfl trivial (fun hb1 => ?_) (fun hb1 => ?_)
 ·
  replace h := bif_t h hb1
  refine .seq (.region [] mixed (by kernel_rfl) ?_)
  refine .cons (.assign .none (.int (by decide))) rfl ?_
  refine .nil (.then ?_)
  refine .ret ?_
  refine .thenRet ?_
  obtain rfl := some_eq h
  exact Ends.ret1 (.inl rfl) Try.results47 (ResOK.tmp rfl trivial Imp.refl)
 ·
  replace h := bif_f h hb1
  refine .skip ?_
  refine .then ?_
  refine .seq (.region [] mixed (by kernel_rfl) ?_)
  refine .cons (.move .none (.s rfl)) rfl ?_
  obtain ⟨r1, hv2, h⟩ := bind_some h
  refine .cons (.call .none (geom_points_ok hv2) (.cons (.s rfl) .nil)) rfl ?_
  refine .cons (.assign .none (.s rfl)) rfl ?_
  refine .nil (.then ?_)
  refine .ret ?_
  obtain rfl := some_eq h
  exact Ends.ret1 (.inl rfl) Try.results47 (ResOK.tmp rfl trivial Imp.refl)

theorem geom_ring_ok {l1 : (List Point)} {r : Int}  (h : geom_ring l1 = some r) : FSpec Try.prog 96 [rep l1] (rep r) := by
 unfold geom_ring at h
 refine FSpec.intro (n := 12) fnok96 Try.func96 rfl Try.ntmps96 rfl (fun F => ?_)
 refine .seq (.region [] mixed (by kernel_rfl) ?_)
 refine .cons (.assign .none (.int (by decide))) rfl ?_
 refine .nil (.then ?_)
 refine .seq ?_
 refine .seq (.region [] mixed (by kernel_rfl) ?_)
 refine .cons (.move .none (.s rfl)) rfl ?_
 obtain ⟨e1, hv1, h⟩ := bind_some h
 refine .cons (.call .none (geom_CheckPoints_ok hv1) (.cons (.s rfl) .nil)) rfl ?_
 refine .cons (.assign .none (.s rfl)) rfl ?_
 refine .nil (.then ?_)
 refine .seq (.region [] mixed (by kernel_rfl) ?_)
 refine .cons (.move .none (.s rfl)) rfl ?_
 refine .cons (.neI .none (.s rfl) (.int (by decide))) rfl ?_
 refine .nil (.then ?_)
 refine .cond (t := 7) rfl trivial (fun hb2 => ?_) (fun hb2 => ?_)
 ·
  replace h := bif_t h hb2
  refine .seq (.region [] mixed (by kernel_rfl) ?_)
  refine .cons (.move .none (.s rfl)) rfl ?_
  refine .cons (.assign .none (.s rfl)) rfl ?_
  refine .nil (.then ?_)
  refine .ret ?_
  refine .thenRet ?_
  obtain rfl := some_eq h
  exact Ends.ret1 (.inl rfl) Try.results96 (ResOK.tmp rfl trivial Imp.refl)
 ·
  replace h := bif_f h hb2
  refine .skip ?_
  refine .then ?_
  refine .seq ?_
  refine .seq (.region [] mixed (by kernel_rfl) ?_)
  refine .cons (.move .none (.s rfl)) rfl ?_
  refine .cons (.len .none sl66 (.s rfl)) rfl ?_
  refine .cons (.lt .none (.s rfl) (.int (by decide))) rfl ?_
  refine .nil (.then ?_)
  refine .cond (t := 11) rfl trivial (fun hb3 => ?_) (fun hb3 => ?_)
  ·
   replace h := bif_t h hb3
   refine .seq (.region [] mixed (by kernel_rfl) ?_)
   refine .cons (.assign .none (.int (by decide))) rfl ?_
   refine .nil (.then ?_)
   refine .ret ?_
   refine .thenRet ?_
   obtain rfl := some_eq h
   exact Ends.ret1 (.inl rfl) Try.results96 (ResOK.tmp rfl trivial Imp.refl)
  ·
   replace h := bif_f h hb3
   refine .skip ?_
   refine .then ?_
   refine .seq (.region [] mixed (by kernel_rfl) ?_)
   refine .cons (.assign .none (.int (by decide))) rfl ?_
   refine .nil (.then ?_)
   refine .ret ?_
   obtain rfl := some_eq h
   exact Ends.ret1 (.inl rfl) Try.results96 (ResOK.tmp rfl trivial Imp.refl)

theorem geom_Area_ok {l1 : (List Point)} {r : (Int × Int)}  (h : geom_Area l1 = some r) : FSpec Try.prog 62 [rep l1] (tup [rep r.1, rep r.2]) := by
 unfold geom_Area at h
 refine FSpec.intro (n := 47) fnok62 Try.func62 rfl Try.ntmps62 rfl (fun F => ?_)
 refine .seq (.region [] mixed (by kernel_rfl) ?_)
 refine .cons (.assign .none (.int (by decide))) rfl ?_
 refine .cons (.assign .none (.int (by decide))) rfl ?_
 refine .nil (.then ?_)
 refine .seq ?_
 refine .seq (.region [] mixed (by kernel_rfl) ?_)
 refine .cons (.move .none (.s rfl)) rfl ?_
 obtain ⟨e1, hv1, h⟩ := bind_some h
 refine .cons (.call .none (geom_ring_ok hv1) (.cons (.s rfl) .nil)) rfl ?_
 refine .cons (.assign .none (.s rfl)) rfl ?_
 refine .nil (.then ?_)
 refine .seq (.region [] mixed (by kernel_rfl) ?_)
 refine .cons (.move .none (.s rfl)) rfl ?_
 refine .cons (.neI .none (.s rfl) (.int (by decide))) rfl ?_
 refine .nil (.then ?_)
 refine .cond (t := 12) rfl trivial (fun hb2 => ?_) (fun hb2 => ?_)
 ·
  replace h := bif_t h hb2
  refine .seq (.region [] mixed (by kernel_rfl) ?_)
  refine .cons (.move .none (.s rfl)) rfl ?_
  refine .cons (.assign .none (.int (by decide))) rfl ?_
  refine .cons (.assign .none (.s rfl)) rfl ?_
  refine .nil (.then ?_)
  refine .ret ?_
  refine .thenRet ?_
  obtain rfl := some_eq h
  exact Ends.ret2 (.inl rfl) Try.results62 (ResOK.tmp rfl trivial Imp.refl) (ResOK.tmp rfl trivial Imp.refl)
 ·
  replace h := bif_f h hb2
  refine .skip ?_
  refine .then ?_
  refine .seq (.region [] mixed (by kernel_rfl) ?_)
  refine .cons (.assign .none (.int (by decide))) rfl ?_
  refine .nil (.then ?_)
  refine .seq ?_
  refine .seq (.region [] mixed (by kernel_rfl) ?_)
  refine .cons (.move .none (.s rfl)) rfl ?_
  refine .cons (.len .none sl66 (.s rfl)) rfl ?_
  refine .cons (.move .none (.int (by decide))) rfl ?_
  refine .nil (.then ?_)
  obtain ⟨j_3, h, hK3⟩ := bind_some h
  refine .thenJ (ι := Int) (fun j_3 => [(5, ⟨True, rep j_3⟩)]) (fun j_3 => []) (fun s => j_3 = s) Sub.nil SubB.nil ?_ (fun j_3' hj3 => ?_)
  ·
   skip
   refine .block ?_
   refine .rforL h (fun p4_ => [(16, ⟨True, rep p4_.1⟩), (5, ⟨True, rep p4_.2⟩)]) (fun p4_ => []) (.k 16 rfl (.k 5 rfl .nil)) SubB.nil (.k 0 rfl (.k 14 rfl (.k 15 rfl .nil))) SubB.nil (fun p4_ o_4 h hD4 => ?_)
   refine .seq (.region [] mixed (by kernel_rfl) ?_)
   refine .cons (.lt .none (.s rfl) (.s rfl)) rfl ?_
   refine .nil (.then ?_)
   refine .seq ?_
   refine .cond (t := 17) rfl trivial (fun hb5 => ?_) (fun hb5 => ?_)
   ·
    replace h := bif_t h hb5
    refine .skip ?_
    refine .then ?_
    refine .seq ?_
    obtain ⟨j_6, h, hK6⟩ := bind_some h
    unfold geom_Area_L1 at h
    refine .thenJ (ι := Int) (fun j_6 => [(5, ⟨True, rep j_6⟩)]) (fun j_6 => []) (fun s => j_6 = s) (.k 0 rfl (.k 14 rfl (.k 15 rfl (.k 16 rfl .nil)))) SubB.nil ?_ (fun j_6' hj6 => ?_)
    ·
     skip
     refine .block ?_
     refine .seq (.region [([], []), ([], []), ([], []), ([], [7]), ([], []), ([7], [7])] mixed (by kernel_rfl) ?_)
     refine .consA (.move .none (.s rfl)) rfl ?_
     obtain ⟨hn7, h⟩ := need_some h
     refine .consA (.indexAddr .none sl66 ty23 (.s rfl) (.s rfl) (fun _ => hn7)) rfl ?_
     obtain ⟨v1, hv8, h⟩ := bnd_some h
     refine .consA (.re hv8 (.load .none ty23 (.s rfl))) rfl ?_
     refine .consW (.alloc zo23 rfl) rfl rfl ?_
     refine .consA (.assign .none (.s rfl)) rfl ?_
     refine .consN (.store ty23 rfl rfl (.s rfl)) rfl ?_
     refine .nil (.then ?_)
     refine .freeze (t := 7) rfl rfl SubB.nil rfl ?_
     refine .seq (.region [([], []), ([], []), ([], []), ([], []), ([], []), ([], []), ([], []), ([], []), ([], [8]), ([8], [8])] mixed (by kernel_rfl) ?_)
     refine .consA (.move .none (.s rfl)) rfl ?_
     refine .consA (.move .none (.s rfl)) rfl ?_
     refine .consA (.addW .none (.s rfl) (.int (by decide))) rfl ?_
     refine .consA (.move .none (.s rfl)) rfl ?_
     refine .consA (.len .none sl66 (.s rfl)) rfl ?_
     obtain ⟨hn9, h⟩ := need_some h
     refine .consA (.rem .none (.s rfl) (.s rfl) (fun _ => hn9)) rfl ?_
     obtain ⟨hn10, h⟩ := need_some h
     refine .consA (.indexAddr .none sl66 ty23 (.s rfl) (.s rfl) (fun _ => hn10)) rfl ?_
     obtain ⟨v2, hv11, h⟩ := bnd_some h
     refine .consA (.re hv11 (.load .none ty23 (.s rfl))) rfl ?_
     refine .consW (.alloc zo23 rfl) rfl rfl ?_
     refine .consN (.store ty23 rfl rfl (.s rfl)) rfl ?_
     refine .nil (.then ?_)
     refine .freeze (t := 8) rfl rfl SubB.nil rfl ?_
     refine .region [] mixed (by kernel_rfl) ?_
     refine .cons (.move .none (.s rfl)) rfl ?_
     refine .cons (.fieldAddr .none fd23_0 hfd23_0 (.s rfl)) rfl ?_
     refine .cons (.load .none ty3 (.s rfl)) rfl ?_
     refine .cons (.fieldAddr .none fd23_1 hfd23_1 (.s rfl)) rfl ?_
     refine .cons (.load .none ty3 (.s rfl)) rfl ?_
     refine .cons (.mulW .none (.s rfl) (.s rfl)) rfl ?_
     refine .cons (.fieldAddr .none fd23_0 hfd23_0 (.s rfl)) rfl ?_
     refine .cons (.load .none ty3 (.s rfl)) rfl ?_
     refine .cons (.fieldAddr .none fd23_1 hfd23_1 (.s rfl)) rfl ?_
     refine .cons (.load .none ty3 (.s rfl)) rfl ?_
     refine .cons (.mulW .none (.s rfl) (.s rfl)) rfl ?_
     refine .cons (.subW .none (.s rfl) (.s rfl)) rfl ?_
     refine .cons (.addW .none (.s rfl) (.s rfl)) rfl ?_
     obtain ⟨sum1, hv12, h⟩ := bnd_some h
     refine .cons (.re hv12 (.assign .none (.s rfl))) rfl ?_
     refine .nil ?_
     refine .blkNormal ?_
     exact Ends.join _ (some_eq h) (.k 5 rfl (.k 0 rfl (.k 14 rfl (.k 15 rfl (.k 16 rfl .nil))))) SubB.nil
    ·
     subst hj6; have h := hK6; clear hK6
     refine .region [] mixed (by kernel_rfl) ?_
     refine .cons (.addW .none (.s rfl) (.int (by decide))) rfl ?_
     refine .cons (.move .none (.s rfl)) rfl ?_
     refine .nil ?_
     exact Ends.againL (some_eq h) (.k 16 rfl (.k 5 rfl (.k 0 rfl (.k 14 rfl (.k 15 rfl .nil))))) SubB.nil
   ·
    replace h := bif_f h hb5
    refine .exit ?_
    refine .thenExit ?_
    refine .thenExit ?_
    refine .blkExit ?_
    replace h := hD4 _ (some_eq h)
    exact Ends.join _ (some_eq h) (.k 5 rfl .nil) SubB.nil
  ·
   subst hj3; have h := hK3; clear hK3
   refine .seq (.region [] mixed (by kernel_rfl) ?_)
   refine .cons (.move .none (.s rfl)) rfl ?_
   refine .cons (.move .none (.s rfl)) rfl ?_
   refine .cons (.negW .none (.s rfl)) rfl ?_
   refine .cons (.max2 .none (.s rfl) (.s rfl)) rfl ?_
   refine .cons (.assign .none (.s rfl)) rfl ?_
   refine .cons (.assign .none (.int (by decide))) rfl ?_
   refine .nil (.then ?_)
   refine .ret ?_
   obtain rfl := some_eq h
   exact Ends.ret2 (.inl rfl) Try.results62 (ResOK.tmp rfl trivial Imp.refl) (ResOK.tmp rfl trivial Imp.refl)

theorem geom_between_ok {a1 : Point} {b1 : Point} {p1 : Point} {r : Bool}  (h : geom_between a1 b1 p1 = some r) : FSpec Try.prog 112 [rep a1, rep b1, rep p1] (rep r) := by
 unfold geom_between at h
 refine FSpec.intro (n := 45) fnok112 Try.func112 rfl Try.ntmps112 rfl (fun F => ?_)
 refine .seq (.region [] mixed (by kernel_rfl) ?_)
 refine .cons (.box .none (.s rfl)) rfl ?_
 refine .cons (.box .none (.s rfl)) rfl ?_
 refine .cons (.box .none (.s rfl)) rfl ?_
 refine .cons (.assign .none .bool) rfl ?_
 refine .nil (.then ?_)
 refine .seq (.region [] mixed (by kernel_rfl) ?_)
 refine .cons (.fieldAddr .none fd23_0 hfd23_0 (.s rfl)) rfl ?_
 refine .cons (.load .none ty3 (.s rfl)) rfl ?_
 refine .cons (.fieldAddr .none fd23_0 hfd23_0 (.s rfl)) rfl ?_
 refine .cons (.load .none ty3 (.s rfl)) rfl ?_
 refine .cons (.fieldAddr .none fd23_0 hfd23_0 (.s rfl)) rfl ?_
 refine .cons (.load .none ty3 (.s rfl)) rfl ?_
 refine .cons (.min2 .none (.s rfl) (.s rfl)) rfl ?_
 refine .cons (.ge .none (.s rfl) (.s rfl)) rfl ?_
 refine .cons (.move .none (.s rfl)) rfl ?_
 refine .cons (.fieldAddr (.at rfl rfl) fd23_0 hfd23_0 (.s rfl)) rfl ?_
 refine .cons (.load (.at rfl rfl) ty3 (.tmp rfl id)) rfl ?_
 refine .cons (.fieldAddr (.at rfl rfl) fd23_0 hfd23_0 (.s rfl)) rfl ?_
 refine .cons (.load (.at rfl rfl) ty3 (.tmp rfl id)) rfl ?_
 refine .cons (.fieldAddr (.at rfl rfl) fd23_0 hfd23_0 (.s rfl)) rfl ?_
 refine .cons (.load (.at rfl rfl) ty3 (.tmp rfl id)) rfl ?_
 refine .cons (.max2 (.at rfl rfl) (.tmp rfl id) (.tmp rfl id)) rfl ?_
 refine .cons (.le (.at rfl rfl) (.tmp rfl id) (.tmp rfl id)) rfl ?_
 refine .cons (.pickAnd .none (.s rfl) (.tmp rfl id)) rfl ?_
 refine .cons (.move .none (.s rfl)) rfl ?_
 refine .cons (.fieldAddr (.at rfl rfl) fd23_1 hfd23_1 (.s rfl)) rfl ?_
 refine .cons (.load (.at rfl rfl) ty3 (.tmp rfl id)) rfl ?_
 refine .cons (.fieldAddr (.at rfl rfl) fd23_1 hfd23_1 (.s rfl)) rfl ?_
 refine .cons (.load (.at rfl rfl) ty3 (.tmp rfl id)) rfl ?_
 refine .cons (.fieldAddr (.at rfl rfl) fd23_1 hfd23_1 (.s rfl)) rfl ?_
 refine .cons (.load (.at rfl rfl) ty3 (.tmp rfl id)) rfl ?_
 refine .cons (.min2 (.at rfl rfl) (.tmp rfl id) (.tmp rfl id)) rfl ?_
 refine .cons (.ge (.at rfl rfl) (.tmp rfl id) (.tmp rfl id)) rfl ?_
 refine .cons (.pickAnd .none (.s rfl) (.tmp rfl id)) rfl ?_
 refine .cons (.move .none (.s rfl)) rfl ?_
 refine .cons (.fieldAddr (.at rfl rfl) fd23_1 hfd23_1 (.s rfl)) rfl ?_
 refine .cons (.load (.at rfl rfl) ty3 (.tmp rfl id)) rfl ?_
 refine .cons (.fieldAddr (.at rfl rfl) fd23_1 hfd23_1 (.s rfl)) rfl ?_
 refine .cons (.load (.at rfl rfl) ty3 (.tmp rfl id)) rfl ?_
 refine .cons (.fieldAddr (.at rfl rfl) fd23_1 hfd23_1 (.s rfl)) rfl ?_
 refine .cons (.load (.at rfl rfl) ty3 (.tmp rfl id)) rfl ?_
 refine .cons (.max2 (.at rfl rfl) (.tmp rfl id) (.tmp rfl id)) rfl ?_
 refine .cons (.le (.at rfl rfl) (.tmp rfl id) (.tmp rfl id)) rfl ?_
 refine .cons (.pickAnd .none (.s rfl) (.tmp rfl id)) rfl ?_
 refine .cons (.assign .none (.s rfl)) rfl ?_
 refine .nil (.then ?_)
 refine .ret ?_
 obtain rfl := some_eq h
 exact Ends.ret1 (.inl rfl) Try.results112 (ResOK.tmp rfl trivial Imp.refl)

theorem geom_on_ok {a1 : Point} {b1 : Point} {p1 : Point} {r : Bool}  (h : geom_on a1 b1 p1 = some r) : FSpec Try.prog 81 [rep a1, rep b1, rep p1] (rep r) := by
 unfold geom_on at h
 refine FSpec.intro (n := 36) fnok81 Try.func81 rfl Try.ntmps81 rfl (fun F => ?_)
 refine .seq (.region [] mixed (by kernel_rfl) ?_)
 refine .cons (.box .none (.s rfl)) rfl ?_
 refine .cons (.box .none (.s rfl)) rfl ?_
 refine .cons (.box .none (.s rfl)) rfl ?_
 refine .cons (.assign .none .bool) rfl ?_
 refine .nil (.then ?_)
 refine .seq (.region [] mixed (by kernel_rfl) ?_)
 refine .cons (.fieldAddr .none fd23_0 hfd23_0 (.s rfl)) rfl ?_
 refine .cons (.load .none ty3 (.s rfl)) rfl ?_
 refine .cons (.fieldAddr .none fd23_0 hfd23_0 (.s rfl)) rfl ?_
 refine .cons (.load .none ty3 (.s rfl)) rfl ?_
 refine .cons (.subW .none (.s rfl) (.s rfl)) rfl ?_
 refine .cons (.fieldAddr .none fd23_1 hfd23_1 (.s rfl)) rfl ?_
 refine .cons (.load .none ty3 (.s rfl)) rfl ?_
 refine .cons (.fieldAddr .none fd23_1 hfd23_1 (.s rfl)) rfl ?_
 refine .cons (.load .none ty3 (.s rfl)) rfl ?_
 refine .cons (.subW .none (.s rfl) (.s rfl)) rfl ?_
 refine .cons (.mulW .none (.s rfl) (.s rfl)) rfl ?_
 refine .cons (.fieldAddr .none fd23_1 hfd23_1 (.s rfl)) rfl ?_
 refine .cons (.load .none ty3 (.s rfl)) rfl ?_
 refine .cons (.fieldAddr .none fd23_1 hfd23_1 (.s rfl)) rfl ?_
 refine .cons (.load .none ty3 (.s rfl)) rfl ?_
 refine .cons (.subW .none (.s rfl) (.s rfl)) rfl ?_
 refine .cons (.fieldAddr .none fd23_0 hfd23_0 (.s rfl)) rfl ?_
 refine .cons (.load .none ty3 (.s rfl)) rfl ?_
 refine .cons (.fieldAddr .none fd23_0 hfd23_0 (.s rfl)) rfl ?_
 refine .cons (.load .none ty3 (.s rfl)) rfl ?_
 refine .cons (.subW .none (.s rfl) (.s rfl)) rfl ?_
 refine .cons (.mulW .none (.s rfl) (.s rfl)) rfl ?_
 refine .cons (.eqI .none (.s rfl) (.s rfl)) rfl ?_
 refine .cons (.move .none (.s rfl)) rfl ?_
 refine .cons (.load (.at rfl rfl) ty23 (.s rfl)) rfl ?_
 refine .cons (.load (.at rfl rfl) ty23 (.s rfl)) rfl ?_
 refine .cons (.load (.at rfl rfl) ty23 (.s rfl)) rfl ?_
 obtain ⟨r1, hv1, h⟩ := bind_some h
 refine .cons (.callIf (.at rfl rfl) fnok112 (fun hg => geom_between_ok ((fun hg => gd_some hv1 (hg.2)) hg)) (.cons (.tmp rfl id) (.cons (.tmp rfl id) (.cons (.tmp rfl id) .nil))) (fun h => h)) rfl ?_
 refine .cons (.pickAnd .none (.s rfl) (.tmp rfl id)) rfl ?_
 refine .cons (.assign .none (.s rfl)) rfl ?_
 refine .nil (.then ?_)
 refine .ret ?_
 obtain rfl := some_eq h
 exact Ends.ret1 (.inl rfl) Try.results81 (ResOK.tmp rfl trivial Imp.refl)

theorem geom_Inside_ok {l1 : (List Point)} {p1 : Point} {r : (Int × Int)}  (h : geom_Inside l1 p1 = some r) : FSpec Try.prog 63 [rep l1, rep p1] (tup [rep r.1, rep r.2]) := by
 unfold geom_Inside at h
 refine FSpec.intro (n := 89) fnok63 Try.func63 rfl Try.ntmps63 rfl (fun F => ?_)
 refine .seq (.region [] mixed (by kernel_rfl) ?_)
 refine .cons (.box .none (.s rfl)) rfl ?_
 refine .cons (.assign .none (.int (by decide))) rfl ?_
 refine .cons (.assign .none (.int (by decide))) rfl ?_
 refine .nil (.then ?_)
 refine .seq ?_
 refine .seq (.region [] mixed (by kernel_rfl) ?_)
 refine .cons (.move .none (.s rfl)) rfl ?_
 obtain ⟨e1, hv1, h⟩ := bind_some h
 refine .cons (.call .none (geom_CheckPoints_ok hv1) (.cons (.s rfl) .nil)) rfl ?_
 refine .cons (.assign .none (.s rfl)) rfl ?_
 refine .nil (.then ?_)
 refine .seq (.region [] mixed (by kernel_rfl) ?_)
 refine .cons (.move .none (.s rfl)) rfl ?_
 refine .cons (.neI .none (.s rfl) (.int (by decide))) rfl ?_
 refine .nil (.then ?_)
 refine .cond (t := 15) rfl trivial (fun hb2 => ?_) (fun hb2 => ?_)
 ·
  replace h := bif_t h hb2
  refine .seq (.region [] mixed (by kernel_rfl) ?_)
  refine .cons (.move .none (.s rfl)) rfl ?_
  refine .cons (.assign .none (.int (by decide))) rfl ?_
  refine .cons (.assign .none (.s rfl)) rfl ?_
  refine .nil (.then ?_)
  refine .ret ?_
  refine .thenRet ?_
  obtain rfl := some_eq h
  exact Ends.ret2 (.inl rfl) Try.results63 (ResOK.tmp rfl trivial Imp.refl) (ResOK.tmp rfl trivial Imp.refl)
 ·
  replace h := bif_f h hb2
  refine .skip ?_
  refine .then ?_
  refine .seq ?_
  refine .seq (.region [] mixed (by kernel_rfl) ?_)
  refine .cons (.load .none ty23 (.s rfl)) rfl ?_
  obtain ⟨e2, hv3, h⟩ := bind_some h
  refine .cons (.call .none (geom_CheckPoint_ok hv3) (.cons (.s rfl) .nil)) rfl ?_
  refine .cons (.assign .none (.s rfl)) rfl ?_
  refine .nil (.then ?_)
  refine .seq (.region [] mixed (by kernel_rfl) ?_)
  refine .cons (.move .none (.s rfl)) rfl ?_
  refine .cons (.neI .none (.s rfl) (.int (by decide))) rfl ?_
  refine .nil (.then ?_)
  refine .cond (t := 20) rfl trivial (fun hb4 => ?_) (fun hb4 => ?_)
  ·
   replace h := bif_t h hb4
   refine .seq (.region [] mixed (by kernel_rfl) ?_)
   refine .cons (.move .none (.s rfl)) rfl ?_
   refine .cons (.assign .none (.int (by decide))) rfl ?_
   refine .cons (.assign .none (.s rfl)) rfl ?_
   refine .nil (.then ?_)
   refine .ret ?_
   refine .thenRet ?_
   obtain rfl := some_eq h
   exact Ends.ret2 (.inl rfl) Try.results63 (ResOK.tmp rfl trivial Imp.refl) (ResOK.tmp rfl trivial Imp.refl)
  ·
   replace h := bif_f h hb4
   refine .skip ?_
   refine .then ?_
   refine .seq ?_
   refine .seq (.region [] mixed (by kernel_rfl) ?_)
   refine .cons (.move .none (.s rfl)) rfl ?_
   refine .cons (.len .none sl66 (.s rfl)) rfl ?_
   refine .cons (.lt .none (.s rfl) (.int (by decide))) rfl ?_
   refine .nil (.then ?_)
   refine .cond (t := 24) rfl trivial (fun hb5 => ?_) (fun hb5 => ?_)
   ·
    replace h := bif_t h hb5
    refine .seq (.region [] mixed (by kernel_rfl) ?_)
    refine .cons (.assign .none (.int (by decide))) rfl ?_
    refine .cons (.assign .none (.int (by decide))) rfl ?_
    refine .nil (.then ?_)
    refine .ret ?_
    refine .thenRet ?_
    obtain rfl := some_eq h
    exact Ends.ret2 (.inl rfl) Try.results63 (ResOK.tmp rfl trivial Imp.refl) (ResOK.tmp rfl trivial Imp.refl)
   ·
    replace h := bif_f h hb5
    refine .skip ?_
    refine .then ?_
    refine .seq (.region [] mixed (by kernel_rfl) ?_)
    refine .cons (.assign .none (.int (by decide))) rfl ?_
    refine .nil (.then ?_)
    refine .seq ?_
    refine .seq (.region [] mixed (by kernel_rfl) ?_)
    refine .cons (.move .none (.s rfl)) rfl ?_
    refine .cons (.len .none sl66 (.s rfl)) rfl ?_
    refine .cons (.move .none (.int (by decide))) rfl ?_
    refine .nil (.then ?_)
    obtain ⟨o_6, h, hK6⟩ := bindR_some h
    refine .thenJ (ι := Int) (fun j_6 => [(8, ⟨True, rep j_6⟩)]) (fun j_6 => []) (fun s => o_6 = Res.nx s) Sub.nil SubB.nil ?_ (fun j_6 hj6 => ?_)
    ·
     skip
     refine .block ?_
     refine .rforEL h (fun p7_ => [(27, ⟨True, rep p7_.1⟩), (8, ⟨True, rep p7_.2⟩)]) (fun p7_ => []) (.k 27 rfl (.k 8 rfl .nil)) SubB.nil (.k 0 rfl (.k 3 rfl (.k 25 rfl (.k 26 rfl .nil)))) SubB.nil (fun p7_ o_7 h hD7 => ?_)
     refine .seq (.region [] mixed (by kernel_rfl) ?_)
     refine .cons (.lt .none (.s rfl) (.s rfl)) rfl ?_
     refine .nil (.then ?_)
     refine .seq ?_
     refine .cond (t := 28) rfl trivial (fun hb8 => ?_) (fun hb8 => ?_)
     ·
      replace h := bif_t h hb8
      refine .skip ?_
      refine .then ?_
      refine .seq ?_
      obtain ⟨o_9, h, hK9⟩ := bindD_some h
      unfold geom_Inside_L1 at h
      refine .thenJ (ι := Int) (fun j_9 => [(8, ⟨True, rep j_9⟩)]) (fun j_9 => []) (fun s => o_9 = Res.nx s) (.k 0 rfl (.k 3 rfl (.k 25 rfl (.k 26 rfl (.k 27 rfl .nil))))) SubB.nil ?_ (fun j_9 hj9 => ?_)
      ·
       skip
       refine .block ?_
       refine .seq (.region [([], []), ([], []), ([], []), ([], [10]), ([], []), ([10], [10])] mixed (by kernel_rfl) ?_)
       refine .consA (.move .none (.s rfl)) rfl ?_
       obtain ⟨hn10, h⟩ := need_some h
       refine .consA (.indexAddr .none sl66 ty23 (.s rfl) (.s rfl) (fun _ => hn10)) rfl ?_
       obtain ⟨v1, hv11, h⟩ := bnd_some h
       refine .consA (.re hv11 (.load .none ty23 (.s rfl))) rfl ?_
       refine .consW (.alloc zo23 rfl) rfl rfl ?_
       refine .consA (.assign .none (.s rfl)) rfl ?_
       refine .consN (.store ty23 rfl rfl (.s rfl)) rfl ?_
       refine .nil (.then ?_)
       refine .nameBox (t := 10) (g := 5001) rfl rfl (fun m5001 => ?_)
       refine .seq (.region [([], []), ([], []), ([], []), ([], []), ([], []), ([], []), ([], []), ([], []), ([], [11]), ([11], [11])] mixed (by kernel_rfl) ?_)
       refine .consA (.move .none (.s rfl)) rfl ?_
       refine .consA (.move .none (.s rfl)) rfl ?_
       refine .consA (.addW .none (.s rfl) (.int (by decide))) rfl ?_
       refine .consA (.move .none (.s rfl)) rfl ?_
       refine .consA (.len .none sl66 (.s rfl)) rfl ?_
       obtain ⟨hn12, h⟩ := need_some h
       refine .consA (.rem .none (.s rfl) (.s rfl) (fun _ => hn12)) rfl ?_
       obtain ⟨hn13, h⟩ := need_some h
       refine .consA (.indexAddr .none sl66 ty23 (.s rfl) (.s rfl) (fun _ => hn13)) rfl ?_
       obtain ⟨v2, hv14, h⟩ := bnd_some h
       refine .consA (.re hv14 (.load .none ty23 (.s rfl))) rfl ?_
       refine .consW (.alloc zo23 rfl) rfl rfl ?_
       refine .consN (.store ty23 rfl rfl (.s rfl)) rfl ?_
       refine .nil (.then ?_)
       refine .nameBox (t := 11) (g := 5002) rfl rfl (fun m5002 => ?_)
       refine .seq ?_
       refine .seq (.region [([5001], []), ([5002], []), ([], []), ([], [])] mixed (by kernel_rfl) ?_)
       refine .consA (.loadAt0 (k := 5001) .none ty23 rfl (.s rfl)) rfl ?_
       refine .consA (.loadAt0 (k := 5002) .none ty23 rfl (.s rfl)) rfl ?_
       refine .consA (.load .none ty23 (.s rfl)) rfl ?_
       obtain ⟨r1, hv15, h⟩ := bind_some h
       refine .consA (.call .none (geom_on_ok hv15) (.cons (.s rfl) (.cons (.s rfl) (.cons (.s rfl) .nil)))) rfl ?_
       refine .nil (.then ?_)
       refine .cond (t := 43) rfl trivial (fun hb16 => ?_) (fun hb16 => ?_)
       ·
        replace h := bif_t h hb16
        refine .seq (.region [] mixed (by kernel_rfl) ?_)
        refine .cons (.assign .none (.int (by decide))) rfl ?_
        refine .cons (.assign .none (.int (by decide))) rfl ?_
        refine .nil (.then ?_)
        refine .ret ?_
        refine .thenRet ?_
        refine .blkRet ?_
        refine .thenRet ?_
        refine .thenRet ?_
        refine .blkRet ?_
        refine .thenRet ?_
        replace h := resd_ab hK9 (some_eq h)
        replace h := hD7 _ (some_eq h)
        replace h := resb_ab hK6 (some_eq h)
        obtain rfl := some_eq h
        exact Ends.ret2 (.inl rfl) Try.results63 (ResOK.tmp rfl trivial Imp.refl) (ResOK.tmp rfl trivial Imp.refl)
       ·
        replace h := bif_f h hb16
        refine .skip ?_
        refine .then ?_
        refine .seq ?_
        refine .seq (.region [([], []), ([5001], []), ([], []), ([], []), ([], []), ([], []), ([5002], []), ([], []), ([], []), ([], []), ([], [])] mixed (by kernel_rfl) ?_)
        refine .consA (.fieldPtr .none fd23_1 (.s rfl)) rfl ?_
        refine .consA (.loadAt (k := 5001) .none ty3 rfl (.s rfl) hfd23_1) rfl ?_
        refine .consA (.fieldAddr .none fd23_1 hfd23_1 (.s rfl)) rfl ?_
        refine .consA (.load .none ty3 (.s rfl)) rfl ?_
        refine .consA (.gt .none (.s rfl) (.s rfl)) rfl ?_
        refine .consA (.fieldPtr .none fd23_1 (.s rfl)) rfl ?_
        refine .consA (.loadAt (k := 5002) .none ty3 rfl (.s rfl) hfd23_1) rfl ?_
        refine .consA (.fieldAddr .none fd23_1 hfd23_1 (.s rfl)) rfl ?_
        refine .consA (.load .none ty3 (.s rfl)) rfl ?_
        refine .consA (.gt .none (.s rfl) (.s rfl)) rfl ?_
        refine .consA (.eqS .none (eqAt_bool Try.underlying4) (.s rfl) (.s rfl)) rfl ?_
        refine .nil (.then ?_)
        refine .cond (t := 54) rfl trivial (fun hb17 => ?_) (fun hb17 => ?_)
        ·
         replace h := bif_t h hb17
         refine .exit ?_
         refine .thenExit ?_
         refine .blkExit ?_
         exact Ends.join _ (some_eq h) (.k 8 rfl (.k 0 rfl (.k 3 rfl (.k 25 rfl (.k 26 rfl (.k 27 rfl .nil)))))) SubB.nil
        ·
         replace h := bif_f h hb17
         refine .skip ?_
         refine .then ?_
         refine .seq ?_
         refine .seq (.region [([], []), ([5001], []), ([], []), ([5002], []), ([], [])] mixed (by kernel_rfl) ?_)
         refine .consA (.fieldPtr .none fd23_1 (.s rfl)) rfl ?_
         refine .consA (.loadAt (k := 5001) .none ty3 rfl (.s rfl) hfd23_1) rfl ?_
         refine .consA (.fieldPtr .none fd23_1 (.s rfl)) rfl ?_
         refine .consA (.loadAt (k := 5002) .none ty3 rfl (.s rfl) hfd23_1) rfl ?_
         refine .consA (.gt .none (.s rfl) (.s rfl)) rfl ?_
         refine .nil (.then ?_)
         obtain ⟨j_18, h, hK18⟩ := bind_some h
         refine .thenJ (ι := (Point × Point)) (fun j_18 => []) (fun j_18 => [(5001, some (boxAt m5001 23 j_18.1)), (5002, some (boxAt m5002 23 j_18.2))]) (fun s => j_18 = s) (.k 0 rfl (.k 3 rfl (.k 8 rfl (.k 10 rfl (.k 11 rfl (.k 25 rfl (.k 26 rfl (.k 27 rfl .nil)))))))) SubB.nil ?_ (fun j_18' hj18 => ?_)
         ·
          skip
          refine .cond (t := 59) rfl trivial (fun hb19 => ?_) (fun hb19 => ?_)
          ·
           replace h := bif_t h hb19
           refine .region [([5002], []), ([5001], []), ([5001], [5001]), ([5002], [5002])] mixed (by kernel_rfl) ?_
           refine .consA (.loadAt0 (k := 5002) .none ty23 rfl (.s rfl)) rfl ?_
           refine .consA (.loadAt0 (k := 5001) .none ty23 rfl (.s rfl)) rfl ?_
           refine .consN (.storeAt0 (g := 5001) ty23 rfl (.s rfl) (.s rfl)) rfl ?_
           refine .consN (.storeAt0 (g := 5002) ty23 rfl (.s rfl) (.s rfl)) rfl ?_
           refine .nil ?_
           exact Ends.join _ (some_eq h) (.k 0 rfl (.k 3 rfl (.k 8 rfl (.k 10 rfl (.k 11 rfl (.k 25 rfl (.k 26 rfl (.k 27 rfl .nil)))))))) (.k 5001 rfl (.k 5002 rfl .nil))
          ·
           replace h := bif_f h hb19
           refine .skip ?_
           exact Ends.join _ (some_eq h) (.k 0 rfl (.k 3 rfl (.k 8 rfl (.k 10 rfl (.k 11 rfl (.k 25 rfl (.k 26 rfl (.k 27 rfl .nil)))))))) (.k 5001 rfl (.k 5002 rfl .nil))
         ·
          subst hj18; have h := hK18; clear hK18
          refine .freezeBox (g := 5001) (ts := [10]) rfl (.cons (t := 10) rfl trivial .nil) (.k 5002 rfl .nil) rfl ?_
          refine .freezeBox (g := 5002) (ts := [11]) rfl (.cons (t := 11) rfl trivial .nil) SubB.nil rfl ?_
          refine .seq (.region [] mixed (by kernel_rfl) ?_)
          refine .cons (.fieldAddr .none fd23_0 hfd23_0 (.s rfl)) rfl ?_
          refine .cons (.load .none ty3 (.s rfl)) rfl ?_
          refine .cons (.fieldAddr .none fd23_0 hfd23_0 (.s rfl)) rfl ?_
          refine .cons (.load .none ty3 (.s rfl)) rfl ?_
          refine .cons (.subW .none (.s rfl) (.s rfl)) rfl ?_
          refine .cons (.fieldAddr .none fd23_1 hfd23_1 (.s rfl)) rfl ?_
          refine .cons (.load .none ty3 (.s rfl)) rfl ?_
          refine .cons (.fieldAddr .none fd23_1 hfd23_1 (.s rfl)) rfl ?_
          refine .cons (.load .none ty3 (.s rfl)) rfl ?_
          refine .cons (.subW .none (.s rfl) (.s rfl)) rfl ?_
          refine .cons (.mulW .none (.s rfl) (.s rfl)) rfl ?_
          refine .cons (.fieldAddr .none fd23_0 hfd23_0 (.s rfl)) rfl ?_
          refine .cons (.load .none ty3 (.s rfl)) rfl ?_
          refine .cons (.fieldAddr .none fd23_0 hfd23_0 (.s rfl)) rfl ?_
          refine .cons (.load .none ty3 (.s rfl)) rfl ?_
          refine .cons (.subW .none (.s rfl) (.s rfl)) rfl ?_
          refine .cons (.fieldAddr .none fd23_1 hfd23_1 (.s rfl)) rfl ?_
          refine .cons (.load .none ty3 (.s rfl)) rfl ?_
          refine .cons (.fieldAddr .none fd23_1 hfd23_1 (.s rfl)) rfl ?_
          refine .cons (.load .none ty3 (.s rfl)) rfl ?_
          refine .cons (.subW .none (.s rfl) (.s rfl)) rfl ?_
          refine .cons (.mulW .none (.s rfl) (.s rfl)) rfl ?_
          refine .cons (.gt .none (.s rfl) (.s rfl)) rfl ?_
          refine .nil (.then ?_)
          refine .cond (t := 84) rfl trivial (fun hb20 => ?_) (fun hb20 => ?_)
          ·
           replace h := bif_t h hb20
           refine .region [] mixed (by kernel_rfl) ?_
           refine .cons (.move .none (.s rfl)) rfl ?_
           refine .cons (.negW .none (.s rfl)) rfl ?_
           obtain ⟨where1, hv21, h⟩ := bnd_some h
           refine .cons (.re hv21 (.assign .none (.s rfl))) rfl ?_
           refine .nil ?_
           refine .blkNormal ?_
           exact Ends.join _ (some_eq h) (.k 8 rfl (.k 0 rfl (.k 3 rfl (.k 25 rfl (.k 26 rfl (.k 27 rfl .nil)))))) SubB.nil
          ·
           replace h := bif_f h hb20
           refine .skip ?_
           refine .blkNormal ?_
           exact Ends.join _ (some_eq h) (.k 8 rfl (.k 0 rfl (.k 3 rfl (.k 25 rfl (.k 26 rfl (.k 27 rfl .nil)))))) SubB.nil
      ·
       have h := resd_nx hK9 hj9
       refine .region [] mixed (by kernel_rfl) ?_
       refine .cons (.addW .none (.s rfl) (.int (by decide))) rfl ?_
       refine .cons (.move .none (.s rfl)) rfl ?_
       refine .nil ?_
       exact Ends.againL (some_eq h) (.k 27 rfl (.k 8 rfl (.k 0 rfl (.k 3 rfl (.k 25 rfl (.k 26 rfl .nil)))))) SubB.nil
     ·
      replace h := bif_f h hb8
      refine .exit ?_
      refine .thenExit ?_
      refine .thenExit ?_
      refine .blkExit ?_
      replace h := hD7 _ (some_eq h)
      exact Ends.join _ (some_eq h) (.k 8 rfl .nil) SubB.nil
    ·
     have h := resb_nx hK6 hj6
     refine .seq (.region [] mixed (by kernel_rfl) ?_)
     refine .cons (.move .none (.s rfl)) rfl ?_
     refine .cons (.assign .none (.s rfl)) rfl ?_
     refine .cons (.assign .none (.int (by decide))) rfl ?_
     refine .nil (.then ?_)
     refine .ret ?_
     obtain rfl := some_eq h
     exact Ends.ret2 (.inl rfl) Try.results63 (ResOK.tmp rfl trivial Imp.refl) (ResOK.tmp rfl trivial Imp.refl)

theorem geom_sign_ok {n1 : Int} {r : Int}  (h : geom_sign n1 = some r) : FSpec Try.prog 83 [rep n1] (rep r) := by
 unfold geom_sign at h
 refine FSpec.intro (n := 9) fnok83 Try.func83 rfl Try.ntmps83 rfl (fun F => ?_)
 refine .seq (.region [] mixed (by kernel_rfl) ?_)
 refine .cons (.assign .none (.int (by decide))) rfl ?_
 refine .nil (.then ?_)
 refine .seq ?_
 refine .block ?_
 refine .seq (.region [] mixed (by kernel_rfl) ?_)
 refine .cons (.move .none (.s rfl)) rfl ?_
 refine .cons (.gt .none (.s rfl) (.int (by decide))) rfl ?_
 refine .cons (.assign .none (.s rfl)) rfl ?_
 refine .nil (.then ?_)
 refine .cond (t := 3) rfl trivial (fun hb1 => ?_) (fun hb1 => ?_)
 ·
  replace h := bif_t h hb1
  refine .seq (.region [] mixed (by kernel_rfl) ?_)
  refine .cons (.assign .none (.int (by decide))) rfl ?_
  refine .nil (.then ?_)
  refine .ret ?_
  refine .blkRet ?_
  refine .thenRet ?_
  obtain rfl := some_eq h
  exact Ends.ret1 (.inl rfl) Try.results83 (ResOK.tmp rfl trivial Imp.refl)
 ·
  replace h := bif_f h hb1
  refine .seq (.region [] mixed (by kernel_rfl) ?_)
  refine .cons (.move .none (.s rfl)) rfl ?_
  refine .cons (.lt .none (.s rfl) (.int (by decide))) rfl ?_
  refine .cons (.assign .none (.s rfl)) rfl ?_
  refine .nil (.then ?_)
  refine .cond (t := 6) rfl trivial (fun hb2 => ?_) (fun hb2 => ?_)
  ·
   replace h := bif_t h hb2
   refine .seq (.region [] mixed (by kernel_rfl) ?_)
   refine .cons (.assign .none (.int (by decide))) rfl ?_
   refine .nil (.then ?_)
   refine .ret ?_
   refine .blkRet ?_
   refine .thenRet ?_
   obtain rfl := some_eq h
   exact Ends.ret1 (.inl rfl) Try.results83 (ResOK.tmp rfl trivial Imp.refl)
  ·
   replace h := bif_f h hb2
   refine .skip ?_
   refine .blkNormal ?_
   refine .then ?_
   refine .seq (.region [] mixed (by kernel_rfl) ?_)
   refine .cons (.assign .none (.int (by decide))) rfl ?_
   refine .nil (.then ?_)
   refine .ret ?_
   obtain rfl := some_eq h
   exact Ends.ret1 (.inl rfl) Try.results83 (ResOK.tmp rfl trivial Imp.refl)

theorem geom_bend_ok {a1 : Point} {b1 : Point} {c1 : Point} {r : Int}  (h : geom_bend a1 b1 c1 = some r) : FSpec Try.prog 80 [rep a1, rep b1, rep c1] (rep r) := by
 unfold geom_bend at h
 refine FSpec.intro (n := 31) fnok80 Try.func80 rfl Try.ntmps80 rfl (fun F => ?_)
 refine .seq (.region [] mixed (by kernel_rfl) ?_)
 refine .cons (.box .none (.s rfl)) rfl ?_
 refine .cons (.box .none (.s rfl)) rfl ?_
 refine .cons (.box .none (.s rfl)) rfl ?_
 refine .cons (.assign .none (.int (by decide))) rfl ?_
 refine .nil (.then ?_)
 refine .seq (.region [] mixed (by kernel_rfl) ?_)
 refine .cons (.fieldAddr .none fd23_0 hfd23_0 (.s rfl)) rfl ?_
 refine .cons (.load .none ty3 (.s rfl)) rfl ?_
 refine .cons (.fieldAddr .none fd23_0 hfd23_0 (.s rfl)) rfl ?_
 refine .cons (.load .none ty3 (.s rfl)) rfl ?_
 refine .cons (.subW .none (.s rfl) (.s rfl)) rfl ?_
 refine .cons (.fieldAddr .none fd23_1 hfd23_1 (.s rfl)) rfl ?_
 refine .cons (.load .none ty3 (.s rfl)) rfl ?_
 refine .cons (.fieldAddr .none fd23_1 hfd23_1 (.s rfl)) rfl ?_
 refine .cons (.load .none ty3 (.s rfl)) rfl ?_
 refine .cons (.subW .none (.s rfl) (.s rfl)) rfl ?_
 refine .cons (.mulW .none (.s rfl) (.s rfl)) rfl ?_
 refine .cons (.fieldAddr .none fd23_1 hfd23_1 (.s rfl)) rfl ?_
 refine .cons (.load .none ty3 (.s rfl)) rfl ?_
 refine .cons (.fieldAddr .none fd23_1 hfd23_1 (.s rfl)) rfl ?_
 refine .cons (.load .none ty3 (.s rfl)) rfl ?_
 refine .cons (.subW .none (.s rfl) (.s rfl)) rfl ?_
 refine .cons (.fieldAddr .none fd23_0 hfd23_0 (.s rfl)) rfl ?_
 refine .cons (.load .none ty3 (.s rfl)) rfl ?_
 refine .cons (.fieldAddr .none fd23_0 hfd23_0 (.s rfl)) rfl ?_
 refine .cons (.load .none ty3 (.s rfl)) rfl ?_
 refine .cons (.subW .none (.s rfl) (.s rfl)) rfl ?_
 refine .cons (.mulW .none (.s rfl) (.s rfl)) rfl ?_
 refine .cons (.subW .none (.s rfl) (.s rfl)) rfl ?_
 obtain ⟨r1, hv1, h⟩ := bind_some h
 refine .cons (.call .none (geom_sign_ok hv1) (.cons (.s rfl) .nil)) rfl ?_
 refine .cons (.assign .none (.s rfl)) rfl ?_
 refine .nil (.then ?_)
 refine .ret ?_
 obtain rfl := some_eq h
 exact Ends.ret1 (.inl rfl) Try.results80 (ResOK.tmp rfl trivial Imp.refl)

theorem geom_Bend_ok {a1 : Point} {b1 : Point} {c1 : Point} {r : (Int × Int)}  (h : geom_Bend a1 b1 c1 = some r) : FSpec Try.prog 11 [rep a1, rep b1, rep c1] (tup [rep r.1, rep r.2]) := by
 unfold geom_Bend at h
 refine FSpec.intro (n := 21) fnok11 Try.func11 rfl Try.ntmps11 rfl (fun F => ?_)
 refine .seq (.region [] mixed (by kernel_rfl) ?_)
 refine .cons (.box .none (.s rfl)) rfl ?_
 refine .cons (.box .none (.s rfl)) rfl ?_
 refine .cons (.box .none (.s rfl)) rfl ?_
 refine .cons (.assign .none (.int (by decide))) rfl ?_
 refine .cons (.assign .none (.int (by decide))) rfl ?_
 refine .nil (.then ?_)
 refine .seq ?_
 refine .seq (.region [] mixed (by kernel_rfl) ?_)
 refine .cons (.load .none ty23 (.s rfl)) rfl ?_
 refine .cons (.load .none ty23 (.s rfl)) rfl ?_
 refine .cons (.load .none ty23 (.s rfl)) rfl ?_
 refine .cons (.buildSlice (xs := [_, _, _]) .none sl66 ty23 hz23 (.cons (.s rfl) (.cons (.s rfl) (.cons (.s rfl) .nil))) rfl (by decide)) rfl ?_
 obtain ⟨e1, hv1, h⟩ := bind_some h
 refine .cons (.call .none (geom_points_ok hv1) (.cons (.s rfl) .nil)) rfl ?_
 refine .cons (.assign .none (.s rfl)) rfl ?_
 refine .nil (.then ?_)
 refine .seq (.region [] mixed (by kernel_rfl) ?_)
 refine .cons (.move .none (.s rfl)) rfl ?_
 refine .cons (.neI .none (.s rfl) (.int (by decide))) rfl ?_
 refine .nil (.then ?_)
 refine .cond (t := 15) rfl trivial (fun hb2 => ?_) (fun hb2 => ?_)
 ·
  replace h := bif_t h hb2
  refine .seq (.region [] mixed (by kernel_rfl) ?_)
  refine .cons (.move .none (.s rfl)) rfl ?_
  refine .cons (.assign .none (.int (by decide))) rfl ?_
  refine .cons (.assign .none (.s rfl)) rfl ?_
  refine .nil (.then ?_)
  refine .ret ?_
  refine .thenRet ?_
  obtain rfl := some_eq h
  exact Ends.ret2 (.inl rfl) Try.results11 (ResOK.tmp rfl trivial Imp.refl) (ResOK.tmp rfl trivial Imp.refl)
 ·
  replace h := bif_f h hb2
  refine .skip ?_
  refine .then ?_
  refine .seq (.region [] mixed (by kernel_rfl) ?_)
  refine .cons (.load .none ty23 (.s rfl)) rfl ?_
  refine .cons (.load .none ty23 (.s rfl)) rfl ?_
  refine .cons (.load .none ty23 (.s rfl)) rfl ?_
  obtain ⟨r1, hv3, h⟩ := bind_some h
  refine .cons (.call .none (geom_bend_ok hv3) (.cons (.s rfl) (.cons (.s rfl) (.cons (.s rfl) .nil)))) rfl ?_
  refine .cons (.assign .none (.s rfl)) rfl ?_
  refine .cons (.assign .none (.int (by decide))) rfl ?_
  refine .nil (.then ?_)
  refine .ret ?_
  obtain rfl := some_eq h
  exact Ends.ret2 (.inl rfl) Try.results11 (ResOK.tmp rfl trivial Imp.refl) (ResOK.tmp rfl trivial Imp.refl)

theorem law_geoms_ok  {r : Bool}  (h : law_geoms  = some r) : FSpec Try.prog 13 [] (rep r) := by
 unfold law_geoms at h
 refine FSpec.intro (n := 16) fnok13 Try.func13 rfl Try.ntmps13 rfl (fun F => ?_)
 refine .seq (.region [] mixed (by kernel_rfl) ?_)
 refine .cons (.assign .none .bool) rfl ?_
 refine .nil (.then ?_)
 refine .seq (.region [] mixed (by kernel_rfl) ?_)
 refine .cons (.buildF (y := (⟨(0 : Int), (0 : Int)⟩ : Point)) .none bu23 zc23 rfl .nil .nil) rfl ?_
 refine .cons (.buildF (y := (⟨1, (0 : Int)⟩ : Point)) .none bu23 zc23 rfl (.cons (.int (by decide)) .nil) (.cons rfl sf23_0 .nil)) rfl ?_
 refine .cons (.buildF (y := (⟨1, 1⟩ : Point)) .none bu23 zc23 rfl (.cons (.int (by decide)) (.cons (.int (by decide)) .nil)) (.cons rfl sf23_0 (.cons rfl sf23_1 .nil))) rfl ?_
 obtain ⟨r1, hv1, h⟩ := bind_some h
 refine .cons (.call .none (geom_Bend_ok hv1) (.cons (.s rfl) (.cons (.s rfl) (.cons (.s rfl) .nil)))) rfl ?_
 refine .cons (.move .none (.s rfl)) rfl ?_
 refine .cons (.extract .none (.s rfl) rfl) rfl ?_
 refine .cons (.extract .none (.s rfl) rfl) rfl ?_
 refine .cons (.assign .none (.s rfl)) rfl ?_
 refine .cons (.assign .none (.s rfl)) rfl ?_
 refine .nil (.then ?_)
 refine .seq (.region [] mixed (by kernel_rfl) ?_)
 refine .cons (.move .none (.s rfl)) rfl ?_
 refine .cons (.eqI .none (.s rfl) (.int (by decide))) rfl ?_
 refine .cons (.move .none (.s rfl)) rfl ?_
 refine .cons (.move (.at rfl rfl) (.s rfl)) rfl ?_
 refine .cons (.eqI (.at rfl rfl) (.tmp rfl id) (.int (by decide))) rfl ?_
 refine .cons (.pickAnd .none (.s rfl) (.tmp rfl id)) rfl ?_
 refine .cons (.assign .none (.s rfl)) rfl ?_
 refine .nil (.then ?_)
 refine .ret ?_
 obtain rfl := some_eq h
 exact Ends.ret1 (.inl rfl) Try.results13 (ResOK.tmp rfl trivial Imp.refl)

theorem ref_First_ok {l1 : (List Int)} {r : Int}  (h : ref_First l1 = some r) : FSpec Try.prog 9 [rep l1] (rep r) := by
 unfold ref_First at h
 refine FSpec.intro (n := 15) fnok9 Try.func9 rfl Try.ntmps9 rfl (fun F => ?_)
 refine .seq (.region [] mixed (by kernel_rfl) ?_)
 refine .cons (.assign .none (.int (by decide))) rfl ?_
 refine .nil (.then ?_)
 refine .seq ?_
 refine .seq (.region [] mixed (by kernel_rfl) ?_)
 refine .cons (.move .none (.s rfl)) rfl ?_
 refine .cons (.len .none sl94 (.s rfl)) rfl ?_
 refine .cons (.move .none (.int (by decide))) rfl ?_
 refine .nil (.then ?_)
 obtain ⟨o_1, h, hK1⟩ := bindR_some h
 refine .thenJ (ι := Unit) (fun j_1 => []) (fun j_1 => []) (fun s => o_1 = Res.nx s) Sub.nil SubB.nil ?_ (fun j_1 hj1 => ?_)
 ·
  skip
  refine .block ?_
  refine .rforEL h (fun p2_ => [(7, ⟨True, rep p2_.1⟩)]) (fun p2_ => []) (.k 7 rfl .nil) SubB.nil (.k 5 rfl (.k 6 rfl .nil)) SubB.nil (fun p2_ o_2 h hD2 => ?_)
  refine .seq (.region [] mixed (by kernel_rfl) ?_)
  refine .cons (.lt .none (.s rfl) (.s rfl)) rfl ?_
  refine .nil (.then ?_)
  refine .seq ?_
  refine .cond (t := 8) rfl trivial (fun hb3 => ?_) (fun hb3 => ?_)
  ·
   replace h := bif_t h hb3
   refine .skip ?_
   refine .then ?_
   refine .seq ?_
   obtain ⟨o_4, h, hK4⟩ := bindD_some h
   unfold ref_First_L1 at h
   refine .thenJ (ι := Unit) (fun j_4 => []) (fun j_4 => []) (fun s => o_4 = Res.nx s) (.k 5 rfl (.k 6 rfl (.k 7 rfl .nil))) SubB.nil ?_ (fun j_4 hj4 => ?_)
   ·
    skip
    refine .block ?_
    refine .seq (.region [] mixed (by kernel_rfl) ?_)
    obtain ⟨hn5, h⟩ := need_some h
    refine .cons (.indexAddr .none sl94 ty24 (.s rfl) (.s rfl) (fun _ => hn5)) rfl ?_
    refine .cons (.load .none ty24 (.s rfl)) rfl ?_
    obtain ⟨e1, hv6, h⟩ := bnd_some h
    refine .cons (.re hv6 (.assign .none (.s rfl))) rfl ?_
    refine .nil (.then ?_)
    refine .seq (.region [] mixed (by kernel_rfl) ?_)
    refine .cons (.move .none (.s rfl)) rfl ?_
    refine .cons (.neI .none (.s rfl) (.int (by decide))) rfl ?_
    refine .nil (.then ?_)
    refine .cond (t := 12) rfl trivial (fun hb7 => ?_) (fun hb7 => ?_)
    ·
     replace h := bif_t h hb7
     refine .seq (.region [] mixed (by kernel_rfl) ?_)
     refine .cons (.move .none (.s rfl)) rfl ?_
     refine .cons (.assign .none (.s rfl)) rfl ?_
     refine .nil (.then ?_)
     refine .ret ?_
     refine .blkRet ?_
     refine .thenRet ?_
     refine .thenRet ?_
     refine .blkRet ?_
     refine .thenRet ?_
     replace h := resd_ab hK4 (some_eq h)
     replace h := hD2 _ (some_eq h)
     replace h := resb_ab hK1 (some_eq h)
     obtain rfl := some_eq h
     exact Ends.ret1 (.inl rfl) Try.results9 (ResOK.tmp rfl trivial Imp.refl)
    ·
     replace h := bif_f h hb7
     refine .skip ?_
     refine .blkNormal ?_
     exact Ends.join _ (some_eq h) (.k 5 rfl (.k 6 rfl (.k 7 rfl .nil))) SubB.nil
   ·
    have h := resd_nx hK4 hj4
    refine .region [] mixed (by kernel_rfl) ?_
    refine .cons (.addW .none (.s rfl) (.int (by decide))) rfl ?_
    refine .cons (.move .none (.s rfl)) rfl ?_
    refine .nil ?_
    exact Ends.againL (some_eq h) (.k 7 rfl (.k 5 rfl (.k 6 rfl .nil))) SubB.nil
  ·
   replace h := bif_f h hb3
   refine .exit ?_
   refine .thenExit ?_
   refine .thenExit ?_
   refine .blkExit ?_
   replace h := hD2 _ (some_eq h)
   exact Ends.join _ (some_eq h) Sub.nil SubB.nil
 ·
  have h := resb_nx hK1 hj1
  refine .seq (.region [] mixed (by kernel_rfl) ?_)
  refine .cons (.assign .none (.int (by decide))) rfl ?_
  refine .nil (.then ?_)
  refine .ret ?_
  obtain rfl := some_eq h
  exact Ends.ret1 (.inl rfl) Try.results9 (ResOK.tmp rfl trivial Imp.refl)

theorem ref_Abs_ok {n1 : Int} {r : Int}  (h : ref_Abs n1 = some r) : FSpec Try.prog 97 [rep n1] (rep r) := by
 unfold ref_Abs at h
 refine FSpec.intro (n := 7) fnok97 Try.func97 rfl Try.ntmps97 rfl (fun F => ?_)
 refine .seq (.region [] mixed (by kernel_rfl) ?_)
 refine .cons (.assign .none (.int (by decide))) rfl ?_
 refine .nil (.then ?_)
 refine .seq (.region [] mixed (by kernel_rfl) ?_)
 refine .cons (.move .none (.s rfl)) rfl ?_
 refine .cons (.move .none (.s rfl)) rfl ?_
 refine .cons (.negW .none (.s rfl)) rfl ?_
 refine .cons (.max2 .none (.s rfl) (.s rfl)) rfl ?_
 refine .cons (.assign .none (.s rfl)) rfl ?_
 refine .nil (.then ?_)
 refine .ret ?_
 obtain rfl := some_eq h
 exact Ends.ret1 (.inl rfl) Try.results97 (ResOK.tmp rfl trivial Imp.refl)

theorem ref_AreaOf_ok {l1 : (List Point)} {r : Int}  (h : ref_AreaOf l1 = some r) : FSpec Try.prog 65 [rep l1] (rep r) := by
 unfold ref_AreaOf at h
 refine FSpec.intro (n := 38) fnok65 Try.func65 rfl Try.ntmps65 rfl (fun F => ?_)
 refine .seq (.region [] mixed (by kernel_rfl) ?_)
 refine .cons (.assign .none (.int (by decide))) rfl ?_
 refine .nil (.then ?_)
 refine .seq (.region [] mixed (by kernel_rfl) ?_)
 refine .cons (.assign .none (.int (by decide))) rfl ?_
 refine .nil (.then ?_)
 refine .seq ?_
 refine .seq (.region [] mixed (by kernel_rfl) ?_)
 refine .cons (.move .none (.s rfl)) rfl ?_
 refine .cons (.len .none sl66 (.s rfl)) rfl ?_
 refine .cons (.move .none (.int (by decide))) rfl ?_
 refine .nil (.then ?_)
 obtain ⟨j_1, h, hK1⟩ := bind_some h
 refine .thenJ (ι := Int) (fun j_1 => [(3, ⟨True, rep j_1⟩)]) (fun j_1 => []) (fun s => j_1 = s) Sub.nil SubB.nil ?_ (fun j_1' hj1 => ?_)
 ·
  skip
  refine .block ?_
  refine .rforL h (fun p2_ => [(9, ⟨True, rep p2_.1⟩), (3, ⟨True, rep p2_.2⟩)]) (fun p2_ => []) (.k 9 rfl (.k 3 rfl .nil)) SubB.nil (.k 0 rfl (.k 7 rfl (.k 8 rfl .nil))) SubB.nil (fun p2_ o_2 h hD2 => ?_)
  refine .seq (.region [] mixed (by kernel_rfl) ?_)
  refine .cons (.lt .none (.s rfl) (.s rfl)) rfl ?_
  refine .nil (.then ?_)
  refine .seq ?_
  refine .cond (t := 10) rfl trivial (fun hb3 => ?_) (fun hb3 => ?_)
  ·
   replace h := bif_t h hb3
   refine .skip ?_
   refine .then ?_
   refine .seq ?_
   obtain ⟨j_4, h, hK4⟩ := bind_some h
   unfold ref_AreaOf_L1 at h
   refine .thenJ (ι := Int) (fun j_4 => [(3, ⟨True, rep j_4⟩)]) (fun j_4 => []) (fun s => j_4 = s) (.k 0 rfl (.k 7 rfl (.k 8 rfl (.k 9 rfl .nil)))) SubB.nil ?_ (fun j_4' hj4 => ?_)
   ·
    skip
    refine .block ?_
    refine .seq (.region [([], []), ([], []), ([], []), ([], [5]), ([], []), ([5], [5])] mixed (by kernel_rfl) ?_)
    refine .consA (.move .none (.s rfl)) rfl ?_
    obtain ⟨hn5, h⟩ := need_some h
    refine .consA (.indexAddr .none sl66 ty23 (.s rfl) (.s rfl) (fun _ => hn5)) rfl ?_
    obtain ⟨v1, hv6, h⟩ := bnd_some h
    refine .consA (.re hv6 (.load .none ty23 (.s rfl))) rfl ?_
    refine .consW (.alloc zo23 rfl) rfl rfl ?_
    refine .consA (.assign .none (.s rfl)) rfl ?_
    refine .consN (.store ty23 rfl rfl (.s rfl)) rfl ?_
    refine .nil (.then ?_)
    refine .freeze (t := 5) rfl rfl SubB.nil rfl ?_
    refine .seq (.region [([], []), ([], []), ([], []), ([], []), ([], []), ([], []), ([], []), ([], []), ([], [6]), ([6], [6])] mixed (by kernel_rfl) ?_)
    refine .consA (.move .none (.s rfl)) rfl ?_
    refine .consA (.move .none (.s rfl)) rfl ?_
    refine .consA (.addW .none (.s rfl) (.int (by decide))) rfl ?_
    refine .consA (.move .none (.s rfl)) rfl ?_
    refine .consA (.len .none sl66 (.s rfl)) rfl ?_
    obtain ⟨hn7, h⟩ := need_some h
    refine .consA (.rem .none (.s rfl) (.s rfl) (fun _ => hn7)) rfl ?_
    obtain ⟨hn8, h⟩ := need_some h
    refine .consA (.indexAddr .none sl66 ty23 (.s rfl) (.s rfl) (fun _ => hn8)) rfl ?_
    obtain ⟨v2, hv9, h⟩ := bnd_some h
    refine .consA (.re hv9 (.load .none ty23 (.s rfl))) rfl ?_
    refine .consW (.alloc zo23 rfl) rfl rfl ?_
    refine .consN (.store ty23 rfl rfl (.s rfl)) rfl ?_
    refine .nil (.then ?_)
    refine .freeze (t := 6) rfl rfl SubB.nil rfl ?_
    refine .region [] mixed (by kernel_rfl) ?_
    refine .cons (.move .none (.s rfl)) rfl ?_
    refine .cons (.fieldAddr .none fd23_0 hfd23_0 (.s rfl)) rfl ?_
    refine .cons (.load .none ty3 (.s rfl)) rfl ?_
    refine .cons (.fieldAddr .none fd23_1 hfd23_1 (.s rfl)) rfl ?_
    refine .cons (.load .none ty3 (.s rfl)) rfl ?_
    refine .cons (.mulW .none (.s rfl) (.s rfl)) rfl ?_
    refine .cons (.fieldAddr .none fd23_1 hfd23_1 (.s rfl)) rfl ?_
    refine .cons (.load .none ty3 (.s rfl)) rfl ?_
    refine .cons (.fieldAddr .none fd23_0 hfd23_0 (.s rfl)) rfl ?_
    refine .cons (.load .none ty3 (.s rfl)) rfl ?_
    refine .cons (.mulW .none (.s rfl) (.s rfl)) rfl ?_
    refine .cons (.subW .none (.s rfl) (.s rfl)) rfl ?_
    refine .cons (.addW .none (.s rfl) (.s rfl)) rfl ?_
    obtain ⟨n1, hv10, h⟩ := bnd_some h
    refine .cons (.re hv10 (.assign .none (.s rfl))) rfl ?_
    refine .nil ?_
    refine .blkNormal ?_
    exact Ends.join _ (some_eq h) (.k 3 rfl (.k 0 rfl (.k 7 rfl (.k 8 rfl (.k 9 rfl .nil))))) SubB.nil
   ·
    subst hj4; have h := hK4; clear hK4
    refine .region [] mixed (by kernel_rfl) ?_
    refine .cons (.addW .none (.s rfl) (.int (by decide))) rfl ?_
    refine .cons (.move .none (.s rfl)) rfl ?_
    refine .nil ?_
    exact Ends.againL (some_eq h) (.k 9 rfl (.k 3 rfl (.k 0 rfl (.k 7 rfl (.k 8 rfl .nil))))) SubB.nil
  ·
   replace h := bif_f h hb3
   refine .exit ?_
   refine .thenExit ?_
   refine .thenExit ?_
   refine .blkExit ?_
   replace h := hD2 _ (some_eq h)
   exact Ends.join _ (some_eq h) (.k 3 rfl .nil) SubB.nil
 ·
  subst hj1; have h := hK1; clear hK1
  refine .seq (.region [] mixed (by kernel_rfl) ?_)
  refine .cons (.move .none (.s rfl)) rfl ?_
  obtain ⟨r1, hv11, h⟩ := bind_some h
  refine .cons (.call .none (ref_Abs_ok hv11) (.cons (.s rfl) .nil)) rfl ?_
  refine .cons (.assign .none (.s rfl)) rfl ?_
  refine .nil (.then ?_)
  refine .ret ?_
  obtain rfl := some_eq h
  exact Ends.ret1 (.inl rfl) Try.results65 (ResOK.tmp rfl trivial Imp.refl)

theorem law_AreasMatch_1_ok {c0_1 : (List Point)} {r : Int}  (h : law_AreasMatch_1 c0_1 = some r) : FSpec Try.prog 64 [ref c0_1] (rep r) := by
 unfold law_AreasMatch_1 at h
 refine FSpec.intro (n := 4) fnok64 Try.func64 rfl Try.ntmps64 rfl (fun F => ?_)
 refine .seq (.region [] mixed (by kernel_rfl) ?_)
 refine .cons (.assign .none (.int (by decide))) rfl ?_
 refine .nil (.then ?_)
 refine .seq (.region [] mixed (by kernel_rfl) ?_)
 refine .cons (.load .none ty66 (.s rfl)) rfl ?_
 obtain ⟨r1, hv1, h⟩ := bind_some h
 refine .cons (.call .none (ref_AreaOf_ok hv1) (.cons (.s rfl) .nil)) rfl ?_
 refine .cons (.assign .none (.s rfl)) rfl ?_
 refine .nil (.then ?_)
 refine .ret ?_
 obtain rfl := some_eq h
 exact Ends.ret1 (.inl rfl) Try.results64 (ResOK.tmp rfl trivial Imp.refl)

theorem law_is_int_ok {got1 : Int} {e1 : Int} {want1 : Int} {right1 : (Option Int)} {r : Bool}  (h : law_is_int got1 e1 want1 right1 = some r) : FSpec Try.prog 14 [rep got1, rep e1, rep want1, fn0 Try.prog (rep (α := Int)) right1] (rep r) := by
 unfold law_is_int at h
 refine FSpec.intro (n := 28) fnok14 Try.func14 rfl Try.ntmps14 rfl (fun F => ?_)
 refine .seq (.region [] mixed (by kernel_rfl) ?_)
 refine .cons (.assign .none .bool) rfl ?_
 refine .nil (.then ?_)
 refine .seq (.region [] mixed (by kernel_rfl) ?_)
 refine .cons (.assign .none (.int (by decide))) rfl ?_
 refine .nil (.then ?_)
 refine .seq ?_
 refine .seq (.region [] mixed (by kernel_rfl) ?_)
 refine .cons (.move .none (.s rfl)) rfl ?_
 refine .cons (.neI .none (.s rfl) (.int (by decide))) rfl ?_
 refine .nil (.then ?_)
 refine .cond (t := 11) rfl trivial (fun hb1 => ?_) (fun hb1 => ?_)
 ·
  replace h := bif_t h hb1
  refine .seq (.region [] mixed (by kernel_rfl) ?_)
  refine .cons (.move .none (.s rfl)) rfl ?_
  refine .cons (.move .none (.s rfl)) rfl ?_
  refine .cons (.eqI .none (.s rfl) (.s rfl)) rfl ?_
  refine .cons (.move .none (.s rfl)) rfl ?_
  refine .cons (.move (.at rfl rfl) (.s rfl)) rfl ?_
  refine .cons (.move (.at rfl rfl) (.s rfl)) rfl ?_
  refine .cons (.eqI (.at rfl rfl) (.tmp rfl id) (.tmp rfl id)) rfl ?_
  refine .cons (.pickAnd .none (.s rfl) (.tmp rfl id)) rfl ?_
  refine .cons (.assign .none (.s rfl)) rfl ?_
  refine .nil (.then ?_)
  refine .ret ?_
  refine .thenRet ?_
  obtain rfl := some_eq h
  exact Ends.ret1 (.inl rfl) Try.results14 (ResOK.tmp rfl trivial Imp.refl)
 ·
  replace h := bif_f h hb1
  refine .skip ?_
  refine .then ?_
  refine .seq (.region [] mixed (by kernel_rfl) ?_)
  refine .cons (.move .none (.s rfl)) rfl ?_
  refine .cons (.eqI .none (.s rfl) (.int (by decide))) rfl ?_
  refine .cons (.move .none (.s rfl)) rfl ?_
  refine .cons (.move (.at rfl rfl) (.s rfl)) rfl ?_
  refine .cons (.move (.at rfl rfl) (.s rfl)) rfl ?_
  obtain ⟨r1, hv2, h⟩ := bind_some h
  refine .cons (.callV _ (.at rfl rfl) (.tmp rfl id) (fun hg => gd_some hv2 (hg.2)) .nil) rfl ?_
  refine .cons (.eqI (.at rfl rfl) (.tmp rfl id) (.tmp rfl id)) rfl ?_
  refine .cons (.pickAnd .none (.s rfl) (.tmp rfl id)) rfl ?_
  refine .cons (.assign .none (.s rfl)) rfl ?_
  refine .nil (.then ?_)
  refine .ret ?_
  obtain rfl := some_eq h
  exact Ends.ret1 (.inl rfl) Try.results14 (ResOK.tmp rfl trivial Imp.refl)

theorem ref_on_ok {a1 : Point} {b1 : Point} {p1 : Point} {r : Bool}  (h : ref_on a1 b1 p1 = some r) : FSpec Try.prog 85 [rep a1, rep b1, rep p1] (rep r) := by
 unfold ref_on at h
 refine FSpec.intro (n := 60) fnok85 Try.func85 rfl Try.ntmps85 rfl (fun F => ?_)
 refine .seq (.region [] mixed (by kernel_rfl) ?_)
 refine .cons (.box .none (.s rfl)) rfl ?_
 refine .cons (.box .none (.s rfl)) rfl ?_
 refine .cons (.box .none (.s rfl)) rfl ?_
 refine .cons (.assign .none .bool) rfl ?_
 refine .nil (.then ?_)
 refine .seq (.region [] mixed (by kernel_rfl) ?_)
 refine .cons (.fieldAddr .none fd23_0 hfd23_0 (.s rfl)) rfl ?_
 refine .cons (.load .none ty3 (.s rfl)) rfl ?_
 refine .cons (.fieldAddr .none fd23_0 hfd23_0 (.s rfl)) rfl ?_
 refine .cons (.load .none ty3 (.s rfl)) rfl ?_
 refine .cons (.subW .none (.s rfl) (.s rfl)) rfl ?_
 refine .cons (.fieldAddr .none fd23_1 hfd23_1 (.s rfl)) rfl ?_
 refine .cons (.load .none ty3 (.s rfl)) rfl ?_
 refine .cons (.fieldAddr .none fd23_1 hfd23_1 (.s rfl)) rfl ?_
 refine .cons (.load .none ty3 (.s rfl)) rfl ?_
 refine .cons (.subW .none (.s rfl) (.s rfl)) rfl ?_
 refine .cons (.mulW .none (.s rfl) (.s rfl)) rfl ?_
 refine .cons (.fieldAddr .none fd23_1 hfd23_1 (.s rfl)) rfl ?_
 refine .cons (.load .none ty3 (.s rfl)) rfl ?_
 refine .cons (.fieldAddr .none fd23_1 hfd23_1 (.s rfl)) rfl ?_
 refine .cons (.load .none ty3 (.s rfl)) rfl ?_
 refine .cons (.subW .none (.s rfl) (.s rfl)) rfl ?_
 refine .cons (.fieldAddr .none fd23_0 hfd23_0 (.s rfl)) rfl ?_
 refine .cons (.load .none ty3 (.s rfl)) rfl ?_
 refine .cons (.fieldAddr .none fd23_0 hfd23_0 (.s rfl)) rfl ?_
 refine .cons (.load .none ty3 (.s rfl)) rfl ?_
 refine .cons (.subW .none (.s rfl) (.s rfl)) rfl ?_
 refine .cons (.mulW .none (.s rfl) (.s rfl)) rfl ?_
 refine .cons (.eqI .none (.s rfl) (.s rfl)) rfl ?_
 refine .cons (.move .none (.s rfl)) rfl ?_
 refine .cons (.fieldAddr (.at rfl rfl) fd23_0 hfd23_0 (.s rfl)) rfl ?_
 refine .cons (.load (.at rfl rfl) ty3 (.tmp rfl id)) rfl ?_
 refine .cons (.fieldAddr (.at rfl rfl) fd23_0 hfd23_0 (.s rfl)) rfl ?_
 refine .cons (.load (.at rfl rfl) ty3 (.tmp rfl id)) rfl ?_
 refine .cons (.fieldAddr (.at rfl rfl) fd23_0 hfd23_0 (.s rfl)) rfl ?_
 refine .cons (.load (.at rfl rfl) ty3 (.tmp rfl id)) rfl ?_
 refine .cons (.min2 (.at rfl rfl) (.tmp rfl id) (.tmp rfl id)) rfl ?_
 refine .cons (.fieldAddr (.at rfl rfl) fd23_0 hfd23_0 (.s rfl)) rfl ?_
 refine .cons (.load (.at rfl rfl) ty3 (.tmp rfl id)) rfl ?_
 refine .cons (.fieldAddr (.at rfl rfl) fd23_0 hfd23_0 (.s rfl)) rfl ?_
 refine .cons (.load (.at rfl rfl) ty3 (.tmp rfl id)) rfl ?_
 refine .cons (.max2 (.at rfl rfl) (.tmp rfl id) (.tmp rfl id)) rfl ?_
 obtain ⟨r1, hv1, h⟩ := bind_some h
 refine .cons (.callIf (.at rfl rfl) fnok26 (fun hg => ref_In_ok ((fun hg => gd_some hv1 (hg.2)) hg)) (.cons (.tmp rfl id) (.cons (.tmp rfl id) (.cons (.tmp rfl id) .nil))) (fun h => h)) rfl ?_
 refine .cons (.pickAnd .none (.s rfl) (.tmp rfl id)) rfl ?_
 refine .cons (.move .none (.s rfl)) rfl ?_
 refine .cons (.fieldAddr (.at rfl rfl) fd23_1 hfd23_1 (.s rfl)) rfl ?_
 refine .cons (.load (.at rfl rfl) ty3 (.tmp rfl id)) rfl ?_
 refine .cons (.fieldAddr (.at rfl rfl) fd23_1 hfd23_1 (.s rfl)) rfl ?_
 refine .cons (.load (.at rfl rfl) ty3 (.tmp rfl id)) rfl ?_
 refine .cons (.fieldAddr (.at rfl rfl) fd23_1 hfd23_1 (.s rfl)) rfl ?_
 refine .cons (.load (.at rfl rfl) ty3 (.tmp rfl id)) rfl ?_
 refine .cons (.min2 (.at rfl rfl) (.tmp rfl id) (.tmp rfl id)) rfl ?_
 refine .cons (.fieldAddr (.at rfl rfl) fd23_1 hfd23_1 (.s rfl)) rfl ?_
 refine .cons (.load (.at rfl rfl) ty3 (.tmp rfl id)) rfl ?_
 refine .cons (.fieldAddr (.at rfl rfl) fd23_1 hfd23_1 (.s rfl)) rfl ?_
 refine .cons (.load (.at rfl rfl) ty3 (.tmp rfl id)) rfl ?_
 refine .cons (.max2 (.at rfl rfl) (.tmp rfl id) (.tmp rfl id)) rfl ?_
 obtain ⟨r2, hv2, h⟩ := bind_some h
 refine .cons (.callIf (.at rfl rfl) fnok26 (fun hg => ref_In_ok ((fun hg => gd_some hv2 (hg.2)) hg)) (.cons (.tmp rfl id) (.cons (.tmp rfl id) (.cons (.tmp rfl id) .nil))) (fun h => h)) rfl ?_
 refine .cons (.pickAnd .none (.s rfl) (.tmp rfl id)) rfl ?_
 refine .cons (.assign .none (.s rfl)) rfl ?_
 refine .nil (.then ?_)
 refine .ret ?_
 obtain rfl := some_eq h
 exact Ends.ret1 (.inl rfl) Try.results85 (ResOK.tmp rfl trivial Imp.refl)

theorem ref_InsideOf_ok {l1 : (List Point)} {p1 : Point} {r : Int}  (h : ref_InsideOf l1 p1 = some r) : FSpec Try.prog 67 [rep l1, rep p1] (rep r) := by
 unfold ref_InsideOf at h
 refine FSpec.intro (n := 73) fnok67 Try.func67 rfl Try.ntmps67 rfl (fun F => ?_)
 refine .seq (.region [] mixed (by kernel_rfl) ?_)
 refine .cons (.box .none (.s rfl)) rfl ?_
 refine .cons (.assign .none (.int (by decide))) rfl ?_
 refine .nil (.then ?_)
 refine .seq (.region [] mixed (by kernel_rfl) ?_)
 refine .cons (.assign .none (.int (by decide))) rfl ?_
 refine .nil (.then ?_)
 refine .seq ?_
 refine .seq (.region [] mixed (by kernel_rfl) ?_)
 refine .cons (.move .none (.s rfl)) rfl ?_
 refine .cons (.len .none sl66 (.s rfl)) rfl ?_
 refine .cons (.move .none (.int (by decide))) rfl ?_
 refine .nil (.then ?_)
 obtain ⟨o_1, h, hK1⟩ := bindR_some h
 refine .thenJ (ι := Int) (fun j_1 => [(5, ⟨True, rep j_1⟩)]) (fun j_1 => []) (fun s => o_1 = Res.nx s) Sub.nil SubB.nil ?_ (fun j_1 hj1 => ?_)
 ·
  skip
  refine .block ?_
  refine .rforEL h (fun p2_ => [(11, ⟨True, rep p2_.1⟩), (5, ⟨True, rep p2_.2⟩)]) (fun p2_ => []) (.k 11 rfl (.k 5 rfl .nil)) SubB.nil (.k 0 rfl (.k 3 rfl (.k 9 rfl (.k 10 rfl .nil)))) SubB.nil (fun p2_ o_2 h hD2 => ?_)
  refine .seq (.region [] mixed (by kernel_rfl) ?_)
  refine .cons (.lt .none (.s rfl) (.s rfl)) rfl ?_
  refine .nil (.then ?_)
  refine .seq ?_
  refine .cond (t := 12) rfl trivial (fun hb3 => ?_) (fun hb3 => ?_)
  ·
   replace h := bif_t h hb3
   refine .skip ?_
   refine .then ?_
   refine .seq ?_
   obtain ⟨o_4, h, hK4⟩ := bindD_some h
   unfold ref_InsideOf_L1 at h
   refine .thenJ (ι := Int) (fun j_4 => [(5, ⟨True, rep j_4⟩)]) (fun j_4 => []) (fun s => o_4 = Res.nx s) (.k 0 rfl (.k 3 rfl (.k 9 rfl (.k 10 rfl (.k 11 rfl .nil))))) SubB.nil ?_ (fun j_4 hj4 => ?_)
   ·
    skip
    refine .block ?_
    refine .seq (.region [([], []), ([], []), ([], []), ([], [7]), ([], []), ([7], [7])] mixed (by kernel_rfl) ?_)
    refine .consA (.move .none (.s rfl)) rfl ?_
    obtain ⟨hn5, h⟩ := need_some h
    refine .consA (.indexAddr .none sl66 ty23 (.s rfl) (.s rfl) (fun _ => hn5)) rfl ?_
    obtain ⟨v1, hv6, h⟩ := bnd_some h
    refine .consA (.re hv6 (.load .none ty23 (.s rfl))) rfl ?_
    refine .consW (.alloc zo23 rfl) rfl rfl ?_
    refine .consA (.assign .none (.s rfl)) rfl ?_
    refine .consN (.store ty23 rfl rfl (.s rfl)) rfl ?_
    refine .nil (.then ?_)
    refine .nameBox (t := 7) (g := 5001) rfl rfl (fun m5001 => ?_)
    refine .seq (.region [([], []), ([], []), ([], []), ([], []), ([], []), ([], []), ([], []), ([], []), ([], [8]), ([8], [8])] mixed (by kernel_rfl) ?_)
    refine .consA (.move .none (.s rfl)) rfl ?_
    refine .consA (.move .none (.s rfl)) rfl ?_
    refine .consA (.addW .none (.s rfl) (.int (by decide))) rfl ?_
    refine .consA (.move .none (.s rfl)) rfl ?_
    refine .consA (.len .none sl66 (.s rfl)) rfl ?_
    obtain ⟨hn7, h⟩ := need_some h
    refine .consA (.rem .none (.s rfl) (.s rfl) (fun _ => hn7)) rfl ?_
    obtain ⟨hn8, h⟩ := need_some h
    refine .consA (.indexAddr .none sl66 ty23 (.s rfl) (.s rfl) (fun _ => hn8)) rfl ?_
    obtain ⟨v2, hv9, h⟩ := bnd_some h
    refine .consA (.re hv9 (.load .none ty23 (.s rfl))) rfl ?_
    refine .consW (.alloc zo23 rfl) rfl rfl ?_
    refine .consN (.store ty23 rfl rfl (.s rfl)) rfl ?_
    refine .nil (.then ?_)
    refine .nameBox (t := 8) (g := 5002) rfl rfl (fun m5002 => ?_)
    refine .seq ?_
    refine .seq (.region [([5001], []), ([5002], []), ([], []), ([], [])] mixed (by kernel_rfl) ?_)
    refine .consA (.loadAt0 (k := 5001) .none ty23 rfl (.s rfl)) rfl ?_
    refine .consA (.loadAt0 (k := 5002) .none ty23 rfl (.s rfl)) rfl ?_
    refine .consA (.load .none ty23 (.s rfl)) rfl ?_
    obtain ⟨r1, hv10, h⟩ := bind_some h
    refine .consA (.call .none (ref_on_ok hv10) (.cons (.s rfl) (.cons (.s rfl) (.cons (.s rfl) .nil)))) rfl ?_
    refine .nil (.then ?_)
    refine .cond (t := 27) rfl trivial (fun hb11 => ?_) (fun hb11 => ?_)
    ·
     replace h := bif_t h hb11
     refine .seq (.region [] mixed (by kernel_rfl) ?_)
     refine .cons (.assign .none (.int (by decide))) rfl ?_
     refine .nil (.then ?_)
     refine .ret ?_
     refine .thenRet ?_
     refine .blkRet ?_
     refine .thenRet ?_
     refine .thenRet ?_
     refine .blkRet ?_
     refine .thenRet ?_
     replace h := resd_ab hK4 (some_eq h)
     replace h := hD2 _ (some_eq h)
     replace h := resb_ab hK1 (some_eq h)
     obtain rfl := some_eq h
     exact Ends.ret1 (.inl rfl) Try.results67 (ResOK.tmp rfl trivial Imp.refl)
    ·
     replace h := bif_f h hb11
     refine .skip ?_
     refine .then ?_
     refine .seq (.region [([], []), ([5001], []), ([], []), ([], []), ([], []), ([], []), ([5002], []), ([], []), ([], []), ([], []), ([], [])] mixed (by kernel_rfl) ?_)
     refine .consA (.fieldPtr .none fd23_1 (.s rfl)) rfl ?_
     refine .consA (.loadAt (k := 5001) .none ty3 rfl (.s rfl) hfd23_1) rfl ?_
     refine .consA (.fieldAddr .none fd23_1 hfd23_1 (.s rfl)) rfl ?_
     refine .consA (.load .none ty3 (.s rfl)) rfl ?_
     refine .consA (.gt .none (.s rfl) (.s rfl)) rfl ?_
     refine .consA (.fieldPtr .none fd23_1 (.s rfl)) rfl ?_
     refine .consA (.loadAt (k := 5002) .none ty3 rfl (.s rfl) hfd23_1) rfl ?_
     refine .consA (.fieldAddr .none fd23_1 hfd23_1 (.s rfl)) rfl ?_
     refine .consA (.load .none ty3 (.s rfl)) rfl ?_
     refine .consA (.gt .none (.s rfl) (.s rfl)) rfl ?_
     refine .consA (.neS .none (eqAt_bool Try.underlying4) (.s rfl) (.s rfl)) rfl ?_
     refine .nil (.then ?_)
     refine .cond (t := 38) rfl trivial (fun hb12 => ?_) (fun hb12 => ?_)
     ·
      replace h := bif_t h hb12
      refine .seq ?_
      refine .seq (.region [([], []), ([5001], []), ([], []), ([5002], []), ([], [])] mixed (by kernel_rfl) ?_)
      refine .consA (.fieldPtr .none fd23_1 (.s rfl)) rfl ?_
      refine .consA (.loadAt (k := 5001) .none ty3 rfl (.s rfl) hfd23_1) rfl ?_
      refine .consA (.fieldPtr .none fd23_1 (.s rfl)) rfl ?_
      refine .consA (.loadAt (k := 5002) .none ty3 rfl (.s rfl) hfd23_1) rfl ?_
      refine .consA (.lt .none (.s rfl) (.s rfl)) rfl ?_
      refine .nil (.then ?_)
      obtain ⟨j_13, h, hK13⟩ := bind_some h
      refine .thenJ (ι := (Point × Point)) (fun j_13 => []) (fun j_13 => [(5001, some (boxAt m5001 23 j_13.1)), (5002, some (boxAt m5002 23 j_13.2))]) (fun s => j_13 = s) (.k 0 rfl (.k 3 rfl (.k 5 rfl (.k 7 rfl (.k 8 rfl (.k 9 rfl (.k 10 rfl (.k 11 rfl .nil)))))))) SubB.nil ?_ (fun j_13' hj13 => ?_)
      ·
       skip
       refine .cond (t := 43) rfl trivial (fun hb14 => ?_) (fun hb14 => ?_)
       ·
        replace h := bif_t h hb14
        refine .region [([5002], []), ([5001], []), ([5001], [5001]), ([5002], [5002])] mixed (by kernel_rfl) ?_
        refine .consA (.loadAt0 (k := 5002) .none ty23 rfl (.s rfl)) rfl ?_
        refine .consA (.loadAt0 (k := 5001) .none ty23 rfl (.s rfl)) rfl ?_
        refine .consN (.storeAt0 (g := 5001) ty23 rfl (.s rfl) (.s rfl)) rfl ?_
        refine .consN (.storeAt0 (g := 5002) ty23 rfl (.s rfl) (.s rfl)) rfl ?_
        refine .nil ?_
        exact Ends.join _ (some_eq h) (.k 0 rfl (.k 3 rfl (.k 5 rfl (.k 7 rfl (.k 8 rfl (.k 9 rfl (.k 10 rfl (.k 11 rfl .nil)))))))) (.k 5001 rfl (.k 5002 rfl .nil))
       ·
        replace h := bif_f h hb14
        refine .skip ?_
        exact Ends.join _ (some_eq h) (.k 0 rfl (.k 3 rfl (.k 5 rfl (.k 7 rfl (.k 8 rfl (.k 9 rfl (.k 10 rfl (.k 11 rfl .nil)))))))) (.k 5001 rfl (.k 5002 rfl .nil))
      ·
       subst hj13; have h := hK13; clear hK13
       refine .freezeBox (g := 5001) (ts := [7]) rfl (.cons (t := 7) rfl trivial .nil) (.k 5002 rfl .nil) rfl ?_
       refine .freezeBox (g := 5002) (ts := [8]) rfl (.cons (t := 8) rfl trivial .nil) SubB.nil rfl ?_
       refine .seq (.region [] mixed (by kernel_rfl) ?_)
       refine .cons (.fieldAddr .none fd23_0 hfd23_0 (.s rfl)) rfl ?_
       refine .cons (.load .none ty3 (.s rfl)) rfl ?_
       refine .cons (.fieldAddr .none fd23_0 hfd23_0 (.s rfl)) rfl ?_
       refine .cons (.load .none ty3 (.s rfl)) rfl ?_
       refine .cons (.subW .none (.s rfl) (.s rfl)) rfl ?_
       refine .cons (.fieldAddr .none fd23_1 hfd23_1 (.s rfl)) rfl ?_
       refine .cons (.load .none ty3 (.s rfl)) rfl ?_
       refine .cons (.fieldAddr .none fd23_1 hfd23_1 (.s rfl)) rfl ?_
       refine .cons (.load .none ty3 (.s rfl)) rfl ?_
       refine .cons (.subW .none (.s rfl) (.s rfl)) rfl ?_
       refine .cons (.mulW .none (.s rfl) (.s rfl)) rfl ?_
       refine .cons (.fieldAddr .none fd23_0 hfd23_0 (.s rfl)) rfl ?_
       refine .cons (.load .none ty3 (.s rfl)) rfl ?_
       refine .cons (.fieldAddr .none fd23_0 hfd23_0 (.s rfl)) rfl ?_
       refine .cons (.load .none ty3 (.s rfl)) rfl ?_
       refine .cons (.subW .none (.s rfl) (.s rfl)) rfl ?_
       refine .cons (.fieldAddr .none fd23_1 hfd23_1 (.s rfl)) rfl ?_
       refine .cons (.load .none ty3 (.s rfl)) rfl ?_
       refine .cons (.fieldAddr .none fd23_1 hfd23_1 (.s rfl)) rfl ?_
       refine .cons (.load .none ty3 (.s rfl)) rfl ?_
       refine .cons (.subW .none (.s rfl) (.s rfl)) rfl ?_
       refine .cons (.mulW .none (.s rfl) (.s rfl)) rfl ?_
       refine .cons (.gt .none (.s rfl) (.s rfl)) rfl ?_
       refine .nil (.then ?_)
       refine .cond (t := 68) rfl trivial (fun hb15 => ?_) (fun hb15 => ?_)
       ·
        replace h := bif_t h hb15
        refine .region [] mixed (by kernel_rfl) ?_
        refine .cons (.move .none (.s rfl)) rfl ?_
        refine .cons (.negW .none (.s rfl)) rfl ?_
        obtain ⟨odd1, hv16, h⟩ := bnd_some h
        refine .cons (.re hv16 (.assign .none (.s rfl))) rfl ?_
        refine .nil ?_
        refine .blkNormal ?_
        exact Ends.join _ (some_eq h) (.k 5 rfl (.k 0 rfl (.k 3 rfl (.k 9 rfl (.k 10 rfl (.k 11 rfl .nil)))))) SubB.nil
       ·
        replace h := bif_f h hb15
        refine .skip ?_
        refine .blkNormal ?_
        exact Ends.join _ (some_eq h) (.k 5 rfl (.k 0 rfl (.k 3 rfl (.k 9 rfl (.k 10 rfl (.k 11 rfl .nil)))))) SubB.nil
     ·
      replace h := bif_f h hb12
      refine .skip ?_
      refine .blkNormal ?_
      exact Ends.join _ (some_eq h) (.k 5 rfl (.k 0 rfl (.k 3 rfl (.k 9 rfl (.k 10 rfl (.k 11 rfl .nil)))))) SubB.nil
   ·
    have h := resd_nx hK4 hj4
    refine .region [] mixed (by kernel_rfl) ?_
    refine .cons (.addW .none (.s rfl) (.int (by decide))) rfl ?_
    refine .cons (.move .none (.s rfl)) rfl ?_
    refine .nil ?_
    exact Ends.againL (some_eq h) (.k 11 rfl (.k 5 rfl (.k 0 rfl (.k 3 rfl (.k 9 rfl (.k 10 rfl .nil)))))) SubB.nil
  ·
   replace h := bif_f h hb3
   refine .exit ?_
   refine .thenExit ?_
   refine .thenExit ?_
   refine .blkExit ?_
   replace h := hD2 _ (some_eq h)
   exact Ends.join _ (some_eq h) (.k 5 rfl .nil) SubB.nil
 ·
  have h := resb_nx hK1 hj1
  refine .seq (.region [] mixed (by kernel_rfl) ?_)
  refine .cons (.move .none (.s rfl)) rfl ?_
  refine .cons (.assign .none (.s rfl)) rfl ?_
  refine .nil (.then ?_)
  refine .ret ?_
  obtain rfl := some_eq h
  exact Ends.ret1 (.inl rfl) Try.results67 (ResOK.tmp rfl trivial Imp.refl)

theorem law_AreasMatch_2_ok {c0_1 : (List Point)} {c1_1 : Point} {r : Int}  (h : law_AreasMatch_2 c0_1 c1_1 = some r) : FSpec Try.prog 66 [ref c0_1, ref c1_1] (rep r) := by
 unfold law_AreasMatch_2 at h
 refine FSpec.intro (n := 6) fnok66 Try.func66 rfl Try.ntmps66 rfl (fun F => ?_)
 refine .seq (.region [] mixed (by kernel_rfl) ?_)
 refine .cons (.assign .none (.int (by decide))) rfl ?_
 refine .nil (.then ?_)
 refine .seq (.region [] mixed (by kernel_rfl) ?_)
 refine .cons (.load .none ty66 (.s rfl)) rfl ?_
 refine .cons (.load .none ty23 (.s rfl)) rfl ?_
 obtain ⟨r1, hv1, h⟩ := bind_some h
 refine .cons (.call .none (ref_InsideOf_ok hv1) (.cons (.s rfl) (.cons (.s rfl) .nil))) rfl ?_
 refine .cons (.assign .none (.s rfl)) rfl ?_
 refine .nil (.then ?_)
 refine .ret ?_
 obtain rfl := some_eq h
 exact Ends.ret1 (.inl rfl) Try.results66 (ResOK.tmp rfl trivial Imp.refl)

theorem slices_Clone_Point_ok {s1 : (List Point)} {r : (List Point)}  (h : slices_Clone_Point s1 = some r) : FSpecO Try.prog 98 [rep s1] [] (anyV) [some (rowV 23 r)] := by
 unfold slices_Clone_Point at h
 refine FSpecO.intro (n := 8) fnok98 Try.func98 rfl Try.ntmps98 rfl (fun F => ?_)
 refine .seq (.region [] mixed (by kernel_rfl) ?_)
 refine .cons (.assign .none (.const (x := ([] : (List Point))) (fun M w => ⟨_, ⟨none, 0, rfl, Nat.le_refl _, by decide, rfl⟩, rfl⟩))) rfl ?_
 refine .nil (.then ?_)
 refine .seq ?_
 refine .seq (.region [] mixed (by kernel_rfl) ?_)
 refine .cons (.move .none (.s rfl)) rfl ?_
 refine .cons (.eqNil .none sl66 (.s rfl)) rfl ?_
 refine .nil (.then ?_)
 refine .condNil (t := 4) rfl trivial (fun hb1 => ?_) ?_
 ·
  replace h := nilc_t h hb1
  refine .seq (.region [([], [2])] mixed (by kernel_rfl) ?_)
  refine .consW (.nilRow (T := 23) (α := Point) rfl) rfl rfl ?_
  refine .nil (.then ?_)
  refine .nameRow (t := 2) (g := 5001) rfl rfl rfl (fun s5001 => ?_)
  refine .ret ?_
  refine .thenRet ?_
  refine .anon (t := 2) (g := 5001) rfl rfl trivial rfl ?_
  obtain rfl := some_eq h
  exact Ends.ret1O (.inl rfl) [2] Try.results98 (by decide) (.res rfl rfl) (ResOK.tmp rfl trivial (fun _ _ _ _ => trivial))
 ·
  replace h := nilc_f h
  refine .skip ?_
  refine .then ?_
  refine .seq (.region [([], [5]), ([], []), ([5], [7, 5]), ([7], [2, 7])] mixed (by kernel_rfl) ?_)
  refine .consW (.buildSliceO (xs := []) rfl sl66 ty23 hz23 .nil rfl (by decide)) rfl rfl ?_
  refine .consA (.move .none (.s rfl)) rfl ?_
  obtain ⟨hn2, h⟩ := need_some h
  refine .consW (.append (k := 5) rk66 rfl (.tmp rfl) (.s rfl) hn2) rfl rfl ?_
  refine .consW (.passRow rfl (.tmp rfl)) rfl rfl ?_
  refine .nil (.then ?_)
  obtain ⟨v1, hv3, h⟩ := bnd_some h
  refine .reB (t := 2) rfl (congrArg (rowV 23) hv3) ?_
  refine .nameRow (t := 2) (g := 5002) rfl rfl rfl (fun s5002 => ?_)
  refine .ret ?_
  refine .anon (t := 2) (g := 5002) rfl rfl trivial rfl ?_
  obtain rfl := some_eq h
  exact Ends.ret1O (.inl rfl) [2] Try.results98 (by decide) (.res rfl rfl) (ResOK.tmp rfl trivial (fun _ _ _ _ => trivial))

instance : Enc Point := Enc.via (fun x : Point => (x.X, x.Y))

theorem sortO_Point : Sort.SWO (Proofs.ltOf sortC_Point) := by
 have h : ∀ x y, Proofs.ltOf sortC_Point x y = decide (x.1.X < y.1.X ∨ x.1.X = y.1.X ∧ x.1.Y < y.1.Y) := fun ⟨x, hx⟩ ⟨y, hy⟩ => by
  unfold Proofs.ltOf sortC_Point sortQ_Point at *
  rw [W_eq ⟨by simp only; omega, by simp only; omega⟩, W_eq ⟨by simp only; omega, by simp only; omega⟩, decide_eq_decide]
  simp only
  split <;> omega
 constructor
 ·
  intro x; rw [h]; simp
 ·
  intro x y z h1 h2; rw [h] at *; simp at *; omega
 ·
  intro x y z h1 h2; rw [h] at *; simp at *; omega

theorem sortX_Point (x y : { x : Point // sortQ_Point x }) (w0 : World) : Calls Try.prog 100 #[.agg (Enc.enc x.1).toArray, .agg (Enc.enc y.1).toArray] w0 fun e w' => e = .returned (.int .i64 (sortC_Point x y)) ∧ ∃ q os', w' = Go.Sort.grow (w0.drewN q) os' := by
 obtain ⟨⟨a1, a2⟩, hx⟩ := x
 obtain ⟨⟨b1, b2⟩, hy⟩ := y
 have hc : sortC_Point ⟨⟨a1, a2⟩, hx⟩ ⟨⟨b1, b2⟩, hy⟩ = if a1 = b1 then IntKind.i64.wrap (a2 - b2) else IntKind.i64.wrap (a1 - b1) := by unfold sortC_Point DB.W; rfl
 rw [hc]
 show Calls Try.prog 100 #[.agg #[.int .i64 a1, .int .i64 a2], .agg #[.int .i64 b1, .int .i64 b2]] w0 fun e w' => e = .returned (.int .i64 (if a1 = b1 then IntKind.i64.wrap (a2 - b2) else IntKind.i64.wrap (a1 - b1))) ∧ ∃ q os', w' = Go.Sort.grow (w0.drewN q) os'
 clear hc hx hy
 go_enter Try.func100, Try.ntmps100
 go_wp2
 ·
  rename_i e
  exact absurd h (by simpa using e)
 ·
  go_ret
  exact ⟨by show Ending.returned (.int .i64 (wrap64 (a1 - b1))) = _; congr 2; simp only [wrap64, IntKind.wrap_i64], 0, _, by rw [Go.Sort.alloc_eq_grow, Go.Sort.alloc_eq_grow, Go.Sort.grow_grow]; rfl⟩
 ·
  go_ret
  exact ⟨by show Ending.returned (.int .i64 (wrap64 (a2 - b2))) = _; congr 2; simp only [wrap64, IntKind.wrap_i64], 0, _, by rw [Go.Sort.alloc_eq_grow, Go.Sort.alloc_eq_grow, Go.Sort.grow_grow]; rfl⟩
 ·
  rename_i e
  exact absurd (by simpa using e) h

theorem slices_SortFunc_Point_ok {l r : List Point} {s : Value} (h : slices_SortFunc_Point l = some r) : FSpecO Try.prog 99 [isV s, cloV 100 []] [(s, rowV 23 l)] (anyV) [some (rowV 23 r)] := by
 obtain ⟨hl, h⟩ := need_some h
 obtain rfl := some_eq h
 exact sortF_spec sortF23_lay rfl rfl fnok99 fnok100 Try.underlying23 ty23 sortO_Point sortX_Point hl.1 hl.2

theorem slices_Compact_Point_ok {s1 : (List Point)} {r : (List Point)} {s61 : Value} (h : slices_Compact_Point s1 = some r) : FSpecO Try.prog 101 [isV s61] [(s61, rowV 23 s1)] (anyV) [none, some (rowV 23 r)] := by
 unfold slices_Compact_Point at h
 refine FSpecO.intro (n := 61) fnok101 Try.func101 rfl Try.ntmps101 rfl (fun F => ?_)
 refine .seq (.region [] mixed (by kernel_rfl) ?_)
 refine .cons (.assign .none (.const (x := ([] : (List Point))) (fun M w => ⟨_, ⟨none, 0, rfl, Nat.le_refl _, by decide, rfl⟩, rfl⟩))) rfl ?_
 refine .nil (.then ?_)
 refine .seq ?_
 refine .seq (.region [([], []), ([61], []), ([], [])] mixed (by kernel_rfl) ?_)
 refine .consA (.move .none (.s rfl)) rfl ?_
 refine .consA (.lenO (k := 61) sl66 (.told (.s rfl) rfl)) rfl ?_
 refine .consA (.lt .none (.s rfl) (.int (by decide))) rfl ?_
 refine .nil (.then ?_)
 refine .cond (t := 8) rfl trivial (fun hb1 => ?_) (fun hb1 => ?_)
 ·
  replace h := bif_t h hb1
  refine .seq (.region [] mixed (by kernel_rfl) ?_)
  refine .cons (.move .none (.s rfl)) rfl ?_
  refine .cons (.assign .none (.s rfl)) rfl ?_
  refine .nil (.then ?_)
  refine .ret ?_
  refine .thenRet ?_
  refine .anon (t := 2) (g := 61) rfl rfl trivial rfl ?_
  obtain rfl := some_eq h
  exact Ends.ret1O (.inl rfl) [61, 2] Try.results101 (by decide) (.skip (.res rfl rfl)) (ResOK.tmp rfl trivial (fun _ _ _ _ => trivial))
 ·
  replace h := bif_f h hb1
  refine .skip ?_
  refine .then ?_
  refine .seq ?_
  refine .seq (.region [] mixed (by kernel_rfl) ?_)
  refine .cons (.assign .none (.int (by decide))) rfl ?_
  refine .nil (.then ?_)
  obtain ⟨o_2, h, hK2⟩ := bindR_some h
  refine .thenJ (ι := Unit) (fun j_2 => []) (fun j_2 => []) (fun s => o_2 = Res.nx s) (.k 0 rfl .nil) (.k 61 rfl .nil) ?_ (fun j_2 hj2 => ?_)
  ·
   skip
   refine .block ?_
   refine .loopL h (fun s3_ => [(3, ⟨True, rep s3_⟩)]) (fun s3_ => []) (.k 3 rfl .nil) SubB.nil (.k 0 rfl .nil) (.k 61 rfl .nil) (fun s3_ o_3 h hD3 => ?_)
   unfold slices_Compact_Point_L1 at h
   refine .seq ?_
   refine .seq (.region [([], []), ([], []), ([61], []), ([], [])] mixed (by kernel_rfl) ?_)
   refine .consA (.move .none (.s rfl)) rfl ?_
   refine .consA (.move .none (.s rfl)) rfl ?_
   refine .consA (.lenO (k := 61) sl66 (.told (.s rfl) rfl)) rfl ?_
   refine .consA (.lt .none (.s rfl) (.s rfl)) rfl ?_
   refine .nil (.then ?_)
   refine .cond (t := 13) rfl trivial (fun hb4 => ?_) (fun hb4 => ?_)
   ·
    replace h := bif_t h hb4
    refine .skip ?_
    refine .then ?_
    refine .seq ?_
    obtain ⟨o_5, h, hK5⟩ := bindR_some h
    refine .thenJ (ι := Unit) (fun j_5 => []) (fun j_5 => []) (fun s => o_5 = Res.nx s) (.k 0 rfl (.k 3 rfl .nil)) (.k 61 rfl .nil) ?_ (fun j_5 hj5 => ?_)
    ·
     skip
     refine .block ?_
     refine .seq (.region [([], []), ([], []), ([61], []), ([61], []), ([], []), ([], []), ([], []), ([61], []), ([61], []), ([], [])] mixed (by kernel_rfl) ?_)
     refine .consA (.move .none (.s rfl)) rfl ?_
     refine .consA (.move .none (.s rfl)) rfl ?_
     obtain ⟨hn6, h⟩ := need_some h
     refine .consA (.indexAddrO (k := 61) .none sl66 ty23 (.s rfl) rfl (.s rfl) (fun _ => hn6)) rfl ?_
     refine .consA (.loadElem0 (k := 61) .none ty23 (.s rfl) rfl (fun _ => hn6)) rfl ?_
     refine .consA (.move .none (.s rfl)) rfl ?_
     refine .consA (.move .none (.s rfl)) rfl ?_
     refine .consA (.subW .none (.s rfl) (.int (by decide))) rfl ?_
     obtain ⟨hn7, h⟩ := need_some h
     refine .consA (.indexAddrO (k := 61) .none sl66 ty23 (.s rfl) rfl (.s rfl) (fun _ => hn7)) rfl ?_
     refine .consA (.loadElem0 (k := 61) .none ty23 (.s rfl) rfl (fun _ => hn7)) rfl ?_
     refine .consA (.eqS .none eq23 (.s rfl) (.s rfl)) rfl ?_
     refine .nil (.then ?_)
     refine .cond (t := 25) rfl trivial (fun hb8 => ?_) (fun hb8 => ?_)
     ·
      replace h := bif_t h hb8
      refine .seq (.region [([], []), ([], []), ([61], []), ([], [])] mixed (by kernel_rfl) ?_)
      refine .consA (.move .none (.s rfl)) rfl ?_
      refine .consA (.move .none (.s rfl)) rfl ?_
      obtain ⟨hn9, h⟩ := need_some h
      refine .consA (.sliceLend (k := 61) sl66 ty23 (.s rfl) rfl (.s rfl) rfl hn9) rfl ?_
      refine .consA (.assign .none (.s rfl)) rfl ?_
      refine .nil (.then ?_)
      refine .seq ?_
      refine .seq (.region [] mixed (by kernel_rfl) ?_)
      refine .cons (.assign .none (.int (by decide))) rfl ?_
      refine .nil (.then ?_)
      obtain ⟨j_10, h, hK10⟩ := bind_some h
      refine .thenJ (ι := (Int × (List Point))) (fun j_10 => [(3, ⟨True, rep j_10.1⟩)]) (fun j_10 => [(61, some (CPred.at s61 (rowV 23 j_10.2)))]) (fun s => j_10 = s) (.k 0 rfl .nil) SubB.nil ?_ (fun j_10' hj10 => ?_)
      ·
       skip
       refine .block ?_
       refine .loopL h (fun s11_ => [(3, ⟨True, rep s11_.1⟩), (5, ⟨True, rep s11_.2.1⟩)]) (fun s11_ => [(61, some (CPred.at s61 (rowV 23 s11_.2.2)))]) (.k 3 rfl (.k 5 rfl .nil)) (.k 61 rfl .nil) (.k 0 rfl (.k 4 rfl .nil)) SubB.nil (fun s11_ o_11 h hD11 => ?_)
       unfold slices_Compact_Point_L2 at h
       refine .seq ?_
       refine .seq (.region [([], []), ([], []), ([61], []), ([], [])] mixed (by kernel_rfl) ?_)
       refine .consA (.move .none (.s rfl)) rfl ?_
       refine .consA (.move .none (.s rfl)) rfl ?_
       obtain ⟨hn12, h⟩ := need_some h
       refine .consA (.lenPart (k := 61) sl66 (.s rfl) rfl hn12) rfl ?_
       refine .consA (.lt .none (.s rfl) (.s rfl)) rfl ?_
       refine .nil (.then ?_)
       refine .cond (t := 32) rfl trivial (fun hb13 => ?_) (fun hb13 => ?_)
       ·
        replace h := bif_t h hb13
        refine .skip ?_
        refine .then ?_
        refine .seq ?_
        obtain ⟨j_14, h, hK14⟩ := bind_some h
        refine .thenJ (ι := (Int × (List Point))) (fun j_14 => [(3, ⟨True, rep j_14.1⟩)]) (fun j_14 => [(61, some (CPred.at s61 (rowV 23 j_14.2)))]) (fun s => j_14 = s) (.k 0 rfl (.k 4 rfl (.k 5 rfl .nil))) SubB.nil ?_ (fun j_14' hj14 => ?_)
        ·
         skip
         refine .block ?_
         refine .seq (.region [([], []), ([], []), ([61], []), ([61], []), ([], []), ([], []), ([], []), ([61], []), ([61], []), ([], [])] mixed (by kernel_rfl) ?_)
         refine .consA (.move .none (.s rfl)) rfl ?_
         refine .consA (.move .none (.s rfl)) rfl ?_
         obtain ⟨hn15, h⟩ := need_some h
         obtain ⟨hn16, h⟩ := need_some h
         obtain ⟨hn17, h⟩ := need_some h
         refine .consA (.indexPart (k := 61) .none sl66 ty23 (.s rfl) rfl (.s rfl) (fun _ => hn15) (fun _ => hn16)) rfl ?_
         refine .consA (.loadElem0 (k := 61) .none ty23 (.s rfl) rfl (fun _ => hn17)) rfl ?_
         refine .consA (.move .none (.s rfl)) rfl ?_
         refine .consA (.move .none (.s rfl)) rfl ?_
         refine .consA (.subW .none (.s rfl) (.int (by decide))) rfl ?_
         obtain ⟨hn18, h⟩ := need_some h
         obtain ⟨hn19, h⟩ := need_some h
         obtain ⟨hn20, h⟩ := need_some h
         refine .consA (.indexPart (k := 61) .none sl66 ty23 (.s rfl) rfl (.s rfl) (fun _ => hn18) (fun _ => hn19)) rfl ?_
         refine .consA (.loadElem0 (k := 61) .none ty23 (.s rfl) rfl (fun _ => hn20)) rfl ?_
         refine .consA (.neS .none eq23 (.s rfl) (.s rfl)) rfl ?_
         refine .nil (.then ?_)
         refine .cond (t := 44) rfl trivial (fun hb21 => ?_) (fun hb21 => ?_)
         ·
          replace h := bif_t h hb21
          refine .seq (.region [([], []), ([], []), ([], []), ([], []), ([61], []), ([61], []), ([61], []), ([61], [61])] mixed (by kernel_rfl) ?_)
          refine .consA (.move .none (.s rfl)) rfl ?_
          refine .consA (.move .none (.s rfl)) rfl ?_
          refine .consA (.move .none (.s rfl)) rfl ?_
          refine .consA (.move .none (.s rfl)) rfl ?_
          obtain ⟨hn22, h⟩ := need_some h
          obtain ⟨hn23, h⟩ := need_some h
          obtain ⟨hn24, h⟩ := need_some h
          refine .consA (.indexPart (k := 61) .none sl66 ty23 (.s rfl) rfl (.s rfl) (fun _ => hn22) (fun _ => hn23)) rfl ?_
          obtain ⟨v1, hv25, h⟩ := bnd_some h
          refine .consA (.re hv25 (.loadElem0 (k := 61) .none ty23 (.s rfl) rfl (fun _ => hn24))) rfl ?_
          obtain ⟨hn26, h⟩ := need_some h
          refine .consA (.indexAddrO (k := 61) .none sl66 ty23 (.s rfl) rfl (.s rfl) (fun _ => hn26)) rfl ?_
          refine .consN (.storeElem0 (k := 61) ty23 (.s rfl) rfl (.s rfl) hn26) rfl ?_
          refine .nil (.then ?_)
          obtain ⟨s2, hv27, h⟩ := bnd_some h
          refine .reB (t := 61) rfl (congrArg (fun y => CPred.at s61 (rowV 23 y)) hv27) ?_
          refine .region [] mixed (by kernel_rfl) ?_
          refine .cons (.move .none (.s rfl)) rfl ?_
          refine .cons (.addW .none (.s rfl) (.int (by decide))) rfl ?_
          obtain ⟨k1, hv28, h⟩ := bnd_some h
          refine .cons (.re hv28 (.assign .none (.s rfl))) rfl ?_
          refine .nil ?_
          refine .blkNormal ?_
          exact Ends.join _ (some_eq h) (.k 3 rfl (.k 0 rfl (.k 4 rfl (.k 5 rfl .nil)))) (.k 61 rfl .nil)
         ·
          replace h := bif_f h hb21
          refine .skip ?_
          refine .blkNormal ?_
          exact Ends.join _ (some_eq h) (.k 3 rfl (.k 0 rfl (.k 4 rfl (.k 5 rfl .nil)))) (.k 61 rfl .nil)
        ·
         subst hj14; have h := hK14; clear hK14
         refine .region [] mixed (by kernel_rfl) ?_
         refine .cons (.move .none (.s rfl)) rfl ?_
         refine .cons (.addW .none (.s rfl) (.int (by decide))) rfl ?_
         obtain ⟨k2_1, hv29, h⟩ := bnd_some h
         refine .cons (.re hv29 (.assign .none (.s rfl))) rfl ?_
         refine .nil ?_
         exact Ends.againL (some_eq h) (.k 3 rfl (.k 5 rfl (.k 0 rfl (.k 4 rfl .nil)))) (.k 61 rfl .nil)
       ·
        replace h := bif_f h hb13
        refine .exit ?_
        refine .thenExit ?_
        refine .thenExit ?_
        refine .blkExit ?_
        replace h := hD11 _ (some_eq h)
        exact Ends.join _ (some_eq h) (.k 3 rfl (.k 0 rfl .nil)) (.k 61 rfl .nil)
      ·
       subst hj10; have h := hK10; clear hK10
       refine .seq (.region [([], []), ([], []), ([61], []), ([61], [61])] mixed (by kernel_rfl) ?_)
       refine .consA (.move .none (.s rfl)) rfl ?_
       refine .consA (.move .none (.s rfl)) rfl ?_
       obtain ⟨hn30, h⟩ := need_some h
       refine .consA (.sliceLend (k := 61) sl66 ty23 (.s rfl) rfl (.s rfl) rfl hn30) rfl ?_
       refine .consN (.clearPart (k := 61) sl66 zo23 (.s rfl) rfl hn30) rfl ?_
       refine .nil (.then ?_)
       obtain ⟨s3, hv31, h⟩ := bnd_some h
       refine .reB (t := 61) rfl (congrArg (fun y => CPred.at s61 (rowV 23 y)) hv31) ?_
       refine .seq (.region [([], []), ([], []), ([61], [59, 61]), ([59], [2, 59])] mixed (by kernel_rfl) ?_)
       refine .consA (.move .none (.s rfl)) rfl ?_
       refine .consA (.move .none (.s rfl)) rfl ?_
       obtain ⟨hn32, h⟩ := need_some h
       refine .consW (.sliceRow (k := 61) sl66 ty23 rfl (.s rfl) rfl rfl (.s rfl) hn32) rfl rfl ?_
       refine .consW (.passRow rfl (.tmp rfl)) rfl rfl ?_
       refine .nil (.then ?_)
       obtain ⟨v2, hv33, h⟩ := bnd_some h
       refine .reB (t := 2) rfl (congrArg (rowV 23) hv33) ?_
       refine .nameRow (t := 2) (g := 5001) rfl rfl rfl (fun s5001 => ?_)
       refine .ret ?_
       refine .blkRet ?_
       refine .thenRet ?_
       refine .thenRet ?_
       refine .blkRet ?_
       refine .thenRet ?_
       refine .anon (t := 2) (g := 5001) rfl rfl trivial rfl ?_
       replace h := resb_ab hK5 (some_eq h)
       replace h := hD3 _ (some_eq h)
       replace h := resb_ab hK2 (some_eq h)
       obtain rfl := some_eq h
       exact Ends.ret1O (.inl rfl) [61, 2] Try.results101 (by decide) (.skip (.res rfl rfl)) (ResOK.tmp rfl trivial (fun _ _ _ _ => trivial))
     ·
      replace h := bif_f h hb8
      refine .skip ?_
      refine .blkNormal ?_
      exact Ends.join _ (some_eq h) (.k 0 rfl (.k 3 rfl .nil)) (.k 61 rfl .nil)
    ·
     have h := resb_nx hK5 hj5
     refine .region [] mixed (by kernel_rfl) ?_
     refine .cons (.move .none (.s rfl)) rfl ?_
     refine .cons (.addW .none (.s rfl) (.int (by decide))) rfl ?_
     obtain ⟨k2, hv34, h⟩ := bnd_some h
     refine .cons (.re hv34 (.assign .none (.s rfl))) rfl ?_
     refine .nil ?_
     exact Ends.againL (some_eq h) (.k 3 rfl (.k 0 rfl .nil)) (.k 61 rfl .nil)
   ·
    replace h := bif_f h hb4
    refine .exit ?_
    refine .thenExit ?_
    refine .thenExit ?_
    refine .blkExit ?_
    replace h := hD3 _ (some_eq h)
    exact Ends.join _ (some_eq h) (.k 0 rfl .nil) (.k 61 rfl .nil)
  ·
   have h := resb_nx hK2 hj2
   refine .seq (.region [] mixed (by kernel_rfl) ?_)
   refine .cons (.move .none (.s rfl)) rfl ?_
   refine .cons (.assign .none (.s rfl)) rfl ?_
   refine .nil (.then ?_)
   refine .ret ?_
   refine .anon (t := 2) (g := 61) rfl rfl trivial rfl ?_
   obtain rfl := some_eq h
   exact Ends.ret1O (.inl rfl) [61, 2] Try.results101 (by decide) (.skip (.res rfl rfl)) (ResOK.tmp rfl trivial (fun _ _ _ _ => trivial))

theorem geom_Convex_2_ok {l1 : (List Point)} {r : (List Point)}  (h : geom_Convex_2 l1 = some r) : FSpecO Try.prog 102 [rep l1] [] (anyV) [some (rowV 23 r)] := by
 unfold geom_Convex_2 at h
 refine FSpecO.intro (n := 47) fnok102 Try.func102 rfl Try.ntmps102 rfl (fun F => ?_)
 refine .seq (.region [] mixed (by kernel_rfl) ?_)
 refine .cons (.assign .none (.const (x := ([] : (List Point))) (fun M w => ⟨_, ⟨none, 0, rfl, Nat.le_refl _, by decide, rfl⟩, rfl⟩))) rfl ?_
 refine .nil (.then ?_)
 refine .seq (.region [([], [3])] mixed (by kernel_rfl) ?_)
 refine .consW (.nilRow (T := 23) (α := Point) rfl) rfl rfl ?_
 refine .nil (.then ?_)
 refine .nameRow (t := 3) (g := 5001) rfl rfl rfl (fun s5001 => ?_)
 refine .seq ?_
 refine .seq (.region [] mixed (by kernel_rfl) ?_)
 refine .cons (.move .none (.s rfl)) rfl ?_
 refine .cons (.len .none sl66 (.s rfl)) rfl ?_
 refine .cons (.move .none (.int (by decide))) rfl ?_
 refine .nil (.then ?_)
 obtain ⟨j_1, h, hK1⟩ := bind_some h
 refine .thenJ (ι := (List Point)) (fun j_1 => []) (fun j_1 => [(3, some (rowV 23 j_1))]) (fun s => j_1 = s) Sub.nil SubB.nil ?_ (fun j_1' hj1 => ?_)
 ·
  skip
  refine .block ?_
  refine .anon (t := 3) (g := 5001) rfl rfl trivial rfl ?_
  refine .rforL h (fun p2_ => [(8, ⟨True, rep p2_.1⟩)]) (fun p2_ => [(3, some (rowV 23 p2_.2))]) (.k 8 rfl .nil) (.k 3 rfl .nil) (.k 6 rfl (.k 7 rfl .nil)) SubB.nil (fun p2_ o_2 h hD2 => ?_)
  refine .nameRow (t := 3) (g := 5002) rfl rfl rfl (fun s5002 => ?_)
  refine .seq (.region [] mixed (by kernel_rfl) ?_)
  refine .cons (.lt .none (.s rfl) (.s rfl)) rfl ?_
  refine .nil (.then ?_)
  refine .seq ?_
  refine .cond (t := 9) rfl trivial (fun hb3 => ?_) (fun hb3 => ?_)
  ·
   replace h := bif_t h hb3
   refine .skip ?_
   refine .then ?_
   refine .seq ?_
   obtain ⟨j_4, h, hK4⟩ := bind_some h
   unfold geom_Convex_2_L1 at h
   refine .thenJ (ι := (List Point)) (fun j_4 => []) (fun j_4 => [(3, some (rowV 23 j_4))]) (fun s => j_4 = s) (.k 6 rfl (.k 7 rfl (.k 8 rfl .nil))) SubB.nil ?_ (fun j_4' hj4 => ?_)
   ·
    skip
    refine .block ?_
    refine .seq (.region [([], []), ([], []), ([], [5]), ([5], [5])] mixed (by kernel_rfl) ?_)
    obtain ⟨hn5, h⟩ := need_some h
    refine .consA (.indexAddr .none sl66 ty23 (.s rfl) (.s rfl) (fun _ => hn5)) rfl ?_
    obtain ⟨v1, hv6, h⟩ := bnd_some h
    refine .consA (.re hv6 (.load .none ty23 (.s rfl))) rfl ?_
    refine .consW (.alloc zo23 rfl) rfl rfl ?_
    refine .consN (.store ty23 rfl rfl (.s rfl)) rfl ?_
    refine .nil (.then ?_)
    refine .freeze (t := 5) rfl rfl (.k 5002 rfl .nil) rfl ?_
    refine .seq ?_
    obtain ⟨j_7, h, hK7⟩ := bind_some h
    refine .thenJ (ι := (List Point)) (fun j_7 => []) (fun j_7 => [(3, some (rowV 23 j_7))]) (fun s => j_7 = s) (.k 5 rfl (.k 6 rfl (.k 7 rfl (.k 8 rfl .nil)))) SubB.nil ?_ (fun j_7' hj7 => ?_)
    ·
     skip
     refine .block ?_
     refine .anon (t := 3) (g := 5002) rfl rfl trivial rfl ?_
     refine .loopL h (fun s8_ => []) (fun s8_ => [(3, some (rowV 23 s8_))]) Sub.nil (.k 3 rfl .nil) (.k 5 rfl (.k 6 rfl (.k 7 rfl (.k 8 rfl .nil)))) SubB.nil (fun s8_ o_8 h hD8 => ?_)
     unfold geom_Convex_2_L2 at h
     refine .nameRow (t := 3) (g := 5003) rfl rfl rfl (fun s5003 => ?_)
     refine .seq ?_
     refine .seq (.region [([], []), ([5003], []), ([], []), ([], []), ([], []), ([], []), ([5003], []), ([], []), ([5003], []), ([5003], []), ([], []), ([], []), ([5003], []), ([], []), ([5003], []), ([5003], []), ([], []), ([], []), ([], []), ([], [])] mixed (by kernel_rfl) ?_)
     refine .consA (.move .none (.s rfl)) rfl ?_
     refine .consA (.lenO (k := 5003) sl66 (.told (.s rfl) rfl)) rfl ?_
     refine .consA (.ge .none (.s rfl) (.int (by decide))) rfl ?_
     refine .consA (.move .none (.s rfl)) rfl ?_
     refine .consA (.move (.at rfl rfl) (.s rfl)) rfl ?_
     refine .consA (.move (.at rfl rfl) (.s rfl)) rfl ?_
     refine .consA (.lenG (k := 5003) (.at rfl rfl) sl66 (.tmp rfl id) rfl) rfl ?_
     refine .consA (.subW (.at rfl rfl) (.tmp rfl id) (.int (by decide))) rfl ?_
     obtain ⟨hn9, h⟩ := need_some h
     refine .consA (.indexAddrO (k := 5003) (.at rfl rfl) sl66 ty23 (.tmp rfl id) rfl (.tmp rfl id) (fun hg => hn9 hg.2)) rfl ?_
     refine .consA (.loadElem0 (k := 5003) (.at rfl rfl) ty23 (.tmp rfl id) rfl (fun hg => hn9 hg.2)) rfl ?_
     refine .consA (.move (.at rfl rfl) (.s rfl)) rfl ?_
     refine .consA (.move (.at rfl rfl) (.s rfl)) rfl ?_
     refine .consA (.lenG (k := 5003) (.at rfl rfl) sl66 (.tmp rfl id) rfl) rfl ?_
     refine .consA (.subW (.at rfl rfl) (.tmp rfl id) (.int (by decide))) rfl ?_
     obtain ⟨hn10, h⟩ := need_some h
     refine .consA (.indexAddrO (k := 5003) (.at rfl rfl) sl66 ty23 (.tmp rfl id) rfl (.tmp rfl id) (fun hg => hn10 hg.2)) rfl ?_
     refine .consA (.loadElem0 (k := 5003) (.at rfl rfl) ty23 (.tmp rfl id) rfl (fun hg => hn10 hg.2)) rfl ?_
     refine .consA (.load (.at rfl rfl) ty23 (.s rfl)) rfl ?_
     obtain ⟨r1, hv11, h⟩ := bind_some h
     refine .consA (.callIf (.at rfl rfl) fnok80 (fun hg => geom_bend_ok ((fun hg => gd_some hv11 (hg.2)) hg)) (.cons (.tmp rfl id) (.cons (.tmp rfl id) (.cons (.tmp rfl id) .nil))) (fun h => h)) rfl ?_
     refine .consA (.le (.at rfl rfl) (.tmp rfl id) (.int (by decide))) rfl ?_
     refine .consA (.pickAnd .none (.s rfl) (.tmp rfl id)) rfl ?_
     refine .nil (.then ?_)
     refine .cond (t := 31) rfl trivial (fun hb12 => ?_) (fun hb12 => ?_)
     ·
      replace h := bif_t h hb12
      refine .skip ?_
      refine .then ?_
      refine .block ?_
      refine .region [([], []), ([], []), ([5003], []), ([], []), ([5003], [36, 5003]), ([36], [3, 36])] mixed (by kernel_rfl) ?_
      refine .consA (.move .none (.s rfl)) rfl ?_
      refine .consA (.move .none (.s rfl)) rfl ?_
      refine .consA (.lenO (k := 5003) sl66 (.told (.s rfl) rfl)) rfl ?_
      refine .consA (.subW .none (.s rfl) (.int (by decide))) rfl ?_
      obtain ⟨hn13, h⟩ := need_some h
      refine .consW (.sliceRow (k := 5003) sl66 ty23 rfl (.s rfl) rfl rfl (.s rfl) hn13) rfl rfl ?_
      refine .consWD (.passRow rfl (.tmp rfl)) rfl rfl ?_
      refine .nil ?_
      refine .blkNormal ?_
      exact Ends.againL (some_eq h) (.k 5 rfl (.k 6 rfl (.k 7 rfl (.k 8 rfl .nil)))) (.k 3 rfl .nil)
     ·
      replace h := bif_f h hb12
      refine .exit ?_
      refine .thenExit ?_
      refine .thenExit ?_
      refine .blkExit ?_
      refine .anon (t := 3) (g := 5003) rfl rfl trivial rfl ?_
      replace h := hD8 _ (some_eq h)
      exact Ends.join _ (some_eq h) (.k 5 rfl (.k 6 rfl (.k 7 rfl (.k 8 rfl .nil)))) (.k 3 rfl .nil)
    ·
     subst hj7; have h := hK7; clear hK7
     refine .nameRow (t := 3) (g := 5004) rfl rfl rfl (fun s5004 => ?_)
     refine .region [([], []), ([], []), ([], []), ([5004], [40, 5004]), ([40], [3, 40])] mixed (by kernel_rfl) ?_
     refine .consA (.move .none (.s rfl)) rfl ?_
     refine .consA (.load .none ty23 (.s rfl)) rfl ?_
     refine .consA (.buildSlice (xs := [_]) .none sl66 ty23 hz23 (.cons (.s rfl) .nil) rfl (by decide)) rfl ?_
     obtain ⟨hn14, h⟩ := need_some h
     refine .consW (.append (k := 5004) rk66 rfl (.told (.s rfl) rfl) (.s rfl) hn14) rfl rfl ?_
     refine .consWD (.passRow rfl (.tmp rfl)) rfl rfl ?_
     refine .nil ?_
     refine .blkNormal ?_
     exact Ends.join _ (some_eq h) (.k 6 rfl (.k 7 rfl (.k 8 rfl .nil))) (.k 3 rfl .nil)
   ·
    subst hj4; have h := hK4; clear hK4
    refine .nameRow (t := 3) (g := 5005) rfl rfl rfl (fun s5005 => ?_)
    refine .region [] mixed (by kernel_rfl) ?_
    refine .cons (.addW .none (.s rfl) (.int (by decide))) rfl ?_
    refine .cons (.move .none (.s rfl)) rfl ?_
    refine .nil ?_
    refine .anon (t := 3) (g := 5005) rfl rfl trivial rfl ?_
    exact Ends.againL (some_eq h) (.k 8 rfl (.k 6 rfl (.k 7 rfl .nil))) (.k 3 rfl .nil)
  ·
   replace h := bif_f h hb3
   refine .exit ?_
   refine .thenExit ?_
   refine .thenExit ?_
   refine .blkExit ?_
   refine .anon (t := 3) (g := 5002) rfl rfl trivial rfl ?_
   replace h := hD2 _ (some_eq h)
   exact Ends.join _ (some_eq h) Sub.nil (.k 3 rfl .nil)
 ·
  subst hj1; have h := hK1; clear hK1
  refine .nameRow (t := 3) (g := 5006) rfl rfl rfl (fun s5006 => ?_)
  refine .seq (.region [([], []), ([], []), ([5006], []), ([], []), ([5006], [46, 5006]), ([46], [2, 46])] mixed (by kernel_rfl) ?_)
  refine .consA (.move .none (.s rfl)) rfl ?_
  refine .consA (.move .none (.s rfl)) rfl ?_
  refine .consA (.lenO (k := 5006) sl66 (.told (.s rfl) rfl)) rfl ?_
  refine .consA (.subW .none (.s rfl) (.int (by decide))) rfl ?_
  obtain ⟨hn15, h⟩ := need_some h
  refine .consW (.sliceRow (k := 5006) sl66 ty23 rfl (.s rfl) rfl rfl (.s rfl) hn15) rfl rfl ?_
  refine .consW (.passRow rfl (.tmp rfl)) rfl rfl ?_
  refine .nil (.then ?_)
  obtain ⟨v2, hv16, h⟩ := bnd_some h
  refine .reB (t := 2) rfl (congrArg (rowV 23) hv16) ?_
  refine .nameRow (t := 2) (g := 5007) rfl rfl rfl (fun s5007 => ?_)
  refine .ret ?_
  refine .anon (t := 2) (g := 5007) rfl rfl trivial rfl ?_
  obtain rfl := some_eq h
  exact Ends.ret1O (.inl rfl) [2] Try.results102 (by decide) (.res rfl rfl) (ResOK.tmp rfl trivial (fun _ _ _ _ => trivial))

theorem slices_Reverse_Point_ok {s1 : (List Point)} {r : (List Point)} {s28 : Value} (h : slices_Reverse_Point s1 = some r) : FSpecO Try.prog 103 [isV s28] [(s28, rowV 23 s1)] (anyV) [some (rowV 23 r)] := by
 unfold slices_Reverse_Point at h
 refine FSpecO.intro (n := 28) fnok103 Try.func103 rfl Try.ntmps103 rfl (fun F => ?_)
 refine .seq (.region [([], []), ([28], []), ([], []), ([], []), ([], [])] mixed (by kernel_rfl) ?_)
 refine .consA (.move .none (.s rfl)) rfl ?_
 refine .consA (.lenO (k := 28) sl66 (.told (.s rfl) rfl)) rfl ?_
 refine .consA (.subW .none (.s rfl) (.int (by decide))) rfl ?_
 refine .consA (.assign .none (.int (by decide))) rfl ?_
 obtain ⟨j1, hv1, h⟩ := bnd_some h
 refine .consA (.re hv1 (.assign .none (.s rfl))) rfl ?_
 refine .nil (.then ?_)
 refine .block ?_
 refine .loopL h (fun s2_ => [(2, ⟨True, rep s2_.1⟩), (3, ⟨True, rep s2_.2.1⟩)]) (fun s2_ => [(28, some (CPred.at s28 (rowV 23 s2_.2.2)))]) (.k 2 rfl (.k 3 rfl .nil)) (.k 28 rfl .nil) (.k 0 rfl .nil) SubB.nil (fun s2_ o_2 h hD2 => ?_)
 unfold slices_Reverse_Point_L1 at h
 refine .seq ?_
 refine .seq (.region [] mixed (by kernel_rfl) ?_)
 refine .cons (.move .none (.s rfl)) rfl ?_
 refine .cons (.move .none (.s rfl)) rfl ?_
 refine .cons (.lt .none (.s rfl) (.s rfl)) rfl ?_
 refine .nil (.then ?_)
 refine .cond (t := 9) rfl trivial (fun hb3 => ?_) (fun hb3 => ?_)
 ·
  replace h := bif_t h hb3
  refine .skip ?_
  refine .then ?_
  refine .seq ?_
  refine .block ?_
  refine .region [([], []), ([], []), ([], []), ([], []), ([], []), ([], []), ([28], []), ([28], []), ([], []), ([], []), ([28], []), ([28], []), ([28], []), ([28], [28]), ([28], []), ([28], [28])] mixed (by kernel_rfl) ?_
  refine .consA (.move .none (.s rfl)) rfl ?_
  refine .consA (.move .none (.s rfl)) rfl ?_
  refine .consA (.move .none (.s rfl)) rfl ?_
  refine .consA (.move .none (.s rfl)) rfl ?_
  refine .consA (.move .none (.s rfl)) rfl ?_
  refine .consA (.move .none (.s rfl)) rfl ?_
  obtain ⟨hn4, h⟩ := need_some h
  refine .consA (.indexAddrO (k := 28) .none sl66 ty23 (.s rfl) rfl (.s rfl) (fun _ => hn4)) rfl ?_
  obtain ⟨v1, hv5, h⟩ := bnd_some h
  refine .consA (.re hv5 (.loadElem0 (k := 28) .none ty23 (.s rfl) rfl (fun _ => hn4))) rfl ?_
  refine .consA (.move .none (.s rfl)) rfl ?_
  refine .consA (.move .none (.s rfl)) rfl ?_
  obtain ⟨hn6, h⟩ := need_some h
  refine .consA (.indexAddrO (k := 28) .none sl66 ty23 (.s rfl) rfl (.s rfl) (fun _ => hn6)) rfl ?_
  obtain ⟨v2, hv7, h⟩ := bnd_some h
  refine .consA (.re hv7 (.loadElem0 (k := 28) .none ty23 (.s rfl) rfl (fun _ => hn6))) rfl ?_
  obtain ⟨hn8, h⟩ := need_some h
  refine .consA (.indexAddrO (k := 28) .none sl66 ty23 (.s rfl) rfl (.s rfl) (fun _ => hn8)) rfl ?_
  refine .consN (.storeElem0 (k := 28) ty23 (.s rfl) rfl (.s rfl) hn8) rfl ?_
  obtain ⟨hn9, h⟩ := need_some h
  refine .consA (.indexAddrO (k := 28) .none sl66 ty23 (.s rfl) rfl (.s rfl) (fun _ => hn9)) rfl ?_
  refine .consN (.storeElem0 (k := 28) ty23 (.s rfl) rfl (.s rfl) hn9) rfl ?_
  refine .nil ?_
  refine .blkNormal ?_
  refine .then ?_
  obtain ⟨s2, hv10, h⟩ := bnd_some h
  refine .reB (t := 28) rfl (congrArg (fun y => CPred.at s28 (rowV 23 y)) hv10) ?_
  refine .region [] mixed (by kernel_rfl) ?_
  refine .cons (.move .none (.s rfl)) rfl ?_
  refine .cons (.addW .none (.s rfl) (.int (by decide))) rfl ?_
  refine .cons (.move .none (.s rfl)) rfl ?_
  refine .cons (.subW .none (.s rfl) (.int (by decide))) rfl ?_
  obtain ⟨i1, hv11, h⟩ := bnd_some h
  refine .cons (.re hv11 (.assign .none (.s rfl))) rfl ?_
  obtain ⟨j2, hv12, h⟩ := bnd_some h
  refine .cons (.re hv12 (.assign .none (.s rfl))) rfl ?_
  refine .nil ?_
  exact Ends.againL (some_eq h) (.k 2 rfl (.k 3 rfl (.k 0 rfl .nil))) (.k 28 rfl .nil)
 ·
  replace h := bif_f h hb3
  refine .exit ?_
  refine .thenExit ?_
  refine .thenExit ?_
  refine .blkExit ?_
  replace h := hD2 _ (some_eq h)
  obtain rfl := some_eq h
  exact Ends.ret0O (.inr rfl) [28] Try.results103 (by decide) (.held rfl .nil) 

theorem geom_Convex_ok {l1 : (List Point)} {r : ((List Point) × Int)}  (h : geom_Convex l1 = some r) : FSpec Try.prog 68 [rep l1] (tup [rep r.1, rep r.2]) := by
 unfold geom_Convex at h
 refine FSpec.intro (n := 35) fnok68 Try.func68 rfl Try.ntmps68 rfl (fun F => ?_)
 refine .seq (.region [] mixed (by kernel_rfl) ?_)
 refine .cons (.assign .none (.const (x := ([] : (List Point))) (fun M w => ⟨_, ⟨none, 0, rfl, Nat.le_refl _, by decide, rfl⟩, rfl⟩))) rfl ?_
 refine .cons (.assign .none (.int (by decide))) rfl ?_
 refine .nil (.then ?_)
 refine .seq ?_
 refine .seq (.region [] mixed (by kernel_rfl) ?_)
 refine .cons (.move .none (.s rfl)) rfl ?_
 obtain ⟨e1, hv1, h⟩ := bind_some h
 refine .cons (.call .none (geom_CheckPoints_ok hv1) (.cons (.s rfl) .nil)) rfl ?_
 refine .cons (.assign .none (.s rfl)) rfl ?_
 refine .nil (.then ?_)
 refine .seq (.region [] mixed (by kernel_rfl) ?_)
 refine .cons (.move .none (.s rfl)) rfl ?_
 refine .cons (.neI .none (.s rfl) (.int (by decide))) rfl ?_
 refine .nil (.then ?_)
 refine .cond (t := 10) rfl trivial (fun hb2 => ?_) (fun hb2 => ?_)
 ·
  replace h := bif_t h hb2
  refine .seq (.region [] mixed (by kernel_rfl) ?_)
  refine .cons (.move .none (.s rfl)) rfl ?_
  refine .cons (.assign .none (.const (x := ([] : (List Point))) (fun M w => ⟨_, ⟨none, 0, rfl, Nat.le_refl _, by decide, rfl⟩, rfl⟩))) rfl ?_
  refine .cons (.assign .none (.s rfl)) rfl ?_
  refine .nil (.then ?_)
  refine .ret ?_
  refine .thenRet ?_
  obtain rfl := some_eq h
  exact Ends.ret2 (.inl rfl) Try.results68 (ResOK.tmp rfl trivial Imp.refl) (ResOK.tmp rfl trivial Imp.refl)
 ·
  replace h := bif_f h hb2
  refine .skip ?_
  refine .then ?_
  refine .seq ?_
  refine .seq (.region [] mixed (by kernel_rfl) ?_)
  refine .cons (.move .none (.s rfl)) rfl ?_
  refine .cons (.len .none sl66 (.s rfl)) rfl ?_
  refine .cons (.eqI .none (.s rfl) (.int (by decide))) rfl ?_
  refine .nil (.then ?_)
  refine .cond (t := 14) rfl trivial (fun hb3 => ?_) (fun hb3 => ?_)
  ·
   replace h := bif_t h hb3
   refine .seq (.region [] mixed (by kernel_rfl) ?_)
   refine .cons (.assign .none (.const (x := ([] : (List Point))) (fun M w => ⟨_, ⟨none, 0, rfl, Nat.le_refl _, by decide, rfl⟩, rfl⟩))) rfl ?_
   refine .cons (.assign .none (.int (by decide))) rfl ?_
   refine .nil (.then ?_)
   refine .ret ?_
   refine .thenRet ?_
   obtain rfl := some_eq h
   exact Ends.ret2 (.inl rfl) Try.results68 (ResOK.tmp rfl trivial Imp.refl) (ResOK.tmp rfl trivial Imp.refl)
  ·
   replace h := bif_f h hb3
   refine .skip ?_
   refine .then ?_
   refine .seq (.region [([], []), ([], [16]), ([16], [0, 16])] mixed (by kernel_rfl) ?_)
   refine .consA (.move .none (.s rfl)) rfl ?_
   obtain ⟨l2, hv4, h⟩ := bind_some h
   refine .consW (.callO [] (slices_Clone_Point_ok hv4) (.cons (.s rfl) .nil) .nil rfl (by decide) (by decide) (by intro d h; cases h; decide)) rfl rfl ?_
   refine .consW (.passRow rfl (.tmp rfl)) rfl rfl ?_
   refine .nil (.then ?_)
   refine .nameRow (t := 0) (g := 5001) rfl rfl rfl (fun s5001 => ?_)
   refine .seq (.region [([], []), ([5001], [5001])] mixed (by kernel_rfl) ?_)
   refine .consA (.move .none (.s rfl)) rfl ?_
   obtain ⟨r1, hv5, h⟩ := bind_some h
   refine .consW (.callO [5001] (slices_SortFunc_Point_ok hv5) (.cons (.s rfl) (.cons .funcC .nil)) (.cons (k := 5001) rfl .nil) rfl (by decide) (by decide) (by intro d h; cases h; decide)) rfl rfl ?_
   refine .nil (.then ?_)
   refine .seq (.region [([], []), ([5001], [5001, 20]), ([20], [0, 20])] mixed (by kernel_rfl) ?_)
   refine .consA (.move .none (.s rfl)) rfl ?_
   obtain ⟨l3, hv6, h⟩ := bind_some h
   refine .consW (.callO [5001] (slices_Compact_Point_ok hv6) (.cons (.s rfl) .nil) (.cons (k := 5001) rfl .nil) rfl (by decide) (by decide) (by intro d h; cases h; decide)) rfl rfl ?_
   refine .consWD (.passRow rfl (.tmp rfl)) rfl rfl ?_
   refine .nil (.then ?_)
   refine .nameRow (t := 0) (g := 5002) rfl rfl rfl (fun s5002 => ?_)
   refine .seq ?_
   refine .seq (.region [([], []), ([5002], []), ([], [])] mixed (by kernel_rfl) ?_)
   refine .consA (.move .none (.s rfl)) rfl ?_
   refine .consA (.lenO (k := 5002) sl66 (.told (.s rfl) rfl)) rfl ?_
   refine .consA (.eqI .none (.s rfl) (.int (by decide))) rfl ?_
   refine .nil (.then ?_)
   refine .cond (t := 23) rfl trivial (fun hb7 => ?_) (fun hb7 => ?_)
   ·
    replace h := bif_t h hb7
    refine .seq (.region [] mixed (by kernel_rfl) ?_)
    refine .cons (.move .none (.s rfl)) rfl ?_
    refine .cons (.assign .none (.s rfl)) rfl ?_
    refine .cons (.assign .none (.int (by decide))) rfl ?_
    refine .nil (.then ?_)
    refine .freezeRow (g := 5002) (ts := [2]) rfl (.cons (t := 2) rfl trivial .nil) SubB.nil rfl ?_
    refine .ret ?_
    refine .thenRet ?_
    obtain rfl := some_eq h
    exact Ends.ret2 (.inl rfl) Try.results68 (ResOK.tmp rfl trivial Imp.refl) (ResOK.tmp rfl trivial Imp.refl)
   ·
    replace h := bif_f h hb7
    refine .skip ?_
    refine .then ?_
    refine .seq (.region [] mixed (by kernel_rfl) ?_)
    refine .cons (.assign .none .funcC) rfl ?_
    refine .nil (.then ?_)
    refine .seq (.region [([], []), ([], []), ([5002], [27]), ([27], [6, 27])] mixed (by kernel_rfl) ?_)
    refine .consA (.move .none (.s rfl)) rfl ?_
    refine .consA (.move .none (.s rfl)) rfl ?_
    obtain ⟨there1, hv8, h⟩ := bind_some h
    refine .consW (.callOLC (kl := [5002]) [] (.s rfl) (geom_Convex_2_ok hv8) .any (FlatO.some .row FlatO.nil) (.lend (k := 5002) (.told (.s rfl) rfl) .nil) .nil rfl (by decide) (by decide) (by intro d h; cases h; decide) (by decide) (by intro k hk; simp only [List.mem_cons, List.mem_nil_iff, or_false] at hk; rcases hk with rfl <;> rfl)) rfl rfl ?_
    refine .consW (.passRow rfl (.tmp rfl)) rfl rfl ?_
    refine .nil (.then ?_)
    refine .nameRow (t := 6) (g := 5003) rfl rfl rfl (fun s5003 => ?_)
    refine .seq (.region [([], []), ([5002], [5002])] mixed (by kernel_rfl) ?_)
    refine .consA (.move .none (.s rfl)) rfl ?_
    obtain ⟨r2, hv9, h⟩ := bind_some h
    refine .consW (.callO [5002] (slices_Reverse_Point_ok hv9) (.cons (.s rfl) .nil) (.cons (k := 5002) rfl .nil) rfl (by decide) (by decide) (by intro d h; cases h; decide)) rfl rfl ?_
    refine .nil (.then ?_)
    refine .freezeRow (g := 5002) (ts := [0]) rfl (.cons (t := 0) rfl trivial .nil) (.k 5003 rfl .nil) rfl ?_
    refine .seq (.region [([], []), ([], []), ([], []), ([], []), ([5003], [34, 5003]), ([34], [2, 34]), ([], [])] mixed (by kernel_rfl) ?_)
    refine .consA (.move .none (.s rfl)) rfl ?_
    refine .consA (.move .none (.s rfl)) rfl ?_
    refine .consA (.move .none (.s rfl)) rfl ?_
    obtain ⟨r3, hv10, h⟩ := bind_some h
    refine .consA (.callCLZ (.s rfl) fnok102 .nil (geom_Convex_2_ok ((fun _ => hv10) trivial)) FlatC.row frzRow (.cons (.s rfl) .nil)) rfl ?_
    obtain ⟨hn11, h⟩ := need_some h
    refine .consW (.append (k := 5003) rk66 rfl (.told (.s rfl) rfl) (.s rfl) hn11) rfl rfl ?_
    refine .consW (.passRow rfl (.tmp rfl)) rfl rfl ?_
    refine .consA (.assign .none (.int (by decide))) rfl ?_
    refine .nil (.then ?_)
    refine .freezeRowA (t := 2) rfl rfl SubB.nil rfl ?_
    refine .ret ?_
    obtain rfl := some_eq h
    exact Ends.ret2 (.inl rfl) Try.results68 (ResOK.tmp rfl trivial Imp.refl) (ResOK.tmp rfl trivial Imp.refl)

theorem ref_ConvexOf_1_ok {a1 : Point} {b1 : Point} {r : Int}  (h : ref_ConvexOf_1 a1 b1 = some r) : FSpec Try.prog 104 [rep a1, rep b1] (rep r) := by
 unfold ref_ConvexOf_1 at h
 refine FSpec.intro (n := 20) fnok104 Try.func104 rfl Try.ntmps104 rfl (fun F => ?_)
 refine .seq (.region [] mixed (by kernel_rfl) ?_)
 refine .cons (.box .none (.s rfl)) rfl ?_
 refine .cons (.box .none (.s rfl)) rfl ?_
 refine .cons (.assign .none (.int (by decide))) rfl ?_
 refine .nil (.then ?_)
 refine .seq ?_
 refine .seq (.region [] mixed (by kernel_rfl) ?_)
 refine .cons (.fieldAddr .none fd23_0 hfd23_0 (.s rfl)) rfl ?_
 refine .cons (.load .none ty3 (.s rfl)) rfl ?_
 refine .cons (.fieldAddr .none fd23_0 hfd23_0 (.s rfl)) rfl ?_
 refine .cons (.load .none ty3 (.s rfl)) rfl ?_
 refine .cons (.neI .none (.s rfl) (.s rfl)) rfl ?_
 refine .nil (.then ?_)
 refine .cond (t := 9) rfl trivial (fun hb1 => ?_) (fun hb1 => ?_)
 ·
  replace h := bif_t h hb1
  refine .seq (.region [] mixed (by kernel_rfl) ?_)
  refine .cons (.fieldAddr .none fd23_0 hfd23_0 (.s rfl)) rfl ?_
  refine .cons (.load .none ty3 (.s rfl)) rfl ?_
  refine .cons (.fieldAddr .none fd23_0 hfd23_0 (.s rfl)) rfl ?_
  refine .cons (.load .none ty3 (.s rfl)) rfl ?_
  refine .cons (.subW .none (.s rfl) (.s rfl)) rfl ?_
  refine .cons (.assign .none (.s rfl)) rfl ?_
  refine .nil (.then ?_)
  refine .ret ?_
  refine .thenRet ?_
  obtain rfl := some_eq h
  exact Ends.ret1 (.inl rfl) Try.results104 (ResOK.tmp rfl trivial Imp.refl)
 ·
  replace h := bif_f h hb1
  refine .skip ?_
  refine .then ?_
  refine .seq (.region [] mixed (by kernel_rfl) ?_)
  refine .cons (.fieldAddr .none fd23_1 hfd23_1 (.s rfl)) rfl ?_
  refine .cons (.load .none ty3 (.s rfl)) rfl ?_
  refine .cons (.fieldAddr .none fd23_1 hfd23_1 (.s rfl)) rfl ?_
  refine .cons (.load .none ty3 (.s rfl)) rfl ?_
  refine .cons (.subW .none (.s rfl) (.s rfl)) rfl ?_
  refine .cons (.assign .none (.s rfl)) rfl ?_
  refine .nil (.then ?_)
  refine .ret ?_
  obtain rfl := some_eq h
  exact Ends.ret1 (.inl rfl) Try.results104 (ResOK.tmp rfl trivial Imp.refl)

theorem slices_MinFunc_Point_ok {x1 : (List Point)} {cmp1 : (Point → Point → Option Int)} {r : Point}  (h : slices_MinFunc_Point x1 cmp1 = some r) : FSpec Try.prog 105 [rep x1, fn2 Try.prog (rep (α := Int)) cmp1] (rep r) := by
 unfold slices_MinFunc_Point at h
 refine FSpec.intro (n := 33) fnok105 Try.func105 rfl Try.ntmps105 rfl (fun F => ?_)
 refine .seq (.region [([], [4])] mixed (by kernel_rfl) ?_)
 refine .consW (.alloc zo23 rfl) rfl rfl ?_
 refine .nil (.then ?_)
 obtain ⟨v1, hv1, h⟩ := bnd_some h
 refine .reB (t := 4) rfl (congrArg (cont 23) hv1) ?_
 refine .nameBox (t := 4) (g := 5001) rfl rfl (fun m5001 => ?_)
 refine .seq ?_
 refine .seq (.region [] mixed (by kernel_rfl) ?_)
 refine .cons (.move .none (.s rfl)) rfl ?_
 refine .cons (.len .none sl66 (.s rfl)) rfl ?_
 refine .cons (.lt .none (.s rfl) (.int (by decide))) rfl ?_
 refine .nil (.then ?_)
 refine .cond (t := 9) rfl trivial (fun hb2 => ?_) (fun hb2 => ?_)
 ·
  replace h := bif_t h hb2
  cases h
 ·
  replace h := bif_f h hb2
  refine .skip ?_
  refine .then ?_
  refine .seq (.region [([], []), ([], []), ([], []), ([], [5]), ([5], [5])] mixed (by kernel_rfl) ?_)
  refine .consA (.move .none (.s rfl)) rfl ?_
  obtain ⟨hn3, h⟩ := need_some h
  refine .consA (.indexAddr .none sl66 ty23 (.s rfl) (.int (by decide)) (fun _ => hn3)) rfl ?_
  obtain ⟨v2, hv4, h⟩ := bnd_some h
  refine .consA (.re hv4 (.load .none ty23 (.s rfl))) rfl ?_
  refine .consW (.alloc zo23 rfl) rfl rfl ?_
  refine .consN (.store ty23 rfl rfl (.s rfl)) rfl ?_
  refine .nil (.then ?_)
  refine .nameBox (t := 5) (g := 5002) rfl rfl (fun m5002 => ?_)
  refine .seq ?_
  refine .seq (.region [] mixed (by kernel_rfl) ?_)
  refine .cons (.assign .none (.int (by decide))) rfl ?_
  refine .nil (.then ?_)
  obtain ⟨j_5, h, hK5⟩ := bind_some h
  refine .thenJ (ι := Point) (fun j_5 => []) (fun j_5 => [(5002, some (boxAt m5002 23 j_5))]) (fun s => j_5 = s) (.k 4 rfl (.k 5 rfl .nil)) (.k 5001 rfl .nil) ?_ (fun j_5' hj5 => ?_)
  ·
   skip
   refine .block ?_
   refine .loopL h (fun s6_ => [(6, ⟨True, rep s6_.1⟩)]) (fun s6_ => [(5002, some (boxAt m5002 23 s6_.2))]) (.k 6 rfl .nil) (.k 5002 rfl .nil) (.k 0 rfl (.k 1 rfl (.k 4 rfl (.k 5 rfl .nil)))) (.k 5001 rfl .nil) (fun s6_ o_6 h hD6 => ?_)
   unfold slices_MinFunc_Point_L1 at h
   refine .seq ?_
   refine .seq (.region [] mixed (by kernel_rfl) ?_)
   refine .cons (.move .none (.s rfl)) rfl ?_
   refine .cons (.move .none (.s rfl)) rfl ?_
   refine .cons (.len .none sl66 (.s rfl)) rfl ?_
   refine .cons (.lt .none (.s rfl) (.s rfl)) rfl ?_
   refine .nil (.then ?_)
   refine .cond (t := 17) rfl trivial (fun hb7 => ?_) (fun hb7 => ?_)
   ·
    replace h := bif_t h hb7
    refine .skip ?_
    refine .then ?_
    refine .seq ?_
    obtain ⟨j_8, h, hK8⟩ := bind_some h
    refine .thenJ (ι := Point) (fun j_8 => []) (fun j_8 => [(5002, some (boxAt m5002 23 j_8))]) (fun s => j_8 = s) (.k 0 rfl (.k 1 rfl (.k 4 rfl (.k 5 rfl (.k 6 rfl .nil))))) (.k 5001 rfl .nil) ?_ (fun j_8' hj8 => ?_)
    ·
     skip
     refine .block ?_
     refine .seq (.region [([], []), ([], []), ([], []), ([], []), ([], []), ([5002], []), ([], []), ([], [])] mixed (by kernel_rfl) ?_)
     refine .consA (.move .none (.s rfl)) rfl ?_
     refine .consA (.move .none (.s rfl)) rfl ?_
     refine .consA (.move .none (.s rfl)) rfl ?_
     obtain ⟨hn9, h⟩ := need_some h
     refine .consA (.indexAddr .none sl66 ty23 (.s rfl) (.s rfl) (fun _ => hn9)) rfl ?_
     refine .consA (.load .none ty23 (.s rfl)) rfl ?_
     refine .consA (.loadAt0 (k := 5002) .none ty23 rfl (.s rfl)) rfl ?_
     obtain ⟨r1, hv10, h⟩ := bind_some h
     refine .consA (.callV (gx x1 s6_.1, s6_.2, r1) .none (.s rfl) (fun _ => hv10) (.cons (.s rfl) (.cons (.s rfl) .nil))) rfl ?_
     refine .consA (.lt .none (.s rfl) (.int (by decide))) rfl ?_
     refine .nil (.then ?_)
     refine .cond (t := 27) rfl trivial (fun hb11 => ?_) (fun hb11 => ?_)
     ·
      replace h := bif_t h hb11
      refine .region [([], []), ([], []), ([], []), ([], []), ([5002], [5002])] mixed (by kernel_rfl) ?_
      refine .consA (.move .none (.s rfl)) rfl ?_
      refine .consA (.move .none (.s rfl)) rfl ?_
      obtain ⟨hn12, h⟩ := need_some h
      refine .consA (.indexAddr .none sl66 ty23 (.s rfl) (.s rfl) (fun _ => hn12)) rfl ?_
      obtain ⟨v3, hv13, h⟩ := bnd_some h
      refine .consA (.re hv13 (.load .none ty23 (.s rfl))) rfl ?_
      refine .consN (.storeAt0 (g := 5002) ty23 rfl (.s rfl) (.s rfl)) rfl ?_
      refine .nil ?_
      refine .blkNormal ?_
      exact Ends.join _ (some_eq h) (.k 0 rfl (.k 1 rfl (.k 4 rfl (.k 5 rfl (.k 6 rfl .nil))))) (.k 5002 rfl (.k 5001 rfl .nil))
     ·
      replace h := bif_f h hb11
      refine .skip ?_
      refine .blkNormal ?_
      exact Ends.join _ (some_eq h) (.k 0 rfl (.k 1 rfl (.k 4 rfl (.k 5 rfl (.k 6 rfl .nil))))) (.k 5002 rfl (.k 5001 rfl .nil))
    ·
     subst hj8; have h := hK8; clear hK8
     refine .region [] mixed (by kernel_rfl) ?_
     refine .cons (.move .none (.s rfl)) rfl ?_
     refine .cons (.addW .none (.s rfl) (.int (by decide))) rfl ?_
     obtain ⟨i1, hv14, h⟩ := bnd_some h
     refine .cons (.re hv14 (.assign .none (.s rfl))) rfl ?_
     refine .nil ?_
     exact Ends.againL (some_eq h) (.k 6 rfl (.k 0 rfl (.k 1 rfl (.k 4 rfl (.k 5 rfl .nil))))) (.k 5002 rfl (.k 5001 rfl .nil))
   ·
    replace h := bif_f h hb7
    refine .exit ?_
    refine .thenExit ?_
    refine .thenExit ?_
    refine .blkExit ?_
    replace h := hD6 _ (some_eq h)
    exact Ends.join _ (some_eq h) (.k 4 rfl (.k 5 rfl .nil)) (.k 5002 rfl (.k 5001 rfl .nil))
  ·
   subst hj5; have h := hK5; clear hK5
   refine .freezeBox (g := 5002) (ts := [5]) rfl (.cons (t := 5) rfl trivial .nil) (.k 5001 rfl .nil) rfl ?_
   refine .seq (.region [([], []), ([5001], [5001])] mixed (by kernel_rfl) ?_)
   refine .consA (.load .none ty23 (.s rfl)) rfl ?_
   refine .consN (.storeAt0 (g := 5001) ty23 rfl (.s rfl) (.s rfl)) rfl ?_
   refine .nil (.then ?_)
   refine .freezeBox (g := 5001) (ts := [4]) rfl (.cons (t := 4) rfl trivial .nil) SubB.nil rfl ?_
   refine .ret ?_
   obtain rfl := some_eq h
   exact Ends.ret1 (.inl rfl) Try.results105 (ResOK.cellR ty23 rfl trivial Imp.refl)

theorem ref_Sign_ok {n1 : Int} {r : Int}  (h : ref_Sign n1 = some r) : FSpec Try.prog 84 [rep n1] (rep r) := by
 unfold ref_Sign at h
 refine FSpec.intro (n := 6) fnok84 Try.func84 rfl Try.ntmps84 rfl (fun F => ?_)
 refine .seq (.region [] mixed (by kernel_rfl) ?_)
 refine .cons (.assign .none (.int (by decide))) rfl ?_
 refine .nil (.then ?_)
 refine .seq (.region [] mixed (by kernel_rfl) ?_)
 refine .cons (.move .none (.s rfl)) rfl ?_
 refine .cons (.max2 .none (.s rfl) (.int (by decide))) rfl ?_
 refine .cons (.min2 .none (.s rfl) (.int (by decide))) rfl ?_
 refine .cons (.assign .none (.s rfl)) rfl ?_
 refine .nil (.then ?_)
 refine .ret ?_
 obtain rfl := some_eq h
 exact Ends.ret1 (.inl rfl) Try.results84 (ResOK.tmp rfl trivial Imp.refl)

theorem ref_side_ok {a1 : Point} {b1 : Point} {p1 : Point} {r : Int}  (h : ref_side a1 b1 p1 = some r) : FSpec Try.prog 86 [rep a1, rep b1, rep p1] (rep r) := by
 unfold ref_side at h
 refine FSpec.intro (n := 31) fnok86 Try.func86 rfl Try.ntmps86 rfl (fun F => ?_)
 refine .seq (.region [] mixed (by kernel_rfl) ?_)
 refine .cons (.box .none (.s rfl)) rfl ?_
 refine .cons (.box .none (.s rfl)) rfl ?_
 refine .cons (.box .none (.s rfl)) rfl ?_
 refine .cons (.assign .none (.int (by decide))) rfl ?_
 refine .nil (.then ?_)
 refine .seq (.region [] mixed (by kernel_rfl) ?_)
 refine .cons (.fieldAddr .none fd23_0 hfd23_0 (.s rfl)) rfl ?_
 refine .cons (.load .none ty3 (.s rfl)) rfl ?_
 refine .cons (.fieldAddr .none fd23_0 hfd23_0 (.s rfl)) rfl ?_
 refine .cons (.load .none ty3 (.s rfl)) rfl ?_
 refine .cons (.subW .none (.s rfl) (.s rfl)) rfl ?_
 refine .cons (.fieldAddr .none fd23_1 hfd23_1 (.s rfl)) rfl ?_
 refine .cons (.load .none ty3 (.s rfl)) rfl ?_
 refine .cons (.fieldAddr .none fd23_1 hfd23_1 (.s rfl)) rfl ?_
 refine .cons (.load .none ty3 (.s rfl)) rfl ?_
 refine .cons (.subW .none (.s rfl) (.s rfl)) rfl ?_
 refine .cons (.mulW .none (.s rfl) (.s rfl)) rfl ?_
 refine .cons (.fieldAddr .none fd23_1 hfd23_1 (.s rfl)) rfl ?_
 refine .cons (.load .none ty3 (.s rfl)) rfl ?_
 refine .cons (.fieldAddr .none fd23_1 hfd23_1 (.s rfl)) rfl ?_
 refine .cons (.load .none ty3 (.s rfl)) rfl ?_
 refine .cons (.subW .none (.s rfl) (.s rfl)) rfl ?_
 refine .cons (.fieldAddr .none fd23_0 hfd23_0 (.s rfl)) rfl ?_
 refine .cons (.load .none ty3 (.s rfl)) rfl ?_
 refine .cons (.fieldAddr .none fd23_0 hfd23_0 (.s rfl)) rfl ?_
 refine .cons (.load .none ty3 (.s rfl)) rfl ?_
 refine .cons (.subW .none (.s rfl) (.s rfl)) rfl ?_
 refine .cons (.mulW .none (.s rfl) (.s rfl)) rfl ?_
 refine .cons (.subW .none (.s rfl) (.s rfl)) rfl ?_
 obtain ⟨r1, hv1, h⟩ := bind_some h
 refine .cons (.call .none (ref_Sign_ok hv1) (.cons (.s rfl) .nil)) rfl ?_
 refine .cons (.assign .none (.s rfl)) rfl ?_
 refine .nil (.then ?_)
 refine .ret ?_
 obtain rfl := some_eq h
 exact Ends.ret1 (.inl rfl) Try.results86 (ResOK.tmp rfl trivial Imp.refl)

theorem ref_Far_ok {a1 : Point} {b1 : Point} {r : Int}  (h : ref_Far a1 b1 = some r) : FSpec Try.prog 92 [rep a1, rep b1] (rep r) := by
 unfold ref_Far at h
 refine FSpec.intro (n := 18) fnok92 Try.func92 rfl Try.ntmps92 rfl (fun F => ?_)
 refine .seq (.region [] mixed (by kernel_rfl) ?_)
 refine .cons (.box .none (.s rfl)) rfl ?_
 refine .cons (.box .none (.s rfl)) rfl ?_
 refine .cons (.assign .none (.int (by decide))) rfl ?_
 refine .nil (.then ?_)
 refine .seq (.region [] mixed (by kernel_rfl) ?_)
 refine .cons (.fieldAddr .none fd23_0 hfd23_0 (.s rfl)) rfl ?_
 refine .cons (.load .none ty3 (.s rfl)) rfl ?_
 refine .cons (.fieldAddr .none fd23_0 hfd23_0 (.s rfl)) rfl ?_
 refine .cons (.load .none ty3 (.s rfl)) rfl ?_
 refine .cons (.subW .none (.s rfl) (.s rfl)) rfl ?_
 obtain ⟨r1, hv1, h⟩ := bind_some h
 refine .cons (.call .none (ref_Abs_ok hv1) (.cons (.s rfl) .nil)) rfl ?_
 refine .cons (.fieldAddr .none fd23_1 hfd23_1 (.s rfl)) rfl ?_
 refine .cons (.load .none ty3 (.s rfl)) rfl ?_
 refine .cons (.fieldAddr .none fd23_1 hfd23_1 (.s rfl)) rfl ?_
 refine .cons (.load .none ty3 (.s rfl)) rfl ?_
 refine .cons (.subW .none (.s rfl) (.s rfl)) rfl ?_
 obtain ⟨r2, hv2, h⟩ := bind_some h
 refine .cons (.call .none (ref_Abs_ok hv2) (.cons (.s rfl) .nil)) rfl ?_
 refine .cons (.addW .none (.s rfl) (.s rfl)) rfl ?_
 refine .cons (.assign .none (.s rfl)) rfl ?_
 refine .nil (.then ?_)
 refine .ret ?_
 obtain rfl := some_eq h
 exact Ends.ret1 (.inl rfl) Try.results92 (ResOK.tmp rfl trivial Imp.refl)

theorem ref_ConvexOf_ok {l1 : (List Point)} {r : (List Point)}  (h : ref_ConvexOf l1 = some r) : FSpec Try.prog 70 [rep l1] (rep r) := by
 unfold ref_ConvexOf at h
 refine FSpec.intro (n := 69) fnok70 Try.func70 rfl Try.ntmps70 rfl (fun F => ?_)
 refine .seq (.region [] mixed (by kernel_rfl) ?_)
 refine .cons (.assign .none (.const (x := ([] : (List Point))) (fun M w => ⟨_, ⟨none, 0, rfl, Nat.le_refl _, by decide, rfl⟩, rfl⟩))) rfl ?_
 refine .nil (.then ?_)
 refine .seq (.region [] mixed (by kernel_rfl) ?_)
 refine .cons (.assign .none (Opd.func (ι := Point × Point × Int) (pre := fun i => ref_ConvexOf_1 i.1 i.2.1 = some i.2.2) (Ss := fun i => [rep i.1, rep i.2.1]) (S := fun i => rep i.2.2) fnok104 (fun i h => ref_ConvexOf_1_ok h))) rfl ?_
 refine .nil (.then ?_)
 refine .seq (.region [([], []), ([], []), ([], []), ([], [4]), ([4], [4])] mixed (by kernel_rfl) ?_)
 refine .consA (.move .none (.s rfl)) rfl ?_
 refine .consA (.move .none (.s rfl)) rfl ?_
 obtain ⟨r1, hv1, h⟩ := bind_some h
 refine .consA (.call .none (slices_MinFunc_Point_ok hv1) (.cons (.s rfl) (.cons (.s rfl) .nil))) rfl ?_
 refine .consW (.alloc zo23 rfl) rfl rfl ?_
 refine .consN (.store ty23 rfl rfl (.s rfl)) rfl ?_
 refine .nil (.then ?_)
 refine .freeze (t := 4) rfl rfl SubB.nil rfl ?_
 refine .seq (.region [([], []), ([], [16]), ([16], [5, 16])] mixed (by kernel_rfl) ?_)
 refine .consA (.load .none ty23 (.s rfl)) rfl ?_
 refine .consW (.buildSliceO (xs := [_]) rfl sl66 ty23 hz23 (.cons (.s rfl) .nil) rfl (by decide)) rfl rfl ?_
 refine .consW (.passRow rfl (.tmp rfl)) rfl rfl ?_
 refine .nil (.then ?_)
 obtain ⟨out1, hv2, h⟩ := bnd_some h
 refine .reB (t := 5) rfl (congrArg (rowV 23) hv2) ?_
 refine .nameRow (t := 5) (g := 5001) rfl rfl rfl (fun s5001 => ?_)
 refine .block ?_
 refine .anon (t := 5) (g := 5001) rfl rfl trivial rfl ?_
 refine .loopL h (fun s3_ => []) (fun s3_ => [(5, some (rowV 23 s3_))]) Sub.nil (.k 5 rfl .nil) (.k 0 rfl (.k 4 rfl .nil)) SubB.nil (fun s3_ o_3 h hD3 => ?_)
 unfold ref_ConvexOf_L1 at h
 refine .nameRow (t := 5) (g := 5002) rfl rfl rfl (fun s5002 => ?_)
 refine .block ?_
 refine .seq (.region [([], []), ([], []), ([5002], []), ([], []), ([5002], []), ([5002], []), ([], [6]), ([6], [6])] mixed (by kernel_rfl) ?_)
 refine .consA (.move .none (.s rfl)) rfl ?_
 refine .consA (.move .none (.s rfl)) rfl ?_
 refine .consA (.lenO (k := 5002) sl66 (.told (.s rfl) rfl)) rfl ?_
 refine .consA (.subW .none (.s rfl) (.int (by decide))) rfl ?_
 obtain ⟨hn4, h⟩ := need_some h
 refine .consA (.indexAddrO (k := 5002) .none sl66 ty23 (.s rfl) rfl (.s rfl) (fun _ => hn4)) rfl ?_
 obtain ⟨v1, hv5, h⟩ := bnd_some h
 refine .consA (.re hv5 (.loadElem0 (k := 5002) .none ty23 (.s rfl) rfl (fun _ => hn4))) rfl ?_
 refine .consW (.alloc zo23 rfl) rfl rfl ?_
 refine .consN (.store ty23 rfl rfl (.s rfl)) rfl ?_
 refine .nil (.then ?_)
 refine .freeze (t := 6) rfl rfl (.k 5002 rfl .nil) rfl ?_
 refine .seq (.region [([], []), ([], [7]), ([7], [7]), ([], [])] mixed (by kernel_rfl) ?_)
 refine .consA (.load .none ty23 (.s rfl)) rfl ?_
 refine .consW (.alloc zo23 rfl) rfl rfl ?_
 refine .consN (.store ty23 rfl rfl (.s rfl)) rfl ?_
 refine .consA (.assign .none .bool) rfl ?_
 refine .nil (.then ?_)
 refine .nameBox (t := 7) (g := 5003) rfl rfl (fun m5003 => ?_)
 refine .seq ?_
 refine .seq (.region [] mixed (by kernel_rfl) ?_)
 refine .cons (.move .none (.s rfl)) rfl ?_
 refine .cons (.len .none sl66 (.s rfl)) rfl ?_
 refine .cons (.move .none (.int (by decide))) rfl ?_
 refine .nil (.then ?_)
 obtain ⟨j_6, h, hK6⟩ := bind_some h
 refine .thenJ (ι := (Bool × Point)) (fun j_6 => [(8, ⟨True, rep j_6.1⟩)]) (fun j_6 => [(5003, some (boxAt m5003 23 j_6.2))]) (fun s => j_6 = s) (.k 0 rfl (.k 4 rfl (.k 5 rfl (.k 7 rfl .nil)))) (.k 5002 rfl .nil) ?_ (fun j_6' hj6 => ?_)
 ·
  skip
  refine .block ?_
  refine .rforL h (fun p7_ => [(26, ⟨True, rep p7_.1⟩), (8, ⟨True, rep p7_.2.1⟩)]) (fun p7_ => [(5003, some (boxAt m5003 23 p7_.2.2))]) (.k 26 rfl (.k 8 rfl .nil)) (.k 5003 rfl .nil) (.k 0 rfl (.k 4 rfl (.k 5 rfl (.k 6 rfl (.k 7 rfl (.k 24 rfl (.k 25 rfl .nil))))))) (.k 5002 rfl .nil) (fun p7_ o_7 h hD7 => ?_)
  refine .seq (.region [] mixed (by kernel_rfl) ?_)
  refine .cons (.lt .none (.s rfl) (.s rfl)) rfl ?_
  refine .nil (.then ?_)
  refine .seq ?_
  refine .cond (t := 27) rfl trivial (fun hb8 => ?_) (fun hb8 => ?_)
  ·
   replace h := bif_t h hb8
   refine .skip ?_
   refine .then ?_
   refine .seq ?_
   obtain ⟨j_9, h, hK9⟩ := bind_some h
   unfold ref_ConvexOf_L2 at h
   refine .thenJ (ι := (Bool × Point)) (fun j_9 => [(8, ⟨True, rep j_9.1⟩)]) (fun j_9 => [(5003, some (boxAt m5003 23 j_9.2))]) (fun s => j_9 = s) (.k 0 rfl (.k 4 rfl (.k 5 rfl (.k 6 rfl (.k 7 rfl (.k 24 rfl (.k 25 rfl (.k 26 rfl .nil)))))))) (.k 5002 rfl .nil) ?_ (fun j_9' hj9 => ?_)
   ·
    skip
    refine .block ?_
    refine .seq (.region [([], []), ([], []), ([], [10]), ([10], [10])] mixed (by kernel_rfl) ?_)
    obtain ⟨hn10, h⟩ := need_some h
    refine .consA (.indexAddr .none sl66 ty23 (.s rfl) (.s rfl) (fun _ => hn10)) rfl ?_
    obtain ⟨v2, hv11, h⟩ := bnd_some h
    refine .consA (.re hv11 (.load .none ty23 (.s rfl))) rfl ?_
    refine .consW (.alloc zo23 rfl) rfl rfl ?_
    refine .consN (.store ty23 rfl rfl (.s rfl)) rfl ?_
    refine .nil (.then ?_)
    refine .freeze (t := 10) rfl rfl (.k 5002 rfl (.k 5003 rfl .nil)) rfl ?_
    refine .seq ?_
    refine .seq (.region [] mixed (by kernel_rfl) ?_)
    refine .cons (.load .none ty23 (.s rfl)) rfl ?_
    refine .cons (.load .none ty23 (.s rfl)) rfl ?_
    refine .cons (.eqS .none eq23 (.s rfl) (.s rfl)) rfl ?_
    refine .nil (.then ?_)
    refine .cond (t := 32) rfl trivial (fun hb12 => ?_) (fun hb12 => ?_)
    ·
     replace h := bif_t h hb12
     refine .exit ?_
     refine .thenExit ?_
     refine .blkExit ?_
     exact Ends.join _ (some_eq h) (.k 8 rfl (.k 0 rfl (.k 4 rfl (.k 5 rfl (.k 6 rfl (.k 7 rfl (.k 24 rfl (.k 25 rfl (.k 26 rfl .nil))))))))) (.k 5003 rfl (.k 5002 rfl .nil))
    ·
     replace h := bif_f h hb12
     refine .skip ?_
     refine .then ?_
     refine .seq ?_
     refine .seq (.region [] mixed (by kernel_rfl) ?_)
     refine .cons (.move .none (.s rfl)) rfl ?_
     refine .cons (.not .none (.s rfl)) rfl ?_
     refine .nil (.then ?_)
     refine .cond (t := 34) rfl trivial (fun hb13 => ?_) (fun hb13 => ?_)
     ·
      replace h := bif_t h hb13
      refine .seq (.region [([], []), ([5003], [5003]), ([], [])] mixed (by kernel_rfl) ?_)
      refine .consA (.load .none ty23 (.s rfl)) rfl ?_
      refine .consN (.storeAt0 (g := 5003) ty23 rfl (.s rfl) (.s rfl)) rfl ?_
      refine .consA (.assign .none .bool) rfl ?_
      refine .nil (.then ?_)
      refine .exit ?_
      refine .thenExit ?_
      refine .blkExit ?_
      exact Ends.join _ (some_eq h) (.k 8 rfl (.k 0 rfl (.k 4 rfl (.k 5 rfl (.k 6 rfl (.k 7 rfl (.k 24 rfl (.k 25 rfl (.k 26 rfl .nil))))))))) (.k 5003 rfl (.k 5002 rfl .nil))
     ·
      replace h := bif_f h hb13
      refine .skip ?_
      refine .then ?_
      refine .seq (.region [([], []), ([5003], []), ([], []), ([], []), ([], [])] mixed (by kernel_rfl) ?_)
      refine .consA (.load .none ty23 (.s rfl)) rfl ?_
      refine .consA (.loadAt0 (k := 5003) .none ty23 rfl (.s rfl)) rfl ?_
      refine .consA (.load .none ty23 (.s rfl)) rfl ?_
      obtain ⟨s1, hv14, h⟩ := bind_some h
      refine .consA (.call .none (ref_side_ok hv14) (.cons (.s rfl) (.cons (.s rfl) (.cons (.s rfl) .nil)))) rfl ?_
      refine .consA (.assign .none (.s rfl)) rfl ?_
      refine .nil (.then ?_)
      refine .seq (.region [([], []), ([], []), ([], []), ([], []), ([], []), ([], []), ([], []), ([], []), ([], []), ([], []), ([5003], []), ([], []), ([], []), ([], []), ([], [])] mixed (by kernel_rfl) ?_)
      refine .consA (.move .none (.s rfl)) rfl ?_
      refine .consA (.lt .none (.s rfl) (.int (by decide))) rfl ?_
      refine .consA (.move .none (.s rfl)) rfl ?_
      refine .consA (.move (.at rfl rfl) (.s rfl)) rfl ?_
      refine .consA (.eqI (.at rfl rfl) (.tmp rfl id) (.int (by decide))) rfl ?_
      refine .consA (.move (.at rfl rfl) (.tmp rfl id)) rfl ?_
      refine .consA (.load (.at rfl rfl) ty23 (.s rfl)) rfl ?_
      refine .consA (.load (.at rfl rfl) ty23 (.s rfl)) rfl ?_
      obtain ⟨r2, hv15, h⟩ := bind_some h
      refine .consA (.callIf (.at rfl rfl) fnok92 (fun hg => ref_Far_ok ((fun hg => gd_some hv15 ((andT (notT hg.1.2) hg.2))) hg)) (.cons (.tmp rfl id) (.cons (.tmp rfl id) .nil)) (fun h => h)) rfl ?_
      refine .consA (.load (.at rfl rfl) ty23 (.s rfl)) rfl ?_
      refine .consA (.loadAt0 (k := 5003) (.at rfl rfl) ty23 rfl (.s rfl)) rfl ?_
      obtain ⟨r3, hv16, h⟩ := bind_some h
      refine .consA (.callIf (.at rfl rfl) fnok92 (fun hg => ref_Far_ok ((fun hg => gd_some hv16 ((andT (notT hg.1.2) hg.2))) hg)) (.cons (.tmp rfl id) (.cons (.tmp rfl id) .nil)) (fun h => h)) rfl ?_
      refine .consA (.gt (.at rfl rfl) (.tmp rfl id) (.tmp rfl id)) rfl ?_
      refine .consA (.pickAnd (.at rfl rfl) (.tmp rfl id) (.tmp rfl id)) rfl ?_
      refine .consA (.pickOr .none (.s rfl) (.tmp rfl id)) rfl ?_
      refine .nil (.then ?_)
      refine .cond (t := 54) rfl trivial (fun hb17 => ?_) (fun hb17 => ?_)
      ·
       replace h := bif_t h hb17
       refine .region [([], []), ([5003], [5003])] mixed (by kernel_rfl) ?_
       refine .consA (.load .none ty23 (.s rfl)) rfl ?_
       refine .consN (.storeAt0 (g := 5003) ty23 rfl (.s rfl) (.s rfl)) rfl ?_
       refine .nil ?_
       refine .blkNormal ?_
       exact Ends.join _ (some_eq h) (.k 8 rfl (.k 0 rfl (.k 4 rfl (.k 5 rfl (.k 6 rfl (.k 7 rfl (.k 24 rfl (.k 25 rfl (.k 26 rfl .nil))))))))) (.k 5003 rfl (.k 5002 rfl .nil))
      ·
       replace h := bif_f h hb17
       refine .skip ?_
       refine .blkNormal ?_
       exact Ends.join _ (some_eq h) (.k 8 rfl (.k 0 rfl (.k 4 rfl (.k 5 rfl (.k 6 rfl (.k 7 rfl (.k 24 rfl (.k 25 rfl (.k 26 rfl .nil))))))))) (.k 5003 rfl (.k 5002 rfl .nil))
   ·
    subst hj9; have h := hK9; clear hK9
    refine .region [] mixed (by kernel_rfl) ?_
    refine .cons (.addW .none (.s rfl) (.int (by decide))) rfl ?_
    refine .cons (.move .none (.s rfl)) rfl ?_
    refine .nil ?_
    exact Ends.againL (some_eq h) (.k 26 rfl (.k 8 rfl (.k 0 rfl (.k 4 rfl (.k 5 rfl (.k 6 rfl (.k 7 rfl (.k 24 rfl (.k 25 rfl .nil))))))))) (.k 5003 rfl (.k 5002 rfl .nil))
  ·
   replace h := bif_f h hb8
   refine .exit ?_
   refine .thenExit ?_
   refine .thenExit ?_
   refine .blkExit ?_
   replace h := hD7 _ (some_eq h)
   exact Ends.join _ (some_eq h) (.k 8 rfl (.k 0 rfl (.k 4 rfl (.k 5 rfl (.k 7 rfl .nil))))) (.k 5003 rfl (.k 5002 rfl .nil))
 ·
  subst hj6; have h := hK6; clear hK6
  refine .freezeBox (g := 5003) (ts := [7]) rfl (.cons (t := 7) rfl trivial .nil) (.k 5002 rfl .nil) rfl ?_
  refine .seq ?_
  refine .seq (.region [] mixed (by kernel_rfl) ?_)
  refine .cons (.move .none (.s rfl)) rfl ?_
  refine .cons (.not .none (.s rfl)) rfl ?_
  refine .cons (.move .none (.s rfl)) rfl ?_
  refine .cons (.load (.at rfl rfl) ty23 (.s rfl)) rfl ?_
  refine .cons (.load (.at rfl rfl) ty23 (.s rfl)) rfl ?_
  refine .cons (.eqS (.at rfl rfl) eq23 (.tmp rfl id) (.tmp rfl id)) rfl ?_
  refine .cons (.pickOr .none (.s rfl) (.tmp rfl id)) rfl ?_
  refine .nil (.then ?_)
  refine .cond (t := 63) rfl trivial (fun hb18 => ?_) (fun hb18 => ?_)
  ·
   replace h := bif_t h hb18
   refine .seq (.region [] mixed (by kernel_rfl) ?_)
   refine .cons (.move .none (.s rfl)) rfl ?_
   refine .cons (.assign .none (.s rfl)) rfl ?_
   refine .nil (.then ?_)
   refine .freezeRow (g := 5002) (ts := [2]) rfl (.cons (t := 2) rfl trivial .nil) SubB.nil rfl ?_
   refine .ret ?_
   refine .thenRet ?_
   refine .blkRet ?_
   refine .thenRet ?_
   refine .blkRet ?_
   replace h := hD3 _ (some_eq h)
   obtain rfl := some_eq h
   exact Ends.ret1 (.inl rfl) Try.results70 (ResOK.tmp rfl trivial Imp.refl)
  ·
   replace h := bif_f h hb18
   refine .skip ?_
   refine .then ?_
   refine .region [([], []), ([], []), ([], []), ([5002], [68, 5002]), ([68], [5, 68])] mixed (by kernel_rfl) ?_
   refine .consA (.move .none (.s rfl)) rfl ?_
   refine .consA (.load .none ty23 (.s rfl)) rfl ?_
   refine .consA (.buildSlice (xs := [_]) .none sl66 ty23 hz23 (.cons (.s rfl) .nil) rfl (by decide)) rfl ?_
   obtain ⟨hn19, h⟩ := need_some h
   refine .consW (.append (k := 5002) rk66 rfl (.told (.s rfl) rfl) (.s rfl) hn19) rfl rfl ?_
   refine .consW (.passRow rfl (.tmp rfl)) rfl rfl ?_
   refine .nil ?_
   refine .blkNormal ?_
   exact Ends.againL (some_eq h) (.k 0 rfl (.k 4 rfl .nil)) (.k 5 rfl .nil)

theorem law_AreasMatch_3_ok {c0_1 : (List Point)} {r : (List Point)}  (h : law_AreasMatch_3 c0_1 = some r) : FSpec Try.prog 69 [ref c0_1] (rep r) := by
 unfold law_AreasMatch_3 at h
 refine FSpec.intro (n := 4) fnok69 Try.func69 rfl Try.ntmps69 rfl (fun F => ?_)
 refine .seq (.region [] mixed (by kernel_rfl) ?_)
 refine .cons (.assign .none (.const (x := ([] : (List Point))) (fun M w => ⟨_, ⟨none, 0, rfl, Nat.le_refl _, by decide, rfl⟩, rfl⟩))) rfl ?_
 refine .nil (.then ?_)
 refine .seq (.region [] mixed (by kernel_rfl) ?_)
 refine .cons (.load .none ty66 (.s rfl)) rfl ?_
 obtain ⟨r1, hv1, h⟩ := bind_some h
 refine .cons (.call .none (ref_ConvexOf_ok hv1) (.cons (.s rfl) .nil)) rfl ?_
 refine .cons (.assign .none (.s rfl)) rfl ?_
 refine .nil (.then ?_)
 refine .ret ?_
 obtain rfl := some_eq h
 exact Ends.ret1 (.inl rfl) Try.results69 (ResOK.tmp rfl trivial Imp.refl)

theorem slices_Equal_Point_ok {s1_1 : (List Point)} {s2_1 : (List Point)} {r : Bool}  (h : slices_Equal_Point s1_1 s2_1 = some r) : FSpec Try.prog 93 [rep s1_1, rep s2_1] (rep r) := by
 unfold slices_Equal_Point at h
 refine FSpec.intro (n := 26) fnok93 Try.func93 rfl Try.ntmps93 rfl (fun F => ?_)
 refine .seq (.region [] mixed (by kernel_rfl) ?_)
 refine .cons (.assign .none .bool) rfl ?_
 refine .nil (.then ?_)
 refine .seq ?_
 refine .seq (.region [] mixed (by kernel_rfl) ?_)
 refine .cons (.move .none (.s rfl)) rfl ?_
 refine .cons (.len .none sl66 (.s rfl)) rfl ?_
 refine .cons (.move .none (.s rfl)) rfl ?_
 refine .cons (.len .none sl66 (.s rfl)) rfl ?_
 refine .cons (.neI .none (.s rfl) (.s rfl)) rfl ?_
 refine .nil (.then ?_)
 refine .cond (t := 10) rfl trivial (fun hb1 => ?_) (fun hb1 => ?_)
 ·
  replace h := bif_t h hb1
  refine .seq (.region [] mixed (by kernel_rfl) ?_)
  refine .cons (.assign .none .bool) rfl ?_
  refine .nil (.then ?_)
  refine .ret ?_
  refine .thenRet ?_
  obtain rfl := some_eq h
  exact Ends.ret1 (.inl rfl) Try.results93 (ResOK.tmp rfl trivial Imp.refl)
 ·
  replace h := bif_f h hb1
  refine .skip ?_
  refine .then ?_
  refine .seq ?_
  refine .seq (.region [] mixed (by kernel_rfl) ?_)
  refine .cons (.move .none (.s rfl)) rfl ?_
  refine .cons (.len .none sl66 (.s rfl)) rfl ?_
  refine .cons (.move .none (.int (by decide))) rfl ?_
  refine .nil (.then ?_)
  obtain ⟨o_2, h, hK2⟩ := bindR_some h
  refine .thenJ (ι := Unit) (fun j_2 => []) (fun j_2 => []) (fun s => o_2 = Res.nx s) Sub.nil SubB.nil ?_ (fun j_2 hj2 => ?_)
  ·
   skip
   refine .block ?_
   refine .rforEL h (fun p3_ => [(13, ⟨True, rep p3_.1⟩)]) (fun p3_ => []) (.k 13 rfl .nil) SubB.nil (.k 0 rfl (.k 1 rfl (.k 12 rfl .nil))) SubB.nil (fun p3_ o_3 h hD3 => ?_)
   refine .seq (.region [] mixed (by kernel_rfl) ?_)
   refine .cons (.lt .none (.s rfl) (.s rfl)) rfl ?_
   refine .nil (.then ?_)
   refine .seq ?_
   refine .cond (t := 14) rfl trivial (fun hb4 => ?_) (fun hb4 => ?_)
   ·
    replace h := bif_t h hb4
    refine .skip ?_
    refine .then ?_
    refine .seq ?_
    obtain ⟨o_5, h, hK5⟩ := bindD_some h
    unfold slices_Equal_Point_L1 at h
    refine .thenJ (ι := Unit) (fun j_5 => []) (fun j_5 => []) (fun s => o_5 = Res.nx s) (.k 0 rfl (.k 1 rfl (.k 12 rfl (.k 13 rfl .nil)))) SubB.nil ?_ (fun j_5 hj5 => ?_)
    ·
     skip
     refine .block ?_
     refine .seq (.region [] mixed (by kernel_rfl) ?_)
     refine .cons (.move .none (.s rfl)) rfl ?_
     refine .cons (.assign .none (.s rfl)) rfl ?_
     refine .nil (.then ?_)
     refine .seq (.region [] mixed (by kernel_rfl) ?_)
     refine .cons (.move .none (.s rfl)) rfl ?_
     refine .cons (.move .none (.s rfl)) rfl ?_
     obtain ⟨hn6, h⟩ := need_some h
     refine .cons (.indexAddr .none sl66 ty23 (.s rfl) (.s rfl) (fun _ => hn6)) rfl ?_
     refine .cons (.load .none ty23 (.s rfl)) rfl ?_
     refine .cons (.move .none (.s rfl)) rfl ?_
     refine .cons (.move .none (.s rfl)) rfl ?_
     obtain ⟨hn7, h⟩ := need_some h
     refine .cons (.indexAddr .none sl66 ty23 (.s rfl) (.s rfl) (fun _ => hn7)) rfl ?_
     refine .cons (.load .none ty23 (.s rfl)) rfl ?_
     refine .cons (.neS .none eq23 (.s rfl) (.s rfl)) rfl ?_
     refine .nil (.then ?_)
     refine .cond (t := 24) rfl trivial (fun hb8 => ?_) (fun hb8 => ?_)
     ·
      replace h := bif_t h hb8
      refine .seq (.region [] mixed (by kernel_rfl) ?_)
      refine .cons (.assign .none .bool) rfl ?_
      refine .nil (.then ?_)
      refine .ret ?_
      refine .blkRet ?_
      refine .thenRet ?_
      refine .thenRet ?_
      refine .blkRet ?_
      refine .thenRet ?_
      replace h := resd_ab hK5 (some_eq h)
      replace h := hD3 _ (some_eq h)
      replace h := resb_ab hK2 (some_eq h)
      obtain rfl := some_eq h
      exact Ends.ret1 (.inl rfl) Try.results93 (ResOK.tmp rfl trivial Imp.refl)
     ·
      replace h := bif_f h hb8
      refine .skip ?_
      refine .blkNormal ?_
      exact Ends.join _ (some_eq h) (.k 0 rfl (.k 1 rfl (.k 12 rfl (.k 13 rfl .nil)))) SubB.nil
    ·
     have h := resd_nx hK5 hj5
     refine .region [] mixed (by kernel_rfl) ?_
     refine .cons (.addW .none (.s rfl) (.int (by decide))) rfl ?_
     refine .cons (.move .none (.s rfl)) rfl ?_
     refine .nil ?_
     exact Ends.againL (some_eq h) (.k 13 rfl (.k 0 rfl (.k 1 rfl (.k 12 rfl .nil)))) SubB.nil
   ·
    replace h := bif_f h hb4
    refine .exit ?_
    refine .thenExit ?_
    refine .thenExit ?_
    refine .blkExit ?_
    replace h := hD3 _ (some_eq h)
    exact Ends.join _ (some_eq h) Sub.nil SubB.nil
  ·
   have h := resb_nx hK2 hj2
   refine .seq (.region [] mixed (by kernel_rfl) ?_)
   refine .cons (.assign .none .bool) rfl ?_
   refine .nil (.then ?_)
   refine .ret ?_
   obtain rfl := some_eq h
   exact Ends.ret1 (.inl rfl) Try.results93 (ResOK.tmp rfl trivial Imp.refl)

theorem law_lists_Point_ok {got1 : (List Point)} {e1 : Int} {want1 : Int} {right1 : (Option (List Point))} {r : Bool}  (h : law_lists_Point got1 e1 want1 right1 = some r) : FSpec Try.prog 54 [rep got1, rep e1, rep want1, fn0 Try.prog (rep (α := (List Point))) right1] (rep r) := by
 unfold law_lists_Point at h
 refine FSpec.intro (n := 27) fnok54 Try.func54 rfl Try.ntmps54 rfl (fun F => ?_)
 refine .seq (.region [] mixed (by kernel_rfl) ?_)
 refine .cons (.assign .none .bool) rfl ?_
 refine .nil (.then ?_)
 refine .seq ?_
 refine .seq (.region [] mixed (by kernel_rfl) ?_)
 refine .cons (.move .none (.s rfl)) rfl ?_
 refine .cons (.neI .none (.s rfl) (.int (by decide))) rfl ?_
 refine .nil (.then ?_)
 refine .cond (t := 10) rfl trivial (fun hb1 => ?_) (fun hb1 => ?_)
 ·
  replace h := bif_t h hb1
  refine .seq (.region [] mixed (by kernel_rfl) ?_)
  refine .cons (.move .none (.s rfl)) rfl ?_
  refine .cons (.len .none sl66 (.s rfl)) rfl ?_
  refine .cons (.eqI .none (.s rfl) (.int (by decide))) rfl ?_
  refine .cons (.move .none (.s rfl)) rfl ?_
  refine .cons (.move (.at rfl rfl) (.s rfl)) rfl ?_
  refine .cons (.move (.at rfl rfl) (.s rfl)) rfl ?_
  refine .cons (.eqI (.at rfl rfl) (.tmp rfl id) (.tmp rfl id)) rfl ?_
  refine .cons (.pickAnd .none (.s rfl) (.tmp rfl id)) rfl ?_
  refine .cons (.assign .none (.s rfl)) rfl ?_
  refine .nil (.then ?_)
  refine .ret ?_
  refine .thenRet ?_
  obtain rfl := some_eq h
  exact Ends.ret1 (.inl rfl) Try.results54 (ResOK.tmp rfl trivial Imp.refl)
 ·
  replace h := bif_f h hb1
  refine .skip ?_
  refine .then ?_
  refine .seq (.region [] mixed (by kernel_rfl) ?_)
  refine .cons (.move .none (.s rfl)) rfl ?_
  refine .cons (.eqI .none (.s rfl) (.int (by decide))) rfl ?_
  refine .cons (.move .none (.s rfl)) rfl ?_
  refine .cons (.move (.at rfl rfl) (.s rfl)) rfl ?_
  refine .cons (.move (.at rfl rfl) (.s rfl)) rfl ?_
  obtain ⟨r1, hv2, h⟩ := bind_some h
  refine .cons (.callV _ (.at rfl rfl) (.tmp rfl id) (fun hg => gd_some hv2 (hg.2)) .nil) rfl ?_
  obtain ⟨r2, hv3, h⟩ := bind_some h
  refine .cons (.callIf (.at rfl rfl) fnok93 (fun hg => slices_Equal_Point_ok ((fun hg => gd_some hv3 (hg.2)) hg)) (.cons (.tmp rfl id) (.cons (.tmp rfl id) .nil)) (fun h => h)) rfl ?_
  refine .cons (.pickAnd .none (.s rfl) (.tmp rfl id)) rfl ?_
  refine .cons (.assign .none (.s rfl)) rfl ?_
  refine .nil (.then ?_)
  refine .ret ?_
  obtain rfl := some_eq h
  exact Ends.ret1 (.inl rfl) Try.results54 (ResOK.tmp rfl trivial Imp.refl)

theorem law_AreasMatch_4_ok {c0_1 : (List Point)} {r : (List Point)}  (h : law_AreasMatch_4 c0_1 = some r) : FSpec Try.prog 71 [ref c0_1] (rep r) := by
 unfold law_AreasMatch_4 at h
 refine FSpec.intro (n := 4) fnok71 Try.func71 rfl Try.ntmps71 rfl (fun F => ?_)
 refine .seq (.region [] mixed (by kernel_rfl) ?_)
 refine .cons (.assign .none (.const (x := ([] : (List Point))) (fun M w => ⟨_, ⟨none, 0, rfl, Nat.le_refl _, by decide, rfl⟩, rfl⟩))) rfl ?_
 refine .nil (.then ?_)
 refine .seq (.region [] mixed (by kernel_rfl) ?_)
 refine .cons (.load .none ty66 (.s rfl)) rfl ?_
 obtain ⟨r1, hv1, h⟩ := bind_some h
 refine .cons (.call .none (ref_ConvexOf_ok hv1) (.cons (.s rfl) .nil)) rfl ?_
 refine .cons (.assign .none (.s rfl)) rfl ?_
 refine .nil (.then ?_)
 refine .ret ?_
 obtain rfl := some_eq h
 exact Ends.ret1 (.inl rfl) Try.results71 (ResOK.tmp rfl trivial Imp.refl)

theorem law_AreasMatch_5_ok {q1 : Point} {c0_1 : (List Point)} {r : Bool}  (h : law_AreasMatch_5 q1 c0_1 = some r) : FSpec Try.prog 73 [rep q1, ref c0_1] (rep r) := by
 unfold law_AreasMatch_5 at h
 refine FSpec.intro (n := 8) fnok73 Try.func73 rfl Try.ntmps73 rfl (fun F => ?_)
 refine .seq (.region [] mixed (by kernel_rfl) ?_)
 refine .cons (.box .none (.s rfl)) rfl ?_
 refine .cons (.assign .none .bool) rfl ?_
 refine .nil (.then ?_)
 refine .seq (.region [] mixed (by kernel_rfl) ?_)
 refine .cons (.load .none ty66 (.s rfl)) rfl ?_
 refine .cons (.load .none ty23 (.s rfl)) rfl ?_
 obtain ⟨r1, hv1, h⟩ := bind_some h
 refine .cons (.call .none (ref_InsideOf_ok hv1) (.cons (.s rfl) (.cons (.s rfl) .nil))) rfl ?_
 refine .cons (.lt .none (.s rfl) (.int (by decide))) rfl ?_
 refine .cons (.assign .none (.s rfl)) rfl ?_
 refine .nil (.then ?_)
 refine .ret ?_
 obtain rfl := some_eq h
 exact Ends.ret1 (.inl rfl) Try.results73 (ResOK.tmp rfl trivial Imp.refl)

theorem slices_IndexFunc_Point_ok {s1 : (List Point)} {f1 : (Point → Option Bool)} {r : Int}  (h : slices_IndexFunc_Point s1 f1 = some r) : FSpec Try.prog 106 [rep s1, fn1 Try.prog (rep (α := Bool)) f1] (rep r) := by
 unfold slices_IndexFunc_Point at h
 refine FSpec.intro (n := 19) fnok106 Try.func106 rfl Try.ntmps106 rfl (fun F => ?_)
 refine .seq (.region [] mixed (by kernel_rfl) ?_)
 refine .cons (.assign .none (.int (by decide))) rfl ?_
 refine .nil (.then ?_)
 refine .seq ?_
 refine .seq (.region [] mixed (by kernel_rfl) ?_)
 refine .cons (.move .none (.s rfl)) rfl ?_
 refine .cons (.len .none sl66 (.s rfl)) rfl ?_
 refine .cons (.move .none (.int (by decide))) rfl ?_
 refine .nil (.then ?_)
 obtain ⟨o_1, h, hK1⟩ := bindR_some h
 refine .thenJ (ι := Unit) (fun j_1 => []) (fun j_1 => []) (fun s => o_1 = Res.nx s) Sub.nil SubB.nil ?_ (fun j_1 hj1 => ?_)
 ·
  skip
  refine .block ?_
  refine .rforEL h (fun p2_ => [(8, ⟨True, rep p2_.1⟩)]) (fun p2_ => []) (.k 8 rfl .nil) SubB.nil (.k 0 rfl (.k 1 rfl (.k 7 rfl .nil))) SubB.nil (fun p2_ o_2 h hD2 => ?_)
  refine .seq (.region [] mixed (by kernel_rfl) ?_)
  refine .cons (.lt .none (.s rfl) (.s rfl)) rfl ?_
  refine .nil (.then ?_)
  refine .seq ?_
  refine .cond (t := 9) rfl trivial (fun hb3 => ?_) (fun hb3 => ?_)
  ·
   replace h := bif_t h hb3
   refine .skip ?_
   refine .then ?_
   refine .seq ?_
   obtain ⟨o_4, h, hK4⟩ := bindD_some h
   unfold slices_IndexFunc_Point_L1 at h
   refine .thenJ (ι := Unit) (fun j_4 => []) (fun j_4 => []) (fun s => o_4 = Res.nx s) (.k 0 rfl (.k 1 rfl (.k 7 rfl (.k 8 rfl .nil)))) SubB.nil ?_ (fun j_4 hj4 => ?_)
   ·
    skip
    refine .block ?_
    refine .seq (.region [] mixed (by kernel_rfl) ?_)
    refine .cons (.move .none (.s rfl)) rfl ?_
    refine .cons (.assign .none (.s rfl)) rfl ?_
    refine .nil (.then ?_)
    refine .seq (.region [] mixed (by kernel_rfl) ?_)
    refine .cons (.move .none (.s rfl)) rfl ?_
    refine .cons (.move .none (.s rfl)) rfl ?_
    refine .cons (.move .none (.s rfl)) rfl ?_
    obtain ⟨hn5, h⟩ := need_some h
    refine .cons (.indexAddr .none sl66 ty23 (.s rfl) (.s rfl) (fun _ => hn5)) rfl ?_
    refine .cons (.load .none ty23 (.s rfl)) rfl ?_
    obtain ⟨r1, hv6, h⟩ := bind_some h
    refine .cons (.callV (gx s1 p2_.1, r1) .none (.s rfl) (fun _ => hv6) (.cons (.s rfl) .nil)) rfl ?_
    refine .nil (.then ?_)
    refine .cond (t := 16) rfl trivial (fun hb7 => ?_) (fun hb7 => ?_)
    ·
     replace h := bif_t h hb7
     refine .seq (.region [] mixed (by kernel_rfl) ?_)
     refine .cons (.move .none (.s rfl)) rfl ?_
     refine .cons (.assign .none (.s rfl)) rfl ?_
     refine .nil (.then ?_)
     refine .ret ?_
     refine .blkRet ?_
     refine .thenRet ?_
     refine .thenRet ?_
     refine .blkRet ?_
     refine .thenRet ?_
     replace h := resd_ab hK4 (some_eq h)
     replace h := hD2 _ (some_eq h)
     replace h := resb_ab hK1 (some_eq h)
     obtain rfl := some_eq h
     exact Ends.ret1 (.inl rfl) Try.results106 (ResOK.tmp rfl trivial Imp.refl)
    ·
     replace h := bif_f h hb7
     refine .skip ?_
     refine .blkNormal ?_
     exact Ends.join _ (some_eq h) (.k 0 rfl (.k 1 rfl (.k 7 rfl (.k 8 rfl .nil)))) SubB.nil
   ·
    have h := resd_nx hK4 hj4
    refine .region [] mixed (by kernel_rfl) ?_
    refine .cons (.addW .none (.s rfl) (.int (by decide))) rfl ?_
    refine .cons (.move .none (.s rfl)) rfl ?_
    refine .nil ?_
    exact Ends.againL (some_eq h) (.k 8 rfl (.k 0 rfl (.k 1 rfl (.k 7 rfl .nil)))) SubB.nil
  ·
   replace h := bif_f h hb3
   refine .exit ?_
   refine .thenExit ?_
   refine .thenExit ?_
   refine .blkExit ?_
   replace h := hD2 _ (some_eq h)
   exact Ends.join _ (some_eq h) Sub.nil SubB.nil
 ·
  have h := resb_nx hK1 hj1
  refine .seq (.region [] mixed (by kernel_rfl) ?_)
  refine .cons (.assign .none (.int (by decide))) rfl ?_
  refine .nil (.then ?_)
  refine .ret ?_
  obtain rfl := some_eq h
  exact Ends.ret1 (.inl rfl) Try.results106 (ResOK.tmp rfl trivial Imp.refl)

theorem slices_ContainsFunc_Point_ok {s1 : (List Point)} {f1 : (Point → Option Bool)} {r : Bool}  (h : slices_ContainsFunc_Point s1 f1 = some r) : FSpec Try.prog 72 [rep s1, fn1 Try.prog (rep (α := Bool)) f1] (rep r) := by
 unfold slices_ContainsFunc_Point at h
 refine FSpec.intro (n := 9) fnok72 Try.func72 rfl Try.ntmps72 rfl (fun F => ?_)
 refine .seq (.region [] mixed (by kernel_rfl) ?_)
 refine .cons (.assign .none .bool) rfl ?_
 refine .nil (.then ?_)
 refine .seq (.region [] mixed (by kernel_rfl) ?_)
 refine .cons (.move .none (.s rfl)) rfl ?_
 refine .cons (.move .none (.s rfl)) rfl ?_
 obtain ⟨r1, hv1, h⟩ := bind_some h
 refine .cons (.call .none (slices_IndexFunc_Point_ok hv1) (.cons (.s rfl) (.cons (.s rfl) .nil))) rfl ?_
 refine .cons (.ge .none (.s rfl) (.int (by decide))) rfl ?_
 refine .cons (.assign .none (.s rfl)) rfl ?_
 refine .nil (.then ?_)
 refine .ret ?_
 obtain rfl := some_eq h
 exact Ends.ret1 (.inl rfl) Try.results72 (ResOK.tmp rfl trivial Imp.refl)

theorem law_AreasMatch_ok {l1 : (List Point)} {p1 : Point} {r : Bool}  (h : law_AreasMatch l1 p1 = some r) : FSpec Try.prog 7 [rep l1, rep p1] (rep r) := by
 unfold law_AreasMatch at h
 refine FSpec.intro (n := 92) fnok7 Try.func7 rfl Try.ntmps7 rfl (fun F => ?_)
 refine .seq (.region [] mixed (by kernel_rfl) ?_)
 refine .cons (.box .none (.s rfl)) rfl ?_
 refine .cons (.box .none (.s rfl)) rfl ?_
 refine .cons (.assign .none .bool) rfl ?_
 refine .nil (.then ?_)
 refine .seq (.region [] mixed (by kernel_rfl) ?_)
 refine .cons (.load .none ty66 (.s rfl)) rfl ?_
 obtain ⟨own1, hv1, h⟩ := bind_some h
 refine .cons (.call .none (ref_PointsError_ok hv1) (.cons (.s rfl) .nil)) rfl ?_
 refine .cons (.assign .none (.s rfl)) rfl ?_
 refine .nil (.then ?_)
 refine .seq (.region [] mixed (by kernel_rfl) ?_)
 refine .cons (.load .none ty66 (.s rfl)) rfl ?_
 refine .cons (.len .none sl66 (.s rfl)) rfl ?_
 refine .cons (.lt .none (.s rfl) (.int (by decide))) rfl ?_
 obtain ⟨few1, hv2, h⟩ := bind_some h
 refine .cons (.call .none (ref_When_ok hv2) (.cons (.s rfl) (.cons (.int (by decide)) .nil))) rfl ?_
 refine .cons (.assign .none (.s rfl)) rfl ?_
 refine .nil (.then ?_)
 refine .seq (.region [] mixed (by kernel_rfl) ?_)
 refine .cons (.load .none ty66 (.s rfl)) rfl ?_
 obtain ⟨r1, hv3, h⟩ := bind_some h
 refine .cons (.call .none (geom_Area_ok hv3) (.cons (.s rfl) .nil)) rfl ?_
 refine .cons (.move .none (.s rfl)) rfl ?_
 refine .cons (.extract .none (.s rfl) rfl) rfl ?_
 refine .cons (.extract .none (.s rfl) rfl) rfl ?_
 refine .cons (.assign .none (.s rfl)) rfl ?_
 refine .cons (.assign .none (.s rfl)) rfl ?_
 refine .nil (.then ?_)
 refine .seq (.region [] mixed (by kernel_rfl) ?_)
 refine .cons (.load .none ty66 (.s rfl)) rfl ?_
 refine .cons (.load .none ty23 (.s rfl)) rfl ?_
 obtain ⟨r2, hv4, h⟩ := bind_some h
 refine .cons (.call .none (geom_Inside_ok hv4) (.cons (.s rfl) (.cons (.s rfl) .nil))) rfl ?_
 refine .cons (.move .none (.s rfl)) rfl ?_
 refine .cons (.extract .none (.s rfl) rfl) rfl ?_
 refine .cons (.extract .none (.s rfl) rfl) rfl ?_
 refine .cons (.assign .none (.s rfl)) rfl ?_
 refine .cons (.assign .none (.s rfl)) rfl ?_
 refine .nil (.then ?_)
 refine .seq ?_
 refine .seq (.region [] mixed (by kernel_rfl) ?_)
 obtain ⟨r3, hv5, h⟩ := bind_some h
 refine .cons (.call .none (law_geoms_ok hv5) .nil) rfl ?_
 refine .cons (.not .none (.s rfl)) rfl ?_
 refine .cons (.move .none (.s rfl)) rfl ?_
 refine .cons (.move (.at rfl rfl) (.s rfl)) rfl ?_
 refine .cons (.move (.at rfl rfl) (.s rfl)) rfl ?_
 refine .cons (.move (.at rfl rfl) (.s rfl)) rfl ?_
 refine .cons (.move (.at rfl rfl) (.s rfl)) rfl ?_
 refine .cons (.buildSlice (xs := [_, _]) (.at rfl rfl) sl94 ty24 hz24 (.cons (.tmp rfl id) (.cons (.tmp rfl id) .nil)) rfl (by decide)) rfl ?_
 obtain ⟨r4, hv6, h⟩ := bind_some h
 refine .cons (.callIf (.at rfl rfl) fnok9 (fun hg => ref_First_ok ((fun hg => gd_some hv6 ((notT hg.2))) hg)) (.cons (.tmp rfl id) .nil) (fun h => h)) rfl ?_
 refine .cons (.makeFunc (ι := Int) (pre := fun i => (law_AreasMatch_1 l1)  = some i) (Ss := fun i => []) (S := fun i => rep i) (.at rfl rfl) fnok64 (fun i h => law_AreasMatch_1_ok h) (.cons (.s rfl) .nil)) rfl ?_
 obtain ⟨r5, hv7, h⟩ := bind_some h
 refine .cons (.callIf (.at rfl rfl) fnok14 (fun hg => law_is_int_ok ((fun hg => gd_some hv7 ((notT hg.2))) hg)) (.cons (.tmp rfl id) (.cons (.tmp rfl id) (.cons (.tmp rfl id) (.cons (.tmp rfl id) .nil)))) (fun h => h)) rfl ?_
 refine .cons (.not (.at rfl rfl) (.tmp rfl id)) rfl ?_
 refine .cons (.pickOr .none (.s rfl) (.tmp rfl id)) rfl ?_
 refine .cons (.move .none (.s rfl)) rfl ?_
 refine .cons (.move (.at rfl rfl) (.s rfl)) rfl ?_
 refine .cons (.move (.at rfl rfl) (.s rfl)) rfl ?_
 refine .cons (.move (.at rfl rfl) (.s rfl)) rfl ?_
 refine .cons (.load (.at rfl rfl) ty23 (.s rfl)) rfl ?_
 obtain ⟨r6, hv8, h⟩ := bind_some h
 refine .cons (.callIf (.at rfl rfl) fnok10 (fun hg => ref_PointError_ok ((fun hg => gd_some hv8 ((notT hg.2))) hg)) (.cons (.tmp rfl id) .nil) (fun h => h)) rfl ?_
 refine .cons (.move (.at rfl rfl) (.s rfl)) rfl ?_
 refine .cons (.buildSlice (xs := [_, _, _]) (.at rfl rfl) sl94 ty24 hz24 (.cons (.tmp rfl id) (.cons (.tmp rfl id) (.cons (.tmp rfl id) .nil))) rfl (by decide)) rfl ?_
 obtain ⟨r7, hv9, h⟩ := bind_some h
 refine .cons (.callIf (.at rfl rfl) fnok9 (fun hg => ref_First_ok ((fun hg => gd_some hv9 ((notT hg.2))) hg)) (.cons (.tmp rfl id) .nil) (fun h => h)) rfl ?_
 refine .cons (.makeFunc (ι := Int) (pre := fun i => (law_AreasMatch_2 l1 p1)  = some i) (Ss := fun i => []) (S := fun i => rep i) (.at rfl rfl) fnok66 (fun i h => law_AreasMatch_2_ok h) (.cons (.s rfl) (.cons (.s rfl) .nil))) rfl ?_
 obtain ⟨r8, hv10, h⟩ := bind_some h
 refine .cons (.callIf (.at rfl rfl) fnok14 (fun hg => law_is_int_ok ((fun hg => gd_some hv10 ((notT hg.2))) hg)) (.cons (.tmp rfl id) (.cons (.tmp rfl id) (.cons (.tmp rfl id) (.cons (.tmp rfl id) .nil)))) (fun h => h)) rfl ?_
 refine .cons (.not (.at rfl rfl) (.tmp rfl id)) rfl ?_
 refine .cons (.pickOr .none (.s rfl) (.tmp rfl id)) rfl ?_
 refine .nil (.then ?_)
 refine .cond (t := 55) rfl trivial (fun hb11 => ?_) (fun hb11 => ?_)
 ·
  replace h := bif_t h hb11
  refine .seq (.region [] mixed (by kernel_rfl) ?_)
  refine .cons (.assign .none .bool) rfl ?_
  refine .nil (.then ?_)
  refine .ret ?_
  refine .thenRet ?_
  obtain rfl := some_eq h
  exact Ends.ret1 (.inl rfl) Try.results7 (ResOK.tmp rfl trivial Imp.refl)
 ·
  replace h := bif_f h hb11
  refine .skip ?_
  refine .then ?_
  refine .seq (.region [([], []), ([], []), ([], []), ([], []), ([], []), ([], [11]), ([11], [11]), ([], [])] mixed (by kernel_rfl) ?_)
  refine .consA (.load .none ty66 (.s rfl)) rfl ?_
  obtain ⟨r9, hv12, h⟩ := bind_some h
  refine .consA (.call .none (geom_Convex_ok hv12) (.cons (.s rfl) .nil)) rfl ?_
  refine .consA (.move .none (.s rfl)) rfl ?_
  refine .consA (.extract .none (.s rfl) rfl) rfl ?_
  refine .consA (.extract .none (.s rfl) rfl) rfl ?_
  refine .consW (.alloc zo66 rfl) rfl rfl ?_
  refine .consN (.store ty66 rfl rfl (.s rfl)) rfl ?_
  refine .consA (.assign .none (.s rfl)) rfl ?_
  refine .nil (.then ?_)
  refine .freeze (t := 11) rfl rfl SubB.nil rfl ?_
  refine .seq (.region [] mixed (by kernel_rfl) ?_)
  refine .cons (.move .none (.s rfl)) rfl ?_
  refine .cons (.load .none ty66 (.s rfl)) rfl ?_
  refine .cons (.len .none sl66 (.s rfl)) rfl ?_
  refine .cons (.eqI .none (.s rfl) (.int (by decide))) rfl ?_
  obtain ⟨r10, hv13, h⟩ := bind_some h
  refine .cons (.call .none (ref_When_ok hv13) (.cons (.s rfl) (.cons (.int (by decide)) .nil))) rfl ?_
  refine .cons (.buildSlice (xs := [_, _]) .none sl94 ty24 hz24 (.cons (.s rfl) (.cons (.s rfl) .nil)) rfl (by decide)) rfl ?_
  obtain ⟨want1, hv14, h⟩ := bind_some h
  refine .cons (.call .none (ref_First_ok hv14) (.cons (.s rfl) .nil)) rfl ?_
  refine .cons (.assign .none (.s rfl)) rfl ?_
  refine .nil (.then ?_)
  refine .seq ?_
  refine .seq (.region [] mixed (by kernel_rfl) ?_)
  refine .cons (.load .none ty66 (.s rfl)) rfl ?_
  refine .cons (.move .none (.s rfl)) rfl ?_
  refine .cons (.move .none (.s rfl)) rfl ?_
  refine .cons (.makeFunc (ι := (List Point)) (pre := fun i => (law_AreasMatch_3 l1)  = some i) (Ss := fun i => []) (S := fun i => rep i) .none fnok69 (fun i h => law_AreasMatch_3_ok h) (.cons (.s rfl) .nil)) rfl ?_
  obtain ⟨r11, hv15, h⟩ := bind_some h
  refine .cons (.call .none (law_lists_Point_ok hv15) (.cons (.s rfl) (.cons (.s rfl) (.cons (.s rfl) (.cons (.s rfl) .nil))))) rfl ?_
  refine .cons (.not .none (.s rfl)) rfl ?_
  refine .cons (.move .none (.s rfl)) rfl ?_
  refine .cons (.move (.at rfl rfl) (.s rfl)) rfl ?_
  refine .cons (.neI (.at rfl rfl) (.tmp rfl id) (.int (by decide))) rfl ?_
  refine .cons (.pickOr .none (.s rfl) (.tmp rfl id)) rfl ?_
  refine .cons (.move .none (.s rfl)) rfl ?_
  refine .cons (.load (.at rfl rfl) ty66 (.s rfl)) rfl ?_
  refine .cons (.len (.at rfl rfl) sl66 (.tmp rfl id)) rfl ?_
  refine .cons (.lt (.at rfl rfl) (.tmp rfl id) (.int (by decide))) rfl ?_
  refine .cons (.pickOr .none (.s rfl) (.tmp rfl id)) rfl ?_
  refine .nil (.then ?_)
  refine .cond (t := 82) rfl trivial (fun hb16 => ?_) (fun hb16 => ?_)
  ·
   replace h := bif_t h hb16
   refine .seq (.region [] mixed (by kernel_rfl) ?_)
   refine .cons (.load .none ty66 (.s rfl)) rfl ?_
   refine .cons (.move .none (.s rfl)) rfl ?_
   refine .cons (.move .none (.s rfl)) rfl ?_
   refine .cons (.makeFunc (ι := (List Point)) (pre := fun i => (law_AreasMatch_4 l1)  = some i) (Ss := fun i => []) (S := fun i => rep i) .none fnok71 (fun i h => law_AreasMatch_4_ok h) (.cons (.s rfl) .nil)) rfl ?_
   obtain ⟨r12, hv17, h⟩ := bind_some h
   refine .cons (.call .none (law_lists_Point_ok hv17) (.cons (.s rfl) (.cons (.s rfl) (.cons (.s rfl) (.cons (.s rfl) .nil))))) rfl ?_
   refine .cons (.assign .none (.s rfl)) rfl ?_
   refine .nil (.then ?_)
   refine .ret ?_
   refine .thenRet ?_
   obtain rfl := some_eq h
   exact Ends.ret1 (.inl rfl) Try.results7 (ResOK.tmp rfl trivial Imp.refl)
  ·
   replace h := bif_f h hb16
   refine .skip ?_
   refine .then ?_
   refine .seq (.region [] mixed (by kernel_rfl) ?_)
   refine .cons (.load .none ty66 (.s rfl)) rfl ?_
   refine .cons (.makeFunc (ι := Point × Bool) (pre := fun i => (fun x0 => law_AreasMatch_5 x0 r9.1) i.1 = some i.2) (Ss := fun i => [rep i.1]) (S := fun i => rep i.2) .none fnok73 (fun i h => law_AreasMatch_5_ok h) (.cons (.s rfl) .nil)) rfl ?_
   obtain ⟨r13, hv18, h⟩ := bind_some h
   refine .cons (.call .none (slices_ContainsFunc_Point_ok hv18) (.cons (.s rfl) (.cons (.s rfl) .nil))) rfl ?_
   refine .cons (.not .none (.s rfl)) rfl ?_
   refine .cons (.assign .none (.s rfl)) rfl ?_
   refine .nil (.then ?_)
   refine .ret ?_
   obtain rfl := some_eq h
   exact Ends.ret1 (.inl rfl) Try.results7 (ResOK.tmp rfl trivial Imp.refl)


end Go.Proofs.Ytieepiblancbpaa
