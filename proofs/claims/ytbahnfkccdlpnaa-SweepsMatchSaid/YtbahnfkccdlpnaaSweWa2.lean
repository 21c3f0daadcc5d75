/-
  The walks: what a function computes is what its plain function says (printed by a program of one's own).
-/
import Derived.Test.YtbahnfkccdlpnaaSweWa1
set_option maxRecDepth 100000
set_option linter.unusedSimpArgs false
set_option linter.unusedVariables false
namespace Go.Proofs.Ytbahnfkccdlpnaa
open Go Go.DB Go.RowKit

theorem ref_In_ok {n1 : Int} {low1 : Int} {high1 : Int} {r : Bool}  (h : ref_In n1 low1 high1 = some r) : FSpec Try.prog 28 [rep n1, rep low1, rep high1] (rep r) := by
 unfold ref_In at h
 refine FSpec.intro (n := 15) fnok28 Try.func28 rfl Try.ntmps28 rfl (fun F => ?_)
 refine .seq (.region [] mixed (by kernel_rfl) ?_)
 refine .cons (.assign .none .bool) rfl ?_
 refine .nil (.then ?_)
 refine .seq (.region [] mixed (by kernel_rfl) ?_)
 refine .cons (.move .none (.s rfl)) rfl ?_
 refine .cons (.move .none (.s rfl)) rfl ?_
 refine .cons (.ge .none (.s rfl) (.s rfl)) rfl ?_
 refine .cons (.move .none (.s rfl)) rfl ?_
 refine .cons (.move (.at rfl rfl) (.s rfl)) rfl ?_
 refine .cons (.move (.at rfl rfl) (.s rfl)) rfl ?_
 refine .cons (.le (.at rfl rfl) (.tmp rfl id) (.tmp rfl id)) rfl ?_
 refine .cons (.pickAnd .none (.s rfl) (.tmp rfl id)) rfl ?_
 refine .cons (.assign .none (.s rfl)) rfl ?_
 refine .nil (.then ?_)
 refine .ret ?_
 obtain rfl := some_eq h
 exact Ends.ret1 (.inl rfl) Try.results28 (ResOK.tmp rfl trivial Imp.refl)

theorem ref_When_ok {is1 : Bool} {e1 : Int} {r : Int}  (h : ref_When is1 e1 = some r) : FSpec Try.prog 45 [rep is1, rep e1] (rep r) := by
 unfold ref_When at h
 refine FSpec.intro (n := 7) fnok45 Try.func45 rfl Try.ntmps45 rfl (fun F => ?_)
 refine .seq (.region [] mixed (by kernel_rfl) ?_)
 refine .cons (.assign .none (.int (by decide))) rfl ?_
 refine .nil (.then ?_)
 refine .seq ?_
 refine .seq (.region [] mixed (by kernel_rfl) ?_)
 refine .cons (.move .none (.s rfl)) rfl ?_
 refine .nil (.then ?_)
 refine .cond (t := 5) rfl trivial (fun hb1 => ?_) (fun hb1 => ?_)
 ·
  replace h := bif_t h hb1
  refine .seq (.region [] mixed (by kernel_rfl) ?_)
  refine .cons (.move .none (.s rfl)) rfl ?_
  refine .cons (.assign .none (.s rfl)) rfl ?_
  refine .nil (.then ?_)
  refine .ret ?_
  refine .thenRet ?_
  obtain rfl := some_eq h
  exact Ends.ret1 (.inl rfl) Try.results45 (ResOK.tmp rfl trivial Imp.refl)
 ·
  replace h := bif_f h hb1
  refine .skip ?_
  refine .then ?_
  refine .seq (.region [] mixed (by kernel_rfl) ?_)
  refine .cons (.assign .none (.int (by decide))) rfl ?_
  refine .nil (.then ?_)
  refine .ret ?_
  obtain rfl := some_eq h
  exact Ends.ret1 (.inl rfl) Try.results45 (ResOK.tmp rfl trivial Imp.refl)

theorem slices_Index_int_ok {s1 : (List Int)} {v1 : Int} {r : Int}  (h : slices_Index_int s1 v1 = some r) : FSpec Try.prog 31 [rep s1, rep v1] (rep r) := by
 unfold slices_Index_int at h
 refine FSpec.intro (n := 19) fnok31 Try.func31 rfl Try.ntmps31 rfl (fun F => ?_)
 refine .seq (.region [] mixed (by kernel_rfl) ?_)
 refine .cons (.assign .none (.int (by decide))) rfl ?_
 refine .nil (.then ?_)
 refine .seq ?_
 refine .seq (.region [] mixed (by kernel_rfl) ?_)
 refine .cons (.move .none (.s rfl)) rfl ?_
 refine .cons (.len .none sl32 (.s rfl)) rfl ?_
 refine .cons (.move .none (.int (by decide))) rfl ?_
 refine .nil (.then ?_)
 obtain ⟨o_1, h, hK1⟩ := bindR_some h
 refine .thenJ (ι := Unit) (fun j_1 => []) (fun j_1 => []) (fun s => o_1 = Res.nx s) Sub.nil SubB.nil ?_ (fun j_1 hj1 => ?_)
 ·
  skip
  refine .block ?_
  refine .rforEL h (fun p2_ => [(8, ⟨True, rep p2_.1⟩)]) (fun p2_ => []) (.k 8 rfl .nil) SubB.nil (.k 0 rfl (.k 1 rfl (.k 7 rfl .nil))) SubB.nil (fun p2_ o_2 h hD2 => ?_)
  refine .seq (.region [] mixed (by kernel_rfl) ?_)
  refine .cons (.lt .none (.s rfl) (.s rfl)) rfl ?_
  refine .nil (.then ?_)
  refine .seq ?_
  refine .cond (t := 9) rfl trivial (fun hb3 => ?_) (fun hb3 => ?_)
  ·
   replace h := bif_t h hb3
   refine .skip ?_
   refine .then ?_
   refine .seq ?_
   obtain ⟨o_4, h, hK4⟩ := bindD_some h
   unfold slices_Index_int_L1 at h
   refine .thenJ (ι := Unit) (fun j_4 => []) (fun j_4 => []) (fun s => o_4 = Res.nx s) (.k 0 rfl (.k 1 rfl (.k 7 rfl (.k 8 rfl .nil)))) SubB.nil ?_ (fun j_4 hj4 => ?_)
   ·
    skip
    refine .block ?_
    refine .seq (.region [] mixed (by kernel_rfl) ?_)
    refine .cons (.move .none (.s rfl)) rfl ?_
    refine .cons (.assign .none (.s rfl)) rfl ?_
    refine .nil (.then ?_)
    refine .seq (.region [] mixed (by kernel_rfl) ?_)
    refine .cons (.move .none (.s rfl)) rfl ?_
    refine .cons (.move .none (.s rfl)) rfl ?_
    refine .cons (.move .none (.s rfl)) rfl ?_
    obtain ⟨hn5, h⟩ := need_some h
    refine .cons (.indexAddr .none sl32 ty3 (.s rfl) (.s rfl) (fun _ => hn5)) rfl ?_
    refine .cons (.load .none ty3 (.s rfl)) rfl ?_
    refine .cons (.eqI .none (.s rfl) (.s rfl)) rfl ?_
    refine .nil (.then ?_)
    refine .cond (t := 16) rfl trivial (fun hb6 => ?_) (fun hb6 => ?_)
    ·
     replace h := bif_t h hb6
     refine .seq (.region [] mixed (by kernel_rfl) ?_)
     refine .cons (.move .none (.s rfl)) rfl ?_
     refine .cons (.assign .none (.s rfl)) rfl ?_
     refine .nil (.then ?_)
     refine .ret ?_
     refine .blkRet ?_
     refine .thenRet ?_
     refine .thenRet ?_
     refine .blkRet ?_
     refine .thenRet ?_
     replace h := resd_ab hK4 (some_eq h)
     replace h := hD2 _ (some_eq h)
     replace h := resb_ab hK1 (some_eq h)
     obtain rfl := some_eq h
     exact Ends.ret1 (.inl rfl) Try.results31 (ResOK.tmp rfl trivial Imp.refl)
    ·
     replace h := bif_f h hb6
     refine .skip ?_
     refine .blkNormal ?_
     exact Ends.join _ (some_eq h) (.k 0 rfl (.k 1 rfl (.k 7 rfl (.k 8 rfl .nil)))) SubB.nil
   ·
    have h := resd_nx hK4 hj4
    refine .region [] mixed (by kernel_rfl) ?_
    refine .cons (.addW .none (.s rfl) (.int (by decide))) rfl ?_
    refine .cons (.move .none (.s rfl)) rfl ?_
    refine .nil ?_
    exact Ends.againL (some_eq h) (.k 8 rfl (.k 0 rfl (.k 1 rfl (.k 7 rfl .nil)))) SubB.nil
  ·
   replace h := bif_f h hb3
   refine .exit ?_
   refine .thenExit ?_
   refine .thenExit ?_
   refine .blkExit ?_
   replace h := hD2 _ (some_eq h)
   exact Ends.join _ (some_eq h) Sub.nil SubB.nil
 ·
  have h := resb_nx hK1 hj1
  refine .seq (.region [] mixed (by kernel_rfl) ?_)
  refine .cons (.assign .none (.int (by decide))) rfl ?_
  refine .nil (.then ?_)
  refine .ret ?_
  obtain rfl := some_eq h
  exact Ends.ret1 (.inl rfl) Try.results31 (ResOK.tmp rfl trivial Imp.refl)

theorem slices_Contains_int_ok {s1 : (List Int)} {v1 : Int} {r : Bool}  (h : slices_Contains_int s1 v1 = some r) : FSpec Try.prog 79 [rep s1, rep v1] (rep r) := by
 unfold slices_Contains_int at h
 refine FSpec.intro (n := 9) fnok79 Try.func79 rfl Try.ntmps79 rfl (fun F => ?_)
 refine .seq (.region [] mixed (by kernel_rfl) ?_)
 refine .cons (.assign .none .bool) rfl ?_
 refine .nil (.then ?_)
 refine .seq (.region [] mixed (by kernel_rfl) ?_)
 refine .cons (.move .none (.s rfl)) rfl ?_
 refine .cons (.move .none (.s rfl)) rfl ?_
 obtain ⟨r1, hv1, h⟩ := bind_some h
 refine .cons (.call .none (slices_Index_int_ok hv1) (.cons (.s rfl) (.cons (.s rfl) .nil))) rfl ?_
 refine .cons (.ge .none (.s rfl) (.int (by decide))) rfl ?_
 refine .cons (.assign .none (.s rfl)) rfl ?_
 refine .nil (.then ?_)
 refine .ret ?_
 obtain rfl := some_eq h
 exact Ends.ret1 (.inl rfl) Try.results79 (ResOK.tmp rfl trivial Imp.refl)

theorem ref_First_ok {l1 : (List Int)} {r : Int}  (h : ref_First l1 = some r) : FSpec Try.prog 44 [rep l1] (rep r) := by
 unfold ref_First at h
 refine FSpec.intro (n := 15) fnok44 Try.func44 rfl Try.ntmps44 rfl (fun F => ?_)
 refine .seq (.region [] mixed (by kernel_rfl) ?_)
 refine .cons (.assign .none (.int (by decide))) rfl ?_
 refine .nil (.then ?_)
 refine .seq ?_
 refine .seq (.region [] mixed (by kernel_rfl) ?_)
 refine .cons (.move .none (.s rfl)) rfl ?_
 refine .cons (.len .none sl109 (.s rfl)) rfl ?_
 refine .cons (.move .none (.int (by decide))) rfl ?_
 refine .nil (.then ?_)
 obtain ⟨o_1, h, hK1⟩ := bindR_some h
 refine .thenJ (ι := Unit) (fun j_1 => []) (fun j_1 => []) (fun s => o_1 = Res.nx s) Sub.nil SubB.nil ?_ (fun j_1 hj1 => ?_)
 ·
  skip
  refine .block ?_
  refine .rforEL h (fun p2_ => [(7, ⟨True, rep p2_.1⟩)]) (fun p2_ => []) (.k 7 rfl .nil) SubB.nil (.k 5 rfl (.k 6 rfl .nil)) SubB.nil (fun p2_ o_2 h hD2 => ?_)
  refine .seq (.region [] mixed (by kernel_rfl) ?_)
  refine .cons (.lt .none (.s rfl) (.s rfl)) rfl ?_
  refine .nil (.then ?_)
  refine .seq ?_
  refine .cond (t := 8) rfl trivial (fun hb3 => ?_) (fun hb3 => ?_)
  ·
   replace h := bif_t h hb3
   refine .skip ?_
   refine .then ?_
   refine .seq ?_
   obtain ⟨o_4, h, hK4⟩ := bindD_some h
   unfold ref_First_L1 at h
   refine .thenJ (ι := Unit) (fun j_4 => []) (fun j_4 => []) (fun s => o_4 = Res.nx s) (.k 5 rfl (.k 6 rfl (.k 7 rfl .nil))) SubB.nil ?_ (fun j_4 hj4 => ?_)
   ·
    skip
    refine .block ?_
    refine .seq (.region [] mixed (by kernel_rfl) ?_)
    obtain ⟨hn5, h⟩ := need_some h
    refine .cons (.indexAddr .none sl109 ty24 (.s rfl) (.s rfl) (fun _ => hn5)) rfl ?_
    refine .cons (.load .none ty24 (.s rfl)) rfl ?_
    obtain ⟨e1, hv6, h⟩ := bnd_some h
    refine .cons (.re hv6 (.assign .none (.s rfl))) rfl ?_
    refine .nil (.then ?_)
    refine .seq (.region [] mixed (by kernel_rfl) ?_)
    refine .cons (.move .none (.s rfl)) rfl ?_
    refine .cons (.neI .none (.s rfl) (.int (by decide))) rfl ?_
    refine .nil (.then ?_)
    refine .cond (t := 12) rfl trivial (fun hb7 => ?_) (fun hb7 => ?_)
    ·
     replace h := bif_t h hb7
     refine .seq (.region [] mixed (by kernel_rfl) ?_)
     refine .cons (.move .none (.s rfl)) rfl ?_
     refine .cons (.assign .none (.s rfl)) rfl ?_
     refine .nil (.then ?_)
     refine .ret ?_
     refine .blkRet ?_
     refine .thenRet ?_
     refine .thenRet ?_
     refine .blkRet ?_
     refine .thenRet ?_
     replace h := resd_ab hK4 (some_eq h)
     replace h := hD2 _ (some_eq h)
     replace h := resb_ab hK1 (some_eq h)
     obtain rfl := some_eq h
     exact Ends.ret1 (.inl rfl) Try.results44 (ResOK.tmp rfl trivial Imp.refl)
    ·
     replace h := bif_f h hb7
     refine .skip ?_
     refine .blkNormal ?_
     exact Ends.join _ (some_eq h) (.k 5 rfl (.k 6 rfl (.k 7 rfl .nil))) SubB.nil
   ·
    have h := resd_nx hK4 hj4
    refine .region [] mixed (by kernel_rfl) ?_
    refine .cons (.addW .none (.s rfl) (.int (by decide))) rfl ?_
    refine .cons (.move .none (.s rfl)) rfl ?_
    refine .nil ?_
    exact Ends.againL (some_eq h) (.k 7 rfl (.k 5 rfl (.k 6 rfl .nil))) SubB.nil
  ·
   replace h := bif_f h hb3
   refine .exit ?_
   refine .thenExit ?_
   refine .thenExit ?_
   refine .blkExit ?_
   replace h := hD2 _ (some_eq h)
   exact Ends.join _ (some_eq h) Sub.nil SubB.nil
 ·
  have h := resb_nx hK1 hj1
  refine .seq (.region [] mixed (by kernel_rfl) ?_)
  refine .cons (.assign .none (.int (by decide))) rfl ?_
  refine .nil (.then ?_)
  refine .ret ?_
  obtain rfl := some_eq h
  exact Ends.ret1 (.inl rfl) Try.results44 (ResOK.tmp rfl trivial Imp.refl)

theorem ref_RowError_ok {row1 : (List Int)} {r : Int}  (h : ref_RowError row1 = some r) : FSpec Try.prog 56 [rep row1] (rep r) := by
 unfold ref_RowError at h
 refine FSpec.intro (n := 32) fnok56 Try.func56 rfl Try.ntmps56 rfl (fun F => ?_)
 refine .seq (.region [] mixed (by kernel_rfl) ?_)
 refine .cons (.assign .none (.int (by decide))) rfl ?_
 refine .nil (.then ?_)
 refine .seq ?_
 refine .seq (.region [] mixed (by kernel_rfl) ?_)
 refine .cons (.move .none (.s rfl)) rfl ?_
 refine .cons (.len .none sl32 (.s rfl)) rfl ?_
 refine .cons (.gt .none (.s rfl) (.int (by decide))) rfl ?_
 refine .nil (.then ?_)
 refine .cond (t := 8) rfl trivial (fun hb1 => ?_) (fun hb1 => ?_)
 ·
  replace h := bif_t h hb1
  refine .seq (.region [] mixed (by kernel_rfl) ?_)
  refine .cons (.assign .none (.int (by decide))) rfl ?_
  refine .nil (.then ?_)
  refine .ret ?_
  refine .thenRet ?_
  obtain rfl := some_eq h
  exact Ends.ret1 (.inl rfl) Try.results56 (ResOK.tmp rfl trivial Imp.refl)
 ·
  replace h := bif_f h hb1
  refine .skip ?_
  refine .then ?_
  refine .seq ?_
  refine .seq (.region [] mixed (by kernel_rfl) ?_)
  refine .cons (.move .none (.s rfl)) rfl ?_
  refine .cons (.len .none sl32 (.s rfl)) rfl ?_
  refine .cons (.move .none (.int (by decide))) rfl ?_
  refine .nil (.then ?_)
  obtain ⟨o_2, h, hK2⟩ := bindR_some h
  refine .thenJ (ι := Unit) (fun j_2 => []) (fun j_2 => []) (fun s => o_2 = Res.nx s) Sub.nil SubB.nil ?_ (fun j_2 hj2 => ?_)
  ·
   skip
   refine .block ?_
   refine .rforEL h (fun p3_ => [(11, ⟨True, rep p3_.1⟩)]) (fun p3_ => []) (.k 11 rfl .nil) SubB.nil (.k 0 rfl (.k 9 rfl (.k 10 rfl .nil))) SubB.nil (fun p3_ o_3 h hD3 => ?_)
   refine .seq (.region [] mixed (by kernel_rfl) ?_)
   refine .cons (.lt .none (.s rfl) (.s rfl)) rfl ?_
   refine .nil (.then ?_)
   refine .seq ?_
   refine .cond (t := 12) rfl trivial (fun hb4 => ?_) (fun hb4 => ?_)
   ·
    replace h := bif_t h hb4
    refine .skip ?_
    refine .then ?_
    refine .seq ?_
    obtain ⟨o_5, h, hK5⟩ := bindD_some h
    unfold ref_RowError_L1 at h
    refine .thenJ (ι := Unit) (fun j_5 => []) (fun j_5 => []) (fun s => o_5 = Res.nx s) (.k 0 rfl (.k 9 rfl (.k 10 rfl (.k 11 rfl .nil)))) SubB.nil ?_ (fun j_5 hj5 => ?_)
    ·
     skip
     refine .block ?_
     refine .seq (.region [] mixed (by kernel_rfl) ?_)
     refine .cons (.move .none (.s rfl)) rfl ?_
     obtain ⟨hn6, h⟩ := need_some h
     refine .cons (.indexAddr .none sl32 ty3 (.s rfl) (.s rfl) (fun _ => hn6)) rfl ?_
     refine .cons (.load .none ty3 (.s rfl)) rfl ?_
     refine .cons (.assign .none (.s rfl)) rfl ?_
     obtain ⟨n1, hv7, h⟩ := bnd_some h
     refine .cons (.re hv7 (.assign .none (.s rfl))) rfl ?_
     refine .nil (.then ?_)
     refine .seq (.region [] mixed (by kernel_rfl) ?_)
     refine .cons (.move .none (.s rfl)) rfl ?_
     obtain ⟨r1, hv8, h⟩ := bind_some h
     refine .cons (.call .none (ref_In_ok hv8) (.cons (.s rfl) (.cons (.int (by decide)) (.cons (.int (by decide)) .nil)))) rfl ?_
     refine .cons (.not .none (.s rfl)) rfl ?_
     obtain ⟨r2, hv9, h⟩ := bind_some h
     refine .cons (.call .none (ref_When_ok hv9) (.cons (.s rfl) (.cons (.int (by decide)) .nil))) rfl ?_
     refine .cons (.move .none (.s rfl)) rfl ?_
     refine .cons (.move .none (.s rfl)) rfl ?_
     obtain ⟨hn10, h⟩ := need_some h
     refine .cons (.slice .none sl32 ty3 (.s rfl) rfl (.s rfl) (fun _ => hn10)) rfl ?_
     refine .cons (.move .none (.s rfl)) rfl ?_
     obtain ⟨r3, hv11, h⟩ := bind_some h
     refine .cons (.call .none (slices_Contains_int_ok hv11) (.cons (.s rfl) (.cons (.s rfl) .nil))) rfl ?_
     obtain ⟨r4, hv12, h⟩ := bind_some h
     refine .cons (.call .none (ref_When_ok hv12) (.cons (.s rfl) (.cons (.int (by decide)) .nil))) rfl ?_
     refine .cons (.buildSlice (xs := [_, _]) .none sl109 ty24 hz24 (.cons (.s rfl) (.cons (.s rfl) .nil)) rfl (by decide)) rfl ?_
     obtain ⟨e1, hv13, h⟩ := bind_some h
     refine .cons (.call .none (ref_First_ok hv13) (.cons (.s rfl) .nil)) rfl ?_
     refine .cons (.assign .none (.s rfl)) rfl ?_
     refine .nil (.then ?_)
     refine .seq (.region [] mixed (by kernel_rfl) ?_)
     refine .cons (.move .none (.s rfl)) rfl ?_
     refine .cons (.neI .none (.s rfl) (.int (by decide))) rfl ?_
     refine .nil (.then ?_)
     refine .cond (t := 29) rfl trivial (fun hb14 => ?_) (fun hb14 => ?_)
     ·
      replace h := bif_t h hb14
      refine .seq (.region [] mixed (by kernel_rfl) ?_)
      refine .cons (.move .none (.s rfl)) rfl ?_
      refine .cons (.assign .none (.s rfl)) rfl ?_
      refine .nil (.then ?_)
      refine .ret ?_
      refine .blkRet ?_
      refine .thenRet ?_
      refine .thenRet ?_
      refine .blkRet ?_
      refine .thenRet ?_
      replace h := resd_ab hK5 (some_eq h)
      replace h := hD3 _ (some_eq h)
      replace h := resb_ab hK2 (some_eq h)
      obtain rfl := some_eq h
      exact Ends.ret1 (.inl rfl) Try.results56 (ResOK.tmp rfl trivial Imp.refl)
     ·
      replace h := bif_f h hb14
      refine .skip ?_
      refine .blkNormal ?_
      exact Ends.join _ (some_eq h) (.k 0 rfl (.k 9 rfl (.k 10 rfl (.k 11 rfl .nil)))) SubB.nil
    ·
     have h := resd_nx hK5 hj5
     refine .region [] mixed (by kernel_rfl) ?_
     refine .cons (.addW .none (.s rfl) (.int (by decide))) rfl ?_
     refine .cons (.move .none (.s rfl)) rfl ?_
     refine .nil ?_
     exact Ends.againL (some_eq h) (.k 11 rfl (.k 0 rfl (.k 9 rfl (.k 10 rfl .nil)))) SubB.nil
   ·
    replace h := bif_f h hb4
    refine .exit ?_
    refine .thenExit ?_
    refine .thenExit ?_
    refine .blkExit ?_
    replace h := hD3 _ (some_eq h)
    exact Ends.join _ (some_eq h) Sub.nil SubB.nil
  ·
   have h := resb_nx hK2 hj2
   refine .seq (.region [] mixed (by kernel_rfl) ?_)
   refine .cons (.assign .none (.int (by decide))) rfl ?_
   refine .nil (.then ?_)
   refine .ret ?_
   obtain rfl := some_eq h
   exact Ends.ret1 (.inl rfl) Try.results56 (ResOK.tmp rfl trivial Imp.refl)

theorem ref_SweepError_ok {rows1 : (List (List Int))} {l1 : (List Link)} {rounds1 : Int} {r : Int}  (h : ref_SweepError rows1 l1 rounds1 = some r) : FSpec Try.prog 11 [rep rows1, rep l1, rep rounds1] (rep r) := by
 unfold ref_SweepError at h
 refine FSpec.intro (n := 101) fnok11 Try.func11 rfl Try.ntmps11 rfl (fun F => ?_)
 refine .seq (.region [] mixed (by kernel_rfl) ?_)
 refine .cons (.assign .none (.int (by decide))) rfl ?_
 refine .nil (.then ?_)
 refine .seq ?_
 refine .seq (.region [] mixed (by kernel_rfl) ?_)
 refine .cons (.move .none (.s rfl)) rfl ?_
 refine .cons (.len .none sl22 (.s rfl)) rfl ?_
 refine .cons (.gt .none (.s rfl) (.int (by decide))) rfl ?_
 refine .nil (.then ?_)
 refine .cond (t := 24) rfl trivial (fun hb1 => ?_) (fun hb1 => ?_)
 ·
  replace h := bif_t h hb1
  refine .seq (.region [] mixed (by kernel_rfl) ?_)
  refine .cons (.assign .none (.int (by decide))) rfl ?_
  refine .nil (.then ?_)
  refine .ret ?_
  refine .thenRet ?_
  obtain rfl := some_eq h
  exact Ends.ret1 (.inl rfl) Try.results11 (ResOK.tmp rfl trivial Imp.refl)
 ·
  replace h := bif_f h hb1
  refine .skip ?_
  refine .then ?_
  refine .seq (.region [([], [25]), ([25], [7, 25])] mixed (by kernel_rfl) ?_)
  refine .consW (.makeMap (K := Int) (V := Int) rfl) rfl rfl ?_
  refine .consW (.passRow rfl (.tmp rfl)) rfl rfl ?_
  refine .nil (.then ?_)
  obtain ⟨at1, hv2, h⟩ := bnd_some h
  refine .reB (t := 7) rfl (congrArg mapV hv2) ?_
  refine .nameMap (t := 7) (g := 5001) rfl rfl rfl (fun s5001 => ?_)
  refine .seq ?_
  refine .seq (.region [] mixed (by kernel_rfl) ?_)
  refine .cons (.move .none (.s rfl)) rfl ?_
  refine .cons (.len .none sl22 (.s rfl)) rfl ?_
  refine .cons (.move .none (.int (by decide))) rfl ?_
  refine .nil (.then ?_)
  obtain ⟨o_3, h, hK3⟩ := bindR_some h
  refine .thenJ (ι := (GMap Int Int)) (fun j_3 => []) (fun j_3 => [(5001, some (CPred.at s5001 (mapV j_3)))]) (fun s => o_3 = Res.nx s) (.k 1 rfl (.k 2 rfl (.k 7 rfl .nil))) SubB.nil ?_ (fun j_3 hj3 => ?_)
  ·
   skip
   refine .block ?_
   refine .rforEL h (fun p4_ => [(28, ⟨True, rep p4_.1⟩)]) (fun p4_ => [(5001, some (CPred.at s5001 (mapV p4_.2)))]) (.k 28 rfl .nil) (.k 5001 rfl .nil) (.k 1 rfl (.k 2 rfl (.k 7 rfl (.k 26 rfl (.k 27 rfl .nil))))) SubB.nil (fun p4_ o_4 h hD4 => ?_)
   refine .seq (.region [] mixed (by kernel_rfl) ?_)
   refine .cons (.lt .none (.s rfl) (.s rfl)) rfl ?_
   refine .nil (.then ?_)
   refine .seq ?_
   refine .cond (t := 29) rfl trivial (fun hb5 => ?_) (fun hb5 => ?_)
   ·
    replace h := bif_t h hb5
    refine .skip ?_
    refine .then ?_
    refine .seq ?_
    obtain ⟨o_6, h, hK6⟩ := bindD_some h
    unfold ref_SweepError_L1 at h
    refine .thenJ (ι := (GMap Int Int)) (fun j_6 => []) (fun j_6 => [(5001, some (CPred.at s5001 (mapV j_6)))]) (fun s => o_6 = Res.nx s) (.k 1 rfl (.k 2 rfl (.k 7 rfl (.k 26 rfl (.k 27 rfl (.k 28 rfl .nil)))))) SubB.nil ?_ (fun j_6 hj6 => ?_)
    ·
     skip
     refine .block ?_
     refine .seq (.region [] mixed (by kernel_rfl) ?_)
     refine .cons (.move .none (.s rfl)) rfl ?_
     obtain ⟨hn7, h⟩ := need_some h
     refine .cons (.indexAddr .none sl22 ty32 (.s rfl) (.s rfl) (fun _ => hn7)) rfl ?_
     refine .cons (.load .none ty32 (.s rfl)) rfl ?_
     refine .cons (.assign .none (.s rfl)) rfl ?_
     obtain ⟨r1, hv8, h⟩ := bnd_some h
     refine .cons (.re hv8 (.assign .none (.s rfl))) rfl ?_
     refine .nil (.then ?_)
     refine .seq ?_
     refine .seq (.region [] mixed (by kernel_rfl) ?_)
     refine .cons (.move .none (.s rfl)) rfl ?_
     obtain ⟨e1, hv9, h⟩ := bind_some h
     refine .cons (.call .none (ref_RowError_ok hv9) (.cons (.s rfl) .nil)) rfl ?_
     refine .cons (.assign .none (.s rfl)) rfl ?_
     refine .nil (.then ?_)
     refine .seq (.region [] mixed (by kernel_rfl) ?_)
     refine .cons (.move .none (.s rfl)) rfl ?_
     refine .cons (.neI .none (.s rfl) (.int (by decide))) rfl ?_
     refine .nil (.then ?_)
     refine .cond (t := 36) rfl trivial (fun hb10 => ?_) (fun hb10 => ?_)
     ·
      replace h := bif_t h hb10
      refine .seq (.region [] mixed (by kernel_rfl) ?_)
      refine .cons (.move .none (.s rfl)) rfl ?_
      refine .cons (.assign .none (.s rfl)) rfl ?_
      refine .nil (.then ?_)
      refine .ret ?_
      refine .thenRet ?_
      refine .blkRet ?_
      refine .thenRet ?_
      refine .thenRet ?_
      refine .blkRet ?_
      refine .thenRet ?_
      replace h := resd_ab hK6 (some_eq h)
      replace h := hD4 _ (some_eq h)
      replace h := resb_ab hK3 (some_eq h)
      obtain rfl := some_eq h
      exact Ends.ret1 (.inl rfl) Try.results11 (ResOK.tmp rfl trivial Imp.refl)
     ·
      replace h := bif_f h hb10
      refine .skip ?_
      refine .then ?_
      refine .seq (.region [] mixed (by kernel_rfl) ?_)
      refine .cons (.move .none (.s rfl)) rfl ?_
      refine .cons (.len .none sl32 (.s rfl)) rfl ?_
      refine .cons (.move .none (.int (by decide))) rfl ?_
      refine .nil (.then ?_)
      refine .block ?_
      refine .rforEL h (fun p11_ => [(40, ⟨True, rep p11_.1⟩)]) (fun p11_ => [(5001, some (CPred.at s5001 (mapV p11_.2)))]) (.k 40 rfl .nil) (.k 5001 rfl .nil) (.k 1 rfl (.k 2 rfl (.k 7 rfl (.k 8 rfl (.k 26 rfl (.k 27 rfl (.k 28 rfl (.k 38 rfl (.k 39 rfl .nil))))))))) SubB.nil (fun p11_ o_11 h hD11 => ?_)
      refine .seq (.region [] mixed (by kernel_rfl) ?_)
      refine .cons (.lt .none (.s rfl) (.s rfl)) rfl ?_
      refine .nil (.then ?_)
      refine .seq ?_
      refine .cond (t := 41) rfl trivial (fun hb12 => ?_) (fun hb12 => ?_)
      ·
       replace h := bif_t h hb12
       refine .skip ?_
       refine .then ?_
       refine .seq ?_
       obtain ⟨o_13, h, hK13⟩ := bindD_some h
       unfold ref_SweepError_L2 at h
       refine .thenJ (ι := (GMap Int Int)) (fun j_13 => []) (fun j_13 => [(5001, some (CPred.at s5001 (mapV j_13)))]) (fun s => o_13 = Res.nx s) (.k 1 rfl (.k 2 rfl (.k 7 rfl (.k 8 rfl (.k 26 rfl (.k 27 rfl (.k 28 rfl (.k 38 rfl (.k 39 rfl (.k 40 rfl .nil)))))))))) SubB.nil ?_ (fun j_13 hj13 => ?_)
       ·
        skip
        refine .block ?_
        refine .seq (.region [] mixed (by kernel_rfl) ?_)
        obtain ⟨hn14, h⟩ := need_some h
        refine .cons (.indexAddr .none sl32 ty3 (.s rfl) (.s rfl) (fun _ => hn14)) rfl ?_
        refine .cons (.load .none ty3 (.s rfl)) rfl ?_
        obtain ⟨n1, hv15, h⟩ := bnd_some h
        refine .cons (.re hv15 (.assign .none (.s rfl))) rfl ?_
        refine .nil (.then ?_)
        refine .seq ?_
        refine .seq (.region [([], []), ([], []), ([5001], []), ([], []), ([], []), ([], []), ([], []), ([], [])] mixed (by kernel_rfl) ?_)
        refine .consA (.move .none (.s rfl)) rfl ?_
        refine .consA (.move .none (.s rfl)) rfl ?_
        refine .consA (.lookupOkO (q := 5001) .none mo88 zo3 ownMap_self (.told (.s rfl) rfl) (.s rfl)) rfl ?_
        refine .consA (.move .none (.s rfl)) rfl ?_
        refine .consA (.extract .none (.s rfl) rfl) rfl ?_
        refine .consA (.extract .none (.s rfl) rfl) rfl ?_
        refine .consA (.assign .none (.s rfl)) rfl ?_
        refine .consA (.assign .none (.s rfl)) rfl ?_
        refine .nil (.then ?_)
        refine .seq (.region [] mixed (by kernel_rfl) ?_)
        refine .cons (.move .none (.s rfl)) rfl ?_
        refine .nil (.then ?_)
        refine .cond (t := 50) rfl trivial (fun hb16 => ?_) (fun hb16 => ?_)
        ·
         replace h := bif_t h hb16
         refine .seq (.region [] mixed (by kernel_rfl) ?_)
         refine .cons (.assign .none (.int (by decide))) rfl ?_
         refine .nil (.then ?_)
         refine .ret ?_
         refine .thenRet ?_
         refine .blkRet ?_
         refine .thenRet ?_
         refine .thenRet ?_
         refine .blkRet ?_
         refine .blkRet ?_
         refine .thenRet ?_
         refine .thenRet ?_
         refine .blkRet ?_
         refine .thenRet ?_
         replace h := resd_ab hK13 (some_eq h)
         replace h := hD11 _ (some_eq h)
         replace h := resd_ab hK6 (some_eq h)
         replace h := hD4 _ (some_eq h)
         replace h := resb_ab hK3 (some_eq h)
         obtain rfl := some_eq h
         exact Ends.ret1 (.inl rfl) Try.results11 (ResOK.tmp rfl trivial Imp.refl)
        ·
         replace h := bif_f h hb16
         refine .skip ?_
         refine .then ?_
         refine .region [([], []), ([], []), ([], []), ([5001], [5001])] mixed (by kernel_rfl) ?_
         refine .consA (.move .none (.s rfl)) rfl ?_
         refine .consA (.move .none (.s rfl)) rfl ?_
         refine .consA (.move .none (.s rfl)) rfl ?_
         refine .consN (.mapUpdate (q := 5001) mo88 (.s rfl) rfl (.s rfl) (.s rfl)) rfl ?_
         refine .nil ?_
         refine .blkNormal ?_
         exact Ends.join _ (some_eq h) (.k 1 rfl (.k 2 rfl (.k 7 rfl (.k 8 rfl (.k 26 rfl (.k 27 rfl (.k 28 rfl (.k 38 rfl (.k 39 rfl (.k 40 rfl .nil)))))))))) (.k 5001 rfl .nil)
       ·
        have h := resd_nx hK13 hj13
        refine .region [] mixed (by kernel_rfl) ?_
        refine .cons (.addW .none (.s rfl) (.int (by decide))) rfl ?_
        refine .cons (.move .none (.s rfl)) rfl ?_
        refine .nil ?_
        exact Ends.againL (some_eq h) (.k 40 rfl (.k 1 rfl (.k 2 rfl (.k 7 rfl (.k 8 rfl (.k 26 rfl (.k 27 rfl (.k 28 rfl (.k 38 rfl (.k 39 rfl .nil)))))))))) (.k 5001 rfl .nil)
      ·
       replace h := bif_f h hb12
       refine .exit ?_
       refine .thenExit ?_
       refine .thenExit ?_
       refine .blkExit ?_
       refine .blkNormal ?_
       replace h := hD11 _ (some_eq h)
       exact Ends.join _ (some_eq h) (.k 1 rfl (.k 2 rfl (.k 7 rfl (.k 26 rfl (.k 27 rfl (.k 28 rfl .nil)))))) (.k 5001 rfl .nil)
    ·
     have h := resd_nx hK6 hj6
     refine .region [] mixed (by kernel_rfl) ?_
     refine .cons (.addW .none (.s rfl) (.int (by decide))) rfl ?_
     refine .cons (.move .none (.s rfl)) rfl ?_
     refine .nil ?_
     exact Ends.againL (some_eq h) (.k 28 rfl (.k 1 rfl (.k 2 rfl (.k 7 rfl (.k 26 rfl (.k 27 rfl .nil)))))) (.k 5001 rfl .nil)
   ·
    replace h := bif_f h hb5
    refine .exit ?_
    refine .thenExit ?_
    refine .thenExit ?_
    refine .blkExit ?_
    replace h := hD4 _ (some_eq h)
    exact Ends.join _ (some_eq h) (.k 1 rfl (.k 2 rfl (.k 7 rfl .nil))) (.k 5001 rfl .nil)
  ·
   have h := resb_nx hK3 hj3
   refine .freezeAt (g := 5001) (S := rep j_3) (ts := [7]) rfl (.cons (t := 7) rfl trivial .nil) SubB.nil rfl (fun M D w h hms => mapV_rep h hms) ?_
   refine .seq ?_
   refine .seq (.region [] mixed (by kernel_rfl) ?_)
   refine .cons (.move .none (.s rfl)) rfl ?_
   refine .cons (.len .none sl23 (.s rfl)) rfl ?_
   refine .cons (.gt .none (.s rfl) (.int (by decide))) rfl ?_
   refine .nil (.then ?_)
   refine .cond (t := 58) rfl trivial (fun hb17 => ?_) (fun hb17 => ?_)
   ·
    replace h := bif_t h hb17
    refine .seq (.region [] mixed (by kernel_rfl) ?_)
    refine .cons (.assign .none (.int (by decide))) rfl ?_
    refine .nil (.then ?_)
    refine .ret ?_
    refine .thenRet ?_
    obtain rfl := some_eq h
    exact Ends.ret1 (.inl rfl) Try.results11 (ResOK.tmp rfl trivial Imp.refl)
   ·
    replace h := bif_f h hb17
    refine .skip ?_
    refine .then ?_
    refine .seq ?_
    refine .seq (.region [] mixed (by kernel_rfl) ?_)
    refine .cons (.move .none (.s rfl)) rfl ?_
    refine .cons (.len .none sl23 (.s rfl)) rfl ?_
    refine .cons (.move .none (.int (by decide))) rfl ?_
    refine .nil (.then ?_)
    obtain ⟨o_18, h, hK18⟩ := bindR_some h
    refine .thenJ (ι := Unit) (fun j_18 => []) (fun j_18 => []) (fun s => o_18 = Res.nx s) (.k 2 rfl .nil) SubB.nil ?_ (fun j_18 hj18 => ?_)
    ·
     skip
     refine .block ?_
     refine .rforEL h (fun p19_ => [(61, ⟨True, rep p19_.1⟩)]) (fun p19_ => []) (.k 61 rfl .nil) SubB.nil (.k 2 rfl (.k 7 rfl (.k 59 rfl (.k 60 rfl .nil)))) SubB.nil (fun p19_ o_19 h hD19 => ?_)
     refine .seq (.region [] mixed (by kernel_rfl) ?_)
     refine .cons (.lt .none (.s rfl) (.s rfl)) rfl ?_
     refine .nil (.then ?_)
     refine .seq ?_
     refine .cond (t := 62) rfl trivial (fun hb20 => ?_) (fun hb20 => ?_)
     ·
      replace h := bif_t h hb20
      refine .skip ?_
      refine .then ?_
      refine .seq ?_
      obtain ⟨o_21, h, hK21⟩ := bindD_some h
      unfold ref_SweepError_L3 at h
      refine .thenJ (ι := Unit) (fun j_21 => []) (fun j_21 => []) (fun s => o_21 = Res.nx s) (.k 2 rfl (.k 7 rfl (.k 59 rfl (.k 60 rfl (.k 61 rfl .nil))))) SubB.nil ?_ (fun j_21 hj21 => ?_)
      ·
       skip
       refine .block ?_
       refine .seq (.region [([], []), ([], []), ([], [16]), ([16], [16])] mixed (by kernel_rfl) ?_)
       obtain ⟨hn22, h⟩ := need_some h
       refine .consA (.indexAddr .none sl23 ty79 (.s rfl) (.s rfl) (fun _ => hn22)) rfl ?_
       obtain ⟨v1, hv23, h⟩ := bnd_some h
       refine .consA (.re hv23 (.load .none ty79 (.s rfl))) rfl ?_
       refine .consW (.alloc zo79 rfl) rfl rfl ?_
       refine .consN (.store ty79 rfl rfl (.s rfl)) rfl ?_
       refine .nil (.then ?_)
       refine .freeze (t := 16) rfl rfl SubB.nil rfl ?_
       refine .seq (.region [] mixed (by kernel_rfl) ?_)
       refine .cons (.move .none (.s rfl)) rfl ?_
       refine .cons (.fieldAddr .none fd79_0 hfd79_0 (.s rfl)) rfl ?_
       refine .cons (.load .none ty3 (.s rfl)) rfl ?_
       refine .cons (.lookupOk .none mo88 zo3 (.s rfl) (.s rfl)) rfl ?_
       refine .cons (.move .none (.s rfl)) rfl ?_
       refine .cons (.extract .none (.s rfl) rfl) rfl ?_
       refine .cons (.extract .none (.s rfl) rfl) rfl ?_
       refine .cons (.assign .none (.s rfl)) rfl ?_
       refine .cons (.assign .none (.s rfl)) rfl ?_
       refine .nil (.then ?_)
       refine .seq (.region [] mixed (by kernel_rfl) ?_)
       refine .cons (.move .none (.s rfl)) rfl ?_
       refine .cons (.fieldAddr .none fd79_1 hfd79_1 (.s rfl)) rfl ?_
       refine .cons (.load .none ty3 (.s rfl)) rfl ?_
       refine .cons (.lookupOk .none mo88 zo3 (.s rfl) (.s rfl)) rfl ?_
       refine .cons (.move .none (.s rfl)) rfl ?_
       refine .cons (.extract .none (.s rfl) rfl) rfl ?_
       refine .cons (.extract .none (.s rfl) rfl) rfl ?_
       refine .cons (.assign .none (.s rfl)) rfl ?_
       refine .cons (.assign .none (.s rfl)) rfl ?_
       refine .nil (.then ?_)
       refine .seq (.region [] mixed (by kernel_rfl) ?_)
       refine .cons (.move .none (.s rfl)) rfl ?_
       refine .cons (.not .none (.s rfl)) rfl ?_
       refine .cons (.move .none (.s rfl)) rfl ?_
       refine .cons (.move (.at rfl rfl) (.s rfl)) rfl ?_
       refine .cons (.not (.at rfl rfl) (.tmp rfl id)) rfl ?_
       refine .cons (.pickOr .none (.s rfl) (.tmp rfl id)) rfl ?_
       obtain ⟨r2, hv24, h⟩ := bind_some h
       refine .cons (.call .none (ref_When_ok hv24) (.cons (.s rfl) (.cons (.int (by decide)) .nil))) rfl ?_
       refine .cons (.move .none (.s rfl)) rfl ?_
       refine .cons (.move .none (.s rfl)) rfl ?_
       refine .cons (.addW .none (.s rfl) (.int (by decide))) rfl ?_
       refine .cons (.neI .none (.s rfl) (.s rfl)) rfl ?_
       obtain ⟨r3, hv25, h⟩ := bind_some h
       refine .cons (.call .none (ref_When_ok hv25) (.cons (.s rfl) (.cons (.int (by decide)) .nil))) rfl ?_
       refine .cons (.buildSlice (xs := [_, _]) .none sl109 ty24 hz24 (.cons (.s rfl) (.cons (.s rfl) .nil)) rfl (by decide)) rfl ?_
       obtain ⟨e2, hv26, h⟩ := bind_some h
       refine .cons (.call .none (ref_First_ok hv26) (.cons (.s rfl) .nil)) rfl ?_
       refine .cons (.assign .none (.s rfl)) rfl ?_
       refine .nil (.then ?_)
       refine .seq (.region [] mixed (by kernel_rfl) ?_)
       refine .cons (.move .none (.s rfl)) rfl ?_
       refine .cons (.neI .none (.s rfl) (.int (by decide))) rfl ?_
       refine .nil (.then ?_)
       refine .cond (t := 94) rfl trivial (fun hb27 => ?_) (fun hb27 => ?_)
       ·
        replace h := bif_t h hb27
        refine .seq (.region [] mixed (by kernel_rfl) ?_)
        refine .cons (.move .none (.s rfl)) rfl ?_
        refine .cons (.assign .none (.s rfl)) rfl ?_
        refine .nil (.then ?_)
        refine .ret ?_
        refine .blkRet ?_
        refine .thenRet ?_
        refine .thenRet ?_
        refine .blkRet ?_
        refine .thenRet ?_
        replace h := resd_ab hK21 (some_eq h)
        replace h := hD19 _ (some_eq h)
        replace h := resb_ab hK18 (some_eq h)
        obtain rfl := some_eq h
        exact Ends.ret1 (.inl rfl) Try.results11 (ResOK.tmp rfl trivial Imp.refl)
       ·
        replace h := bif_f h hb27
        refine .skip ?_
        refine .blkNormal ?_
        exact Ends.join _ (some_eq h) (.k 2 rfl (.k 7 rfl (.k 59 rfl (.k 60 rfl (.k 61 rfl .nil))))) SubB.nil
      ·
       have h := resd_nx hK21 hj21
       refine .region [] mixed (by kernel_rfl) ?_
       refine .cons (.addW .none (.s rfl) (.int (by decide))) rfl ?_
       refine .cons (.move .none (.s rfl)) rfl ?_
       refine .nil ?_
       exact Ends.againL (some_eq h) (.k 61 rfl (.k 2 rfl (.k 7 rfl (.k 59 rfl (.k 60 rfl .nil))))) SubB.nil
     ·
      replace h := bif_f h hb20
      refine .exit ?_
      refine .thenExit ?_
      refine .thenExit ?_
      refine .blkExit ?_
      replace h := hD19 _ (some_eq h)
      exact Ends.join _ (some_eq h) (.k 2 rfl .nil) SubB.nil
    ·
     have h := resb_nx hK18 hj18
     refine .seq (.region [] mixed (by kernel_rfl) ?_)
     refine .cons (.move .none (.s rfl)) rfl ?_
     obtain ⟨r4, hv28, h⟩ := bind_some h
     refine .cons (.call .none (ref_In_ok hv28) (.cons (.s rfl) (.cons (.int (by decide)) (.cons (.int (by decide)) .nil)))) rfl ?_
     refine .cons (.not .none (.s rfl)) rfl ?_
     obtain ⟨r5, hv29, h⟩ := bind_some h
     refine .cons (.call .none (ref_When_ok hv29) (.cons (.s rfl) (.cons (.int (by decide)) .nil))) rfl ?_
     refine .cons (.assign .none (.s rfl)) rfl ?_
     refine .nil (.then ?_)
     refine .ret ?_
     obtain rfl := some_eq h
     exact Ends.ret1 (.inl rfl) Try.results11 (ResOK.tmp rfl trivial Imp.refl)

theorem layer_Check_1_ok {k1 : Int} {c0_1 : Int} {r : Bool}  (h : layer_Check_1 k1 c0_1 = some r) : FSpec Try.prog 65 [rep k1, ref c0_1] (rep r) := by
 unfold layer_Check_1 at h
 refine FSpec.intro (n := 11) fnok65 Try.func65 rfl Try.ntmps65 rfl (fun F => ?_)
 refine .seq (.region [] mixed (by kernel_rfl) ?_)
 refine .cons (.assign .none .bool) rfl ?_
 refine .nil (.then ?_)
 refine .seq (.region [] mixed (by kernel_rfl) ?_)
 refine .cons (.move .none (.s rfl)) rfl ?_
 refine .cons (.ge .none (.s rfl) (.int (by decide))) rfl ?_
 refine .cons (.move .none (.s rfl)) rfl ?_
 refine .cons (.move (.at rfl rfl) (.s rfl)) rfl ?_
 refine .cons (.load (.at rfl rfl) ty3 (.s rfl)) rfl ?_
 refine .cons (.lt (.at rfl rfl) (.tmp rfl id) (.tmp rfl id)) rfl ?_
 refine .cons (.pickAnd .none (.s rfl) (.tmp rfl id)) rfl ?_
 refine .cons (.assign .none (.s rfl)) rfl ?_
 refine .nil (.then ?_)
 refine .ret ?_
 obtain rfl := some_eq h
 exact Ends.ret1 (.inl rfl) Try.results65 (ResOK.tmp rfl trivial Imp.refl)

theorem layer_Check_ok {n1 : Int} {l1 : (List Link)} {r : Int}  (h : layer_Check n1 l1 = some r) : FSpec Try.prog 19 [rep n1, rep l1] (rep r) := by
 unfold layer_Check at h
 refine FSpec.intro (n := 44) fnok19 Try.func19 rfl Try.ntmps19 rfl (fun F => ?_)
 refine .seq (.region [] mixed (by kernel_rfl) ?_)
 refine .cons (.box .none (.s rfl)) rfl ?_
 refine .cons (.assign .none (.int (by decide))) rfl ?_
 refine .nil (.then ?_)
 refine .seq ?_
 refine .block ?_
 refine .seq (.region [] mixed (by kernel_rfl) ?_)
 refine .cons (.load .none ty3 (.s rfl)) rfl ?_
 refine .cons (.lt .none (.s rfl) (.int (by decide))) rfl ?_
 refine .cons (.move .none (.s rfl)) rfl ?_
 refine .cons (.load (.at rfl rfl) ty3 (.s rfl)) rfl ?_
 refine .cons (.gt (.at rfl rfl) (.tmp rfl id) (.int (by decide))) rfl ?_
 refine .cons (.pickOr .none (.s rfl) (.tmp rfl id)) rfl ?_
 refine .cons (.assign .none (.s rfl)) rfl ?_
 refine .nil (.then ?_)
 refine .cond (t := 8) rfl trivial (fun hb1 => ?_) (fun hb1 => ?_)
 ·
  replace h := bif_t h hb1
  refine .seq (.region [] mixed (by kernel_rfl) ?_)
  refine .cons (.assign .none (.int (by decide))) rfl ?_
  refine .nil (.then ?_)
  refine .ret ?_
  refine .blkRet ?_
  refine .thenRet ?_
  obtain rfl := some_eq h
  exact Ends.ret1 (.inl rfl) Try.results19 (ResOK.tmp rfl trivial Imp.refl)
 ·
  replace h := bif_f h hb1
  refine .seq (.region [] mixed (by kernel_rfl) ?_)
  refine .cons (.move .none (.s rfl)) rfl ?_
  refine .cons (.len .none sl23 (.s rfl)) rfl ?_
  refine .cons (.gt .none (.s rfl) (.int (by decide))) rfl ?_
  refine .cons (.assign .none (.s rfl)) rfl ?_
  refine .nil (.then ?_)
  refine .cond (t := 15) rfl trivial (fun hb2 => ?_) (fun hb2 => ?_)
  ·
   replace h := bif_t h hb2
   refine .seq (.region [] mixed (by kernel_rfl) ?_)
   refine .cons (.assign .none (.int (by decide))) rfl ?_
   refine .nil (.then ?_)
   refine .ret ?_
   refine .blkRet ?_
   refine .thenRet ?_
   obtain rfl := some_eq h
   exact Ends.ret1 (.inl rfl) Try.results19 (ResOK.tmp rfl trivial Imp.refl)
  ·
   replace h := bif_f h hb2
   refine .skip ?_
   refine .blkNormal ?_
   refine .then ?_
   refine .seq (.region [] mixed (by kernel_rfl) ?_)
   refine .cons (.makeFunc (ι := Int × Bool) (pre := fun i => (fun x0 => layer_Check_1 x0 n1) i.1 = some i.2) (Ss := fun i => [rep i.1]) (S := fun i => rep i.2) .none fnok65 (fun i h => layer_Check_1_ok h) (.cons (.s rfl) .nil)) rfl ?_
   refine .cons (.assign .none (.s rfl)) rfl ?_
   refine .nil (.then ?_)
   refine .seq ?_
   refine .seq (.region [] mixed (by kernel_rfl) ?_)
   refine .cons (.move .none (.s rfl)) rfl ?_
   refine .cons (.len .none sl23 (.s rfl)) rfl ?_
   refine .cons (.move .none (.int (by decide))) rfl ?_
   refine .nil (.then ?_)
   obtain ⟨o_3, h, hK3⟩ := bindR_some h
   refine .thenJ (ι := Unit) (fun j_3 => []) (fun j_3 => []) (fun s => o_3 = Res.nx s) Sub.nil SubB.nil ?_ (fun j_3 hj3 => ?_)
   ·
    skip
    refine .block ?_
    refine .rforEL h (fun p4_ => [(22, ⟨True, rep p4_.1⟩)]) (fun p4_ => []) (.k 22 rfl .nil) SubB.nil (.k 2 rfl (.k 5 rfl (.k 20 rfl (.k 21 rfl .nil)))) SubB.nil (fun p4_ o_4 h hD4 => ?_)
    refine .seq (.region [] mixed (by kernel_rfl) ?_)
    refine .cons (.lt .none (.s rfl) (.s rfl)) rfl ?_
    refine .nil (.then ?_)
    refine .seq ?_
    refine .cond (t := 23) rfl trivial (fun hb5 => ?_) (fun hb5 => ?_)
    ·
     replace h := bif_t h hb5
     refine .skip ?_
     refine .then ?_
     refine .seq ?_
     obtain ⟨o_6, h, hK6⟩ := bindD_some h
     unfold layer_Check_L1 at h
     refine .thenJ (ι := Unit) (fun j_6 => []) (fun j_6 => []) (fun s => o_6 = Res.nx s) (.k 2 rfl (.k 5 rfl (.k 20 rfl (.k 21 rfl (.k 22 rfl .nil))))) SubB.nil ?_ (fun j_6 hj6 => ?_)
     ·
      skip
      refine .block ?_
      refine .seq (.region [([], []), ([], []), ([], [7]), ([7], [7])] mixed (by kernel_rfl) ?_)
      obtain ⟨hn7, h⟩ := need_some h
      refine .consA (.indexAddr .none sl23 ty79 (.s rfl) (.s rfl) (fun _ => hn7)) rfl ?_
      obtain ⟨v1, hv8, h⟩ := bnd_some h
      refine .consA (.re hv8 (.load .none ty79 (.s rfl))) rfl ?_
      refine .consW (.alloc zo79 rfl) rfl rfl ?_
      refine .consN (.store ty79 rfl rfl (.s rfl)) rfl ?_
      refine .nil (.then ?_)
      refine .freeze (t := 7) rfl rfl SubB.nil rfl ?_
      refine .seq ?_
      refine .seq (.region [] mixed (by kernel_rfl) ?_)
      refine .cons (.move .none (.s rfl)) rfl ?_
      refine .cons (.fieldAddr .none fd79_0 hfd79_0 (.s rfl)) rfl ?_
      refine .cons (.load .none ty3 (.s rfl)) rfl ?_
      obtain ⟨r1, hv9, h⟩ := bind_some h
      refine .cons (.callV (v1.From, r1) .none (.s rfl) (fun _ => hv9) (.cons (.s rfl) .nil)) rfl ?_
      refine .cons (.not .none (.s rfl)) rfl ?_
      refine .cons (.move .none (.s rfl)) rfl ?_
      refine .cons (.move (.at rfl rfl) (.s rfl)) rfl ?_
      refine .cons (.fieldAddr (.at rfl rfl) fd79_1 hfd79_1 (.s rfl)) rfl ?_
      refine .cons (.load (.at rfl rfl) ty3 (.tmp rfl id)) rfl ?_
      obtain ⟨r2, hv10, h⟩ := bind_some h
      refine .cons (.callV (v1.To, r2) (.at rfl rfl) (.tmp rfl id) (fun hg => gd_some hv10 ((notT hg.2))) (.cons (.tmp rfl id) .nil)) rfl ?_
      refine .cons (.not (.at rfl rfl) (.tmp rfl id)) rfl ?_
      refine .cons (.pickOr .none (.s rfl) (.tmp rfl id)) rfl ?_
      refine .nil (.then ?_)
      refine .cond (t := 37) rfl trivial (fun hb11 => ?_) (fun hb11 => ?_)
      ·
       replace h := bif_t h hb11
       refine .seq (.region [] mixed (by kernel_rfl) ?_)
       refine .cons (.assign .none (.int (by decide))) rfl ?_
       refine .nil (.then ?_)
       refine .ret ?_
       refine .thenRet ?_
       refine .blkRet ?_
       refine .thenRet ?_
       refine .thenRet ?_
       refine .blkRet ?_
       refine .thenRet ?_
       replace h := resd_ab hK6 (some_eq h)
       replace h := hD4 _ (some_eq h)
       replace h := resb_ab hK3 (some_eq h)
       obtain rfl := some_eq h
       exact Ends.ret1 (.inl rfl) Try.results19 (ResOK.tmp rfl trivial Imp.refl)
      ·
       replace h := bif_f h hb11
       refine .skip ?_
       refine .then ?_
       refine .seq (.region [] mixed (by kernel_rfl) ?_)
       refine .cons (.fieldAddr .none fd79_0 hfd79_0 (.s rfl)) rfl ?_
       refine .cons (.load .none ty3 (.s rfl)) rfl ?_
       refine .cons (.fieldAddr .none fd79_1 hfd79_1 (.s rfl)) rfl ?_
       refine .cons (.load .none ty3 (.s rfl)) rfl ?_
       refine .cons (.eqI .none (.s rfl) (.s rfl)) rfl ?_
       refine .nil (.then ?_)
       refine .cond (t := 42) rfl trivial (fun hb12 => ?_) (fun hb12 => ?_)
       ·
        replace h := bif_t h hb12
        refine .seq (.region [] mixed (by kernel_rfl) ?_)
        refine .cons (.assign .none (.int (by decide))) rfl ?_
        refine .nil (.then ?_)
        refine .ret ?_
        refine .blkRet ?_
        refine .thenRet ?_
        refine .thenRet ?_
        refine .blkRet ?_
        refine .thenRet ?_
        replace h := resd_ab hK6 (some_eq h)
        replace h := hD4 _ (some_eq h)
        replace h := resb_ab hK3 (some_eq h)
        obtain rfl := some_eq h
        exact Ends.ret1 (.inl rfl) Try.results19 (ResOK.tmp rfl trivial Imp.refl)
       ·
        replace h := bif_f h hb12
        refine .skip ?_
        refine .blkNormal ?_
        exact Ends.join _ (some_eq h) (.k 2 rfl (.k 5 rfl (.k 20 rfl (.k 21 rfl (.k 22 rfl .nil))))) SubB.nil
     ·
      have h := resd_nx hK6 hj6
      refine .region [] mixed (by kernel_rfl) ?_
      refine .cons (.addW .none (.s rfl) (.int (by decide))) rfl ?_
      refine .cons (.move .none (.s rfl)) rfl ?_
      refine .nil ?_
      exact Ends.againL (some_eq h) (.k 22 rfl (.k 2 rfl (.k 5 rfl (.k 20 rfl (.k 21 rfl .nil))))) SubB.nil
    ·
     replace h := bif_f h hb5
     refine .exit ?_
     refine .thenExit ?_
     refine .thenExit ?_
     refine .blkExit ?_
     replace h := hD4 _ (some_eq h)
     exact Ends.join _ (some_eq h) Sub.nil SubB.nil
   ·
    have h := resb_nx hK3 hj3
    refine .seq (.region [] mixed (by kernel_rfl) ?_)
    refine .cons (.assign .none (.int (by decide))) rfl ?_
    refine .nil (.then ?_)
    refine .ret ?_
    obtain rfl := some_eq h
    exact Ends.ret1 (.inl rfl) Try.results19 (ResOK.tmp rfl trivial Imp.refl)

theorem law_layers_ok  {r : Bool}  (h : law_layers  = some r) : FSpec Try.prog 12 [] (rep r) := by
 unfold law_layers at h
 refine FSpec.intro (n := 7) fnok12 Try.func12 rfl Try.ntmps12 rfl (fun F => ?_)
 refine .seq (.region [] mixed (by kernel_rfl) ?_)
 refine .cons (.assign .none .bool) rfl ?_
 refine .nil (.then ?_)
 refine .seq (.region [] mixed (by kernel_rfl) ?_)
 obtain ⟨r1, hv1, h⟩ := bind_some h
 refine .cons (.call .none (layer_Check_ok hv1) (.cons (.int (by decide)) (.cons (.const (x := ([] : (List Link))) (fun M w => ⟨_, ⟨none, 0, rfl, Nat.le_refl _, by decide, rfl⟩, rfl⟩)) .nil))) rfl ?_
 refine .cons (.eqI .none (.s rfl) (.int (by decide))) rfl ?_
 refine .cons (.move .none (.s rfl)) rfl ?_
 obtain ⟨r2, hv2, h⟩ := bind_some h
 refine .cons (.callIf (.at rfl rfl) fnok19 (fun hg => layer_Check_ok ((fun hg => gd_some hv2 (hg.2)) hg)) (.cons (.int (by decide)) (.cons (.const (x := ([] : (List Link))) (fun M w => ⟨_, ⟨none, 0, rfl, Nat.le_refl _, by decide, rfl⟩, rfl⟩)) .nil)) (fun h => h)) rfl ?_
 refine .cons (.eqI (.at rfl rfl) (.tmp rfl id) (.int (by decide))) rfl ?_
 refine .cons (.pickAnd .none (.s rfl) (.tmp rfl id)) rfl ?_
 refine .cons (.assign .none (.s rfl)) rfl ?_
 refine .nil (.then ?_)
 refine .ret ?_
 obtain rfl := some_eq h
 exact Ends.ret1 (.inl rfl) Try.results12 (ResOK.tmp rfl trivial Imp.refl)

theorem ref_SweepOf_1_ok {c0_1 : (List (List Int))} {r : (List (List Int))}  (h : ref_SweepOf_1 c0_1 = some r) : FSpecO Try.prog 57 [ref c0_1] [] (anyV) [some (rowD 32 3 mkR subR [] r)] := by
 unfold ref_SweepOf_1 at h
 refine FSpecO.intro (n := 18) fnok57 Try.func57 rfl Try.ntmps57 rfl (fun F => ?_)
 refine .seq (.region [] mixed (by kernel_rfl) ?_)
 refine .cons (.assign .none (.const (x := ([] : (List (List Int)))) (fun M w => ⟨_, ⟨none, 0, rfl, Nat.le_refl _, by decide, rfl⟩, rfl⟩))) rfl ?_
 refine .nil (.then ?_)
 refine .seq (.region [([], [2])] mixed (by kernel_rfl) ?_)
 refine .consW (.post1 (.nilRow (T := 32) (α := Raw) rfl) (fun M D v w h => rowD_none (α := (List Int)) (E2 := 3) (mk := mkR) (sub := subR) h)) rfl rfl ?_
 refine .nil (.then ?_)
 refine .nameC (t := 2) (g := 5001) oneRowD rfl rfl rfl (fun s5001 => ?_)
 refine .seq ?_
 refine .seq (.region [] mixed (by kernel_rfl) ?_)
 refine .cons (.load .none ty22 (.s rfl)) rfl ?_
 refine .cons (.len .none sl22 (.s rfl)) rfl ?_
 refine .cons (.move .none (.int (by decide))) rfl ?_
 refine .nil (.then ?_)
 obtain ⟨j_1, h, hK1⟩ := bind_some h
 refine .thenJ (ι := (List (List Int))) (fun j_1 => []) (fun j_1 => [(2, some (rowD 32 3 mkR subR [] j_1))]) (fun s => j_1 = s) Sub.nil SubB.nil ?_ (fun j_1' hj1 => ?_)
 ·
  skip
  refine .block ?_
  refine .anon (t := 2) (g := 5001) rfl rfl trivial rfl ?_
  refine .rforL h (fun p2_ => [(7, ⟨True, rep p2_.1⟩)]) (fun p2_ => [(2, some (rowD 32 3 mkR subR [] p2_.2))]) (.k 7 rfl .nil) (.k 2 rfl .nil) (.k 5 rfl (.k 6 rfl .nil)) SubB.nil (fun p2_ o_2 h hD2 => ?_)
  refine .nameC (t := 2) (g := 5002) oneRowD rfl rfl rfl (fun s5002 => ?_)
  refine .seq (.region [] mixed (by kernel_rfl) ?_)
  refine .cons (.lt .none (.s rfl) (.s rfl)) rfl ?_
  refine .nil (.then ?_)
  refine .seq ?_
  refine .cond (t := 8) rfl trivial (fun hb3 => ?_) (fun hb3 => ?_)
  ·
   replace h := bif_t h hb3
   refine .skip ?_
   refine .then ?_
   refine .seq ?_
   obtain ⟨j_4, h, hK4⟩ := bind_some h
   unfold ref_SweepOf_1_L1 at h
   refine .thenJ (ι := (List (List Int))) (fun j_4 => []) (fun j_4 => [(2, some (rowD 32 3 mkR subR [] j_4))]) (fun s => j_4 = s) (.k 5 rfl (.k 6 rfl (.k 7 rfl .nil))) SubB.nil ?_ (fun j_4' hj4 => ?_)
   ·
    skip
    refine .block ?_
    refine .seq (.region [] mixed (by kernel_rfl) ?_)
    obtain ⟨hn5, h⟩ := need_some h
    refine .cons (.indexAddr .none sl22 ty32 (.s rfl) (.s rfl) (fun _ => hn5)) rfl ?_
    refine .cons (.load .none ty32 (.s rfl)) rfl ?_
    refine .cons (.assign .none (.s rfl)) rfl ?_
    refine .nil (.then ?_)
    refine .region [([], []), ([], []), ([], [13]), ([13], [14, 13]), ([5002, 14], [15, 5002, 14]), ([15], [2, 15])] mixed (by kernel_rfl) ?_
    refine .consA (.move .none (.s rfl)) rfl ?_
    refine .consA (.move .none (.s rfl)) rfl ?_
    obtain ⟨r1, hv6, h⟩ := bind_some h
    refine .consW (.callO [] (slices_Clone_int_ok hv6) (.cons (.s rfl) .nil) .nil rfl (by decide) (by decide) (by intro d h; cases h; decide)) rfl rfl ?_
    refine .consW (.buildD (E2 := 3) (t := 13) rfl sl22 tr32 hz32 rfl) rfl rfl ?_
    obtain ⟨hn7, h⟩ := need_some h
    refine .consW (.appendD (k := 5002) (k2 := 14) rkraw22 rfl (.told (.s rfl) rfl) rfl hn7 (by decide)) rfl rfl ?_
    refine .consWD (.passRow rfl (.tmp rfl)) rfl rfl ?_
    refine .nil ?_
    refine .blkNormal ?_
    exact Ends.join _ (some_eq h) (.k 5 rfl (.k 6 rfl (.k 7 rfl .nil))) (.k 2 rfl .nil)
   ·
    subst hj4; have h := hK4; clear hK4
    refine .nameC (t := 2) (g := 5003) oneRowD rfl rfl rfl (fun s5003 => ?_)
    refine .region [] mixed (by kernel_rfl) ?_
    refine .cons (.addW .none (.s rfl) (.int (by decide))) rfl ?_
    refine .cons (.move .none (.s rfl)) rfl ?_
    refine .nil ?_
    refine .anon (t := 2) (g := 5003) rfl rfl trivial rfl ?_
    exact Ends.againL (some_eq h) (.k 7 rfl (.k 5 rfl (.k 6 rfl .nil))) (.k 2 rfl .nil)
  ·
   replace h := bif_f h hb3
   refine .exit ?_
   refine .thenExit ?_
   refine .thenExit ?_
   refine .blkExit ?_
   refine .anon (t := 2) (g := 5002) rfl rfl trivial rfl ?_
   replace h := hD2 _ (some_eq h)
   exact Ends.join _ (some_eq h) Sub.nil (.k 2 rfl .nil)
 ·
  subst hj1; have h := hK1; clear hK1
  refine .nameC (t := 2) (g := 5004) oneRowD rfl rfl rfl (fun s5004 => ?_)
  refine .seq (.region [] mixed (by kernel_rfl) ?_)
  refine .cons (.move .none (.s rfl)) rfl ?_
  refine .cons (.assign .none (.s rfl)) rfl ?_
  refine .nil (.then ?_)
  refine .ret ?_
  refine .anon (t := 1) (g := 5004) rfl rfl trivial rfl ?_
  obtain rfl := some_eq h
  exact Ends.ret1O (.inl rfl) [1] Try.results57 (by decide) (.res rfl rfl) (ResOK.tmp rfl trivial (fun _ _ _ _ => trivial))

theorem ref_between_1_ok {x1 : Link} {c0_1 : (List Int)} {c1_1 : (List Int)} {r : Bool}  (h : ref_between_1 x1 c0_1 c1_1 = some r) : FSpec Try.prog 118 [rep x1, ref c0_1, ref c1_1] (rep r) := by
 unfold ref_between_1 at h
 refine FSpec.intro (n := 17) fnok118 Try.func118 rfl Try.ntmps118 rfl (fun F => ?_)
 refine .seq (.region [] mixed (by kernel_rfl) ?_)
 refine .cons (.box .none (.s rfl)) rfl ?_
 refine .cons (.assign .none .bool) rfl ?_
 refine .nil (.then ?_)
 refine .seq (.region [] mixed (by kernel_rfl) ?_)
 refine .cons (.load .none ty32 (.s rfl)) rfl ?_
 refine .cons (.fieldAddr .none fd79_0 hfd79_0 (.s rfl)) rfl ?_
 refine .cons (.load .none ty3 (.s rfl)) rfl ?_
 obtain ⟨r1, hv1, h⟩ := bind_some h
 refine .cons (.call .none (slices_Contains_int_ok hv1) (.cons (.s rfl) (.cons (.s rfl) .nil))) rfl ?_
 refine .cons (.not .none (.s rfl)) rfl ?_
 refine .cons (.move .none (.s rfl)) rfl ?_
 refine .cons (.load (.at rfl rfl) ty32 (.s rfl)) rfl ?_
 refine .cons (.fieldAddr (.at rfl rfl) fd79_1 hfd79_1 (.s rfl)) rfl ?_
 refine .cons (.load (.at rfl rfl) ty3 (.tmp rfl id)) rfl ?_
 obtain ⟨r2, hv2, h⟩ := bind_some h
 refine .cons (.callIf (.at rfl rfl) fnok79 (fun hg => slices_Contains_int_ok ((fun hg => gd_some hv2 ((notT hg.2))) hg)) (.cons (.tmp rfl id) (.cons (.tmp rfl id) .nil)) (fun h => h)) rfl ?_
 refine .cons (.not (.at rfl rfl) (.tmp rfl id)) rfl ?_
 refine .cons (.pickOr .none (.s rfl) (.tmp rfl id)) rfl ?_
 refine .cons (.assign .none (.s rfl)) rfl ?_
 refine .nil (.then ?_)
 refine .ret ?_
 obtain rfl := some_eq h
 exact Ends.ret1 (.inl rfl) Try.results118 (ResOK.tmp rfl trivial Imp.refl)

theorem ref_between_ok {upper1 : (List Int)} {lower1 : (List Int)} {l1 : (List Link)} {r : (List Link)}  (h : ref_between upper1 lower1 l1 = some r) : FSpec Try.prog 103 [rep upper1, rep lower1, rep l1] (rep r) := by
 unfold ref_between at h
 refine FSpec.intro (n := 11) fnok103 Try.func103 rfl Try.ntmps103 rfl (fun F => ?_)
 refine .seq (.region [] mixed (by kernel_rfl) ?_)
 refine .cons (.box .none (.s rfl)) rfl ?_
 refine .cons (.box .none (.s rfl)) rfl ?_
 refine .cons (.assign .none (.const (x := ([] : (List Link))) (fun M w => ⟨_, ⟨none, 0, rfl, Nat.le_refl _, by decide, rfl⟩, rfl⟩))) rfl ?_
 refine .nil (.then ?_)
 refine .seq (.region [([], []), ([], [8]), ([], []), ([8], [8]), ([], [])] mixed (by kernel_rfl) ?_)
 refine .consA (.move .none (.s rfl)) rfl ?_
 obtain ⟨r1, hv1, h⟩ := bind_some h
 refine .consW (.callO [] (slices_Clone_Link_ok hv1) (.cons (.s rfl) .nil) .nil rfl (by decide) (by decide) (by intro d h; cases h; decide)) rfl rfl ?_
 refine .consA (.makeFunc (ι := Link × Bool) (pre := fun i => (fun x0 => ref_between_1 x0 upper1 lower1) i.1 = some i.2) (Ss := fun i => [rep i.1]) (S := fun i => rep i.2) .none fnok118 (fun i h => ref_between_1_ok h) (.cons (.s rfl) (.cons (.s rfl) .nil))) rfl ?_
 obtain ⟨r2, hv2, h⟩ := bind_some h
 refine .consW (.tell (t := 8) rfl row_one rfl (by decide) (fun _ => StepOK.callO [8] ((slices_DeleteFunc_Link_ok hv2).frzO1) (.cons (.s rfl) (.cons (.s rfl) .nil)) (.cons (k := 8) rfl .nil) rfl (by decide) (by decide) (by intro d h; cases h; decide))) rfl rfl ?_
 refine .consA (.assign .none (.s rfl)) rfl ?_
 refine .nil (.then ?_)
 refine .ret ?_
 obtain rfl := some_eq h
 exact Ends.ret1 (.inl rfl) Try.results103 (ResOK.tmp rfl trivial Imp.refl)

theorem ref_Sign_ok {n1 : Int} {r : Int}  (h : ref_Sign n1 = some r) : FSpec Try.prog 82 [rep n1] (rep r) := by
 unfold ref_Sign at h
 refine FSpec.intro (n := 6) fnok82 Try.func82 rfl Try.ntmps82 rfl (fun F => ?_)
 refine .seq (.region [] mixed (by kernel_rfl) ?_)
 refine .cons (.assign .none (.int (by decide))) rfl ?_
 refine .nil (.then ?_)
 refine .seq (.region [] mixed (by kernel_rfl) ?_)
 refine .cons (.move .none (.s rfl)) rfl ?_
 refine .cons (.max2 .none (.s rfl) (.int (by decide))) rfl ?_
 refine .cons (.min2 .none (.s rfl) (.int (by decide))) rfl ?_
 refine .cons (.assign .none (.s rfl)) rfl ?_
 refine .nil (.then ?_)
 refine .ret ?_
 obtain rfl := some_eq h
 exact Ends.ret1 (.inl rfl) Try.results82 (ResOK.tmp rfl trivial Imp.refl)

theorem ref_CrossingsOf_ok {upper1 : (List Int)} {lower1 : (List Int)} {l1 : (List Link)} {r : Int}  (h : ref_CrossingsOf upper1 lower1 l1 = some r) : FSpec Try.prog 42 [rep upper1, rep lower1, rep l1] (rep r) := by
 unfold ref_CrossingsOf at h
 refine FSpec.intro (n := 58) fnok42 Try.func42 rfl Try.ntmps42 rfl (fun F => ?_)
 refine .seq (.region [] mixed (by kernel_rfl) ?_)
 refine .cons (.assign .none (.int (by decide))) rfl ?_
 refine .nil (.then ?_)
 refine .seq (.region [] mixed (by kernel_rfl) ?_)
 refine .cons (.assign .none (.int (by decide))) rfl ?_
 refine .nil (.then ?_)
 refine .seq ?_
 refine .seq (.region [] mixed (by kernel_rfl) ?_)
 refine .cons (.move .none (.s rfl)) rfl ?_
 refine .cons (.len .none sl23 (.s rfl)) rfl ?_
 refine .cons (.move .none (.int (by decide))) rfl ?_
 refine .nil (.then ?_)
 obtain ⟨j_1, h, hK1⟩ := bind_some h
 refine .thenJ (ι := Int) (fun j_1 => [(7, ⟨True, rep j_1⟩)]) (fun j_1 => []) (fun s => j_1 = s) Sub.nil SubB.nil ?_ (fun j_1' hj1 => ?_)
 ·
  skip
  refine .block ?_
  refine .rforL h (fun p2_ => [(16, ⟨True, rep p2_.1⟩), (7, ⟨True, rep p2_.2⟩)]) (fun p2_ => []) (.k 16 rfl (.k 7 rfl .nil)) SubB.nil (.k 0 rfl (.k 1 rfl (.k 2 rfl (.k 14 rfl (.k 15 rfl .nil))))) SubB.nil (fun p2_ o_2 h hD2 => ?_)
  refine .seq (.region [] mixed (by kernel_rfl) ?_)
  refine .cons (.lt .none (.s rfl) (.s rfl)) rfl ?_
  refine .nil (.then ?_)
  refine .seq ?_
  refine .cond (t := 17) rfl trivial (fun hb3 => ?_) (fun hb3 => ?_)
  ·
   replace h := bif_t h hb3
   refine .skip ?_
   refine .then ?_
   refine .seq ?_
   obtain ⟨j_4, h, hK4⟩ := bind_some h
   unfold ref_CrossingsOf_L1 at h
   refine .thenJ (ι := Int) (fun j_4 => [(7, ⟨True, rep j_4⟩)]) (fun j_4 => []) (fun s => j_4 = s) (.k 0 rfl (.k 1 rfl (.k 2 rfl (.k 14 rfl (.k 15 rfl (.k 16 rfl .nil)))))) SubB.nil ?_ (fun j_4' hj4 => ?_)
   ·
    skip
    refine .block ?_
    refine .seq (.region [([], []), ([], []), ([], []), ([], [9]), ([], []), ([9], [9])] mixed (by kernel_rfl) ?_)
    refine .consA (.move .none (.s rfl)) rfl ?_
    obtain ⟨hn5, h⟩ := need_some h
    refine .consA (.indexAddr .none sl23 ty79 (.s rfl) (.s rfl) (fun _ => hn5)) rfl ?_
    obtain ⟨v1, hv6, h⟩ := bnd_some h
    refine .consA (.re hv6 (.load .none ty79 (.s rfl))) rfl ?_
    refine .consW (.alloc zo79 rfl) rfl rfl ?_
    refine .consA (.assign .none (.s rfl)) rfl ?_
    refine .consN (.store ty79 rfl rfl (.s rfl)) rfl ?_
    refine .nil (.then ?_)
    refine .freeze (t := 9) rfl rfl SubB.nil rfl ?_
    refine .seq (.region [] mixed (by kernel_rfl) ?_)
    refine .cons (.move .none (.s rfl)) rfl ?_
    refine .cons (.move .none (.s rfl)) rfl ?_
    obtain ⟨hn7, h⟩ := need_some h
    obtain ⟨v2, hv8, h⟩ := bnd_some h
    refine .cons (.re hv8 (.slice .none sl23 ty79 (.s rfl) rfl (.s rfl) (fun _ => hn7))) rfl ?_
    refine .cons (.len .none sl23 (.s rfl)) rfl ?_
    refine .cons (.move .none (.int (by decide))) rfl ?_
    refine .nil (.then ?_)
    refine .block ?_
    refine .rforL h (fun p9_ => [(25, ⟨True, rep p9_.1⟩), (7, ⟨True, rep p9_.2⟩)]) (fun p9_ => []) (.k 25 rfl (.k 7 rfl .nil)) SubB.nil (.k 0 rfl (.k 1 rfl (.k 2 rfl (.k 9 rfl (.k 14 rfl (.k 15 rfl (.k 16 rfl (.k 23 rfl (.k 24 rfl .nil))))))))) SubB.nil (fun p9_ o_9 h hD9 => ?_)
    refine .seq (.region [] mixed (by kernel_rfl) ?_)
    refine .cons (.lt .none (.s rfl) (.s rfl)) rfl ?_
    refine .nil (.then ?_)
    refine .seq ?_
    refine .cond (t := 26) rfl trivial (fun hb10 => ?_) (fun hb10 => ?_)
    ·
     replace h := bif_t h hb10
     refine .skip ?_
     refine .then ?_
     refine .seq ?_
     obtain ⟨j_11, h, hK11⟩ := bind_some h
     unfold ref_CrossingsOf_L2 at h
     refine .thenJ (ι := Int) (fun j_11 => [(7, ⟨True, rep j_11⟩)]) (fun j_11 => []) (fun s => j_11 = s) (.k 0 rfl (.k 1 rfl (.k 2 rfl (.k 9 rfl (.k 14 rfl (.k 15 rfl (.k 16 rfl (.k 23 rfl (.k 24 rfl (.k 25 rfl .nil)))))))))) SubB.nil ?_ (fun j_11' hj11 => ?_)
     ·
      skip
      refine .block ?_
      refine .seq (.region [([], []), ([], []), ([], [11]), ([11], [11])] mixed (by kernel_rfl) ?_)
      obtain ⟨hn12, h⟩ := need_some h
      refine .consA (.indexAddr .none sl23 ty79 (.s rfl) (.s rfl) (fun _ => hn12)) rfl ?_
      obtain ⟨v3, hv13, h⟩ := bnd_some h
      refine .consA (.re hv13 (.load .none ty79 (.s rfl))) rfl ?_
      refine .consW (.alloc zo79 rfl) rfl rfl ?_
      refine .consN (.store ty79 rfl rfl (.s rfl)) rfl ?_
      refine .nil (.then ?_)
      refine .freeze (t := 11) rfl rfl SubB.nil rfl ?_
      refine .seq (.region [] mixed (by kernel_rfl) ?_)
      refine .cons (.move .none (.s rfl)) rfl ?_
      refine .cons (.fieldAddr .none fd79_0 hfd79_0 (.s rfl)) rfl ?_
      refine .cons (.load .none ty3 (.s rfl)) rfl ?_
      obtain ⟨r1, hv14, h⟩ := bind_some h
      refine .cons (.call .none (slices_Index_int_ok hv14) (.cons (.s rfl) (.cons (.s rfl) .nil))) rfl ?_
      refine .cons (.move .none (.s rfl)) rfl ?_
      refine .cons (.fieldAddr .none fd79_0 hfd79_0 (.s rfl)) rfl ?_
      refine .cons (.load .none ty3 (.s rfl)) rfl ?_
      obtain ⟨r2, hv15, h⟩ := bind_some h
      refine .cons (.call .none (slices_Index_int_ok hv15) (.cons (.s rfl) (.cons (.s rfl) .nil))) rfl ?_
      refine .cons (.subW .none (.s rfl) (.s rfl)) rfl ?_
      refine .cons (.assign .none (.s rfl)) rfl ?_
      refine .nil (.then ?_)
      refine .seq (.region [] mixed (by kernel_rfl) ?_)
      refine .cons (.move .none (.s rfl)) rfl ?_
      refine .cons (.fieldAddr .none fd79_1 hfd79_1 (.s rfl)) rfl ?_
      refine .cons (.load .none ty3 (.s rfl)) rfl ?_
      obtain ⟨r3, hv16, h⟩ := bind_some h
      refine .cons (.call .none (slices_Index_int_ok hv16) (.cons (.s rfl) (.cons (.s rfl) .nil))) rfl ?_
      refine .cons (.move .none (.s rfl)) rfl ?_
      refine .cons (.fieldAddr .none fd79_1 hfd79_1 (.s rfl)) rfl ?_
      refine .cons (.load .none ty3 (.s rfl)) rfl ?_
      obtain ⟨r4, hv17, h⟩ := bind_some h
      refine .cons (.call .none (slices_Index_int_ok hv17) (.cons (.s rfl) (.cons (.s rfl) .nil))) rfl ?_
      refine .cons (.subW .none (.s rfl) (.s rfl)) rfl ?_
      refine .cons (.assign .none (.s rfl)) rfl ?_
      refine .nil (.then ?_)
      refine .seq (.region [] mixed (by kernel_rfl) ?_)
      refine .cons (.move .none (.s rfl)) rfl ?_
      obtain ⟨r5, hv18, h⟩ := bind_some h
      refine .cons (.call .none (ref_Sign_ok hv18) (.cons (.s rfl) .nil)) rfl ?_
      refine .cons (.move .none (.s rfl)) rfl ?_
      obtain ⟨r6, hv19, h⟩ := bind_some h
      refine .cons (.call .none (ref_Sign_ok hv19) (.cons (.s rfl) .nil)) rfl ?_
      refine .cons (.mulW .none (.s rfl) (.s rfl)) rfl ?_
      refine .cons (.lt .none (.s rfl) (.int (by decide))) rfl ?_
      refine .nil (.then ?_)
      refine .cond (t := 52) rfl trivial (fun hb20 => ?_) (fun hb20 => ?_)
      ·
       replace h := bif_t h hb20
       refine .region [] mixed (by kernel_rfl) ?_
       refine .cons (.move .none (.s rfl)) rfl ?_
       refine .cons (.addW .none (.s rfl) (.int (by decide))) rfl ?_
       obtain ⟨n1, hv21, h⟩ := bnd_some h
       refine .cons (.re hv21 (.assign .none (.s rfl))) rfl ?_
       refine .nil ?_
       refine .blkNormal ?_
       exact Ends.join _ (some_eq h) (.k 7 rfl (.k 0 rfl (.k 1 rfl (.k 2 rfl (.k 9 rfl (.k 14 rfl (.k 15 rfl (.k 16 rfl (.k 23 rfl (.k 24 rfl (.k 25 rfl .nil))))))))))) SubB.nil
      ·
       replace h := bif_f h hb20
       refine .skip ?_
       refine .blkNormal ?_
       exact Ends.join _ (some_eq h) (.k 7 rfl (.k 0 rfl (.k 1 rfl (.k 2 rfl (.k 9 rfl (.k 14 rfl (.k 15 rfl (.k 16 rfl (.k 23 rfl (.k 24 rfl (.k 25 rfl .nil))))))))))) SubB.nil
     ·
      subst hj11; have h := hK11; clear hK11
      refine .region [] mixed (by kernel_rfl) ?_
      refine .cons (.addW .none (.s rfl) (.int (by decide))) rfl ?_
      refine .cons (.move .none (.s rfl)) rfl ?_
      refine .nil ?_
      exact Ends.againL (some_eq h) (.k 25 rfl (.k 7 rfl (.k 0 rfl (.k 1 rfl (.k 2 rfl (.k 9 rfl (.k 14 rfl (.k 15 rfl (.k 16 rfl (.k 23 rfl (.k 24 rfl .nil))))))))))) SubB.nil
    ·
     replace h := bif_f h hb10
     refine .exit ?_
     refine .thenExit ?_
     refine .thenExit ?_
     refine .blkExit ?_
     refine .blkNormal ?_
     replace h := hD9 _ (some_eq h)
     exact Ends.join _ (some_eq h) (.k 7 rfl (.k 0 rfl (.k 1 rfl (.k 2 rfl (.k 14 rfl (.k 15 rfl (.k 16 rfl .nil))))))) SubB.nil
   ·
    subst hj4; have h := hK4; clear hK4
    refine .region [] mixed (by kernel_rfl) ?_
    refine .cons (.addW .none (.s rfl) (.int (by decide))) rfl ?_
    refine .cons (.move .none (.s rfl)) rfl ?_
    refine .nil ?_
    exact Ends.againL (some_eq h) (.k 16 rfl (.k 7 rfl (.k 0 rfl (.k 1 rfl (.k 2 rfl (.k 14 rfl (.k 15 rfl .nil))))))) SubB.nil
  ·
   replace h := bif_f h hb3
   refine .exit ?_
   refine .thenExit ?_
   refine .thenExit ?_
   refine .blkExit ?_
   replace h := hD2 _ (some_eq h)
   exact Ends.join _ (some_eq h) (.k 7 rfl .nil) SubB.nil
 ·
  subst hj1; have h := hK1; clear hK1
  refine .seq (.region [] mixed (by kernel_rfl) ?_)
  refine .cons (.move .none (.s rfl)) rfl ?_
  refine .cons (.assign .none (.s rfl)) rfl ?_
  refine .nil (.then ?_)
  refine .ret ?_
  obtain rfl := some_eq h
  exact Ends.ret1 (.inl rfl) Try.results42 (ResOK.tmp rfl trivial Imp.refl)

theorem ref_allCrossings_ok {rows1 : (List (List Int))} {l1 : (List Link)} {r : Int}  (h : ref_allCrossings rows1 l1 = some r) : FSpec Try.prog 58 [rep rows1, rep l1] (rep r) := by
 unfold ref_allCrossings at h
 refine FSpec.intro (n := 37) fnok58 Try.func58 rfl Try.ntmps58 rfl (fun F => ?_)
 refine .seq (.region [] mixed (by kernel_rfl) ?_)
 refine .cons (.assign .none (.int (by decide))) rfl ?_
 refine .nil (.then ?_)
 refine .seq (.region [] mixed (by kernel_rfl) ?_)
 refine .cons (.assign .none (.int (by decide))) rfl ?_
 refine .nil (.then ?_)
 refine .seq ?_
 refine .seq (.region [] mixed (by kernel_rfl) ?_)
 refine .cons (.assign .none (.int (by decide))) rfl ?_
 refine .nil (.then ?_)
 obtain ⟨j_1, h, hK1⟩ := bind_some h
 refine .thenJ (ι := Int) (fun j_1 => [(5, ⟨True, rep j_1⟩)]) (fun j_1 => []) (fun s => j_1 = s) Sub.nil SubB.nil ?_ (fun j_1' hj1 => ?_)
 ·
  skip
  refine .block ?_
  refine .loopL h (fun s2_ => [(5, ⟨True, rep s2_.1⟩), (6, ⟨True, rep s2_.2⟩)]) (fun s2_ => []) (.k 5 rfl (.k 6 rfl .nil)) SubB.nil (.k 0 rfl (.k 1 rfl .nil)) SubB.nil (fun s2_ o_2 h hD2 => ?_)
  unfold ref_allCrossings_L1 at h
  refine .seq ?_
  refine .seq (.region [] mixed (by kernel_rfl) ?_)
  refine .cons (.move .none (.s rfl)) rfl ?_
  refine .cons (.move .none (.s rfl)) rfl ?_
  refine .cons (.len .none sl22 (.s rfl)) rfl ?_
  refine .cons (.lt .none (.s rfl) (.s rfl)) rfl ?_
  refine .nil (.then ?_)
  refine .cond (t := 10) rfl trivial (fun hb3 => ?_) (fun hb3 => ?_)
  ·
   replace h := bif_t h hb3
   refine .skip ?_
   refine .then ?_
   refine .seq ?_
   refine .block ?_
   refine .region [] mixed (by kernel_rfl) ?_
   refine .cons (.move .none (.s rfl)) rfl ?_
   refine .cons (.move .none (.s rfl)) rfl ?_
   refine .cons (.move .none (.s rfl)) rfl ?_
   refine .cons (.subW .none (.s rfl) (.int (by decide))) rfl ?_
   obtain ⟨hn4, h⟩ := need_some h
   refine .cons (.indexAddr .none sl22 ty32 (.s rfl) (.s rfl) (fun _ => hn4)) rfl ?_
   refine .cons (.load .none ty32 (.s rfl)) rfl ?_
   refine .cons (.move .none (.s rfl)) rfl ?_
   refine .cons (.move .none (.s rfl)) rfl ?_
   obtain ⟨hn5, h⟩ := need_some h
   refine .cons (.indexAddr .none sl22 ty32 (.s rfl) (.s rfl) (fun _ => hn5)) rfl ?_
   refine .cons (.load .none ty32 (.s rfl)) rfl ?_
   refine .cons (.move .none (.s rfl)) rfl ?_
   refine .cons (.move .none (.s rfl)) rfl ?_
   refine .cons (.subW .none (.s rfl) (.int (by decide))) rfl ?_
   obtain ⟨hn6, h⟩ := need_some h
   refine .cons (.indexAddr .none sl22 ty32 (.s rfl) (.s rfl) (fun _ => hn6)) rfl ?_
   refine .cons (.load .none ty32 (.s rfl)) rfl ?_
   refine .cons (.move .none (.s rfl)) rfl ?_
   refine .cons (.move .none (.s rfl)) rfl ?_
   obtain ⟨hn7, h⟩ := need_some h
   refine .cons (.indexAddr .none sl22 ty32 (.s rfl) (.s rfl) (fun _ => hn7)) rfl ?_
   refine .cons (.load .none ty32 (.s rfl)) rfl ?_
   refine .cons (.move .none (.s rfl)) rfl ?_
   obtain ⟨r1, hv8, h⟩ := bind_some h
   refine .cons (.call .none (ref_between_ok hv8) (.cons (.s rfl) (.cons (.s rfl) (.cons (.s rfl) .nil)))) rfl ?_
   obtain ⟨r2, hv9, h⟩ := bind_some h
   refine .cons (.call .none (ref_CrossingsOf_ok hv9) (.cons (.s rfl) (.cons (.s rfl) (.cons (.s rfl) .nil)))) rfl ?_
   refine .cons (.addW .none (.s rfl) (.s rfl)) rfl ?_
   obtain ⟨n1, hv10, h⟩ := bnd_some h
   refine .cons (.re hv10 (.assign .none (.s rfl))) rfl ?_
   refine .nil ?_
   refine .blkNormal ?_
   refine .then ?_
   refine .region [] mixed (by kernel_rfl) ?_
   refine .cons (.move .none (.s rfl)) rfl ?_
   refine .cons (.addW .none (.s rfl) (.int (by decide))) rfl ?_
   obtain ⟨i1, hv11, h⟩ := bnd_some h
   refine .cons (.re hv11 (.assign .none (.s rfl))) rfl ?_
   refine .nil ?_
   exact Ends.againL (some_eq h) (.k 5 rfl (.k 6 rfl (.k 0 rfl (.k 1 rfl .nil)))) SubB.nil
  ·
   replace h := bif_f h hb3
   refine .exit ?_
   refine .thenExit ?_
   refine .thenExit ?_
   refine .blkExit ?_
   replace h := hD2 _ (some_eq h)
   exact Ends.join _ (some_eq h) (.k 5 rfl .nil) SubB.nil
 ·
  subst hj1; have h := hK1; clear hK1
  refine .seq (.region [] mixed (by kernel_rfl) ?_)
  refine .cons (.move .none (.s rfl)) rfl ?_
  refine .cons (.assign .none (.s rfl)) rfl ?_
  refine .nil (.then ?_)
  refine .ret ?_
  obtain rfl := some_eq h
  exact Ends.ret1 (.inl rfl) Try.results58 (ResOK.tmp rfl trivial Imp.refl)

theorem slices_insertionSortCmpFunc_mean_ok {data1 : (List Ref_mean)} {a1 : Int} {b1 : Int} {cmp1 : (Ref_mean → Ref_mean → Option Int)} {r : (List Ref_mean)} {s53 : Value} (h : slices_insertionSortCmpFunc_mean data1 a1 b1 cmp1 = some r) : FSpecO Try.prog 119 [isV s53, rep a1, rep b1, fn2 Try.prog (rep (α := Int)) cmp1] [(s53, rowV 95 data1)] (anyV) [some (rowV 95 r)] := by
 unfold slices_insertionSortCmpFunc_mean at h
 refine FSpecO.intro (n := 53) fnok119 Try.func119 rfl Try.ntmps119 rfl (fun F => ?_)
 refine .seq (.region [] mixed (by kernel_rfl) ?_)
 refine .cons (.move .none (.s rfl)) rfl ?_
 refine .cons (.addW .none (.s rfl) (.int (by decide))) rfl ?_
 obtain ⟨i1, hv1, h⟩ := bnd_some h
 refine .cons (.re hv1 (.assign .none (.s rfl))) rfl ?_
 refine .nil (.then ?_)
 refine .block ?_
 refine .loopL h (fun s2_ => [(8, ⟨True, rep s2_.1⟩)]) (fun s2_ => [(53, some (CPred.at s53 (rowV 95 s2_.2)))]) (.k 8 rfl .nil) (.k 53 rfl .nil) (.k 0 rfl (.k 1 rfl (.k 2 rfl (.k 3 rfl .nil)))) SubB.nil (fun s2_ o_2 h hD2 => ?_)
 unfold slices_insertionSortCmpFunc_mean_L1 at h
 refine .seq ?_
 refine .seq (.region [] mixed (by kernel_rfl) ?_)
 refine .cons (.move .none (.s rfl)) rfl ?_
 refine .cons (.move .none (.s rfl)) rfl ?_
 refine .cons (.lt .none (.s rfl) (.s rfl)) rfl ?_
 refine .nil (.then ?_)
 refine .cond (t := 14) rfl trivial (fun hb3 => ?_) (fun hb3 => ?_)
 ·
  replace h := bif_t h hb3
  refine .skip ?_
  refine .then ?_
  refine .seq ?_
  obtain ⟨j_4, h, hK4⟩ := bind_some h
  refine .thenJ (ι := (List Ref_mean)) (fun j_4 => []) (fun j_4 => [(53, some (CPred.at s53 (rowV 95 j_4)))]) (fun s => j_4 = s) (.k 0 rfl (.k 1 rfl (.k 2 rfl (.k 3 rfl (.k 8 rfl .nil))))) SubB.nil ?_ (fun j_4' hj4 => ?_)
  ·
   skip
   refine .block ?_
   refine .seq (.region [] mixed (by kernel_rfl) ?_)
   refine .cons (.move .none (.s rfl)) rfl ?_
   refine .cons (.assign .none (.s rfl)) rfl ?_
   refine .nil (.then ?_)
   refine .block ?_
   refine .loopL h (fun s5_ => [(9, ⟨True, rep s5_.1⟩)]) (fun s5_ => [(53, some (CPred.at s53 (rowV 95 s5_.2)))]) (.k 9 rfl .nil) (.k 53 rfl .nil) (.k 0 rfl (.k 1 rfl (.k 2 rfl (.k 3 rfl (.k 8 rfl .nil))))) SubB.nil (fun s5_ o_5 h hD5 => ?_)
   unfold slices_insertionSortCmpFunc_mean_L2 at h
   refine .seq ?_
   refine .seq (.region [([], []), ([], []), ([], []), ([], []), ([], []), ([], []), ([], []), ([53], []), ([53], []), ([], []), ([], []), ([], []), ([53], []), ([53], []), ([], []), ([], []), ([], [])] mixed (by kernel_rfl) ?_)
   refine .consA (.move .none (.s rfl)) rfl ?_
   refine .consA (.move .none (.s rfl)) rfl ?_
   refine .consA (.gt .none (.s rfl) (.s rfl)) rfl ?_
   refine .consA (.move .none (.s rfl)) rfl ?_
   refine .consA (.move (.at rfl rfl) (.s rfl)) rfl ?_
   refine .consA (.move (.at rfl rfl) (.s rfl)) rfl ?_
   refine .consA (.move (.at rfl rfl) (.s rfl)) rfl ?_
   obtain ⟨hn6, h⟩ := need_some h
   refine .consA (.indexAddrO (k := 53) (.at rfl rfl) sl93 ty95 (.tmp rfl id) rfl (.tmp rfl id) (fun hg => hn6 hg.2)) rfl ?_
   refine .consA (.loadElem0 (k := 53) (.at rfl rfl) ty95 (.tmp rfl id) rfl (fun hg => hn6 hg.2)) rfl ?_
   refine .consA (.move (.at rfl rfl) (.s rfl)) rfl ?_
   refine .consA (.move (.at rfl rfl) (.s rfl)) rfl ?_
   refine .consA (.subW (.at rfl rfl) (.tmp rfl id) (.int (by decide))) rfl ?_
   obtain ⟨hn7, h⟩ := need_some h
   refine .consA (.indexAddrO (k := 53) (.at rfl rfl) sl93 ty95 (.tmp rfl id) rfl (.tmp rfl id) (fun hg => hn7 hg.2)) rfl ?_
   refine .consA (.loadElem0 (k := 53) (.at rfl rfl) ty95 (.tmp rfl id) rfl (fun hg => hn7 hg.2)) rfl ?_
   obtain ⟨r1, hv8, h⟩ := bind_some h
   refine .consA (.callV (gx s5_.2 s5_.1, gx s5_.2 (W (s5_.1 - 1)), r1) (.at rfl rfl) (.tmp rfl id) (fun hg => gd_some hv8 (hg.2)) (.cons (.tmp rfl id) (.cons (.tmp rfl id) .nil))) rfl ?_
   refine .consA (.lt (.at rfl rfl) (.tmp rfl id) (.int (by decide))) rfl ?_
   refine .consA (.pickAnd .none (.s rfl) (.tmp rfl id)) rfl ?_
   refine .nil (.then ?_)
   refine .cond (t := 34) rfl trivial (fun hb9 => ?_) (fun hb9 => ?_)
   ·
    replace h := bif_t h hb9
    refine .skip ?_
    refine .then ?_
    refine .seq ?_
    refine .block ?_
    refine .region [([], []), ([], []), ([], []), ([], []), ([], []), ([], []), ([], []), ([], []), ([53], []), ([53], []), ([], []), ([], []), ([53], []), ([53], []), ([53], []), ([53], [53]), ([53], []), ([53], [53])] mixed (by kernel_rfl) ?_
    refine .consA (.move .none (.s rfl)) rfl ?_
    refine .consA (.move .none (.s rfl)) rfl ?_
    refine .consA (.move .none (.s rfl)) rfl ?_
    refine .consA (.move .none (.s rfl)) rfl ?_
    refine .consA (.subW .none (.s rfl) (.int (by decide))) rfl ?_
    refine .consA (.move .none (.s rfl)) rfl ?_
    refine .consA (.move .none (.s rfl)) rfl ?_
    refine .consA (.subW .none (.s rfl) (.int (by decide))) rfl ?_
    obtain ⟨hn10, h⟩ := need_some h
    refine .consA (.indexAddrO (k := 53) .none sl93 ty95 (.s rfl) rfl (.s rfl) (fun _ => hn10)) rfl ?_
    obtain ⟨v1, hv11, h⟩ := bnd_some h
    refine .consA (.re hv11 (.loadElem0 (k := 53) .none ty95 (.s rfl) rfl (fun _ => hn10))) rfl ?_
    refine .consA (.move .none (.s rfl)) rfl ?_
    refine .consA (.move .none (.s rfl)) rfl ?_
    obtain ⟨hn12, h⟩ := need_some h
    refine .consA (.indexAddrO (k := 53) .none sl93 ty95 (.s rfl) rfl (.s rfl) (fun _ => hn12)) rfl ?_
    obtain ⟨v2, hv13, h⟩ := bnd_some h
    refine .consA (.re hv13 (.loadElem0 (k := 53) .none ty95 (.s rfl) rfl (fun _ => hn12))) rfl ?_
    obtain ⟨hn14, h⟩ := need_some h
    refine .consA (.indexAddrO (k := 53) .none sl93 ty95 (.s rfl) rfl (.s rfl) (fun _ => hn14)) rfl ?_
    refine .consN (.storeElem0 (k := 53) ty95 (.s rfl) rfl (.s rfl) hn14) rfl ?_
    obtain ⟨hn15, h⟩ := need_some h
    refine .consA (.indexAddrO (k := 53) .none sl93 ty95 (.s rfl) rfl (.s rfl) (fun _ => hn15)) rfl ?_
    refine .consN (.storeElem0 (k := 53) ty95 (.s rfl) rfl (.s rfl) hn15) rfl ?_
    refine .nil ?_
    refine .blkNormal ?_
    refine .then ?_
    obtain ⟨data2, hv16, h⟩ := bnd_some h
    refine .reB (t := 53) rfl (congrArg (fun y => CPred.at s53 (rowV 95 y)) hv16) ?_
    refine .region [] mixed (by kernel_rfl) ?_
    refine .cons (.move .none (.s rfl)) rfl ?_
    refine .cons (.subW .none (.s rfl) (.int (by decide))) rfl ?_
    obtain ⟨j1, hv17, h⟩ := bnd_some h
    refine .cons (.re hv17 (.assign .none (.s rfl))) rfl ?_
    refine .nil ?_
    exact Ends.againL (some_eq h) (.k 9 rfl (.k 0 rfl (.k 1 rfl (.k 2 rfl (.k 3 rfl (.k 8 rfl .nil)))))) (.k 53 rfl .nil)
   ·
    replace h := bif_f h hb9
    refine .exit ?_
    refine .thenExit ?_
    refine .thenExit ?_
    refine .blkExit ?_
    refine .blkNormal ?_
    replace h := hD5 _ (some_eq h)
    exact Ends.join _ (some_eq h) (.k 0 rfl (.k 1 rfl (.k 2 rfl (.k 3 rfl (.k 8 rfl .nil))))) (.k 53 rfl .nil)
  ·
   subst hj4; have h := hK4; clear hK4
   refine .region [] mixed (by kernel_rfl) ?_
   refine .cons (.move .none (.s rfl)) rfl ?_
   refine .cons (.addW .none (.s rfl) (.int (by decide))) rfl ?_
   obtain ⟨i2, hv18, h⟩ := bnd_some h
   refine .cons (.re hv18 (.assign .none (.s rfl))) rfl ?_
   refine .nil ?_
   exact Ends.againL (some_eq h) (.k 8 rfl (.k 0 rfl (.k 1 rfl (.k 2 rfl (.k 3 rfl .nil))))) (.k 53 rfl .nil)
 ·
  replace h := bif_f h hb3
  refine .exit ?_
  refine .thenExit ?_
  refine .thenExit ?_
  refine .blkExit ?_
  replace h := hD2 _ (some_eq h)
  obtain rfl := some_eq h
  exact Ends.ret0O (.inr rfl) [53] Try.results119 (by decide) (.held rfl .nil) 

theorem slices_swapRangeCmpFunc_mean_ok {data1 : (List Ref_mean)} {a1 : Int} {b1 : Int} {n1 : Int} {cmp1 : (Ref_mean → Ref_mean → Option Int)} {r : (List Ref_mean)} {s38 : Value} (h : slices_swapRangeCmpFunc_mean data1 a1 b1 n1 cmp1 = some r) : FSpecO Try.prog 142 [isV s38, rep a1, rep b1, rep n1, fn2 Try.prog (rep (α := Int)) cmp1] [(s38, rowV 95 data1)] (anyV) [some (rowV 95 r)] := by
 unfold slices_swapRangeCmpFunc_mean at h
 refine FSpecO.intro (n := 38) fnok142 Try.func142 rfl Try.ntmps142 rfl (fun F => ?_)
 refine .seq (.region [] mixed (by kernel_rfl) ?_)
 refine .cons (.assign .none (.int (by decide))) rfl ?_
 refine .nil (.then ?_)
 refine .block ?_
 refine .loopL h (fun s1_ => [(10, ⟨True, rep s1_.1⟩)]) (fun s1_ => [(38, some (CPred.at s38 (rowV 95 s1_.2)))]) (.k 10 rfl .nil) (.k 38 rfl .nil) (.k 0 rfl (.k 1 rfl (.k 2 rfl (.k 3 rfl .nil)))) SubB.nil (fun s1_ o_1 h hD1 => ?_)
 unfold slices_swapRangeCmpFunc_mean_L1 at h
 refine .seq ?_
 refine .seq (.region [] mixed (by kernel_rfl) ?_)
 refine .cons (.move .none (.s rfl)) rfl ?_
 refine .cons (.move .none (.s rfl)) rfl ?_
 refine .cons (.lt .none (.s rfl) (.s rfl)) rfl ?_
 refine .nil (.then ?_)
 refine .cond (t := 13) rfl trivial (fun hb2 => ?_) (fun hb2 => ?_)
 ·
  replace h := bif_t h hb2
  refine .skip ?_
  refine .then ?_
  refine .seq ?_
  refine .block ?_
  refine .region [([], []), ([], []), ([], []), ([], []), ([], []), ([], []), ([], []), ([], []), ([], []), ([], []), ([], []), ([], []), ([38], []), ([38], []), ([], []), ([], []), ([], []), ([], []), ([38], []), ([38], []), ([38], []), ([38], [38]), ([38], []), ([38], [38])] mixed (by kernel_rfl) ?_
  refine .consA (.move .none (.s rfl)) rfl ?_
  refine .consA (.move .none (.s rfl)) rfl ?_
  refine .consA (.move .none (.s rfl)) rfl ?_
  refine .consA (.addW .none (.s rfl) (.s rfl)) rfl ?_
  refine .consA (.move .none (.s rfl)) rfl ?_
  refine .consA (.move .none (.s rfl)) rfl ?_
  refine .consA (.move .none (.s rfl)) rfl ?_
  refine .consA (.addW .none (.s rfl) (.s rfl)) rfl ?_
  refine .consA (.move .none (.s rfl)) rfl ?_
  refine .consA (.move .none (.s rfl)) rfl ?_
  refine .consA (.move .none (.s rfl)) rfl ?_
  refine .consA (.addW .none (.s rfl) (.s rfl)) rfl ?_
  obtain ⟨hn3, h⟩ := need_some h
  refine .consA (.indexAddrO (k := 38) .none sl93 ty95 (.s rfl) rfl (.s rfl) (fun _ => hn3)) rfl ?_
  obtain ⟨v1, hv4, h⟩ := bnd_some h
  refine .consA (.re hv4 (.loadElem0 (k := 38) .none ty95 (.s rfl) rfl (fun _ => hn3))) rfl ?_
  refine .consA (.move .none (.s rfl)) rfl ?_
  refine .consA (.move .none (.s rfl)) rfl ?_
  refine .consA (.move .none (.s rfl)) rfl ?_
  refine .consA (.addW .none (.s rfl) (.s rfl)) rfl ?_
  obtain ⟨hn5, h⟩ := need_some h
  refine .consA (.indexAddrO (k := 38) .none sl93 ty95 (.s rfl) rfl (.s rfl) (fun _ => hn5)) rfl ?_
  obtain ⟨v2, hv6, h⟩ := bnd_some h
  refine .consA (.re hv6 (.loadElem0 (k := 38) .none ty95 (.s rfl) rfl (fun _ => hn5))) rfl ?_
  obtain ⟨hn7, h⟩ := need_some h
  refine .consA (.indexAddrO (k := 38) .none sl93 ty95 (.s rfl) rfl (.s rfl) (fun _ => hn7)) rfl ?_
  refine .consN (.storeElem0 (k := 38) ty95 (.s rfl) rfl (.s rfl) hn7) rfl ?_
  obtain ⟨hn8, h⟩ := need_some h
  refine .consA (.indexAddrO (k := 38) .none sl93 ty95 (.s rfl) rfl (.s rfl) (fun _ => hn8)) rfl ?_
  refine .consN (.storeElem0 (k := 38) ty95 (.s rfl) rfl (.s rfl) hn8) rfl ?_
  refine .nil ?_
  refine .blkNormal ?_
  refine .then ?_
  obtain ⟨data2, hv9, h⟩ := bnd_some h
  refine .reB (t := 38) rfl (congrArg (fun y => CPred.at s38 (rowV 95 y)) hv9) ?_
  refine .region [] mixed (by kernel_rfl) ?_
  refine .cons (.move .none (.s rfl)) rfl ?_
  refine .cons (.addW .none (.s rfl) (.int (by decide))) rfl ?_
  obtain ⟨i1, hv10, h⟩ := bnd_some h
  refine .cons (.re hv10 (.assign .none (.s rfl))) rfl ?_
  refine .nil ?_
  exact Ends.againL (some_eq h) (.k 10 rfl (.k 0 rfl (.k 1 rfl (.k 2 rfl (.k 3 rfl .nil))))) (.k 38 rfl .nil)
 ·
  replace h := bif_f h hb2
  refine .exit ?_
  refine .thenExit ?_
  refine .thenExit ?_
  refine .blkExit ?_
  replace h := hD1 _ (some_eq h)
  obtain rfl := some_eq h
  exact Ends.ret0O (.inr rfl) [38] Try.results142 (by decide) (.held rfl .nil) 

theorem slices_rotateCmpFunc_mean_ok {data1 : (List Ref_mean)} {a1 : Int} {m1 : Int} {b1 : Int} {cmp1 : (Ref_mean → Ref_mean → Option Int)} {r : (List Ref_mean)} {s58 : Value} (h : slices_rotateCmpFunc_mean data1 a1 m1 b1 cmp1 = some r) : FSpecO Try.prog 134 [isV s58, rep a1, rep m1, rep b1, fn2 Try.prog (rep (α := Int)) cmp1] [(s58, rowV 95 data1)] (anyV) [some (rowV 95 r)] := by
 unfold slices_rotateCmpFunc_mean at h
 refine FSpecO.intro (n := 58) fnok134 Try.func134 rfl Try.ntmps134 rfl (fun F => ?_)
 refine .seq (.region [] mixed (by kernel_rfl) ?_)
 refine .cons (.move .none (.s rfl)) rfl ?_
 refine .cons (.move .none (.s rfl)) rfl ?_
 refine .cons (.subW .none (.s rfl) (.s rfl)) rfl ?_
 obtain ⟨i1, hv1, h⟩ := bnd_some h
 refine .cons (.re hv1 (.assign .none (.s rfl))) rfl ?_
 refine .nil (.then ?_)
 refine .seq (.region [] mixed (by kernel_rfl) ?_)
 refine .cons (.move .none (.s rfl)) rfl ?_
 refine .cons (.move .none (.s rfl)) rfl ?_
 refine .cons (.subW .none (.s rfl) (.s rfl)) rfl ?_
 obtain ⟨j1, hv2, h⟩ := bnd_some h
 refine .cons (.re hv2 (.assign .none (.s rfl))) rfl ?_
 refine .nil (.then ?_)
 refine .seq ?_
 obtain ⟨j_3, h, hK3⟩ := bind_some h
 refine .thenJ (ι := (Int × (List Ref_mean))) (fun j_3 => [(10, ⟨True, rep j_3.1⟩)]) (fun j_3 => [(58, some (CPred.at s58 (rowV 95 j_3.2)))]) (fun s => j_3 = s) (.k 0 rfl (.k 2 rfl (.k 4 rfl .nil))) SubB.nil ?_ (fun j_3' hj3 => ?_)
 ·
  skip
  refine .block ?_
  refine .loopL h (fun s4_ => [(10, ⟨True, rep s4_.1⟩), (11, ⟨True, rep s4_.2.1⟩)]) (fun s4_ => [(58, some (CPred.at s58 (rowV 95 s4_.2.2)))]) (.k 10 rfl (.k 11 rfl .nil)) (.k 58 rfl .nil) (.k 0 rfl (.k 2 rfl (.k 4 rfl .nil))) SubB.nil (fun s4_ o_4 h hD4 => ?_)
  unfold slices_rotateCmpFunc_mean_L1 at h
  refine .seq ?_
  refine .seq (.region [] mixed (by kernel_rfl) ?_)
  refine .cons (.move .none (.s rfl)) rfl ?_
  refine .cons (.move .none (.s rfl)) rfl ?_
  refine .cons (.neI .none (.s rfl) (.s rfl)) rfl ?_
  refine .nil (.then ?_)
  refine .cond (t := 20) rfl trivial (fun hb5 => ?_) (fun hb5 => ?_)
  ·
   replace h := bif_t h hb5
   refine .skip ?_
   refine .then ?_
   refine .block ?_
   refine .seq (.region [] mixed (by kernel_rfl) ?_)
   refine .cons (.move .none (.s rfl)) rfl ?_
   refine .cons (.move .none (.s rfl)) rfl ?_
   refine .cons (.gt .none (.s rfl) (.s rfl)) rfl ?_
   refine .nil (.then ?_)
   refine .cond (t := 23) rfl trivial (fun hb6 => ?_) (fun hb6 => ?_)
   ·
    replace h := bif_t h hb6
    refine .seq (.region [([], []), ([], []), ([], []), ([], []), ([], []), ([], []), ([], []), ([58], [58])] mixed (by kernel_rfl) ?_)
    refine .consA (.move .none (.s rfl)) rfl ?_
    refine .consA (.move .none (.s rfl)) rfl ?_
    refine .consA (.move .none (.s rfl)) rfl ?_
    refine .consA (.subW .none (.s rfl) (.s rfl)) rfl ?_
    refine .consA (.move .none (.s rfl)) rfl ?_
    refine .consA (.move .none (.s rfl)) rfl ?_
    refine .consA (.move .none (.s rfl)) rfl ?_
    obtain ⟨r1, hv7, h⟩ := bind_some h
    refine .consW (.callO [58] (slices_swapRangeCmpFunc_mean_ok hv7) (.cons (.s rfl) (.cons (.s rfl) (.cons (.s rfl) (.cons (.s rfl) (.cons (.s rfl) .nil))))) (.cons (k := 58) rfl .nil) rfl (by decide) (by decide) (by intro d h; cases h; decide)) rfl rfl ?_
    refine .nil (.then ?_)
    refine .region [] mixed (by kernel_rfl) ?_
    refine .cons (.move .none (.s rfl)) rfl ?_
    refine .cons (.move .none (.s rfl)) rfl ?_
    refine .cons (.subW .none (.s rfl) (.s rfl)) rfl ?_
    obtain ⟨i2, hv8, h⟩ := bnd_some h
    refine .cons (.re hv8 (.assign .none (.s rfl))) rfl ?_
    refine .nil ?_
    refine .blkNormal ?_
    exact Ends.againL (some_eq h) (.k 10 rfl (.k 11 rfl (.k 0 rfl (.k 2 rfl (.k 4 rfl .nil))))) (.k 58 rfl .nil)
   ·
    replace h := bif_f h hb6
    refine .seq (.region [([], []), ([], []), ([], []), ([], []), ([], []), ([], []), ([], []), ([], []), ([], []), ([], []), ([], []), ([58], [58])] mixed (by kernel_rfl) ?_)
    refine .consA (.move .none (.s rfl)) rfl ?_
    refine .consA (.move .none (.s rfl)) rfl ?_
    refine .consA (.move .none (.s rfl)) rfl ?_
    refine .consA (.subW .none (.s rfl) (.s rfl)) rfl ?_
    refine .consA (.move .none (.s rfl)) rfl ?_
    refine .consA (.move .none (.s rfl)) rfl ?_
    refine .consA (.addW .none (.s rfl) (.s rfl)) rfl ?_
    refine .consA (.move .none (.s rfl)) rfl ?_
    refine .consA (.subW .none (.s rfl) (.s rfl)) rfl ?_
    refine .consA (.move .none (.s rfl)) rfl ?_
    refine .consA (.move .none (.s rfl)) rfl ?_
    obtain ⟨r2, hv9, h⟩ := bind_some h
    refine .consW (.callO [58] (slices_swapRangeCmpFunc_mean_ok hv9) (.cons (.s rfl) (.cons (.s rfl) (.cons (.s rfl) (.cons (.s rfl) (.cons (.s rfl) .nil))))) (.cons (k := 58) rfl .nil) rfl (by decide) (by decide) (by intro d h; cases h; decide)) rfl rfl ?_
    refine .nil (.then ?_)
    refine .region [] mixed (by kernel_rfl) ?_
    refine .cons (.move .none (.s rfl)) rfl ?_
    refine .cons (.move .none (.s rfl)) rfl ?_
    refine .cons (.subW .none (.s rfl) (.s rfl)) rfl ?_
    obtain ⟨j2, hv10, h⟩ := bnd_some h
    refine .cons (.re hv10 (.assign .none (.s rfl))) rfl ?_
    refine .nil ?_
    refine .blkNormal ?_
    exact Ends.againL (some_eq h) (.k 10 rfl (.k 11 rfl (.k 0 rfl (.k 2 rfl (.k 4 rfl .nil))))) (.k 58 rfl .nil)
  ·
   replace h := bif_f h hb5
   refine .exit ?_
   refine .thenExit ?_
   refine .thenExit ?_
   refine .blkExit ?_
   replace h := hD4 _ (some_eq h)
   exact Ends.join _ (some_eq h) (.k 10 rfl (.k 0 rfl (.k 2 rfl (.k 4 rfl .nil)))) (.k 58 rfl .nil)
 ·
  subst hj3; have h := hK3; clear hK3
  refine .region [([], []), ([], []), ([], []), ([], []), ([], []), ([], []), ([], []), ([58], [58])] mixed (by kernel_rfl) ?_
  refine .consA (.move .none (.s rfl)) rfl ?_
  refine .consA (.move .none (.s rfl)) rfl ?_
  refine .consA (.move .none (.s rfl)) rfl ?_
  refine .consA (.subW .none (.s rfl) (.s rfl)) rfl ?_
  refine .consA (.move .none (.s rfl)) rfl ?_
  refine .consA (.move .none (.s rfl)) rfl ?_
  refine .consA (.move .none (.s rfl)) rfl ?_
  obtain ⟨r3, hv11, h⟩ := bind_some h
  refine .consW (.callO [58] (slices_swapRangeCmpFunc_mean_ok hv11) (.cons (.s rfl) (.cons (.s rfl) (.cons (.s rfl) (.cons (.s rfl) (.cons (.s rfl) .nil))))) (.cons (k := 58) rfl .nil) rfl (by decide) (by decide) (by intro d h; cases h; decide)) rfl rfl ?_
  refine .nil ?_
  obtain rfl := some_eq h
  exact Ends.ret0O (.inr rfl) [58] Try.results134 (by decide) (.held rfl .nil) 

set_option maxHeartbeats 4000000 in
theorem slices_symMergeCmpFunc_mean_okS {self : ((List Ref_mean) × Int × Int × Int × (Ref_mean → Ref_mean → Option Int)) → Option (List Ref_mean)} (hself : ∀ {s220 : Value} (x : ((List Ref_mean) × Int × Int × Int × (Ref_mean → Ref_mean → Option Int))) (r : (List Ref_mean)), self x = some r → FSpecO Try.prog 120 [isV s220, rep x.2.1, rep x.2.2.1, rep x.2.2.2.1, fn2 Try.prog (rep (α := Int)) x.2.2.2.2] [(s220, rowV 95 x.1)] (anyV) [some (rowV 95 r)]) {s220 : Value} {x : ((List Ref_mean) × Int × Int × Int × (Ref_mean → Ref_mean → Option Int))} {r : (List Ref_mean)} (h : slices_symMergeCmpFunc_mean_body self x = some r) : FSpecO Try.prog 120 [isV s220, rep x.2.1, rep x.2.2.1, rep x.2.2.2.1, fn2 Try.prog (rep (α := Int)) x.2.2.2.2] [(s220, rowV 95 x.1)] (anyV) [some (rowV 95 r)] := by
 unfold slices_symMergeCmpFunc_mean_body at h
 refine FSpecO.intro (n := 220) fnok120 Try.func120 rfl Try.ntmps120 rfl (fun F => ?_)
 refine .seq ?_
 refine .seq (.region [] mixed (by kernel_rfl) ?_)
 refine .cons (.move .none (.s rfl)) rfl ?_
 refine .cons (.move .none (.s rfl)) rfl ?_
 refine .cons (.subW .none (.s rfl) (.s rfl)) rfl ?_
 refine .cons (.eqI .none (.s rfl) (.int (by decide))) rfl ?_
 refine .nil (.then ?_)
 obtain ⟨o_1, h, hK1⟩ := bindR_some h
 refine .thenJ (ι := Unit) (fun j_1 => []) (fun j_1 => []) (fun s => o_1 = Res.nx s) (.k 0 rfl (.k 1 rfl (.k 2 rfl (.k 3 rfl (.k 4 rfl .nil))))) (.k 220 rfl .nil) ?_ (fun j_1 hj1 => ?_)
 ·
  skip
  refine .cond (t := 28) rfl trivial (fun hb2 => ?_) (fun hb2 => ?_)
  ·
   replace h := bif_t h hb2
   refine .seq (.region [] mixed (by kernel_rfl) ?_)
   refine .cons (.move .none (.s rfl)) rfl ?_
   refine .cons (.assign .none (.s rfl)) rfl ?_
   refine .nil (.then ?_)
   refine .seq (.region [] mixed (by kernel_rfl) ?_)
   refine .cons (.move .none (.s rfl)) rfl ?_
   refine .cons (.assign .none (.s rfl)) rfl ?_
   refine .nil (.then ?_)
   refine .seq ?_
   obtain ⟨j_3, h, hK3⟩ := bind_some h
   refine .thenJ (ι := Int) (fun j_3 => [(10, ⟨True, rep j_3⟩)]) (fun j_3 => []) (fun s => j_3 = s) (.k 0 rfl (.k 1 rfl .nil)) (.k 220 rfl .nil) ?_ (fun j_3' hj3 => ?_)
   ·
    skip
    refine .block ?_
    refine .loopL h (fun s4_ => [(10, ⟨True, rep s4_.1⟩), (11, ⟨True, rep s4_.2⟩)]) (fun s4_ => []) (.k 10 rfl (.k 11 rfl .nil)) SubB.nil (.k 0 rfl (.k 1 rfl (.k 4 rfl .nil))) (.k 220 rfl .nil) (fun s4_ o_4 h hD4 => ?_)
    unfold slices_symMergeCmpFunc_mean_L1 at h
    refine .seq ?_
    refine .seq (.region [] mixed (by kernel_rfl) ?_)
    refine .cons (.move .none (.s rfl)) rfl ?_
    refine .cons (.move .none (.s rfl)) rfl ?_
    refine .cons (.lt .none (.s rfl) (.s rfl)) rfl ?_
    refine .nil (.then ?_)
    refine .cond (t := 33) rfl trivial (fun hb5 => ?_) (fun hb5 => ?_)
    ·
     replace h := bif_t h hb5
     refine .skip ?_
     refine .then ?_
     refine .block ?_
     refine .seq (.region [] mixed (by kernel_rfl) ?_)
     refine .cons (.move .none (.s rfl)) rfl ?_
     refine .cons (.move .none (.s rfl)) rfl ?_
     refine .cons (.addW .none (.s rfl) (.s rfl)) rfl ?_
     refine .cons (.toK .none (by kernel_rfl) Try.underlying69 (.s rfl)) rfl ?_
     refine .cons (.kshr .none (.s rfl) .ki (fun _ => by decide)) rfl ?_
     refine .cons (.toInt .none (by kernel_rfl) Try.underlying3 (.s rfl)) rfl ?_
     obtain ⟨h1, hv6, h⟩ := bnd_some h
     refine .cons (.re hv6 (.assign .none (.s rfl))) rfl ?_
     refine .nil (.then ?_)
     refine .seq (.region [([], []), ([], []), ([], []), ([220], []), ([220], []), ([], []), ([], []), ([220], []), ([220], []), ([], []), ([], [])] mixed (by kernel_rfl) ?_)
     refine .consA (.move .none (.s rfl)) rfl ?_
     refine .consA (.move .none (.s rfl)) rfl ?_
     refine .consA (.move .none (.s rfl)) rfl ?_
     obtain ⟨hn7, h⟩ := need_some h
     refine .consA (.indexAddrO (k := 220) .none sl93 ty95 (.s rfl) rfl (.s rfl) (fun _ => hn7)) rfl ?_
     refine .consA (.loadElem0 (k := 220) .none ty95 (.s rfl) rfl (fun _ => hn7)) rfl ?_
     refine .consA (.move .none (.s rfl)) rfl ?_
     refine .consA (.move .none (.s rfl)) rfl ?_
     obtain ⟨hn8, h⟩ := need_some h
     refine .consA (.indexAddrO (k := 220) .none sl93 ty95 (.s rfl) rfl (.s rfl) (fun _ => hn8)) rfl ?_
     refine .consA (.loadElem0 (k := 220) .none ty95 (.s rfl) rfl (fun _ => hn8)) rfl ?_
     obtain ⟨r1, hv9, h⟩ := bind_some h
     refine .consA (.callV (gx x.1 h1, gx x.1 x.2.1, r1) .none (.s rfl) (fun _ => hv9) (.cons (.s rfl) (.cons (.s rfl) .nil))) rfl ?_
     refine .consA (.lt .none (.s rfl) (.int (by decide))) rfl ?_
     refine .nil (.then ?_)
     refine .cond (t := 50) rfl trivial (fun hb10 => ?_) (fun hb10 => ?_)
     ·
      replace h := bif_t h hb10
      refine .region [] mixed (by kernel_rfl) ?_
      refine .cons (.move .none (.s rfl)) rfl ?_
      refine .cons (.addW .none (.s rfl) (.int (by decide))) rfl ?_
      obtain ⟨i1, hv11, h⟩ := bnd_some h
      refine .cons (.re hv11 (.assign .none (.s rfl))) rfl ?_
      refine .nil ?_
      refine .blkNormal ?_
      exact Ends.againL (some_eq h) (.k 10 rfl (.k 11 rfl (.k 0 rfl (.k 1 rfl (.k 4 rfl .nil))))) (.k 220 rfl .nil)
     ·
      replace h := bif_f h hb10
      refine .region [] mixed (by kernel_rfl) ?_
      refine .cons (.move .none (.s rfl)) rfl ?_
      refine .cons (.assign .none (.s rfl)) rfl ?_
      refine .nil ?_
      refine .blkNormal ?_
      exact Ends.againL (some_eq h) (.k 10 rfl (.k 11 rfl (.k 0 rfl (.k 1 rfl (.k 4 rfl .nil))))) (.k 220 rfl .nil)
    ·
     replace h := bif_f h hb5
     refine .exit ?_
     refine .thenExit ?_
     refine .thenExit ?_
     refine .blkExit ?_
     replace h := hD4 _ (some_eq h)
     exact Ends.join _ (some_eq h) (.k 10 rfl (.k 0 rfl (.k 1 rfl .nil))) (.k 220 rfl .nil)
   ·
    subst hj3; have h := hK3; clear hK3
    refine .seq ?_
    refine .seq (.region [] mixed (by kernel_rfl) ?_)
    refine .cons (.move .none (.s rfl)) rfl ?_
    refine .cons (.assign .none (.s rfl)) rfl ?_
    refine .nil (.then ?_)
    obtain ⟨j_12, h, hK12⟩ := bind_some h
    refine .thenJ (ι := (List Ref_mean)) (fun j_12 => []) (fun j_12 => [(220, some (CPred.at s220 (rowV 95 j_12)))]) (fun s => j_12 = s) Sub.nil SubB.nil ?_ (fun j_12' hj12 => ?_)
    ·
     skip
     refine .block ?_
     refine .loopL h (fun s13_ => [(13, ⟨True, rep s13_.1⟩)]) (fun s13_ => [(220, some (CPred.at s220 (rowV 95 s13_.2)))]) (.k 13 rfl .nil) (.k 220 rfl .nil) (.k 0 rfl (.k 10 rfl .nil)) SubB.nil (fun s13_ o_13 h hD13 => ?_)
     unfold slices_symMergeCmpFunc_mean_L2 at h
     refine .seq ?_
     refine .seq (.region [] mixed (by kernel_rfl) ?_)
     refine .cons (.move .none (.s rfl)) rfl ?_
     refine .cons (.move .none (.s rfl)) rfl ?_
     refine .cons (.subW .none (.s rfl) (.int (by decide))) rfl ?_
     refine .cons (.lt .none (.s rfl) (.s rfl)) rfl ?_
     refine .nil (.then ?_)
     refine .cond (t := 58) rfl trivial (fun hb14 => ?_) (fun hb14 => ?_)
     ·
      replace h := bif_t h hb14
      refine .skip ?_
      refine .then ?_
      refine .seq ?_
      refine .block ?_
      refine .region [([], []), ([], []), ([], []), ([], []), ([], []), ([], []), ([], []), ([], []), ([220], []), ([220], []), ([], []), ([], []), ([220], []), ([220], []), ([220], []), ([220], [220]), ([220], []), ([220], [220])] mixed (by kernel_rfl) ?_
      refine .consA (.move .none (.s rfl)) rfl ?_
      refine .consA (.move .none (.s rfl)) rfl ?_
      refine .consA (.move .none (.s rfl)) rfl ?_
      refine .consA (.move .none (.s rfl)) rfl ?_
      refine .consA (.addW .none (.s rfl) (.int (by decide))) rfl ?_
      refine .consA (.move .none (.s rfl)) rfl ?_
      refine .consA (.move .none (.s rfl)) rfl ?_
      refine .consA (.addW .none (.s rfl) (.int (by decide))) rfl ?_
      obtain ⟨hn15, h⟩ := need_some h
      refine .consA (.indexAddrO (k := 220) .none sl93 ty95 (.s rfl) rfl (.s rfl) (fun _ => hn15)) rfl ?_
      obtain ⟨v1, hv16, h⟩ := bnd_some h
      refine .consA (.re hv16 (.loadElem0 (k := 220) .none ty95 (.s rfl) rfl (fun _ => hn15))) rfl ?_
      refine .consA (.move .none (.s rfl)) rfl ?_
      refine .consA (.move .none (.s rfl)) rfl ?_
      obtain ⟨hn17, h⟩ := need_some h
      refine .consA (.indexAddrO (k := 220) .none sl93 ty95 (.s rfl) rfl (.s rfl) (fun _ => hn17)) rfl ?_
      obtain ⟨v2, hv18, h⟩ := bnd_some h
      refine .consA (.re hv18 (.loadElem0 (k := 220) .none ty95 (.s rfl) rfl (fun _ => hn17))) rfl ?_
      obtain ⟨hn19, h⟩ := need_some h
      refine .consA (.indexAddrO (k := 220) .none sl93 ty95 (.s rfl) rfl (.s rfl) (fun _ => hn19)) rfl ?_
      refine .consN (.storeElem0 (k := 220) ty95 (.s rfl) rfl (.s rfl) hn19) rfl ?_
      obtain ⟨hn20, h⟩ := need_some h
      refine .consA (.indexAddrO (k := 220) .none sl93 ty95 (.s rfl) rfl (.s rfl) (fun _ => hn20)) rfl ?_
      refine .consN (.storeElem0 (k := 220) ty95 (.s rfl) rfl (.s rfl) hn20) rfl ?_
      refine .nil ?_
      refine .blkNormal ?_
      refine .then ?_
      obtain ⟨data2, hv21, h⟩ := bnd_some h
      refine .reB (t := 220) rfl (congrArg (fun y => CPred.at s220 (rowV 95 y)) hv21) ?_
      refine .region [] mixed (by kernel_rfl) ?_
      refine .cons (.move .none (.s rfl)) rfl ?_
      refine .cons (.addW .none (.s rfl) (.int (by decide))) rfl ?_
      obtain ⟨k1, hv22, h⟩ := bnd_some h
      refine .cons (.re hv22 (.assign .none (.s rfl))) rfl ?_
      refine .nil ?_
      exact Ends.againL (some_eq h) (.k 13 rfl (.k 0 rfl (.k 10 rfl .nil))) (.k 220 rfl .nil)
     ·
      replace h := bif_f h hb14
      refine .exit ?_
      refine .thenExit ?_
      refine .thenExit ?_
      refine .blkExit ?_
      replace h := hD13 _ (some_eq h)
      exact Ends.join _ (some_eq h) Sub.nil (.k 220 rfl .nil)
    ·
     subst hj12; have h := hK12; clear hK12
     refine .ret ?_
     refine .thenRet ?_
     replace h := resb_ab hK1 (some_eq h)
     obtain rfl := some_eq h
     exact Ends.ret0O (.inl rfl) [220] Try.results120 (by decide) (.held rfl .nil) 
  ·
   replace h := bif_f h hb2
   refine .skip ?_
   exact Ends.join _ (some_eq h) (.k 0 rfl (.k 1 rfl (.k 2 rfl (.k 3 rfl (.k 4 rfl .nil))))) (.k 220 rfl .nil)
 ·
  have h := resb_nx hK1 hj1
  refine .seq ?_
  refine .seq (.region [] mixed (by kernel_rfl) ?_)
  refine .cons (.move .none (.s rfl)) rfl ?_
  refine .cons (.move .none (.s rfl)) rfl ?_
  refine .cons (.subW .none (.s rfl) (.s rfl)) rfl ?_
  refine .cons (.eqI .none (.s rfl) (.int (by decide))) rfl ?_
  refine .nil (.then ?_)
  obtain ⟨o_23, h, hK23⟩ := bindR_some h
  refine .thenJ (ι := Unit) (fun j_23 => []) (fun j_23 => []) (fun s => o_23 = Res.nx s) (.k 0 rfl (.k 1 rfl (.k 2 rfl (.k 3 rfl (.k 4 rfl .nil))))) (.k 220 rfl .nil) ?_ (fun j_23 hj23 => ?_)
  ·
   skip
   refine .cond (t := 80) rfl trivial (fun hb24 => ?_) (fun hb24 => ?_)
   ·
    replace h := bif_t h hb24
    refine .seq (.region [] mixed (by kernel_rfl) ?_)
    refine .cons (.move .none (.s rfl)) rfl ?_
    refine .cons (.assign .none (.s rfl)) rfl ?_
    refine .nil (.then ?_)
    refine .seq (.region [] mixed (by kernel_rfl) ?_)
    refine .cons (.move .none (.s rfl)) rfl ?_
    refine .cons (.assign .none (.s rfl)) rfl ?_
    refine .nil (.then ?_)
    refine .seq ?_
    obtain ⟨j_25, h, hK25⟩ := bind_some h
    refine .thenJ (ι := Int) (fun j_25 => [(14, ⟨True, rep j_25⟩)]) (fun j_25 => []) (fun s => j_25 = s) (.k 0 rfl (.k 2 rfl .nil)) (.k 220 rfl .nil) ?_ (fun j_25' hj25 => ?_)
    ·
     skip
     refine .block ?_
     refine .loopL h (fun s26_ => [(14, ⟨True, rep s26_.1⟩), (15, ⟨True, rep s26_.2⟩)]) (fun s26_ => []) (.k 14 rfl (.k 15 rfl .nil)) SubB.nil (.k 0 rfl (.k 2 rfl (.k 4 rfl .nil))) (.k 220 rfl .nil) (fun s26_ o_26 h hD26 => ?_)
     unfold slices_symMergeCmpFunc_mean_L3 at h
     refine .seq ?_
     refine .seq (.region [] mixed (by kernel_rfl) ?_)
     refine .cons (.move .none (.s rfl)) rfl ?_
     refine .cons (.move .none (.s rfl)) rfl ?_
     refine .cons (.lt .none (.s rfl) (.s rfl)) rfl ?_
     refine .nil (.then ?_)
     refine .cond (t := 85) rfl trivial (fun hb27 => ?_) (fun hb27 => ?_)
     ·
      replace h := bif_t h hb27
      refine .skip ?_
      refine .then ?_
      refine .block ?_
      refine .seq (.region [] mixed (by kernel_rfl) ?_)
      refine .cons (.move .none (.s rfl)) rfl ?_
      refine .cons (.move .none (.s rfl)) rfl ?_
      refine .cons (.addW .none (.s rfl) (.s rfl)) rfl ?_
      refine .cons (.toK .none (by kernel_rfl) Try.underlying69 (.s rfl)) rfl ?_
      refine .cons (.kshr .none (.s rfl) .ki (fun _ => by decide)) rfl ?_
      refine .cons (.toInt .none (by kernel_rfl) Try.underlying3 (.s rfl)) rfl ?_
      obtain ⟨h2, hv28, h⟩ := bnd_some h
      refine .cons (.re hv28 (.assign .none (.s rfl))) rfl ?_
      refine .nil (.then ?_)
      refine .seq (.region [([], []), ([], []), ([], []), ([220], []), ([220], []), ([], []), ([], []), ([220], []), ([220], []), ([], []), ([], []), ([], [])] mixed (by kernel_rfl) ?_)
      refine .consA (.move .none (.s rfl)) rfl ?_
      refine .consA (.move .none (.s rfl)) rfl ?_
      refine .consA (.move .none (.s rfl)) rfl ?_
      obtain ⟨hn29, h⟩ := need_some h
      refine .consA (.indexAddrO (k := 220) .none sl93 ty95 (.s rfl) rfl (.s rfl) (fun _ => hn29)) rfl ?_
      refine .consA (.loadElem0 (k := 220) .none ty95 (.s rfl) rfl (fun _ => hn29)) rfl ?_
      refine .consA (.move .none (.s rfl)) rfl ?_
      refine .consA (.move .none (.s rfl)) rfl ?_
      obtain ⟨hn30, h⟩ := need_some h
      refine .consA (.indexAddrO (k := 220) .none sl93 ty95 (.s rfl) rfl (.s rfl) (fun _ => hn30)) rfl ?_
      refine .consA (.loadElem0 (k := 220) .none ty95 (.s rfl) rfl (fun _ => hn30)) rfl ?_
      obtain ⟨r2, hv31, h⟩ := bind_some h
      refine .consA (.callV (gx x.1 x.2.2.1, gx x.1 h2, r2) .none (.s rfl) (fun _ => hv31) (.cons (.s rfl) (.cons (.s rfl) .nil))) rfl ?_
      refine .consA (.lt .none (.s rfl) (.int (by decide))) rfl ?_
      refine .consA (.not .none (.s rfl)) rfl ?_
      refine .nil (.then ?_)
      refine .cond (t := 103) rfl trivial (fun hb32 => ?_) (fun hb32 => ?_)
      ·
       replace h := bif_t h hb32
       refine .region [] mixed (by kernel_rfl) ?_
       refine .cons (.move .none (.s rfl)) rfl ?_
       refine .cons (.addW .none (.s rfl) (.int (by decide))) rfl ?_
       obtain ⟨i2, hv33, h⟩ := bnd_some h
       refine .cons (.re hv33 (.assign .none (.s rfl))) rfl ?_
       refine .nil ?_
       refine .blkNormal ?_
       exact Ends.againL (some_eq h) (.k 14 rfl (.k 15 rfl (.k 0 rfl (.k 2 rfl (.k 4 rfl .nil))))) (.k 220 rfl .nil)
      ·
       replace h := bif_f h hb32
       refine .region [] mixed (by kernel_rfl) ?_
       refine .cons (.move .none (.s rfl)) rfl ?_
       refine .cons (.assign .none (.s rfl)) rfl ?_
       refine .nil ?_
       refine .blkNormal ?_
       exact Ends.againL (some_eq h) (.k 14 rfl (.k 15 rfl (.k 0 rfl (.k 2 rfl (.k 4 rfl .nil))))) (.k 220 rfl .nil)
     ·
      replace h := bif_f h hb27
      refine .exit ?_
      refine .thenExit ?_
      refine .thenExit ?_
      refine .blkExit ?_
      replace h := hD26 _ (some_eq h)
      exact Ends.join _ (some_eq h) (.k 14 rfl (.k 0 rfl (.k 2 rfl .nil))) (.k 220 rfl .nil)
    ·
     subst hj25; have h := hK25; clear hK25
     refine .seq ?_
     refine .seq (.region [] mixed (by kernel_rfl) ?_)
     refine .cons (.move .none (.s rfl)) rfl ?_
     refine .cons (.assign .none (.s rfl)) rfl ?_
     refine .nil (.then ?_)
     obtain ⟨j_34, h, hK34⟩ := bind_some h
     refine .thenJ (ι := (List Ref_mean)) (fun j_34 => []) (fun j_34 => [(220, some (CPred.at s220 (rowV 95 j_34)))]) (fun s => j_34 = s) Sub.nil SubB.nil ?_ (fun j_34' hj34 => ?_)
     ·
      skip
      refine .block ?_
      refine .loopL h (fun s35_ => [(17, ⟨True, rep s35_.1⟩)]) (fun s35_ => [(220, some (CPred.at s220 (rowV 95 s35_.2)))]) (.k 17 rfl .nil) (.k 220 rfl .nil) (.k 0 rfl (.k 14 rfl .nil)) SubB.nil (fun s35_ o_35 h hD35 => ?_)
      unfold slices_symMergeCmpFunc_mean_L4 at h
      refine .seq ?_
      refine .seq (.region [] mixed (by kernel_rfl) ?_)
      refine .cons (.move .none (.s rfl)) rfl ?_
      refine .cons (.move .none (.s rfl)) rfl ?_
      refine .cons (.gt .none (.s rfl) (.s rfl)) rfl ?_
      refine .nil (.then ?_)
      refine .cond (t := 110) rfl trivial (fun hb36 => ?_) (fun hb36 => ?_)
      ·
       replace h := bif_t h hb36
       refine .skip ?_
       refine .then ?_
       refine .seq ?_
       refine .block ?_
       refine .region [([], []), ([], []), ([], []), ([], []), ([], []), ([], []), ([], []), ([], []), ([220], []), ([220], []), ([], []), ([], []), ([220], []), ([220], []), ([220], []), ([220], [220]), ([220], []), ([220], [220])] mixed (by kernel_rfl) ?_
       refine .consA (.move .none (.s rfl)) rfl ?_
       refine .consA (.move .none (.s rfl)) rfl ?_
       refine .consA (.move .none (.s rfl)) rfl ?_
       refine .consA (.move .none (.s rfl)) rfl ?_
       refine .consA (.subW .none (.s rfl) (.int (by decide))) rfl ?_
       refine .consA (.move .none (.s rfl)) rfl ?_
       refine .consA (.move .none (.s rfl)) rfl ?_
       refine .consA (.subW .none (.s rfl) (.int (by decide))) rfl ?_
       obtain ⟨hn37, h⟩ := need_some h
       refine .consA (.indexAddrO (k := 220) .none sl93 ty95 (.s rfl) rfl (.s rfl) (fun _ => hn37)) rfl ?_
       obtain ⟨v3, hv38, h⟩ := bnd_some h
       refine .consA (.re hv38 (.loadElem0 (k := 220) .none ty95 (.s rfl) rfl (fun _ => hn37))) rfl ?_
       refine .consA (.move .none (.s rfl)) rfl ?_
       refine .consA (.move .none (.s rfl)) rfl ?_
       obtain ⟨hn39, h⟩ := need_some h
       refine .consA (.indexAddrO (k := 220) .none sl93 ty95 (.s rfl) rfl (.s rfl) (fun _ => hn39)) rfl ?_
       obtain ⟨v4, hv40, h⟩ := bnd_some h
       refine .consA (.re hv40 (.loadElem0 (k := 220) .none ty95 (.s rfl) rfl (fun _ => hn39))) rfl ?_
       obtain ⟨hn41, h⟩ := need_some h
       refine .consA (.indexAddrO (k := 220) .none sl93 ty95 (.s rfl) rfl (.s rfl) (fun _ => hn41)) rfl ?_
       refine .consN (.storeElem0 (k := 220) ty95 (.s rfl) rfl (.s rfl) hn41) rfl ?_
       obtain ⟨hn42, h⟩ := need_some h
       refine .consA (.indexAddrO (k := 220) .none sl93 ty95 (.s rfl) rfl (.s rfl) (fun _ => hn42)) rfl ?_
       refine .consN (.storeElem0 (k := 220) ty95 (.s rfl) rfl (.s rfl) hn42) rfl ?_
       refine .nil ?_
       refine .blkNormal ?_
       refine .then ?_
       obtain ⟨data3, hv43, h⟩ := bnd_some h
       refine .reB (t := 220) rfl (congrArg (fun y => CPred.at s220 (rowV 95 y)) hv43) ?_
       refine .region [] mixed (by kernel_rfl) ?_
       refine .cons (.move .none (.s rfl)) rfl ?_
       refine .cons (.subW .none (.s rfl) (.int (by decide))) rfl ?_
       obtain ⟨k2, hv44, h⟩ := bnd_some h
       refine .cons (.re hv44 (.assign .none (.s rfl))) rfl ?_
       refine .nil ?_
       exact Ends.againL (some_eq h) (.k 17 rfl (.k 0 rfl (.k 14 rfl .nil))) (.k 220 rfl .nil)
      ·
       replace h := bif_f h hb36
       refine .exit ?_
       refine .thenExit ?_
       refine .thenExit ?_
       refine .blkExit ?_
       replace h := hD35 _ (some_eq h)
       exact Ends.join _ (some_eq h) Sub.nil (.k 220 rfl .nil)
     ·
      subst hj34; have h := hK34; clear hK34
      refine .ret ?_
      refine .thenRet ?_
      replace h := resb_ab hK23 (some_eq h)
      obtain rfl := some_eq h
      exact Ends.ret0O (.inl rfl) [220] Try.results120 (by decide) (.held rfl .nil) 
   ·
    replace h := bif_f h hb24
    refine .skip ?_
    exact Ends.join _ (some_eq h) (.k 0 rfl (.k 1 rfl (.k 2 rfl (.k 3 rfl (.k 4 rfl .nil))))) (.k 220 rfl .nil)
  ·
   have h := resb_nx hK23 hj23
   refine .seq (.region [] mixed (by kernel_rfl) ?_)
   refine .cons (.move .none (.s rfl)) rfl ?_
   refine .cons (.move .none (.s rfl)) rfl ?_
   refine .cons (.addW .none (.s rfl) (.s rfl)) rfl ?_
   refine .cons (.toK .none (by kernel_rfl) Try.underlying69 (.s rfl)) rfl ?_
   refine .cons (.kshr .none (.s rfl) .ki (fun _ => by decide)) rfl ?_
   refine .cons (.toInt .none (by kernel_rfl) Try.underlying3 (.s rfl)) rfl ?_
   obtain ⟨mid1, hv45, h⟩ := bnd_some h
   refine .cons (.re hv45 (.assign .none (.s rfl))) rfl ?_
   refine .nil (.then ?_)
   refine .seq (.region [] mixed (by kernel_rfl) ?_)
   refine .cons (.move .none (.s rfl)) rfl ?_
   refine .cons (.move .none (.s rfl)) rfl ?_
   refine .cons (.addW .none (.s rfl) (.s rfl)) rfl ?_
   obtain ⟨n1, hv46, h⟩ := bnd_some h
   refine .cons (.re hv46 (.assign .none (.s rfl))) rfl ?_
   refine .nil (.then ?_)
   refine .seq (.region [] mixed (by kernel_rfl) ?_)
   refine .cons (.assign .none (.int (by decide))) rfl ?_
   refine .cons (.assign .none (.int (by decide))) rfl ?_
   refine .nil (.then ?_)
   refine .seq ?_
   refine .seq (.region [] mixed (by kernel_rfl) ?_)
   refine .cons (.move .none (.s rfl)) rfl ?_
   refine .cons (.move .none (.s rfl)) rfl ?_
   refine .cons (.gt .none (.s rfl) (.s rfl)) rfl ?_
   refine .nil (.then ?_)
   obtain ⟨j_47, h, hK47⟩ := bind_some h
   refine .thenJ (ι := (Int × Int)) (fun j_47 => [(20, ⟨True, rep j_47.1⟩), (21, ⟨True, rep j_47.2⟩)]) (fun j_47 => []) (fun s => j_47 = s) (.k 0 rfl (.k 1 rfl (.k 2 rfl (.k 3 rfl (.k 4 rfl (.k 18 rfl (.k 19 rfl .nil))))))) (.k 220 rfl .nil) ?_ (fun j_47' hj47 => ?_)
   ·
    skip
    refine .cond (t := 140) rfl trivial (fun hb48 => ?_) (fun hb48 => ?_)
    ·
     replace h := bif_t h hb48
     refine .seq (.region [] mixed (by kernel_rfl) ?_)
     refine .cons (.move .none (.s rfl)) rfl ?_
     refine .cons (.move .none (.s rfl)) rfl ?_
     refine .cons (.subW .none (.s rfl) (.s rfl)) rfl ?_
     obtain ⟨start1, hv49, h⟩ := bnd_some h
     refine .cons (.re hv49 (.assign .none (.s rfl))) rfl ?_
     refine .nil (.then ?_)
     refine .region [] mixed (by kernel_rfl) ?_
     refine .cons (.move .none (.s rfl)) rfl ?_
     refine .cons (.assign .none (.s rfl)) rfl ?_
     refine .nil ?_
     exact Ends.join _ (some_eq h) (.k 20 rfl (.k 21 rfl (.k 0 rfl (.k 1 rfl (.k 2 rfl (.k 3 rfl (.k 4 rfl (.k 18 rfl (.k 19 rfl .nil))))))))) (.k 220 rfl .nil)
    ·
     replace h := bif_f h hb48
     refine .seq (.region [] mixed (by kernel_rfl) ?_)
     refine .cons (.move .none (.s rfl)) rfl ?_
     refine .cons (.assign .none (.s rfl)) rfl ?_
     refine .nil (.then ?_)
     refine .region [] mixed (by kernel_rfl) ?_
     refine .cons (.move .none (.s rfl)) rfl ?_
     refine .cons (.assign .none (.s rfl)) rfl ?_
     refine .nil ?_
     exact Ends.join _ (some_eq h) (.k 20 rfl (.k 21 rfl (.k 0 rfl (.k 1 rfl (.k 2 rfl (.k 3 rfl (.k 4 rfl (.k 18 rfl (.k 19 rfl .nil))))))))) (.k 220 rfl .nil)
   ·
    subst hj47; have h := hK47; clear hK47
    refine .seq (.region [] mixed (by kernel_rfl) ?_)
    refine .cons (.move .none (.s rfl)) rfl ?_
    refine .cons (.subW .none (.s rfl) (.int (by decide))) rfl ?_
    refine .cons (.assign .none (.s rfl)) rfl ?_
    refine .nil (.then ?_)
    refine .seq ?_
    obtain ⟨j_50, h, hK50⟩ := bind_some h
    refine .thenJ (ι := Int) (fun j_50 => [(20, ⟨True, rep j_50⟩)]) (fun j_50 => []) (fun s => j_50 = s) (.k 0 rfl (.k 1 rfl (.k 2 rfl (.k 3 rfl (.k 4 rfl (.k 18 rfl (.k 19 rfl .nil))))))) (.k 220 rfl .nil) ?_ (fun j_50' hj50 => ?_)
    ·
     skip
     refine .block ?_
     refine .loopL h (fun s51_ => [(20, ⟨True, rep s51_.1⟩), (21, ⟨True, rep s51_.2⟩)]) (fun s51_ => []) (.k 20 rfl (.k 21 rfl .nil)) SubB.nil (.k 0 rfl (.k 1 rfl (.k 2 rfl (.k 3 rfl (.k 4 rfl (.k 18 rfl (.k 19 rfl (.k 22 rfl .nil)))))))) (.k 220 rfl .nil) (fun s51_ o_51 h hD51 => ?_)
     unfold slices_symMergeCmpFunc_mean_L5 at h
     refine .seq ?_
     refine .seq (.region [] mixed (by kernel_rfl) ?_)
     refine .cons (.move .none (.s rfl)) rfl ?_
     refine .cons (.move .none (.s rfl)) rfl ?_
     refine .cons (.lt .none (.s rfl) (.s rfl)) rfl ?_
     refine .nil (.then ?_)
     refine .cond (t := 151) rfl trivial (fun hb52 => ?_) (fun hb52 => ?_)
     ·
      replace h := bif_t h hb52
      refine .skip ?_
      refine .then ?_
      refine .block ?_
      refine .seq (.region [] mixed (by kernel_rfl) ?_)
      refine .cons (.move .none (.s rfl)) rfl ?_
      refine .cons (.move .none (.s rfl)) rfl ?_
      refine .cons (.addW .none (.s rfl) (.s rfl)) rfl ?_
      refine .cons (.toK .none (by kernel_rfl) Try.underlying69 (.s rfl)) rfl ?_
      refine .cons (.kshr .none (.s rfl) .ki (fun _ => by decide)) rfl ?_
      refine .cons (.toInt .none (by kernel_rfl) Try.underlying3 (.s rfl)) rfl ?_
      obtain ⟨c1, hv53, h⟩ := bnd_some h
      refine .cons (.re hv53 (.assign .none (.s rfl))) rfl ?_
      refine .nil (.then ?_)
      refine .seq (.region [([], []), ([], []), ([], []), ([], []), ([], []), ([220], []), ([220], []), ([], []), ([], []), ([220], []), ([220], []), ([], []), ([], []), ([], [])] mixed (by kernel_rfl) ?_)
      refine .consA (.move .none (.s rfl)) rfl ?_
      refine .consA (.move .none (.s rfl)) rfl ?_
      refine .consA (.move .none (.s rfl)) rfl ?_
      refine .consA (.move .none (.s rfl)) rfl ?_
      refine .consA (.subW .none (.s rfl) (.s rfl)) rfl ?_
      obtain ⟨hn54, h⟩ := need_some h
      refine .consA (.indexAddrO (k := 220) .none sl93 ty95 (.s rfl) rfl (.s rfl) (fun _ => hn54)) rfl ?_
      refine .consA (.loadElem0 (k := 220) .none ty95 (.s rfl) rfl (fun _ => hn54)) rfl ?_
      refine .consA (.move .none (.s rfl)) rfl ?_
      refine .consA (.move .none (.s rfl)) rfl ?_
      obtain ⟨hn55, h⟩ := need_some h
      refine .consA (.indexAddrO (k := 220) .none sl93 ty95 (.s rfl) rfl (.s rfl) (fun _ => hn55)) rfl ?_
      refine .consA (.loadElem0 (k := 220) .none ty95 (.s rfl) rfl (fun _ => hn55)) rfl ?_
      obtain ⟨r3, hv56, h⟩ := bind_some h
      refine .consA (.callV (gx x.1 (W ((W (n1 - 1)) - c1)), gx x.1 c1, r3) .none (.s rfl) (fun _ => hv56) (.cons (.s rfl) (.cons (.s rfl) .nil))) rfl ?_
      refine .consA (.lt .none (.s rfl) (.int (by decide))) rfl ?_
      refine .consA (.not .none (.s rfl)) rfl ?_
      refine .nil (.then ?_)
      refine .cond (t := 171) rfl trivial (fun hb57 => ?_) (fun hb57 => ?_)
      ·
       replace h := bif_t h hb57
       refine .region [] mixed (by kernel_rfl) ?_
       refine .cons (.move .none (.s rfl)) rfl ?_
       refine .cons (.addW .none (.s rfl) (.int (by decide))) rfl ?_
       obtain ⟨start2, hv58, h⟩ := bnd_some h
       refine .cons (.re hv58 (.assign .none (.s rfl))) rfl ?_
       refine .nil ?_
       refine .blkNormal ?_
       exact Ends.againL (some_eq h) (.k 20 rfl (.k 21 rfl (.k 0 rfl (.k 1 rfl (.k 2 rfl (.k 3 rfl (.k 4 rfl (.k 18 rfl (.k 19 rfl (.k 22 rfl .nil)))))))))) (.k 220 rfl .nil)
      ·
       replace h := bif_f h hb57
       refine .region [] mixed (by kernel_rfl) ?_
       refine .cons (.move .none (.s rfl)) rfl ?_
       refine .cons (.assign .none (.s rfl)) rfl ?_
       refine .nil ?_
       refine .blkNormal ?_
       exact Ends.againL (some_eq h) (.k 20 rfl (.k 21 rfl (.k 0 rfl (.k 1 rfl (.k 2 rfl (.k 3 rfl (.k 4 rfl (.k 18 rfl (.k 19 rfl (.k 22 rfl .nil)))))))))) (.k 220 rfl .nil)
     ·
      replace h := bif_f h hb52
      refine .exit ?_
      refine .thenExit ?_
      refine .thenExit ?_
      refine .blkExit ?_
      replace h := hD51 _ (some_eq h)
      exact Ends.join _ (some_eq h) (.k 20 rfl (.k 0 rfl (.k 1 rfl (.k 2 rfl (.k 3 rfl (.k 4 rfl (.k 18 rfl (.k 19 rfl .nil)))))))) (.k 220 rfl .nil)
    ·
     subst hj50; have h := hK50; clear hK50
     refine .seq (.region [] mixed (by kernel_rfl) ?_)
     refine .cons (.move .none (.s rfl)) rfl ?_
     refine .cons (.move .none (.s rfl)) rfl ?_
     refine .cons (.subW .none (.s rfl) (.s rfl)) rfl ?_
     obtain ⟨end1, hv59, h⟩ := bnd_some h
     refine .cons (.re hv59 (.assign .none (.s rfl))) rfl ?_
     refine .nil (.then ?_)
     refine .seq ?_
     refine .seq (.region [] mixed (by kernel_rfl) ?_)
     refine .cons (.move .none (.s rfl)) rfl ?_
     refine .cons (.move .none (.s rfl)) rfl ?_
     refine .cons (.lt .none (.s rfl) (.s rfl)) rfl ?_
     refine .cons (.move .none (.s rfl)) rfl ?_
     refine .cons (.move (.at rfl rfl) (.s rfl)) rfl ?_
     refine .cons (.move (.at rfl rfl) (.s rfl)) rfl ?_
     refine .cons (.lt (.at rfl rfl) (.tmp rfl id) (.tmp rfl id)) rfl ?_
     refine .cons (.pickAnd .none (.s rfl) (.tmp rfl id)) rfl ?_
     refine .nil (.then ?_)
     obtain ⟨j_60, h, hK60⟩ := bind_some h
     refine .thenJ (ι := (List Ref_mean)) (fun j_60 => []) (fun j_60 => [(220, some (CPred.at s220 (rowV 95 j_60)))]) (fun s => j_60 = s) (.k 0 rfl (.k 1 rfl (.k 3 rfl (.k 4 rfl (.k 18 rfl (.k 20 rfl (.k 24 rfl .nil))))))) SubB.nil ?_ (fun j_60' hj60 => ?_)
     ·
      skip
      refine .cond (t := 185) rfl trivial (fun hb61 => ?_) (fun hb61 => ?_)
      ·
       replace h := bif_t h hb61
       refine .region [([], []), ([], []), ([], []), ([], []), ([], []), ([220], [220])] mixed (by kernel_rfl) ?_
       refine .consA (.move .none (.s rfl)) rfl ?_
       refine .consA (.move .none (.s rfl)) rfl ?_
       refine .consA (.move .none (.s rfl)) rfl ?_
       refine .consA (.move .none (.s rfl)) rfl ?_
       refine .consA (.move .none (.s rfl)) rfl ?_
       obtain ⟨r4, hv62, h⟩ := bind_some h
       refine .consW (.callO [220] (slices_rotateCmpFunc_mean_ok hv62) (.cons (.s rfl) (.cons (.s rfl) (.cons (.s rfl) (.cons (.s rfl) (.cons (.s rfl) .nil))))) (.cons (k := 220) rfl .nil) rfl (by decide) (by decide) (by intro d h; cases h; decide)) rfl rfl ?_
       refine .nil ?_
       exact Ends.join _ (some_eq h) (.k 0 rfl (.k 1 rfl (.k 3 rfl (.k 4 rfl (.k 18 rfl (.k 20 rfl (.k 24 rfl .nil))))))) (.k 220 rfl .nil)
      ·
       replace h := bif_f h hb61
       refine .skip ?_
       exact Ends.join _ (some_eq h) (.k 0 rfl (.k 1 rfl (.k 3 rfl (.k 4 rfl (.k 18 rfl (.k 20 rfl (.k 24 rfl .nil))))))) (.k 220 rfl .nil)
     ·
      subst hj60; have h := hK60; clear hK60
      refine .seq ?_
      refine .seq (.region [] mixed (by kernel_rfl) ?_)
      refine .cons (.move .none (.s rfl)) rfl ?_
      refine .cons (.move .none (.s rfl)) rfl ?_
      refine .cons (.lt .none (.s rfl) (.s rfl)) rfl ?_
      refine .cons (.move .none (.s rfl)) rfl ?_
      refine .cons (.move (.at rfl rfl) (.s rfl)) rfl ?_
      refine .cons (.move (.at rfl rfl) (.s rfl)) rfl ?_
      refine .cons (.lt (.at rfl rfl) (.tmp rfl id) (.tmp rfl id)) rfl ?_
      refine .cons (.pickAnd .none (.s rfl) (.tmp rfl id)) rfl ?_
      refine .nil (.then ?_)
      obtain ⟨j_63, h, hK63⟩ := bind_some h
      refine .thenJ (ι := (List Ref_mean)) (fun j_63 => []) (fun j_63 => [(220, some (CPred.at s220 (rowV 95 j_63)))]) (fun s => j_63 = s) (.k 0 rfl (.k 3 rfl (.k 4 rfl (.k 18 rfl (.k 24 rfl .nil))))) SubB.nil ?_ (fun j_63' hj63 => ?_)
      ·
       skip
       refine .cond (t := 199) rfl trivial (fun hb64 => ?_) (fun hb64 => ?_)
       ·
        replace h := bif_t h hb64
        refine .region [([], []), ([], []), ([], []), ([], []), ([], []), ([220], [220])] mixed (by kernel_rfl) ?_
        refine .consA (.move .none (.s rfl)) rfl ?_
        refine .consA (.move .none (.s rfl)) rfl ?_
        refine .consA (.move .none (.s rfl)) rfl ?_
        refine .consA (.move .none (.s rfl)) rfl ?_
        refine .consA (.move .none (.s rfl)) rfl ?_
        obtain ⟨r5, hv65, h⟩ := bind_some h
        refine .consW (.callO [220] (hself _ _ hv65) (.cons (.s rfl) (.cons (.s rfl) (.cons (.s rfl) (.cons (.s rfl) (.cons (.s rfl) .nil))))) (.cons (k := 220) rfl .nil) rfl (by decide) (by decide) (by intro d h; cases h; decide)) rfl rfl ?_
        refine .nil ?_
        exact Ends.join _ (some_eq h) (.k 0 rfl (.k 3 rfl (.k 4 rfl (.k 18 rfl (.k 24 rfl .nil))))) (.k 220 rfl .nil)
       ·
        replace h := bif_f h hb64
        refine .skip ?_
        exact Ends.join _ (some_eq h) (.k 0 rfl (.k 3 rfl (.k 4 rfl (.k 18 rfl (.k 24 rfl .nil))))) (.k 220 rfl .nil)
      ·
       subst hj63; have h := hK63; clear hK63
       refine .seq (.region [] mixed (by kernel_rfl) ?_)
       refine .cons (.move .none (.s rfl)) rfl ?_
       refine .cons (.move .none (.s rfl)) rfl ?_
       refine .cons (.lt .none (.s rfl) (.s rfl)) rfl ?_
       refine .cons (.move .none (.s rfl)) rfl ?_
       refine .cons (.move (.at rfl rfl) (.s rfl)) rfl ?_
       refine .cons (.move (.at rfl rfl) (.s rfl)) rfl ?_
       refine .cons (.lt (.at rfl rfl) (.tmp rfl id) (.tmp rfl id)) rfl ?_
       refine .cons (.pickAnd .none (.s rfl) (.tmp rfl id)) rfl ?_
       refine .nil (.then ?_)
       refine .cond (t := 213) rfl trivial (fun hb66 => ?_) (fun hb66 => ?_)
       ·
        replace h := bif_t h hb66
        refine .region [([], []), ([], []), ([], []), ([], []), ([], []), ([220], [220])] mixed (by kernel_rfl) ?_
        refine .consA (.move .none (.s rfl)) rfl ?_
        refine .consA (.move .none (.s rfl)) rfl ?_
        refine .consA (.move .none (.s rfl)) rfl ?_
        refine .consA (.move .none (.s rfl)) rfl ?_
        refine .consA (.move .none (.s rfl)) rfl ?_
        obtain ⟨r6, hv67, h⟩ := bind_some h
        refine .consW (.callO [220] (hself _ _ hv67) (.cons (.s rfl) (.cons (.s rfl) (.cons (.s rfl) (.cons (.s rfl) (.cons (.s rfl) .nil))))) (.cons (k := 220) rfl .nil) rfl (by decide) (by decide) (by intro d h; cases h; decide)) rfl rfl ?_
        refine .nil ?_
        obtain rfl := some_eq h
        exact Ends.ret0O (.inr rfl) [220] Try.results120 (by decide) (.held rfl .nil) 
       ·
        replace h := bif_f h hb66
        refine .skip ?_
        obtain rfl := some_eq h
        exact Ends.ret0O (.inr rfl) [220] Try.results120 (by decide) (.held rfl .nil) 
theorem slices_symMergeCmpFunc_mean_okN : ∀ (k : Nat) {s220 : Value} (x : ((List Ref_mean) × Int × Int × Int × (Ref_mean → Ref_mean → Option Int))) (r : (List Ref_mean)) (h : fixN slices_symMergeCmpFunc_mean_body k x = some r), FSpecO Try.prog 120 [isV s220, rep x.2.1, rep x.2.2.1, rep x.2.2.2.1, fn2 Try.prog (rep (α := Int)) x.2.2.2.2] [(s220, rowV 95 x.1)] (anyV) [some (rowV 95 r)]
 | 0, _, x, r, h => by simp [fixN] at h
 | k + 1, _, x, r, h => slices_symMergeCmpFunc_mean_okS (slices_symMergeCmpFunc_mean_okN k) h
theorem slices_symMergeCmpFunc_mean_ok {data1 : (List Ref_mean)} {a1 : Int} {m1 : Int} {b1 : Int} {cmp1 : (Ref_mean → Ref_mean → Option Int)} {r : (List Ref_mean)} {s220 : Value} (h : slices_symMergeCmpFunc_mean data1 a1 m1 b1 cmp1 = some r) : FSpecO Try.prog 120 [isV s220, rep a1, rep m1, rep b1, fn2 Try.prog (rep (α := Int)) cmp1] [(s220, rowV 95 data1)] (anyV) [some (rowV 95 r)] :=
 let ⟨k, hk⟩ := fixp_some h
 slices_symMergeCmpFunc_mean_okN k (data1, a1, m1, b1, cmp1) r hk

theorem slices_stableCmpFunc_mean_ok {data1 : (List Ref_mean)} {n1 : Int} {cmp1 : (Ref_mean → Ref_mean → Option Int)} {r : (List Ref_mean)} {s63 : Value} (h : slices_stableCmpFunc_mean data1 n1 cmp1 = some r) : FSpecO Try.prog 104 [isV s63, rep n1, fn2 Try.prog (rep (α := Int)) cmp1] [(s63, rowV 95 data1)] (anyV) [some (rowV 95 r)] := by
 unfold slices_stableCmpFunc_mean at h
 refine FSpecO.intro (n := 63) fnok104 Try.func104 rfl Try.ntmps104 rfl (fun F => ?_)
 refine .seq (.region [] mixed (by kernel_rfl) ?_)
 refine .cons (.assign .none (.int (by decide))) rfl ?_
 refine .nil (.then ?_)
 refine .seq (.region [] mixed (by kernel_rfl) ?_)
 refine .cons (.move .none (.s rfl)) rfl ?_
 refine .cons (.assign .none (.int (by decide))) rfl ?_
 refine .cons (.assign .none (.s rfl)) rfl ?_
 refine .nil (.then ?_)
 refine .seq ?_
 obtain ⟨j_1, h, hK1⟩ := bind_some h
 refine .thenJ (ι := (Int × (List Ref_mean))) (fun j_1 => [(7, ⟨True, rep j_1.1⟩)]) (fun j_1 => [(63, some (CPred.at s63 (rowV 95 j_1.2)))]) (fun s => j_1 = s) (.k 0 rfl (.k 1 rfl (.k 2 rfl (.k 6 rfl .nil)))) SubB.nil ?_ (fun j_1' hj1 => ?_)
 ·
  skip
  refine .block ?_
  refine .loopL h (fun s2_ => [(7, ⟨True, rep s2_.1⟩), (8, ⟨True, rep s2_.2.1⟩)]) (fun s2_ => [(63, some (CPred.at s63 (rowV 95 s2_.2.2)))]) (.k 7 rfl (.k 8 rfl .nil)) (.k 63 rfl .nil) (.k 0 rfl (.k 1 rfl (.k 2 rfl (.k 6 rfl .nil)))) SubB.nil (fun s2_ o_2 h hD2 => ?_)
  unfold slices_stableCmpFunc_mean_L1 at h
  refine .seq ?_
  refine .seq (.region [] mixed (by kernel_rfl) ?_)
  refine .cons (.move .none (.s rfl)) rfl ?_
  refine .cons (.move .none (.s rfl)) rfl ?_
  refine .cons (.le .none (.s rfl) (.s rfl)) rfl ?_
  refine .nil (.then ?_)
  refine .cond (t := 13) rfl trivial (fun hb3 => ?_) (fun hb3 => ?_)
  ·
   replace h := bif_t h hb3
   refine .skip ?_
   refine .then ?_
   refine .block ?_
   refine .seq (.region [([], []), ([], []), ([], []), ([], []), ([63], [63])] mixed (by kernel_rfl) ?_)
   refine .consA (.move .none (.s rfl)) rfl ?_
   refine .consA (.move .none (.s rfl)) rfl ?_
   refine .consA (.move .none (.s rfl)) rfl ?_
   refine .consA (.move .none (.s rfl)) rfl ?_
   obtain ⟨r1, hv4, h⟩ := bind_some h
   refine .consW (.callO [63] (slices_insertionSortCmpFunc_mean_ok hv4) (.cons (.s rfl) (.cons (.s rfl) (.cons (.s rfl) (.cons (.s rfl) .nil)))) (.cons (k := 63) rfl .nil) rfl (by decide) (by decide) (by intro d h; cases h; decide)) rfl rfl ?_
   refine .nil (.then ?_)
   refine .seq (.region [] mixed (by kernel_rfl) ?_)
   refine .cons (.move .none (.s rfl)) rfl ?_
   refine .cons (.assign .none (.s rfl)) rfl ?_
   refine .nil (.then ?_)
   refine .region [] mixed (by kernel_rfl) ?_
   refine .cons (.move .none (.s rfl)) rfl ?_
   refine .cons (.move .none (.s rfl)) rfl ?_
   refine .cons (.addW .none (.s rfl) (.s rfl)) rfl ?_
   obtain ⟨b1, hv5, h⟩ := bnd_some h
   refine .cons (.re hv5 (.assign .none (.s rfl))) rfl ?_
   refine .nil ?_
   refine .blkNormal ?_
   exact Ends.againL (some_eq h) (.k 7 rfl (.k 8 rfl (.k 0 rfl (.k 1 rfl (.k 2 rfl (.k 6 rfl .nil)))))) (.k 63 rfl .nil)
  ·
   replace h := bif_f h hb3
   refine .exit ?_
   refine .thenExit ?_
   refine .thenExit ?_
   refine .blkExit ?_
   replace h := hD2 _ (some_eq h)
   exact Ends.join _ (some_eq h) (.k 7 rfl (.k 0 rfl (.k 1 rfl (.k 2 rfl (.k 6 rfl .nil))))) (.k 63 rfl .nil)
 ·
  subst hj1; have h := hK1; clear hK1
  refine .seq (.region [([], []), ([], []), ([], []), ([], []), ([63], [63])] mixed (by kernel_rfl) ?_)
  refine .consA (.move .none (.s rfl)) rfl ?_
  refine .consA (.move .none (.s rfl)) rfl ?_
  refine .consA (.move .none (.s rfl)) rfl ?_
  refine .consA (.move .none (.s rfl)) rfl ?_
  obtain ⟨r2, hv6, h⟩ := bind_some h
  refine .consW (.callO [63] (slices_insertionSortCmpFunc_mean_ok hv6) (.cons (.s rfl) (.cons (.s rfl) (.cons (.s rfl) (.cons (.s rfl) .nil)))) (.cons (k := 63) rfl .nil) rfl (by decide) (by decide) (by intro d h; cases h; decide)) rfl rfl ?_
  refine .nil (.then ?_)
  refine .block ?_
  refine .loopL h (fun s7_ => [(6, ⟨True, rep s7_.1⟩)]) (fun s7_ => [(63, some (CPred.at s63 (rowV 95 s7_.2)))]) (.k 6 rfl .nil) (.k 63 rfl .nil) (.k 0 rfl (.k 1 rfl (.k 2 rfl .nil))) SubB.nil (fun s7_ o_7 h hD7 => ?_)
  unfold slices_stableCmpFunc_mean_L2 at h
  refine .seq ?_
  refine .seq (.region [] mixed (by kernel_rfl) ?_)
  refine .cons (.move .none (.s rfl)) rfl ?_
  refine .cons (.move .none (.s rfl)) rfl ?_
  refine .cons (.lt .none (.s rfl) (.s rfl)) rfl ?_
  refine .nil (.then ?_)
  refine .cond (t := 30) rfl trivial (fun hb8 => ?_) (fun hb8 => ?_)
  ·
   replace h := bif_t h hb8
   refine .skip ?_
   refine .then ?_
   refine .block ?_
   refine .seq (.region [] mixed (by kernel_rfl) ?_)
   refine .cons (.move .none (.s rfl)) rfl ?_
   refine .cons (.mulW .none (.int (by decide)) (.s rfl)) rfl ?_
   refine .cons (.assign .none (.int (by decide))) rfl ?_
   obtain ⟨b2, hv9, h⟩ := bnd_some h
   refine .cons (.re hv9 (.assign .none (.s rfl))) rfl ?_
   refine .nil (.then ?_)
   refine .seq ?_
   obtain ⟨j_10, h, hK10⟩ := bind_some h
   refine .thenJ (ι := (Int × (List Ref_mean))) (fun j_10 => [(7, ⟨True, rep j_10.1⟩)]) (fun j_10 => [(63, some (CPred.at s63 (rowV 95 j_10.2)))]) (fun s => j_10 = s) (.k 0 rfl (.k 1 rfl (.k 2 rfl (.k 6 rfl .nil)))) SubB.nil ?_ (fun j_10' hj10 => ?_)
   ·
    skip
    refine .block ?_
    refine .loopL h (fun s11_ => [(7, ⟨True, rep s11_.1⟩), (8, ⟨True, rep s11_.2.1⟩)]) (fun s11_ => [(63, some (CPred.at s63 (rowV 95 s11_.2.2)))]) (.k 7 rfl (.k 8 rfl .nil)) (.k 63 rfl .nil) (.k 0 rfl (.k 1 rfl (.k 2 rfl (.k 6 rfl .nil)))) SubB.nil (fun s11_ o_11 h hD11 => ?_)
    unfold slices_stableCmpFunc_mean_L3 at h
    refine .seq ?_
    refine .seq (.region [] mixed (by kernel_rfl) ?_)
    refine .cons (.move .none (.s rfl)) rfl ?_
    refine .cons (.move .none (.s rfl)) rfl ?_
    refine .cons (.le .none (.s rfl) (.s rfl)) rfl ?_
    refine .nil (.then ?_)
    refine .cond (t := 35) rfl trivial (fun hb12 => ?_) (fun hb12 => ?_)
    ·
     replace h := bif_t h hb12
     refine .skip ?_
     refine .then ?_
     refine .block ?_
     refine .seq (.region [([], []), ([], []), ([], []), ([], []), ([], []), ([], []), ([], []), ([63], [63])] mixed (by kernel_rfl) ?_)
     refine .consA (.move .none (.s rfl)) rfl ?_
     refine .consA (.move .none (.s rfl)) rfl ?_
     refine .consA (.move .none (.s rfl)) rfl ?_
     refine .consA (.move .none (.s rfl)) rfl ?_
     refine .consA (.addW .none (.s rfl) (.s rfl)) rfl ?_
     refine .consA (.move .none (.s rfl)) rfl ?_
     refine .consA (.move .none (.s rfl)) rfl ?_
     obtain ⟨r3, hv13, h⟩ := bind_some h
     refine .consW (.callO [63] (slices_symMergeCmpFunc_mean_ok hv13) (.cons (.s rfl) (.cons (.s rfl) (.cons (.s rfl) (.cons (.s rfl) (.cons (.s rfl) .nil))))) (.cons (k := 63) rfl .nil) rfl (by decide) (by decide) (by intro d h; cases h; decide)) rfl rfl ?_
     refine .nil (.then ?_)
     refine .seq (.region [] mixed (by kernel_rfl) ?_)
     refine .cons (.move .none (.s rfl)) rfl ?_
     refine .cons (.assign .none (.s rfl)) rfl ?_
     refine .nil (.then ?_)
     refine .region [] mixed (by kernel_rfl) ?_
     refine .cons (.move .none (.s rfl)) rfl ?_
     refine .cons (.move .none (.s rfl)) rfl ?_
     refine .cons (.mulW .none (.int (by decide)) (.s rfl)) rfl ?_
     refine .cons (.addW .none (.s rfl) (.s rfl)) rfl ?_
     obtain ⟨b3, hv14, h⟩ := bnd_some h
     refine .cons (.re hv14 (.assign .none (.s rfl))) rfl ?_
     refine .nil ?_
     refine .blkNormal ?_
     exact Ends.againL (some_eq h) (.k 7 rfl (.k 8 rfl (.k 0 rfl (.k 1 rfl (.k 2 rfl (.k 6 rfl .nil)))))) (.k 63 rfl .nil)
    ·
     replace h := bif_f h hb12
     refine .exit ?_
     refine .thenExit ?_
     refine .thenExit ?_
     refine .blkExit ?_
     replace h := hD11 _ (some_eq h)
     exact Ends.join _ (some_eq h) (.k 7 rfl (.k 0 rfl (.k 1 rfl (.k 2 rfl (.k 6 rfl .nil))))) (.k 63 rfl .nil)
   ·
    subst hj10; have h := hK10; clear hK10
    refine .seq ?_
    refine .seq (.region [] mixed (by kernel_rfl) ?_)
    refine .cons (.move .none (.s rfl)) rfl ?_
    refine .cons (.move .none (.s rfl)) rfl ?_
    refine .cons (.addW .none (.s rfl) (.s rfl)) rfl ?_
    obtain ⟨m1, hv15, h⟩ := bnd_some h
    refine .cons (.re hv15 (.assign .none (.s rfl))) rfl ?_
    refine .nil (.then ?_)
    refine .seq (.region [] mixed (by kernel_rfl) ?_)
    refine .cons (.move .none (.s rfl)) rfl ?_
    refine .cons (.move .none (.s rfl)) rfl ?_
    refine .cons (.lt .none (.s rfl) (.s rfl)) rfl ?_
    refine .nil (.then ?_)
    obtain ⟨j_16, h, hK16⟩ := bind_some h
    refine .thenJ (ι := (List Ref_mean)) (fun j_16 => []) (fun j_16 => [(63, some (CPred.at s63 (rowV 95 j_16)))]) (fun s => j_16 = s) (.k 0 rfl (.k 1 rfl (.k 2 rfl (.k 6 rfl .nil)))) SubB.nil ?_ (fun j_16' hj16 => ?_)
    ·
     skip
     refine .cond (t := 54) rfl trivial (fun hb17 => ?_) (fun hb17 => ?_)
     ·
      replace h := bif_t h hb17
      refine .region [([], []), ([], []), ([], []), ([], []), ([], []), ([63], [63])] mixed (by kernel_rfl) ?_
      refine .consA (.move .none (.s rfl)) rfl ?_
      refine .consA (.move .none (.s rfl)) rfl ?_
      refine .consA (.move .none (.s rfl)) rfl ?_
      refine .consA (.move .none (.s rfl)) rfl ?_
      refine .consA (.move .none (.s rfl)) rfl ?_
      obtain ⟨r4, hv18, h⟩ := bind_some h
      refine .consW (.callO [63] (slices_symMergeCmpFunc_mean_ok hv18) (.cons (.s rfl) (.cons (.s rfl) (.cons (.s rfl) (.cons (.s rfl) (.cons (.s rfl) .nil))))) (.cons (k := 63) rfl .nil) rfl (by decide) (by decide) (by intro d h; cases h; decide)) rfl rfl ?_
      refine .nil ?_
      exact Ends.join _ (some_eq h) (.k 0 rfl (.k 1 rfl (.k 2 rfl (.k 6 rfl .nil)))) (.k 63 rfl .nil)
     ·
      replace h := bif_f h hb17
      refine .skip ?_
      exact Ends.join _ (some_eq h) (.k 0 rfl (.k 1 rfl (.k 2 rfl (.k 6 rfl .nil)))) (.k 63 rfl .nil)
    ·
     subst hj16; have h := hK16; clear hK16
     refine .region [] mixed (by kernel_rfl) ?_
     refine .cons (.move .none (.s rfl)) rfl ?_
     refine .cons (.mulW .none (.s rfl) (.int (by decide))) rfl ?_
     obtain ⟨blockSize1, hv19, h⟩ := bnd_some h
     refine .cons (.re hv19 (.assign .none (.s rfl))) rfl ?_
     refine .nil ?_
     refine .blkNormal ?_
     exact Ends.againL (some_eq h) (.k 6 rfl (.k 0 rfl (.k 1 rfl (.k 2 rfl .nil)))) (.k 63 rfl .nil)
  ·
   replace h := bif_f h hb8
   refine .exit ?_
   refine .thenExit ?_
   refine .thenExit ?_
   refine .blkExit ?_
   replace h := hD7 _ (some_eq h)
   obtain rfl := some_eq h
   exact Ends.ret0O (.inr rfl) [63] Try.results104 (by decide) (.held rfl .nil) 

theorem slices_SortStableFunc_mean_ok {x1 : (List Ref_mean)} {cmp1 : (Ref_mean → Ref_mean → Option Int)} {r : (List Ref_mean)} {s9 : Value} (h : slices_SortStableFunc_mean x1 cmp1 = some r) : FSpecO Try.prog 61 [isV s9, fn2 Try.prog (rep (α := Int)) cmp1] [(s9, rowV 95 x1)] (anyV) [some (rowV 95 r)] := by
 unfold slices_SortStableFunc_mean at h
 refine FSpecO.intro (n := 9) fnok61 Try.func61 rfl Try.ntmps61 rfl (fun F => ?_)
 refine .region [([], []), ([], []), ([9], []), ([], []), ([9], [9])] mixed (by kernel_rfl) ?_
 refine .consA (.move .none (.s rfl)) rfl ?_
 refine .consA (.move .none (.s rfl)) rfl ?_
 refine .consA (.lenO (k := 9) sl93 (.told (.s rfl) rfl)) rfl ?_
 refine .consA (.move .none (.s rfl)) rfl ?_
 obtain ⟨r1, hv1, h⟩ := bind_some h
 refine .consW (.callO [9] (slices_stableCmpFunc_mean_ok hv1) (.cons (.s rfl) (.cons (.s rfl) (.cons (.s rfl) .nil))) (.cons (k := 9) rfl .nil) rfl (by decide) (by decide) (by intro d h; cases h; decide)) rfl rfl ?_
 refine .nil ?_
 obtain rfl := some_eq h
 exact Ends.ret0O (.inr rfl) [9] Try.results61 (by decide) (.held rfl .nil) 

theorem ref_SweepOf_3_1_ok {a1 : Ref_mean} {b1 : Ref_mean} {r : Int}  (h : ref_SweepOf_3_1 a1 b1 = some r) : FSpec Try.prog 62 [rep a1, rep b1] (rep r) := by
 unfold ref_SweepOf_3_1 at h
 refine FSpec.intro (n := 16) fnok62 Try.func62 rfl Try.ntmps62 rfl (fun F => ?_)
 refine .seq (.region [] mixed (by kernel_rfl) ?_)
 refine .cons (.box .none (.s rfl)) rfl ?_
 refine .cons (.box .none (.s rfl)) rfl ?_
 refine .cons (.assign .none (.int (by decide))) rfl ?_
 refine .nil (.then ?_)
 refine .seq (.region [] mixed (by kernel_rfl) ?_)
 refine .cons (.fieldAddr .none fd95_1 hfd95_1 (.s rfl)) rfl ?_
 refine .cons (.load .none ty3 (.s rfl)) rfl ?_
 refine .cons (.fieldAddr .none fd95_2 hfd95_2 (.s rfl)) rfl ?_
 refine .cons (.load .none ty3 (.s rfl)) rfl ?_
 refine .cons (.mulW .none (.s rfl) (.s rfl)) rfl ?_
 refine .cons (.fieldAddr .none fd95_1 hfd95_1 (.s rfl)) rfl ?_
 refine .cons (.load .none ty3 (.s rfl)) rfl ?_
 refine .cons (.fieldAddr .none fd95_2 hfd95_2 (.s rfl)) rfl ?_
 refine .cons (.load .none ty3 (.s rfl)) rfl ?_
 refine .cons (.mulW .none (.s rfl) (.s rfl)) rfl ?_
 obtain ⟨r1, hv1, h⟩ := bind_some h
 refine .cons (.call .none (cmp_Compare_int_ok hv1) (.cons (.s rfl) (.cons (.s rfl) .nil))) rfl ?_
 refine .cons (.assign .none (.s rfl)) rfl ?_
 refine .nil (.then ?_)
 refine .ret ?_
 obtain rfl := some_eq h
 exact Ends.ret1 (.inl rfl) Try.results62 (ResOK.tmp rfl trivial Imp.refl)

theorem ref_SweepOf_3_ok {i1 : Int} {other1 : Int} {c0_1 : (List (List Int))} {c1_1 : (List Link)} {r : (List (List Int))} {m105 : Nat} {s106 : Value} (h : ref_SweepOf_3 i1 other1 c0_1 c1_1 = some r) : FSpecO Try.prog 60 [rep i1, rep other1, isV (ptr m105 0), ref c1_1] [(ptr m105 0, cont 22 (⟨s106⟩ : Raw)), (s106, rowD 32 3 mkR subR [] c0_1)] (anyV) [some (deep (fun z0 => cont 22 (⟨z0⟩ : Raw)) (rowD 32 3 mkR subR [] r)), none] := by
 unfold ref_SweepOf_3 at h
 refine FSpecO.intro (n := 105) fnok60 Try.func60 rfl Try.ntmps60 rfl (fun F => ?_)
 refine .seq (.region [([], [6])] mixed (by kernel_rfl) ?_)
 refine .consW (.nilRow (T := 95) (α := Ref_mean) rfl) rfl rfl ?_
 refine .nil (.then ?_)
 refine .nameRow (t := 6) (g := 5001) rfl rfl rfl (fun s5001 => ?_)
 refine .seq ?_
 refine .seq ?_
 obtain ⟨hn1, h⟩ := need_some h
 refine .openD (k := 106) (g := 5002) (i := i1) rfl rfl hn1 noHole (fun s5002 => ?_)
 refine .region [([105], []), ([], []), ([106], []), ([106], []), ([5002], []), ([], [])] mixed (by kernel_rfl) ?_
 refine .consA (.loadAt0 (k := 105) .none tr22 rfl (.s rfl)) rfl ?_
 refine .consA (.move .none (.s rfl)) rfl ?_
 obtain ⟨hn2, h⟩ := need_some h
 refine .consA (.indexAddrD (k := 106) sl22 tr32 (.s rfl) rfl (.s rfl) hn2) rfl ?_
 refine .consA (.loadElemD (k := 106) (proj := fun x => x) (y := (⟨s5002⟩ : Raw)) (z := s5002) tr32 (.s rfl) rfl .id hn2 (by simp) rfl) rfl ?_
 refine .consA (.lenO (k := 5002) sl32 (.told (.s rfl) rfl)) rfl ?_
 refine .consA (.move .none (.int (by decide))) rfl ?_
 refine .nil (.then ?_)
 obtain ⟨c1, hv3, h⟩ := bnd_some h
 refine .reB (t := 5002) rfl (congrArg (fun y => CPred.at s5002 (rowV 3 y)) hv3) ?_
 obtain ⟨j_4, h, hK4⟩ := bind_some h
 refine .thenJ (ι := (List Ref_mean)) (fun j_4 => []) (fun j_4 => [(6, some (rowV 95 j_4))]) (fun s => j_4 = s) (.k 0 rfl (.k 2 rfl (.k 20 rfl .nil))) (.k 105 rfl (.k 106 rfl (.k 5002 rfl .nil))) ?_ (fun j_4' hj4 => ?_)
 ·
  skip
  refine .block ?_
  refine .anon (t := 6) (g := 5001) rfl rfl trivial rfl ?_
  refine .rforL h (fun p5_ => [(22, ⟨True, rep p5_.1⟩)]) (fun p5_ => [(6, some (rowV 95 p5_.2))]) (.k 22 rfl .nil) (.k 6 rfl .nil) (.k 0 rfl (.k 1 rfl (.k 2 rfl (.k 3 rfl (.k 20 rfl (.k 21 rfl .nil)))))) (.k 105 rfl (.k 106 rfl (.k 5002 rfl .nil))) (fun p5_ o_5 h hD5 => ?_)
  refine .nameRow (t := 6) (g := 5003) rfl rfl rfl (fun s5003 => ?_)
  refine .seq (.region [] mixed (by kernel_rfl) ?_)
  refine .cons (.lt .none (.s rfl) (.s rfl)) rfl ?_
  refine .nil (.then ?_)
  refine .seq ?_
  refine .cond (t := 23) rfl trivial (fun hb6 => ?_) (fun hb6 => ?_)
  ·
   replace h := bif_t h hb6
   refine .skip ?_
   refine .then ?_
   refine .seq ?_
   obtain ⟨j_7, h, hK7⟩ := bind_some h
   unfold ref_SweepOf_3_L1 at h
   refine .thenJ (ι := (List Ref_mean)) (fun j_7 => []) (fun j_7 => [(6, some (rowV 95 j_7))]) (fun s => j_7 = s) (.k 0 rfl (.k 1 rfl (.k 2 rfl (.k 3 rfl (.k 20 rfl (.k 21 rfl (.k 22 rfl .nil))))))) (.k 105 rfl (.k 106 rfl (.k 5002 rfl .nil))) ?_ (fun j_7' hj7 => ?_)
   ·
    skip
    refine .block ?_
    refine .seq (.region [([], []), ([5002], []), ([5002], []), ([], []), ([], [])] mixed (by kernel_rfl) ?_)
    refine .consA (.move .none (.s rfl)) rfl ?_
    obtain ⟨hn8, h⟩ := need_some h
    refine .consA (.indexAddrO (k := 5002) .none sl32 ty3 (.s rfl) rfl (.s rfl) (fun _ => hn8)) rfl ?_
    refine .consA (.loadElem0 (k := 5002) .none ty3 (.s rfl) rfl (fun _ => hn8)) rfl ?_
    refine .consA (.assign .none (.s rfl)) rfl ?_
    obtain ⟨n1, hv9, h⟩ := bnd_some h
    refine .consA (.re hv9 (.assign .none (.s rfl))) rfl ?_
    refine .nil (.then ?_)
    refine .seq (.region [([], []), ([], []), ([], []), ([], [9]), ([9], [9])] mixed (by kernel_rfl) ?_)
    refine .consA (.move .none (.s rfl)) rfl ?_
    refine .consA (.move .none (.s rfl)) rfl ?_
    obtain ⟨v1, hv10, h⟩ := bnd_some h
    refine .consA (.re hv10 (.buildF (y := (⟨n1, p5_.1, 1⟩ : Ref_mean)) .none bu95 zc95 rfl (.cons (.s rfl) (.cons (.s rfl) (.cons (.int (by decide)) .nil))) (.cons rfl sf95_0 (.cons rfl sf95_1 (.cons rfl sf95_2 .nil))))) rfl ?_
    refine .consW (.alloc zo95 rfl) rfl rfl ?_
    refine .consN (.store ty95 rfl rfl (.s rfl)) rfl ?_
    refine .nil (.then ?_)
    refine .nameBox (t := 9) (g := 5004) rfl rfl (fun m5004 => ?_)
    refine .seq (.region [] mixed (by kernel_rfl) ?_)
    refine .cons (.assign .none (.int (by decide))) rfl ?_
    refine .cons (.assign .none (.int (by decide))) rfl ?_
    refine .nil (.then ?_)
    refine .seq ?_
    refine .seq (.region [] mixed (by kernel_rfl) ?_)
    refine .cons (.load .none ty23 (.s rfl)) rfl ?_
    refine .cons (.len .none sl23 (.s rfl)) rfl ?_
    refine .cons (.move .none (.int (by decide))) rfl ?_
    refine .nil (.then ?_)
    obtain ⟨j_11, h, hK11⟩ := bind_some h
    refine .thenJ (ι := (Int × Int)) (fun j_11 => [(10, ⟨True, rep j_11.1⟩), (11, ⟨True, rep j_11.2⟩)]) (fun j_11 => []) (fun s => j_11 = s) (.k 0 rfl (.k 1 rfl (.k 2 rfl (.k 3 rfl (.k 6 rfl (.k 9 rfl (.k 20 rfl (.k 21 rfl (.k 22 rfl .nil))))))))) (.k 105 rfl (.k 106 rfl (.k 5002 rfl (.k 5003 rfl (.k 5004 rfl .nil))))) ?_ (fun j_11' hj11 => ?_)
    ·
     skip
     refine .block ?_
     refine .rforL h (fun p12_ => [(32, ⟨True, rep p12_.1⟩), (10, ⟨True, rep p12_.2.1⟩), (11, ⟨True, rep p12_.2.2⟩)]) (fun p12_ => []) (.k 32 rfl (.k 10 rfl (.k 11 rfl .nil))) SubB.nil (.k 0 rfl (.k 1 rfl (.k 2 rfl (.k 3 rfl (.k 6 rfl (.k 8 rfl (.k 9 rfl (.k 20 rfl (.k 21 rfl (.k 22 rfl (.k 30 rfl (.k 31 rfl .nil)))))))))))) (.k 105 rfl (.k 106 rfl (.k 5002 rfl (.k 5003 rfl (.k 5004 rfl .nil))))) (fun p12_ o_12 h hD12 => ?_)
     refine .seq (.region [] mixed (by kernel_rfl) ?_)
     refine .cons (.lt .none (.s rfl) (.s rfl)) rfl ?_
     refine .nil (.then ?_)
     refine .seq ?_
     refine .cond (t := 33) rfl trivial (fun hb13 => ?_) (fun hb13 => ?_)
     ·
      replace h := bif_t h hb13
      refine .skip ?_
      refine .then ?_
      refine .seq ?_
      obtain ⟨j_14, h, hK14⟩ := bind_some h
      unfold ref_SweepOf_3_L2 at h
      refine .thenJ (ι := (Int × Int)) (fun j_14 => [(10, ⟨True, rep j_14.1⟩), (11, ⟨True, rep j_14.2⟩)]) (fun j_14 => []) (fun s => j_14 = s) (.k 0 rfl (.k 1 rfl (.k 2 rfl (.k 3 rfl (.k 6 rfl (.k 8 rfl (.k 9 rfl (.k 20 rfl (.k 21 rfl (.k 22 rfl (.k 30 rfl (.k 31 rfl (.k 32 rfl .nil))))))))))))) (.k 105 rfl (.k 106 rfl (.k 5002 rfl (.k 5003 rfl (.k 5004 rfl .nil))))) ?_ (fun j_14' hj14 => ?_)
      ·
       skip
       refine .block ?_
       refine .seq (.region [([], []), ([], []), ([], [13]), ([13], [13])] mixed (by kernel_rfl) ?_)
       obtain ⟨hn15, h⟩ := need_some h
       refine .consA (.indexAddr .none sl23 ty79 (.s rfl) (.s rfl) (fun _ => hn15)) rfl ?_
       obtain ⟨v2, hv16, h⟩ := bnd_some h
       refine .consA (.re hv16 (.load .none ty79 (.s rfl))) rfl ?_
       refine .consW (.alloc zo79 rfl) rfl rfl ?_
       refine .consN (.store ty79 rfl rfl (.s rfl)) rfl ?_
       refine .nil (.then ?_)
       refine .freeze (t := 13) rfl rfl (.k 105 rfl (.k 106 rfl (.k 5002 rfl (.k 5003 rfl (.k 5004 rfl .nil))))) rfl ?_
       refine .seq (.region [] mixed (by kernel_rfl) ?_)
       refine .cons (.assign .none (.int (by decide))) rfl ?_
       refine .nil (.then ?_)
       refine .seq ?_
       refine .seq (.region [] mixed (by kernel_rfl) ?_)
       refine .cons (.fieldAddr .none fd79_1 hfd79_1 (.s rfl)) rfl ?_
       refine .cons (.load .none ty3 (.s rfl)) rfl ?_
       refine .cons (.move .none (.s rfl)) rfl ?_
       refine .cons (.eqI .none (.s rfl) (.s rfl)) rfl ?_
       refine .cons (.move .none (.s rfl)) rfl ?_
       refine .cons (.move (.at rfl rfl) (.s rfl)) rfl ?_
       refine .cons (.move (.at rfl rfl) (.s rfl)) rfl ?_
       refine .cons (.lt (.at rfl rfl) (.tmp rfl id) (.tmp rfl id)) rfl ?_
       refine .cons (.pickAnd .none (.s rfl) (.tmp rfl id)) rfl ?_
       refine .nil (.then ?_)
       obtain ⟨j_17, h, hK17⟩ := bind_some h
       refine .thenJ (ι := Int) (fun j_17 => [(14, ⟨True, rep j_17⟩)]) (fun j_17 => []) (fun s => j_17 = s) (.k 0 rfl (.k 1 rfl (.k 2 rfl (.k 3 rfl (.k 6 rfl (.k 8 rfl (.k 9 rfl (.k 10 rfl (.k 11 rfl (.k 20 rfl (.k 21 rfl (.k 22 rfl (.k 30 rfl (.k 31 rfl (.k 32 rfl .nil))))))))))))))) (.k 105 rfl (.k 106 rfl (.k 5002 rfl (.k 5003 rfl (.k 5004 rfl .nil))))) ?_ (fun j_17' hj17 => ?_)
       ·
        skip
        refine .cond (t := 44) rfl trivial (fun hb18 => ?_) (fun hb18 => ?_)
        ·
         replace h := bif_t h hb18
         obtain ⟨hn19, h⟩ := need_some h
         obtain ⟨hn20, h⟩ := need_some h
         refine .openD (k := 106) (g := 5005) (i := other1) rfl rfl hn19 (allHoles (nat_ne hn19.1 hn1.1 hn20) noHole) (fun s5005 => ?_)
         refine .region [([105], []), ([], []), ([106], []), ([106], []), ([], []), ([], []), ([5005], []), ([], [])] mixed (by kernel_rfl) ?_
         refine .consA (.loadAt0 (k := 105) .none tr22 rfl (.s rfl)) rfl ?_
         refine .consA (.move .none (.s rfl)) rfl ?_
         obtain ⟨hn21, h⟩ := need_some h
         refine .consA (.indexAddrD (k := 106) sl22 tr32 (.s rfl) rfl (.s rfl) hn21) rfl ?_
         refine .consA (.loadElemD (k := 106) (proj := fun x => x) (y := (⟨s5005⟩ : Raw)) (z := s5005) tr32 (.s rfl) rfl .id hn21 (by simp) rfl) rfl ?_
         refine .consA (.fieldAddr .none fd79_0 hfd79_0 (.s rfl)) rfl ?_
         refine .consA (.load .none ty3 (.s rfl)) rfl ?_
         obtain ⟨far1, hv22, h⟩ := bind_some h
         refine .consA (.callC .none fnok31 (fun hg => slices_Index_int_ok  hv22) .rep (.lend (k := 5005) (.told (.s rfl) rfl) (.cons (.s rfl) .nil))) rfl ?_
         refine .consA (.assign .none (.s rfl)) rfl ?_
         refine .nil ?_
         refine .closeD0 (k := 106) (g := 5005) rfl rfl rfl hn19 (allHoles (nat_ne hn19.1 hn1.1 hn20) noHole) ?_
         exact Ends.join _ (some_eq h) (.k 14 rfl (.k 0 rfl (.k 1 rfl (.k 2 rfl (.k 3 rfl (.k 6 rfl (.k 8 rfl (.k 9 rfl (.k 10 rfl (.k 11 rfl (.k 20 rfl (.k 21 rfl (.k 22 rfl (.k 30 rfl (.k 31 rfl (.k 32 rfl .nil)))))))))))))))) (.k 105 rfl (.k 106 rfl (.k 5002 rfl (.k 5003 rfl (.k 5004 rfl .nil)))))
        ·
         replace h := bif_f h hb18
         refine .seq (.region [] mixed (by kernel_rfl) ?_)
         refine .cons (.fieldAddr .none fd79_0 hfd79_0 (.s rfl)) rfl ?_
         refine .cons (.load .none ty3 (.s rfl)) rfl ?_
         refine .cons (.move .none (.s rfl)) rfl ?_
         refine .cons (.eqI .none (.s rfl) (.s rfl)) rfl ?_
         refine .cons (.move .none (.s rfl)) rfl ?_
         refine .cons (.move (.at rfl rfl) (.s rfl)) rfl ?_
         refine .cons (.move (.at rfl rfl) (.s rfl)) rfl ?_
         refine .cons (.gt (.at rfl rfl) (.tmp rfl id) (.tmp rfl id)) rfl ?_
         refine .cons (.pickAnd .none (.s rfl) (.tmp rfl id)) rfl ?_
         refine .nil (.then ?_)
         refine .cond (t := 60) rfl trivial (fun hb23 => ?_) (fun hb23 => ?_)
         ·
          replace h := bif_t h hb23
          obtain ⟨hn24, h⟩ := need_some h
          obtain ⟨hn25, h⟩ := need_some h
          refine .openD (k := 106) (g := 5006) (i := other1) rfl rfl hn24 (allHoles (nat_ne hn24.1 hn1.1 hn25) noHole) (fun s5006 => ?_)
          refine .region [([105], []), ([], []), ([106], []), ([106], []), ([], []), ([], []), ([5006], []), ([], [])] mixed (by kernel_rfl) ?_
          refine .consA (.loadAt0 (k := 105) .none tr22 rfl (.s rfl)) rfl ?_
          refine .consA (.move .none (.s rfl)) rfl ?_
          obtain ⟨hn26, h⟩ := need_some h
          refine .consA (.indexAddrD (k := 106) sl22 tr32 (.s rfl) rfl (.s rfl) hn26) rfl ?_
          refine .consA (.loadElemD (k := 106) (proj := fun x => x) (y := (⟨s5006⟩ : Raw)) (z := s5006) tr32 (.s rfl) rfl .id hn26 (by simp) rfl) rfl ?_
          refine .consA (.fieldAddr .none fd79_1 hfd79_1 (.s rfl)) rfl ?_
          refine .consA (.load .none ty3 (.s rfl)) rfl ?_
          obtain ⟨far2, hv27, h⟩ := bind_some h
          refine .consA (.callC .none fnok31 (fun hg => slices_Index_int_ok  hv27) .rep (.lend (k := 5006) (.told (.s rfl) rfl) (.cons (.s rfl) .nil))) rfl ?_
          refine .consA (.assign .none (.s rfl)) rfl ?_
          refine .nil ?_
          refine .closeD0 (k := 106) (g := 5006) rfl rfl rfl hn24 (allHoles (nat_ne hn24.1 hn1.1 hn25) noHole) ?_
          exact Ends.join _ (some_eq h) (.k 14 rfl (.k 0 rfl (.k 1 rfl (.k 2 rfl (.k 3 rfl (.k 6 rfl (.k 8 rfl (.k 9 rfl (.k 10 rfl (.k 11 rfl (.k 20 rfl (.k 21 rfl (.k 22 rfl (.k 30 rfl (.k 31 rfl (.k 32 rfl .nil)))))))))))))))) (.k 105 rfl (.k 106 rfl (.k 5002 rfl (.k 5003 rfl (.k 5004 rfl .nil)))))
         ·
          replace h := bif_f h hb23
          refine .skip ?_
          exact Ends.join _ (some_eq h) (.k 14 rfl (.k 0 rfl (.k 1 rfl (.k 2 rfl (.k 3 rfl (.k 6 rfl (.k 8 rfl (.k 9 rfl (.k 10 rfl (.k 11 rfl (.k 20 rfl (.k 21 rfl (.k 22 rfl (.k 30 rfl (.k 31 rfl (.k 32 rfl .nil)))))))))))))))) (.k 105 rfl (.k 106 rfl (.k 5002 rfl (.k 5003 rfl (.k 5004 rfl .nil)))))
       ·
        subst hj17; have h := hK17; clear hK17
        refine .seq (.region [] mixed (by kernel_rfl) ?_)
        refine .cons (.move .none (.s rfl)) rfl ?_
        refine .cons (.ge .none (.s rfl) (.int (by decide))) rfl ?_
        refine .nil (.then ?_)
        refine .cond (t := 69) rfl trivial (fun hb28 => ?_) (fun hb28 => ?_)
        ·
         replace h := bif_t h hb28
         refine .region [] mixed (by kernel_rfl) ?_
         refine .cons (.move .none (.s rfl)) rfl ?_
         refine .cons (.move .none (.s rfl)) rfl ?_
         refine .cons (.addW .none (.s rfl) (.s rfl)) rfl ?_
         refine .cons (.move .none (.s rfl)) rfl ?_
         refine .cons (.addW .none (.s rfl) (.int (by decide))) rfl ?_
         obtain ⟨sum1, hv29, h⟩ := bnd_some h
         refine .cons (.re hv29 (.assign .none (.s rfl))) rfl ?_
         obtain ⟨many1, hv30, h⟩ := bnd_some h
         refine .cons (.re hv30 (.assign .none (.s rfl))) rfl ?_
         refine .nil ?_
         refine .blkNormal ?_
         exact Ends.join _ (some_eq h) (.k 10 rfl (.k 11 rfl (.k 0 rfl (.k 1 rfl (.k 2 rfl (.k 3 rfl (.k 6 rfl (.k 8 rfl (.k 9 rfl (.k 20 rfl (.k 21 rfl (.k 22 rfl (.k 30 rfl (.k 31 rfl (.k 32 rfl .nil))))))))))))))) (.k 105 rfl (.k 106 rfl (.k 5002 rfl (.k 5003 rfl (.k 5004 rfl .nil)))))
        ·
         replace h := bif_f h hb28
         refine .skip ?_
         refine .blkNormal ?_
         exact Ends.join _ (some_eq h) (.k 10 rfl (.k 11 rfl (.k 0 rfl (.k 1 rfl (.k 2 rfl (.k 3 rfl (.k 6 rfl (.k 8 rfl (.k 9 rfl (.k 20 rfl (.k 21 rfl (.k 22 rfl (.k 30 rfl (.k 31 rfl (.k 32 rfl .nil))))))))))))))) (.k 105 rfl (.k 106 rfl (.k 5002 rfl (.k 5003 rfl (.k 5004 rfl .nil)))))
      ·
       subst hj14; have h := hK14; clear hK14
       refine .region [] mixed (by kernel_rfl) ?_
       refine .cons (.addW .none (.s rfl) (.int (by decide))) rfl ?_
       refine .cons (.move .none (.s rfl)) rfl ?_
       refine .nil ?_
       exact Ends.againL (some_eq h) (.k 32 rfl (.k 10 rfl (.k 11 rfl (.k 0 rfl (.k 1 rfl (.k 2 rfl (.k 3 rfl (.k 6 rfl (.k 8 rfl (.k 9 rfl (.k 20 rfl (.k 21 rfl (.k 22 rfl (.k 30 rfl (.k 31 rfl .nil))))))))))))))) (.k 105 rfl (.k 106 rfl (.k 5002 rfl (.k 5003 rfl (.k 5004 rfl .nil)))))
     ·
      replace h := bif_f h hb13
      refine .exit ?_
      refine .thenExit ?_
      refine .thenExit ?_
      refine .blkExit ?_
      replace h := hD12 _ (some_eq h)
      exact Ends.join _ (some_eq h) (.k 10 rfl (.k 11 rfl (.k 0 rfl (.k 1 rfl (.k 2 rfl (.k 3 rfl (.k 6 rfl (.k 9 rfl (.k 20 rfl (.k 21 rfl (.k 22 rfl .nil))))))))))) (.k 105 rfl (.k 106 rfl (.k 5002 rfl (.k 5003 rfl (.k 5004 rfl .nil)))))
    ·
     subst hj11; have h := hK11; clear hK11
     refine .seq ?_
     refine .seq (.region [] mixed (by kernel_rfl) ?_)
     refine .cons (.move .none (.s rfl)) rfl ?_
     refine .cons (.gt .none (.s rfl) (.int (by decide))) rfl ?_
     refine .nil (.then ?_)
     obtain ⟨j_31, h, hK31⟩ := bind_some h
     refine .thenJ (ι := Ref_mean) (fun j_31 => []) (fun j_31 => [(5004, some (boxAt m5004 95 j_31))]) (fun s => j_31 = s) (.k 0 rfl (.k 1 rfl (.k 2 rfl (.k 3 rfl (.k 6 rfl (.k 9 rfl (.k 20 rfl (.k 21 rfl (.k 22 rfl .nil))))))))) (.k 105 rfl (.k 106 rfl (.k 5002 rfl (.k 5003 rfl .nil)))) ?_ (fun j_31' hj31 => ?_)
     ·
      skip
      refine .cond (t := 77) rfl trivial (fun hb32 => ?_) (fun hb32 => ?_)
      ·
       replace h := bif_t h hb32
       refine .region [([], []), ([], []), ([], []), ([5004], [5004]), ([], []), ([5004], [5004])] mixed (by kernel_rfl) ?_
       refine .consA (.move .none (.s rfl)) rfl ?_
       refine .consA (.move .none (.s rfl)) rfl ?_
       refine .consA (.fieldPtr .none fd95_1 (.s rfl)) rfl ?_
       refine .consN (.storeAt (g := 5004) ty3 rfl (.s rfl) sf95_1 (.s rfl)) rfl ?_
       refine .consA (.fieldPtr .none fd95_2 (.s rfl)) rfl ?_
       refine .consN (.storeAt (g := 5004) ty3 rfl (.s rfl) sf95_2 (.s rfl)) rfl ?_
       refine .nil ?_
       exact Ends.join _ (some_eq h) (.k 0 rfl (.k 1 rfl (.k 2 rfl (.k 3 rfl (.k 6 rfl (.k 9 rfl (.k 20 rfl (.k 21 rfl (.k 22 rfl .nil))))))))) (.k 5004 rfl (.k 105 rfl (.k 106 rfl (.k 5002 rfl (.k 5003 rfl .nil)))))
      ·
       replace h := bif_f h hb32
       refine .skip ?_
       exact Ends.join _ (some_eq h) (.k 0 rfl (.k 1 rfl (.k 2 rfl (.k 3 rfl (.k 6 rfl (.k 9 rfl (.k 20 rfl (.k 21 rfl (.k 22 rfl .nil))))))))) (.k 5004 rfl (.k 105 rfl (.k 106 rfl (.k 5002 rfl (.k 5003 rfl .nil)))))
     ·
      subst hj31; have h := hK31; clear hK31
      refine .freezeBox (g := 5004) (ts := [9]) rfl (.cons (t := 9) rfl trivial .nil) (.k 105 rfl (.k 106 rfl (.k 5002 rfl (.k 5003 rfl .nil)))) rfl ?_
      refine .region [([], []), ([], []), ([], []), ([5003], [85, 5003]), ([85], [6, 85])] mixed (by kernel_rfl) ?_
      refine .consA (.move .none (.s rfl)) rfl ?_
      refine .consA (.load .none ty95 (.s rfl)) rfl ?_
      refine .consA (.buildSlice (xs := [_]) .none sl93 ty95 hz95 (.cons (.s rfl) .nil) rfl (by decide)) rfl ?_
      obtain ⟨hn33, h⟩ := need_some h
      refine .consW (.append (k := 5003) rk93 rfl (.told (.s rfl) rfl) (.s rfl) hn33) rfl rfl ?_
      refine .consW (.passRow rfl (.tmp rfl)) rfl rfl ?_
      refine .nil ?_
      refine .blkNormal ?_
      exact Ends.join _ (some_eq h) (.k 0 rfl (.k 1 rfl (.k 2 rfl (.k 3 rfl (.k 20 rfl (.k 21 rfl (.k 22 rfl .nil))))))) (.k 6 rfl (.k 105 rfl (.k 106 rfl (.k 5002 rfl .nil))))
   ·
    subst hj7; have h := hK7; clear hK7
    refine .nameRow (t := 6) (g := 5007) rfl rfl rfl (fun s5007 => ?_)
    refine .region [] mixed (by kernel_rfl) ?_
    refine .cons (.addW .none (.s rfl) (.int (by decide))) rfl ?_
    refine .cons (.move .none (.s rfl)) rfl ?_
    refine .nil ?_
    refine .anon (t := 6) (g := 5007) rfl rfl trivial rfl ?_
    exact Ends.againL (some_eq h) (.k 22 rfl (.k 0 rfl (.k 1 rfl (.k 2 rfl (.k 3 rfl (.k 20 rfl (.k 21 rfl .nil))))))) (.k 6 rfl (.k 105 rfl (.k 106 rfl (.k 5002 rfl .nil))))
  ·
   replace h := bif_f h hb6
   refine .exit ?_
   refine .thenExit ?_
   refine .thenExit ?_
   refine .blkExit ?_
   refine .anon (t := 6) (g := 5003) rfl rfl trivial rfl ?_
   replace h := hD5 _ (some_eq h)
   exact Ends.join _ (some_eq h) (.k 0 rfl (.k 2 rfl (.k 20 rfl .nil))) (.k 6 rfl (.k 105 rfl (.k 106 rfl (.k 5002 rfl .nil))))
 ·
  subst hj4; have h := hK4; clear hK4
  refine .closeD (k := 106) (g := 5002) c1 rfl rfl rfl hn1 noHole (fun _ => rfl) rfl ?_
  obtain ⟨c2, hv34, h⟩ := bnd_some h
  refine .reB (t := 106) rfl (congrArg (fun y => CPred.at s106 (rowD 32 3 mkR subR [] y)) hv34) ?_
  refine .nameRow (t := 6) (g := 5008) rfl rfl rfl (fun s5008 => ?_)
  refine .seq (.region [([], []), ([5008], [5008])] mixed (by kernel_rfl) ?_)
  refine .consA (.move .none (.s rfl)) rfl ?_
  obtain ⟨r1, hv35, h⟩ := bind_some h
  refine .consW (.callO [5008] (slices_SortStableFunc_mean_ok hv35) (.cons (.s rfl) (.cons (Opd.func (ι := Ref_mean × Ref_mean × Int) (pre := fun i => ref_SweepOf_3_1 i.1 i.2.1 = some i.2.2) (Ss := fun i => [rep i.1, rep i.2.1]) (S := fun i => rep i.2.2) fnok62 (fun i h => ref_SweepOf_3_1_ok h)) .nil)) (.cons (k := 5008) rfl .nil) rfl (by decide) (by decide) (by intro d h; cases h; decide)) rfl rfl ?_
  refine .nil (.then ?_)
  refine .freezeRow (g := 5008) (ts := [6]) rfl (.cons (t := 6) rfl trivial .nil) (.k 105 rfl (.k 106 rfl .nil)) rfl ?_
  refine .seq (.region [] mixed (by kernel_rfl) ?_)
  refine .cons (.move .none (.s rfl)) rfl ?_
  refine .cons (.len .none sl93 (.s rfl)) rfl ?_
  refine .cons (.move .none (.int (by decide))) rfl ?_
  refine .nil (.then ?_)
  obtain ⟨j_36, h, hK36⟩ := bind_some h
  refine .tailJ (ι := (List (List Int))) (fun j_36 => []) (fun j_36 => [(106, some (CPred.at s106 (rowD 32 3 mkR subR [] j_36)))]) (fun s => j_36 = s) (.k 2 rfl .nil) (.k 105 rfl .nil) ?_ (fun j_36' hj36 => ?_)
  ·
   skip
   refine .block ?_
   refine .rforL h (fun p37_ => [(91, ⟨True, rep p37_.1⟩)]) (fun p37_ => [(106, some (CPred.at s106 (rowD 32 3 mkR subR [] p37_.2)))]) (.k 91 rfl .nil) (.k 106 rfl .nil) (.k 0 rfl (.k 2 rfl (.k 89 rfl (.k 90 rfl .nil)))) (.k 105 rfl .nil) (fun p37_ o_37 h hD37 => ?_)
   refine .seq (.region [] mixed (by kernel_rfl) ?_)
   refine .cons (.lt .none (.s rfl) (.s rfl)) rfl ?_
   refine .nil (.then ?_)
   refine .seq ?_
   refine .cond (t := 92) rfl trivial (fun hb38 => ?_) (fun hb38 => ?_)
   ·
    replace h := bif_t h hb38
    refine .skip ?_
    refine .then ?_
    refine .seq ?_
    obtain ⟨j_39, h, hK39⟩ := bind_some h
    unfold ref_SweepOf_3_L3 at h
    refine .thenJ (ι := (List (List Int))) (fun j_39 => []) (fun j_39 => [(106, some (CPred.at s106 (rowD 32 3 mkR subR [] j_39)))]) (fun s => j_39 = s) (.k 0 rfl (.k 2 rfl (.k 89 rfl (.k 90 rfl (.k 91 rfl .nil))))) (.k 105 rfl .nil) ?_ (fun j_39' hj39 => ?_)
    ·
     skip
     refine .block ?_
     refine .seq (.region [([], []), ([], []), ([], []), ([], [16]), ([], []), ([16], [16])] mixed (by kernel_rfl) ?_)
     refine .consA (.move .none (.s rfl)) rfl ?_
     obtain ⟨hn40, h⟩ := need_some h
     refine .consA (.indexAddr .none sl93 ty95 (.s rfl) (.s rfl) (fun _ => hn40)) rfl ?_
     obtain ⟨v3, hv41, h⟩ := bnd_some h
     refine .consA (.re hv41 (.load .none ty95 (.s rfl))) rfl ?_
     refine .consW (.alloc zo95 rfl) rfl rfl ?_
     refine .consA (.assign .none (.s rfl)) rfl ?_
     refine .consN (.store ty95 rfl rfl (.s rfl)) rfl ?_
     refine .nil (.then ?_)
     refine .freeze (t := 16) rfl rfl (.k 105 rfl (.k 106 rfl .nil)) rfl ?_
     obtain ⟨hn42, h⟩ := need_some h
     refine .openD (k := 106) (g := 5009) (i := i1) rfl rfl hn42 noHole (fun s5009 => ?_)
     refine .region [([105], []), ([], []), ([106], []), ([106], []), ([], []), ([], []), ([], []), ([5009], []), ([5009], [5009])] mixed (by kernel_rfl) ?_
     refine .consA (.loadAt0 (k := 105) .none tr22 rfl (.s rfl)) rfl ?_
     refine .consA (.move .none (.s rfl)) rfl ?_
     obtain ⟨hn43, h⟩ := need_some h
     refine .consA (.indexAddrD (k := 106) sl22 tr32 (.s rfl) rfl (.s rfl) hn43) rfl ?_
     refine .consA (.loadElemD (k := 106) (proj := fun x => x) (y := (⟨s5009⟩ : Raw)) (z := s5009) tr32 (.s rfl) rfl .id hn43 (by simp) rfl) rfl ?_
     refine .consA (.move .none (.s rfl)) rfl ?_
     refine .consA (.fieldAddr .none fd95_0 hfd95_0 (.s rfl)) rfl ?_
     refine .consA (.load .none ty3 (.s rfl)) rfl ?_
     obtain ⟨hn44, h⟩ := need_some h
     refine .consA (.indexAddrO (k := 5009) .none sl32 ty3 (.s rfl) rfl (.s rfl) (fun _ => hn44)) rfl ?_
     refine .consN (.storeElem0 (k := 5009) ty3 (.s rfl) rfl (.s rfl) hn44) rfl ?_
     refine .nil ?_
     refine .blkNormal ?_
     refine .closeD (k := 106) (g := 5009) ((gx p37_.2 i1).set p37_.1.toNat v3.node) rfl rfl rfl hn42 noHole (fun _ => rfl) rfl ?_
     exact Ends.join _ (some_eq h) (.k 0 rfl (.k 2 rfl (.k 89 rfl (.k 90 rfl (.k 91 rfl .nil))))) (.k 106 rfl (.k 105 rfl .nil))
    ·
     subst hj39; have h := hK39; clear hK39
     refine .region [] mixed (by kernel_rfl) ?_
     refine .cons (.addW .none (.s rfl) (.int (by decide))) rfl ?_
     refine .cons (.move .none (.s rfl)) rfl ?_
     refine .nil ?_
     exact Ends.againL (some_eq h) (.k 91 rfl (.k 0 rfl (.k 2 rfl (.k 89 rfl (.k 90 rfl .nil))))) (.k 106 rfl (.k 105 rfl .nil))
   ·
    replace h := bif_f h hb38
    refine .exit ?_
    refine .thenExit ?_
    refine .thenExit ?_
    refine .blkExit ?_
    replace h := hD37 _ (some_eq h)
    exact Ends.join _ (some_eq h) (.k 2 rfl .nil) (.k 106 rfl (.k 105 rfl .nil))
  ·
   subst hj36; have h := hK36; clear hK36
   refine .close (k := 105) (g := 106) (fun z => cont 22 (⟨z⟩ : Raw)) rfl rfl rfl ?_
   obtain rfl := some_eq h
   exact Ends.ret0O (.inr rfl) [105, 106] Try.results60 (by decide) (.held rfl (.skip .nil)) 

theorem ref_SweepOf_2_ok {c0_1 : (List (List Int))} {c1_1 : (List Link)} {c2_1 : Int} {c4_1 : (List (List Int))} {r : ((List (List Int)) × Int × (List (List Int)))} {m15 : Nat} {s16 : Value} {m17 : Nat} {m18 : Nat} {m19 : Nat} (h : ref_SweepOf_2 c0_1 c1_1 c2_1 c4_1 = some r) : FSpecO Try.prog 59 [isV (ptr m15 0), ref c1_1, isV (ptr m17 0), isV (ptr m18 0), isV (ptr m19 0)] [(ptr m15 0, cont 22 (⟨s16⟩ : Raw)), (s16, rowD 32 3 mkR subR [] c0_1), (ptr m17 0, cont 3 c2_1), (ptr m18 0, contS 91 (cloV 57 [isV (ptr m15 0)])), (ptr m19 0, cont 22 c4_1)] (anyV) [some (deep (fun z0 => cont 22 (⟨z0⟩ : Raw)) (rowD 32 3 mkR subR [] r.1)), none, some (cont 3 r.2.1), some (contS 91 (cloV 57 [isV (ptr m15 0)])), some (cont 22 r.2.2)] := by
 unfold ref_SweepOf_2 at h
 refine FSpecO.intro (n := 15) fnok59 Try.func59 rfl Try.ntmps59 rfl (fun F => ?_)
 refine .seq (.region [([15], []), ([], []), ([16], []), ([], [])] mixed (by kernel_rfl) ?_)
 refine .consA (.loadAt0 (k := 15) .none tr22 rfl (.s rfl)) rfl ?_
 refine .consA (.load .none ty23 (.s rfl)) rfl ?_
 obtain ⟨n1, hv1, h⟩ := bind_some h
 refine .consA (.callL .none fnok58 (fun hg => ref_allCrossings_ok  hv1) .rep (.gen (lentRowR (k := 16) (.told (.s rfl) rfl)) (.cons (.s rfl) .nil))) rfl ?_
 refine .consA (.assign .none (.s rfl)) rfl ?_
 refine .nil (.then ?_)
 refine .seq (.region [([], []), ([17], []), ([], [])] mixed (by kernel_rfl) ?_)
 refine .consA (.move .none (.s rfl)) rfl ?_
 refine .consA (.loadAt0 (k := 17) .none ty3 rfl (.s rfl)) rfl ?_
 refine .consA (.lt .none (.s rfl) (.s rfl)) rfl ?_
 refine .nil (.then ?_)
 refine .cond (t := 11) rfl trivial (fun hb2 => ?_) (fun hb2 => ?_)
 ·
  replace h := bif_t h hb2
  refine .region [([18], []), ([15, 16], []), ([], []), ([19], [19]), ([17], [17])] mixed (by kernel_rfl) ?_
  refine .consA (.loadS (k := 18) .none tr91 rfl (.s rfl) cloV_one) rfl ?_
  obtain ⟨r1, hv3, h⟩ := bind_some h
  refine .consA (.callCLZ (.s rfl) fnok57 (.deepR (k := 15) (q := 16) (x := (⟨s16⟩ : Raw)) (y := c0_1) rfl rfl rfl (fun M D w h hms => frzRowR M D _ w h hms) (fun M cs w hc hl => row_cells hc hl) .nil) (ref_SweepOf_1_ok ((fun _ => hv3) trivial)) FlatC.rowR frzRowR .nil) rfl ?_
  refine .consA (.move .none (.s rfl)) rfl ?_
  refine .consN (.storeAt0 (g := 19) ty22 rfl (.s rfl) (.s rfl)) rfl ?_
  refine .consN (.storeAt0 (g := 17) ty3 rfl (.s rfl) (.s rfl)) rfl ?_
  refine .nil ?_
  refine .close (k := 15) (g := 16) (fun z => cont 22 (⟨z⟩ : Raw)) rfl rfl rfl ?_
  obtain rfl := some_eq h
  exact Ends.ret0O (.inr rfl) [15, 16, 17, 18, 19] Try.results59 (by decide) (.held rfl (.skip (.held rfl (.held rfl (.held rfl .nil))))) 
 ·
  replace h := bif_f h hb2
  refine .skip ?_
  refine .close (k := 15) (g := 16) (fun z => cont 22 (⟨z⟩ : Raw)) rfl rfl rfl ?_
  obtain rfl := some_eq h
  exact Ends.ret0O (.inr rfl) [15, 16, 17, 18, 19] Try.results59 (by decide) (.held rfl (.skip (.held rfl (.held rfl (.held rfl .nil))))) 

theorem ref_SweepOf_ok {rows1 : (List (List Int))} {l1 : (List Link)} {rounds1 : Int} {r : ((List (List Int)) × Int)}  (h : ref_SweepOf rows1 l1 rounds1 = some r) : FSpec Try.prog 13 [rep rows1, rep l1, rep rounds1] (tup [rep r.1, rep r.2]) := by
 unfold ref_SweepOf at h
 refine FSpec.intro (n := 58) fnok13 Try.func13 rfl Try.ntmps13 rfl (fun F => ?_)
 refine .seq (.region [([], [3]), ([], []), ([], []), ([], [])] mixed (by kernel_rfl) ?_)
 refine .consW (.boxO rfl (.s rfl)) rfl rfl ?_
 refine .consA (.box .none (.s rfl)) rfl ?_
 refine .consA (.assign .none (.const (x := ([] : (List (List Int)))) (fun M w => ⟨_, ⟨none, 0, rfl, Nat.le_refl _, by decide, rfl⟩, rfl⟩))) rfl ?_
 refine .consA (.assign .none (.int (by decide))) rfl ?_
 refine .nil (.then ?_)
 refine .nameBox (t := 3) (g := 5001) rfl rfl (fun m5001 => ?_)
 refine .seq (.region [([], []), ([], [8]), ([8], [8])] mixed (by kernel_rfl) ?_)
 refine .consA (.makeFuncC (Cs := [isV (ptr m5001 0)]) .none (.cons (.s rfl) .nil)) rfl ?_
 refine .consW (.alloc zr91 rfl) rfl rfl ?_
 refine .consN (.storeS0 (S := cloV 57 [isV (ptr m5001 0)]) tr91 rfl rfl (.s rfl) cloV_one) rfl ?_
 refine .nil (.then ?_)
 refine .nameAt (t := 8) (g := 5002) rfl rfl isBox_contS rfl (fun m5002 => ?_)
 refine .seq (.region [([5002], []), ([5001], [17]), ([5001, 17], [5001, 17])] mixed (by kernel_rfl) ?_)
 refine .consA (.loadS (k := 5002) .none tr91 rfl (.s rfl) cloV_one) rfl ?_
 obtain ⟨r1, hv1, h⟩ := bind_some h
 refine .consW (.callCLO (.s rfl) fnok57 (.own (k := 5001) rfl lent_box .nil) (ref_SweepOf_1_ok ((fun _ => hv1) trivial)) FlatC.rowR .nil rfl) rfl rfl ?_
 refine .consN (.storeRowB (k := 5001) (t := 17) ty22 rfl (.s rfl) rfl rfl oneRowD rfl) rfl ?_
 refine .nil (.then ?_)
 refine .open (k := 5001) (g := 5003) rfl rfl (fun s5003 => ?_)
 refine .seq (.region [([5002], []), ([5001, 5003], []), ([5001], []), ([], []), ([5003], []), ([], [9]), ([], [10]), ([9], [9]), ([10], [10])] mixed (by kernel_rfl) ?_)
 refine .consA (.loadS (k := 5002) .none tr91 rfl (.s rfl) cloV_one) rfl ?_
 obtain ⟨r2, hv2, h⟩ := bind_some h
 refine .consA (.callCLZ (.s rfl) fnok57 (.deepR (k := 5001) (q := 5003) (x := (⟨s5003⟩ : Raw)) (y := r1) rfl rfl rfl (fun M D w h hms => frzRowR M D _ w h hms) (fun M cs w hc hl => row_cells hc hl) .nil) (ref_SweepOf_1_ok ((fun _ => hv2) trivial)) FlatC.rowR frzRowR .nil) rfl ?_
 refine .consA (.loadAt0 (k := 5001) .none tr22 rfl (.s rfl)) rfl ?_
 refine .consA (.load .none ty23 (.s rfl)) rfl ?_
 obtain ⟨r3, hv3, h⟩ := bind_some h
 refine .consA (.callL .none fnok58 (fun hg => ref_allCrossings_ok  hv3) .rep (.gen (lentRowR (k := 5003) (.told (.s rfl) rfl)) (.cons (.s rfl) .nil))) rfl ?_
 refine .consW (.alloc zo22 rfl) rfl rfl ?_
 refine .consW (.alloc zo3 rfl) rfl rfl ?_
 refine .consN (.store ty22 rfl rfl (.s rfl)) rfl ?_
 refine .consN (.store ty3 rfl rfl (.s rfl)) rfl ?_
 refine .nil (.then ?_)
 refine .nameBox (t := 9) (g := 5004) rfl rfl (fun m5004 => ?_)
 refine .nameBox (t := 10) (g := 5005) rfl rfl (fun m5005 => ?_)
 refine .seq (.region [] mixed (by kernel_rfl) ?_)
 refine .cons (.makeFuncC (Cs := [isV (ptr m5001 0), ref l1, isV (ptr m5005 0), isV (ptr m5002 0), isV (ptr m5004 0)]) .none (.cons (.s rfl) (.cons (.s rfl) (.cons (.s rfl) (.cons (.s rfl) (.cons (.s rfl) .nil)))))) rfl ?_
 refine .cons (.assign .none (.s rfl)) rfl ?_
 refine .nil (.then ?_)
 refine .seq (.region [] mixed (by kernel_rfl) ?_)
 refine .cons (.makeFuncC (Cs := [isV (ptr m5001 0), ref l1]) .none (.cons (.s rfl) (.cons (.s rfl) .nil))) rfl ?_
 refine .cons (.assign .none (.s rfl)) rfl ?_
 refine .nil (.then ?_)
 refine .seq ?_
 refine .seq (.region [] mixed (by kernel_rfl) ?_)
 refine .cons (.move .none (.s rfl)) rfl ?_
 refine .cons (.move .none (.int (by decide))) rfl ?_
 refine .nil (.then ?_)
 obtain ⟨j_4, h, hK4⟩ := bind_some h
 refine .thenJ (ι := ((List (List Int)) × (List (List Int)) × Int)) (fun j_4 => []) (fun j_4 => [(5001, some (CPred.at (ptr m5001 0) (deep (fun z0 => cont 22 (⟨z0⟩ : Raw)) (rowD 32 3 mkR subR [] j_4.1)))), (5004, some (boxAt m5004 22 j_4.2.1)), (5005, some (boxAt m5005 3 j_4.2.2))]) (fun s => j_4 = s) (.k 3 rfl (.k 8 rfl (.k 9 rfl (.k 10 rfl .nil)))) (.k 5002 rfl .nil) ?_ (fun j_4' hj4 => ?_)
 ·
  skip
  refine .block ?_
  refine .close (k := 5001) (g := 5003) (fun z => cont 22 (⟨z⟩ : Raw)) rfl rfl rfl ?_
  refine .rforL h (fun p5_ => [(26, ⟨True, rep p5_.1⟩)]) (fun p5_ => [(5001, some (CPred.at (ptr m5001 0) (deep (fun z0 => cont 22 (⟨z0⟩ : Raw)) (rowD 32 3 mkR subR [] p5_.2.1)))), (5004, some (boxAt m5004 22 p5_.2.2.1)), (5005, some (boxAt m5005 3 p5_.2.2.2))]) (.k 26 rfl .nil) (.k 5001 rfl (.k 5004 rfl (.k 5005 rfl .nil))) (.k 3 rfl (.k 4 rfl (.k 8 rfl (.k 9 rfl (.k 10 rfl (.k 11 rfl (.k 12 rfl (.k 25 rfl .nil)))))))) (.k 5002 rfl .nil) (fun p5_ o_5 h hD5 => ?_)
  refine .open (k := 5001) (g := 5006) rfl rfl (fun s5006 => ?_)
  refine .seq (.region [] mixed (by kernel_rfl) ?_)
  refine .cons (.lt .none (.s rfl) (.s rfl)) rfl ?_
  refine .nil (.then ?_)
  refine .seq ?_
  refine .cond (t := 27) rfl trivial (fun hb6 => ?_) (fun hb6 => ?_)
  ·
   replace h := bif_t h hb6
   refine .skip ?_
   refine .then ?_
   refine .seq ?_
   obtain ⟨j_7, h, hK7⟩ := bind_some h
   unfold ref_SweepOf_L1 at h
   refine .thenJ (ι := ((List (List Int)) × (List (List Int)) × Int)) (fun j_7 => []) (fun j_7 => [(5001, some (CPred.at (ptr m5001 0) (deep (fun z0 => cont 22 (⟨z0⟩ : Raw)) (rowD 32 3 mkR subR [] j_7.1)))), (5004, some (boxAt m5004 22 j_7.2.1)), (5005, some (boxAt m5005 3 j_7.2.2))]) (fun s => j_7 = s) (.k 3 rfl (.k 4 rfl (.k 8 rfl (.k 9 rfl (.k 10 rfl (.k 11 rfl (.k 12 rfl (.k 25 rfl (.k 26 rfl .nil))))))))) (.k 5002 rfl .nil) ?_ (fun j_7' hj7 => ?_)
   ·
    skip
    refine .block ?_
    refine .seq ?_
    refine .seq (.region [] mixed (by kernel_rfl) ?_)
    refine .cons (.assign .none (.int (by decide))) rfl ?_
    refine .nil (.then ?_)
    obtain ⟨j_8, h, hK8⟩ := bind_some h
    refine .thenJ (ι := (List (List Int))) (fun j_8 => []) (fun j_8 => [(5001, some (CPred.at (ptr m5001 0) (deep (fun z0 => cont 22 (⟨z0⟩ : Raw)) (rowD 32 3 mkR subR [] j_8))))]) (fun s => j_8 = s) (.k 3 rfl (.k 4 rfl (.k 8 rfl (.k 9 rfl (.k 10 rfl (.k 11 rfl (.k 12 rfl (.k 25 rfl (.k 26 rfl .nil))))))))) (.k 5002 rfl (.k 5004 rfl (.k 5005 rfl .nil))) ?_ (fun j_8' hj8 => ?_)
    ·
     skip
     refine .block ?_
     refine .close (k := 5001) (g := 5006) (fun z => cont 22 (⟨z⟩ : Raw)) rfl rfl rfl ?_
     refine .loopL h (fun s9_ => [(13, ⟨True, rep s9_.1⟩)]) (fun s9_ => [(5001, some (CPred.at (ptr m5001 0) (deep (fun z0 => cont 22 (⟨z0⟩ : Raw)) (rowD 32 3 mkR subR [] s9_.2))))]) (.k 13 rfl .nil) (.k 5001 rfl .nil) (.k 3 rfl (.k 4 rfl (.k 8 rfl (.k 9 rfl (.k 10 rfl (.k 11 rfl (.k 12 rfl (.k 25 rfl (.k 26 rfl .nil))))))))) (.k 5002 rfl (.k 5004 rfl (.k 5005 rfl .nil))) (fun s9_ o_9 h hD9 => ?_)
     unfold ref_SweepOf_L2 at h
     refine .open (k := 5001) (g := 5007) rfl rfl (fun s5007 => ?_)
     refine .seq ?_
     refine .seq (.region [([], []), ([5001], []), ([5007], []), ([], [])] mixed (by kernel_rfl) ?_)
     refine .consA (.move .none (.s rfl)) rfl ?_
     refine .consA (.loadAt0 (k := 5001) .none tr22 rfl (.s rfl)) rfl ?_
     refine .consA (.lenD (k := 5007) sl22 (.s rfl) rfl) rfl ?_
     refine .consA (.lt .none (.s rfl) (.s rfl)) rfl ?_
     refine .nil (.then ?_)
     refine .cond (t := 31) rfl trivial (fun hb10 => ?_) (fun hb10 => ?_)
     ·
      replace h := bif_t h hb10
      refine .skip ?_
      refine .then ?_
      refine .seq ?_
      refine .block ?_
      refine .region [([], []), ([], []), ([], []), ([], []), ([5001, 5007], [5001, 5007])] mixed (by kernel_rfl) ?_
      refine .consA (.move .none (.s rfl)) rfl ?_
      refine .consA (.move .none (.s rfl)) rfl ?_
      refine .consA (.move .none (.s rfl)) rfl ?_
      refine .consA (.subW .none (.s rfl) (.int (by decide))) rfl ?_
      obtain ⟨r4, hv11, h⟩ := bind_some h
      refine .consW (.callClo [5001, 5007] (Ss := [rep s9_.1, rep (W (s9_.1 - 1))]) (Cs := [isV (ptr m5001 0), ref l1]) (.s rfl) (ref_SweepOf_3_ok hv11) (.cons (.s rfl) (.cons (.s rfl) .nil)) (.cons (k := 5001) rfl (.cons (k := 5007) rfl .nil)) rfl (by decide) (by decide) (by intro d h; cases h; decide)) rfl rfl ?_
      refine .nil ?_
      refine .blkNormal ?_
      refine .then ?_
      refine .open (k := 5001) (g := 5008) rfl rfl (fun s5008 => ?_)
      refine .region [] mixed (by kernel_rfl) ?_
      refine .cons (.move .none (.s rfl)) rfl ?_
      refine .cons (.addW .none (.s rfl) (.int (by decide))) rfl ?_
      obtain ⟨i1, hv12, h⟩ := bnd_some h
      refine .cons (.re hv12 (.assign .none (.s rfl))) rfl ?_
      refine .nil ?_
      refine .close (k := 5001) (g := 5008) (fun z => cont 22 (⟨z⟩ : Raw)) rfl rfl rfl ?_
      exact Ends.againL (some_eq h) (.k 13 rfl (.k 3 rfl (.k 4 rfl (.k 8 rfl (.k 9 rfl (.k 10 rfl (.k 11 rfl (.k 12 rfl (.k 25 rfl (.k 26 rfl .nil)))))))))) (.k 5001 rfl (.k 5002 rfl (.k 5004 rfl (.k 5005 rfl .nil))))
     ·
      replace h := bif_f h hb10
      refine .exit ?_
      refine .thenExit ?_
      refine .thenExit ?_
      refine .blkExit ?_
      refine .close (k := 5001) (g := 5007) (fun z => cont 22 (⟨z⟩ : Raw)) rfl rfl rfl ?_
      replace h := hD9 _ (some_eq h)
      exact Ends.join _ (some_eq h) (.k 3 rfl (.k 4 rfl (.k 8 rfl (.k 9 rfl (.k 10 rfl (.k 11 rfl (.k 12 rfl (.k 25 rfl (.k 26 rfl .nil))))))))) (.k 5001 rfl (.k 5002 rfl (.k 5004 rfl (.k 5005 rfl .nil))))
    ·
     subst hj8; have h := hK8; clear hK8
     refine .open (k := 5001) (g := 5009) rfl rfl (fun s5009 => ?_)
     refine .seq (.region [([], []), ([5001, 5009, 5005, 5002, 5004], [5001, 5009, 5005, 5002, 5004])] mixed (by kernel_rfl) ?_)
     refine .consA (.move .none (.s rfl)) rfl ?_
     obtain ⟨r5, hv13, h⟩ := bind_some h
     refine .consW (.callClo [5001, 5009, 5005, 5002, 5004] (Ss := []) (Cs := [isV (ptr m5001 0), ref l1, isV (ptr m5005 0), isV (ptr m5002 0), isV (ptr m5004 0)]) (.s rfl) (ref_SweepOf_2_ok hv13) .nil (.cons (k := 5001) rfl (.cons (k := 5009) rfl (.cons (k := 5005) rfl (.cons (k := 5002) rfl (.cons (k := 5004) rfl .nil))))) rfl (by decide) (by decide) (by intro d h; cases h; decide)) rfl rfl ?_
     refine .nil (.then ?_)
     refine .open (k := 5001) (g := 5010) rfl rfl (fun s5010 => ?_)
     refine .seq ?_
     refine .seq (.region [([5001], []), ([5010], []), ([], []), ([], [])] mixed (by kernel_rfl) ?_)
     refine .consA (.loadAt0 (k := 5001) .none tr22 rfl (.s rfl)) rfl ?_
     refine .consA (.lenD (k := 5010) sl22 (.s rfl) rfl) rfl ?_
     refine .consA (.subW .none (.s rfl) (.int (by decide))) rfl ?_
     obtain ⟨i2, hv14, h⟩ := bnd_some h
     refine .consA (.re hv14 (.assign .none (.s rfl))) rfl ?_
     refine .nil (.then ?_)
     obtain ⟨j_15, h, hK15⟩ := bind_some h
     refine .thenJ (ι := (List (List Int))) (fun j_15 => []) (fun j_15 => [(5001, some (CPred.at (ptr m5001 0) (deep (fun z0 => cont 22 (⟨z0⟩ : Raw)) (rowD 32 3 mkR subR [] j_15))))]) (fun s => j_15 = s) (.k 3 rfl (.k 4 rfl (.k 8 rfl (.k 9 rfl (.k 10 rfl (.k 11 rfl (.k 12 rfl (.k 25 rfl (.k 26 rfl .nil))))))))) (.k 5002 rfl (.k 5004 rfl (.k 5005 rfl .nil))) ?_ (fun j_15' hj15 => ?_)
     ·
      skip
      refine .block ?_
      refine .close (k := 5001) (g := 5010) (fun z => cont 22 (⟨z⟩ : Raw)) rfl rfl rfl ?_
      refine .loopL h (fun s16_ => [(14, ⟨True, rep s16_.1⟩)]) (fun s16_ => [(5001, some (CPred.at (ptr m5001 0) (deep (fun z0 => cont 22 (⟨z0⟩ : Raw)) (rowD 32 3 mkR subR [] s16_.2))))]) (.k 14 rfl .nil) (.k 5001 rfl .nil) (.k 3 rfl (.k 4 rfl (.k 8 rfl (.k 9 rfl (.k 10 rfl (.k 11 rfl (.k 12 rfl (.k 25 rfl (.k 26 rfl .nil))))))))) (.k 5002 rfl (.k 5004 rfl (.k 5005 rfl .nil))) (fun s16_ o_16 h hD16 => ?_)
      unfold ref_SweepOf_L3 at h
      refine .open (k := 5001) (g := 5011) rfl rfl (fun s5011 => ?_)
      refine .seq ?_
      refine .seq (.region [] mixed (by kernel_rfl) ?_)
      refine .cons (.move .none (.s rfl)) rfl ?_
      refine .cons (.ge .none (.s rfl) (.int (by decide))) rfl ?_
      refine .nil (.then ?_)
      refine .cond (t := 45) rfl trivial (fun hb17 => ?_) (fun hb17 => ?_)
      ·
       replace h := bif_t h hb17
       refine .skip ?_
       refine .then ?_
       refine .seq ?_
       refine .block ?_
       refine .region [([], []), ([], []), ([], []), ([], []), ([5001, 5011], [5001, 5011])] mixed (by kernel_rfl) ?_
       refine .consA (.move .none (.s rfl)) rfl ?_
       refine .consA (.move .none (.s rfl)) rfl ?_
       refine .consA (.move .none (.s rfl)) rfl ?_
       refine .consA (.addW .none (.s rfl) (.int (by decide))) rfl ?_
       obtain ⟨r6, hv18, h⟩ := bind_some h
       refine .consW (.callClo [5001, 5011] (Ss := [rep s16_.1, rep (W (s16_.1 + 1))]) (Cs := [isV (ptr m5001 0), ref l1]) (.s rfl) (ref_SweepOf_3_ok hv18) (.cons (.s rfl) (.cons (.s rfl) .nil)) (.cons (k := 5001) rfl (.cons (k := 5011) rfl .nil)) rfl (by decide) (by decide) (by intro d h; cases h; decide)) rfl rfl ?_
       refine .nil ?_
       refine .blkNormal ?_
       refine .then ?_
       refine .open (k := 5001) (g := 5012) rfl rfl (fun s5012 => ?_)
       refine .region [] mixed (by kernel_rfl) ?_
       refine .cons (.move .none (.s rfl)) rfl ?_
       refine .cons (.subW .none (.s rfl) (.int (by decide))) rfl ?_
       obtain ⟨i3, hv19, h⟩ := bnd_some h
       refine .cons (.re hv19 (.assign .none (.s rfl))) rfl ?_
       refine .nil ?_
       refine .close (k := 5001) (g := 5012) (fun z => cont 22 (⟨z⟩ : Raw)) rfl rfl rfl ?_
       exact Ends.againL (some_eq h) (.k 14 rfl (.k 3 rfl (.k 4 rfl (.k 8 rfl (.k 9 rfl (.k 10 rfl (.k 11 rfl (.k 12 rfl (.k 25 rfl (.k 26 rfl .nil)))))))))) (.k 5001 rfl (.k 5002 rfl (.k 5004 rfl (.k 5005 rfl .nil))))
      ·
       replace h := bif_f h hb17
       refine .exit ?_
       refine .thenExit ?_
       refine .thenExit ?_
       refine .blkExit ?_
       refine .close (k := 5001) (g := 5011) (fun z => cont 22 (⟨z⟩ : Raw)) rfl rfl rfl ?_
       replace h := hD16 _ (some_eq h)
       exact Ends.join _ (some_eq h) (.k 3 rfl (.k 4 rfl (.k 8 rfl (.k 9 rfl (.k 10 rfl (.k 11 rfl (.k 12 rfl (.k 25 rfl (.k 26 rfl .nil))))))))) (.k 5001 rfl (.k 5002 rfl (.k 5004 rfl (.k 5005 rfl .nil))))
     ·
      subst hj15; have h := hK15; clear hK15
      refine .open (k := 5001) (g := 5013) rfl rfl (fun s5013 => ?_)
      refine .region [([], []), ([5001, 5013, 5005, 5002, 5004], [5001, 5013, 5005, 5002, 5004])] mixed (by kernel_rfl) ?_
      refine .consA (.move .none (.s rfl)) rfl ?_
      obtain ⟨r7, hv20, h⟩ := bind_some h
      refine .consW (.callClo [5001, 5013, 5005, 5002, 5004] (Ss := []) (Cs := [isV (ptr m5001 0), ref l1, isV (ptr m5005 0), isV (ptr m5002 0), isV (ptr m5004 0)]) (.s rfl) (ref_SweepOf_2_ok hv20) .nil (.cons (k := 5001) rfl (.cons (k := 5013) rfl (.cons (k := 5005) rfl (.cons (k := 5002) rfl (.cons (k := 5004) rfl .nil))))) rfl (by decide) (by decide) (by intro d h; cases h; decide)) rfl rfl ?_
      refine .nil ?_
      refine .blkNormal ?_
      exact Ends.join _ (some_eq h) (.k 3 rfl (.k 4 rfl (.k 8 rfl (.k 9 rfl (.k 10 rfl (.k 11 rfl (.k 12 rfl (.k 25 rfl (.k 26 rfl .nil))))))))) (.k 5001 rfl (.k 5004 rfl (.k 5005 rfl (.k 5002 rfl .nil))))
   ·
    subst hj7; have h := hK7; clear hK7
    refine .open (k := 5001) (g := 5014) rfl rfl (fun s5014 => ?_)
    refine .region [] mixed (by kernel_rfl) ?_
    refine .cons (.addW .none (.s rfl) (.int (by decide))) rfl ?_
    refine .cons (.move .none (.s rfl)) rfl ?_
    refine .nil ?_
    refine .close (k := 5001) (g := 5014) (fun z => cont 22 (⟨z⟩ : Raw)) rfl rfl rfl ?_
    exact Ends.againL (some_eq h) (.k 26 rfl (.k 3 rfl (.k 4 rfl (.k 8 rfl (.k 9 rfl (.k 10 rfl (.k 11 rfl (.k 12 rfl (.k 25 rfl .nil))))))))) (.k 5001 rfl (.k 5004 rfl (.k 5005 rfl (.k 5002 rfl .nil))))
  ·
   replace h := bif_f h hb6
   refine .exit ?_
   refine .thenExit ?_
   refine .thenExit ?_
   refine .blkExit ?_
   refine .close (k := 5001) (g := 5006) (fun z => cont 22 (⟨z⟩ : Raw)) rfl rfl rfl ?_
   replace h := hD5 _ (some_eq h)
   exact Ends.join _ (some_eq h) (.k 3 rfl (.k 8 rfl (.k 9 rfl (.k 10 rfl .nil)))) (.k 5001 rfl (.k 5004 rfl (.k 5005 rfl (.k 5002 rfl .nil))))
 ·
  subst hj4; have h := hK4; clear hK4
  refine .freezeBox (g := 5004) (ts := [9]) rfl (.cons (t := 9) rfl trivial .nil) (.k 5005 rfl .nil) rfl ?_
  refine .freezeBox (g := 5005) (ts := [10]) rfl (.cons (t := 10) rfl trivial .nil) SubB.nil rfl ?_
  refine .seq (.region [] mixed (by kernel_rfl) ?_)
  refine .cons (.load .none ty22 (.s rfl)) rfl ?_
  refine .cons (.load .none ty3 (.s rfl)) rfl ?_
  refine .cons (.assign .none (.s rfl)) rfl ?_
  refine .cons (.assign .none (.s rfl)) rfl ?_
  refine .nil (.then ?_)
  refine .ret ?_
  obtain rfl := some_eq h
  exact Ends.ret2 (.inl rfl) Try.results13 (ResOK.tmp rfl trivial Imp.refl) (ResOK.tmp rfl trivial Imp.refl)


end Go.Proofs.Ytbahnfkccdlpnaa
