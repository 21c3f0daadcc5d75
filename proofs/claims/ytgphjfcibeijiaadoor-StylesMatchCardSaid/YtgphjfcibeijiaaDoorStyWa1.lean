/-
  The walks: what a function computes is what its plain function says (printed by a program of one's own).
-/
import Derived.Test.YtgphjfcibeijiaaDoorStyFa
set_option maxRecDepth 100000
set_option linter.unusedSimpArgs false
set_option linter.unusedVariables false
namespace Go.Proofs.YtgphjfcibeijiaaDoor
open Go Go.DB Go.RowKit

theorem strings_Trim_ok {s cs : Str} {r : Str} (h : strings_Trim s cs = some r) : FSpec Tryd.prog 25 [rep s, rep cs] (rep r) := by
 obtain ⟨hn, h⟩ := need_some h
 obtain rfl := some_eq h
 exact trimS_spec trimStr_lay (by kernel_rfl) rfl fnok25 hn

theorem ref_In_ok {n1 : Int} {low1 : Int} {high1 : Int} {r : Bool}  (h : ref_In n1 low1 high1 = some r) : FSpec Tryd.prog 14 [rep n1, rep low1, rep high1] (rep r) := by
 unfold ref_In at h
 refine FSpec.intro (n := 15) fnok14 Tryd.func14 rfl Tryd.ntmps14 rfl (fun F => ?_)
 refine .seq (.region [] mixed (by kernel_rfl) ?_)
 refine .cons (.assign .none .bool) rfl ?_
 refine .nil (.then ?_)
 refine .seq (.region [] mixed (by kernel_rfl) ?_)
 refine .cons (.move .none (.s rfl)) rfl ?_
 refine .cons (.move .none (.s rfl)) rfl ?_
 refine .cons (.ge .none (.s rfl) (.s rfl)) rfl ?_
 refine .cons (.move .none (.s rfl)) rfl ?_
 refine .cons (.move (.at rfl rfl) (.s rfl)) rfl ?_
 refine .cons (.move (.at rfl rfl) (.s rfl)) rfl ?_
 refine .cons (.le (.at rfl rfl) (.tmp rfl id) (.tmp rfl id)) rfl ?_
 refine .cons (.pickAnd .none (.s rfl) (.tmp rfl id)) rfl ?_
 refine .cons (.assign .none (.s rfl)) rfl ?_
 refine .nil (.then ?_)
 refine .ret ?_
 obtain rfl := some_eq h
 exact Ends.ret1 (.inl rfl) Tryd.results14 (ResOK.tmp rfl trivial Imp.refl)

theorem ref_NameOf_ok {s1 : Str} {r : Bool}  (h : ref_NameOf s1 = some r) : FSpec Tryd.prog 11 [rep s1] (rep r) := by
 unfold ref_NameOf at h
 refine FSpec.intro (n := 45) fnok11 Tryd.func11 rfl Tryd.ntmps11 rfl (fun F => ?_)
 refine .seq (.region [] mixed (by kernel_rfl) ?_)
 refine .cons (.assign .none .bool) rfl ?_
 refine .nil (.then ?_)
 refine .seq ?_
 refine .seq (.region [] mixed (by kernel_rfl) ?_)
 refine .cons (.move .none (.s rfl)) rfl ?_
 refine .cons (.lenStr .none Tryd.underlying9 (.s rfl)) rfl ?_
 refine .cons (.move .none (.int (by decide))) rfl ?_
 refine .nil (.then ?_)
 obtain ⟨o_1, h, hK1⟩ := bindR_some h
 refine .thenJ (ι := Unit) (fun j_1 => []) (fun j_1 => []) (fun s => o_1 = Res.nx s) (.k 0 rfl .nil) SubB.nil ?_ (fun j_1 hj1 => ?_)
 ·
  skip
  refine .block ?_
  refine .rforEL h (fun p2_ => [(7, ⟨True, rep p2_.1⟩)]) (fun p2_ => []) (.k 7 rfl .nil) SubB.nil (.k 0 rfl (.k 6 rfl .nil)) SubB.nil (fun p2_ o_2 h hD2 => ?_)
  refine .seq (.region [] mixed (by kernel_rfl) ?_)
  refine .cons (.lt .none (.s rfl) (.s rfl)) rfl ?_
  refine .nil (.then ?_)
  refine .seq ?_
  refine .cond (t := 8) rfl trivial (fun hb3 => ?_) (fun hb3 => ?_)
  ·
   replace h := bif_t h hb3
   refine .skip ?_
   refine .then ?_
   refine .seq ?_
   obtain ⟨o_4, h, hK4⟩ := bindD_some h
   unfold ref_NameOf_L1 at h
   refine .thenJ (ι := Unit) (fun j_4 => []) (fun j_4 => []) (fun s => o_4 = Res.nx s) (.k 0 rfl (.k 6 rfl (.k 7 rfl .nil))) SubB.nil ?_ (fun j_4 hj4 => ?_)
   ·
    skip
    refine .block ?_
    refine .seq (.region [] mixed (by kernel_rfl) ?_)
    refine .cons (.move .none (.s rfl)) rfl ?_
    refine .cons (.assign .none (.s rfl)) rfl ?_
    refine .nil (.then ?_)
    refine .seq (.region [] mixed (by kernel_rfl) ?_)
    refine .cons (.move .none (.s rfl)) rfl ?_
    refine .cons (.move .none (.s rfl)) rfl ?_
    obtain ⟨hn5, h⟩ := need_some h
    refine .cons (.indexStr .none Tryd.underlying9 (.s rfl) (.s rfl) (fun _ => hn5)) rfl ?_
    obtain ⟨c1, hv6, h⟩ := bnd_some h
    refine .cons (.re hv6 (.assign .none (.s rfl))) rfl ?_
    refine .nil (.then ?_)
    refine .seq (.region [] mixed (by kernel_rfl) ?_)
    refine .cons (.move .none (.s rfl)) rfl ?_
    refine .cons (.kgeq .none (.s rfl) .ki) rfl ?_
    refine .cons (.move .none (.s rfl)) rfl ?_
    refine .cons (.move (.at rfl rfl) (.s rfl)) rfl ?_
    refine .cons (.kleq (.at rfl rfl) (.tmp rfl id) .ki) rfl ?_
    refine .cons (.pickAnd .none (.s rfl) (.tmp rfl id)) rfl ?_
    refine .cons (.not .none (.s rfl)) rfl ?_
    refine .cons (.move .none (.s rfl)) rfl ?_
    refine .cons (.move (.at rfl rfl) (.s rfl)) rfl ?_
    refine .cons (.eqI (.at rfl rfl) (.tmp rfl id) (.int (by decide))) rfl ?_
    refine .cons (.move (.at rfl rfl) (.tmp rfl id)) rfl ?_
    refine .cons (.move (.at rfl rfl) (.s rfl)) rfl ?_
    refine .cons (.kgeq (.at rfl rfl) (.tmp rfl id) .ki) rfl ?_
    refine .cons (.move (.at rfl rfl) (.tmp rfl id)) rfl ?_
    refine .cons (.move (.at rfl rfl) (.s rfl)) rfl ?_
    refine .cons (.kleq (.at rfl rfl) (.tmp rfl id) .ki) rfl ?_
    refine .cons (.pickAnd (.at rfl rfl) (.tmp rfl id) (.tmp rfl id)) rfl ?_
    refine .cons (.not (.at rfl rfl) (.tmp rfl id)) rfl ?_
    refine .cons (.move (.at rfl rfl) (.tmp rfl id)) rfl ?_
    refine .cons (.move (.at rfl rfl) (.s rfl)) rfl ?_
    refine .cons (.kneq (.at rfl rfl) (.tmp rfl id) .ki) rfl ?_
    refine .cons (.pickAnd (.at rfl rfl) (.tmp rfl id) (.tmp rfl id)) rfl ?_
    refine .cons (.pickOr (.at rfl rfl) (.tmp rfl id) (.tmp rfl id)) rfl ?_
    refine .cons (.pickAnd .none (.s rfl) (.tmp rfl id)) rfl ?_
    refine .nil (.then ?_)
    refine .cond (t := 36) rfl trivial (fun hb7 => ?_) (fun hb7 => ?_)
    ·
     replace h := bif_t h hb7
     refine .seq (.region [] mixed (by kernel_rfl) ?_)
     refine .cons (.assign .none .bool) rfl ?_
     refine .nil (.then ?_)
     refine .ret ?_
     refine .blkRet ?_
     refine .thenRet ?_
     refine .thenRet ?_
     refine .blkRet ?_
     refine .thenRet ?_
     replace h := resd_ab hK4 (some_eq h)
     replace h := hD2 _ (some_eq h)
     replace h := resb_ab hK1 (some_eq h)
     obtain rfl := some_eq h
     exact Ends.ret1 (.inl rfl) Tryd.results11 (ResOK.tmp rfl trivial Imp.refl)
    ·
     replace h := bif_f h hb7
     refine .skip ?_
     refine .blkNormal ?_
     exact Ends.join _ (some_eq h) (.k 0 rfl (.k 6 rfl (.k 7 rfl .nil))) SubB.nil
   ·
    have h := resd_nx hK4 hj4
    refine .region [] mixed (by kernel_rfl) ?_
    refine .cons (.addW .none (.s rfl) (.int (by decide))) rfl ?_
    refine .cons (.move .none (.s rfl)) rfl ?_
    refine .nil ?_
    exact Ends.againL (some_eq h) (.k 7 rfl (.k 0 rfl (.k 6 rfl .nil))) SubB.nil
  ·
   replace h := bif_f h hb3
   refine .exit ?_
   refine .thenExit ?_
   refine .thenExit ?_
   refine .blkExit ?_
   replace h := hD2 _ (some_eq h)
   exact Ends.join _ (some_eq h) (.k 0 rfl .nil) SubB.nil
 ·
  have h := resb_nx hK1 hj1
  refine .seq (.region [] mixed (by kernel_rfl) ?_)
  refine .cons (.move .none (.s rfl)) rfl ?_
  refine .cons (.neS .none (eqAt_str Tryd.underlying9) (.s rfl) (.str (l := []) (by decide))) rfl ?_
  refine .cons (.move .none (.s rfl)) rfl ?_
  refine .cons (.move (.at rfl rfl) (.s rfl)) rfl ?_
  refine .cons (.lenStr (.at rfl rfl) Tryd.underlying9 (.tmp rfl id)) rfl ?_
  refine .cons (.le (.at rfl rfl) (.tmp rfl id) (.int (by decide))) rfl ?_
  refine .cons (.pickAnd .none (.s rfl) (.tmp rfl id)) rfl ?_
  refine .cons (.assign .none (.s rfl)) rfl ?_
  refine .nil (.then ?_)
  refine .ret ?_
  obtain rfl := some_eq h
  exact Ends.ret1 (.inl rfl) Tryd.results11 (ResOK.tmp rfl trivial Imp.refl)

theorem ref_When_ok {is1 : Bool} {e1 : Int} {r : Int}  (h : ref_When is1 e1 = some r) : FSpec Tryd.prog 10 [rep is1, rep e1] (rep r) := by
 unfold ref_When at h
 refine FSpec.intro (n := 7) fnok10 Tryd.func10 rfl Tryd.ntmps10 rfl (fun F => ?_)
 refine .seq (.region [] mixed (by kernel_rfl) ?_)
 refine .cons (.assign .none (.int (by decide))) rfl ?_
 refine .nil (.then ?_)
 refine .seq ?_
 refine .seq (.region [] mixed (by kernel_rfl) ?_)
 refine .cons (.move .none (.s rfl)) rfl ?_
 refine .nil (.then ?_)
 refine .cond (t := 5) rfl trivial (fun hb1 => ?_) (fun hb1 => ?_)
 ·
  replace h := bif_t h hb1
  refine .seq (.region [] mixed (by kernel_rfl) ?_)
  refine .cons (.move .none (.s rfl)) rfl ?_
  refine .cons (.assign .none (.s rfl)) rfl ?_
  refine .nil (.then ?_)
  refine .ret ?_
  refine .thenRet ?_
  obtain rfl := some_eq h
  exact Ends.ret1 (.inl rfl) Tryd.results10 (ResOK.tmp rfl trivial Imp.refl)
 ·
  replace h := bif_f h hb1
  refine .skip ?_
  refine .then ?_
  refine .seq (.region [] mixed (by kernel_rfl) ?_)
  refine .cons (.assign .none (.int (by decide))) rfl ?_
  refine .nil (.then ?_)
  refine .ret ?_
  obtain rfl := some_eq h
  exact Ends.ret1 (.inl rfl) Tryd.results10 (ResOK.tmp rfl trivial Imp.refl)

theorem ref_First_ok {l1 : (List Int)} {r : Int}  (h : ref_First l1 = some r) : FSpec Tryd.prog 9 [rep l1] (rep r) := by
 unfold ref_First at h
 refine FSpec.intro (n := 15) fnok9 Tryd.func9 rfl Tryd.ntmps9 rfl (fun F => ?_)
 refine .seq (.region [] mixed (by kernel_rfl) ?_)
 refine .cons (.assign .none (.int (by decide))) rfl ?_
 refine .nil (.then ?_)
 refine .seq ?_
 refine .seq (.region [] mixed (by kernel_rfl) ?_)
 refine .cons (.move .none (.s rfl)) rfl ?_
 refine .cons (.len .none sl47 (.s rfl)) rfl ?_
 refine .cons (.move .none (.int (by decide))) rfl ?_
 refine .nil (.then ?_)
 obtain ⟨o_1, h, hK1⟩ := bindR_some h
 refine .thenJ (ι := Unit) (fun j_1 => []) (fun j_1 => []) (fun s => o_1 = Res.nx s) Sub.nil SubB.nil ?_ (fun j_1 hj1 => ?_)
 ·
  skip
  refine .block ?_
  refine .rforEL h (fun p2_ => [(7, ⟨True, rep p2_.1⟩)]) (fun p2_ => []) (.k 7 rfl .nil) SubB.nil (.k 5 rfl (.k 6 rfl .nil)) SubB.nil (fun p2_ o_2 h hD2 => ?_)
  refine .seq (.region [] mixed (by kernel_rfl) ?_)
  refine .cons (.lt .none (.s rfl) (.s rfl)) rfl ?_
  refine .nil (.then ?_)
  refine .seq ?_
  refine .cond (t := 8) rfl trivial (fun hb3 => ?_) (fun hb3 => ?_)
  ·
   replace h := bif_t h hb3
   refine .skip ?_
   refine .then ?_
   refine .seq ?_
   obtain ⟨o_4, h, hK4⟩ := bindD_some h
   unfold ref_First_L1 at h
   refine .thenJ (ι := Unit) (fun j_4 => []) (fun j_4 => []) (fun s => o_4 = Res.nx s) (.k 5 rfl (.k 6 rfl (.k 7 rfl .nil))) SubB.nil ?_ (fun j_4 hj4 => ?_)
   ·
    skip
    refine .block ?_
    refine .seq (.region [] mixed (by kernel_rfl) ?_)
    obtain ⟨hn5, h⟩ := need_some h
    refine .cons (.indexAddr .none sl47 ty23 (.s rfl) (.s rfl) (fun _ => hn5)) rfl ?_
    refine .cons (.load .none ty23 (.s rfl)) rfl ?_
    obtain ⟨e1, hv6, h⟩ := bnd_some h
    refine .cons (.re hv6 (.assign .none (.s rfl))) rfl ?_
    refine .nil (.then ?_)
    refine .seq (.region [] mixed (by kernel_rfl) ?_)
    refine .cons (.move .none (.s rfl)) rfl ?_
    refine .cons (.neI .none (.s rfl) (.int (by decide))) rfl ?_
    refine .nil (.then ?_)
    refine .cond (t := 12) rfl trivial (fun hb7 => ?_) (fun hb7 => ?_)
    ·
     replace h := bif_t h hb7
     refine .seq (.region [] mixed (by kernel_rfl) ?_)
     refine .cons (.move .none (.s rfl)) rfl ?_
     refine .cons (.assign .none (.s rfl)) rfl ?_
     refine .nil (.then ?_)
     refine .ret ?_
     refine .blkRet ?_
     refine .thenRet ?_
     refine .thenRet ?_
     refine .blkRet ?_
     refine .thenRet ?_
     replace h := resd_ab hK4 (some_eq h)
     replace h := hD2 _ (some_eq h)
     replace h := resb_ab hK1 (some_eq h)
     obtain rfl := some_eq h
     exact Ends.ret1 (.inl rfl) Tryd.results9 (ResOK.tmp rfl trivial Imp.refl)
    ·
     replace h := bif_f h hb7
     refine .skip ?_
     refine .blkNormal ?_
     exact Ends.join _ (some_eq h) (.k 5 rfl (.k 6 rfl (.k 7 rfl .nil))) SubB.nil
   ·
    have h := resd_nx hK4 hj4
    refine .region [] mixed (by kernel_rfl) ?_
    refine .cons (.addW .none (.s rfl) (.int (by decide))) rfl ?_
    refine .cons (.move .none (.s rfl)) rfl ?_
    refine .nil ?_
    exact Ends.againL (some_eq h) (.k 7 rfl (.k 5 rfl (.k 6 rfl .nil))) SubB.nil
  ·
   replace h := bif_f h hb3
   refine .exit ?_
   refine .thenExit ?_
   refine .thenExit ?_
   refine .blkExit ?_
   replace h := hD2 _ (some_eq h)
   exact Ends.join _ (some_eq h) Sub.nil SubB.nil
 ·
  have h := resb_nx hK1 hj1
  refine .seq (.region [] mixed (by kernel_rfl) ?_)
  refine .cons (.assign .none (.int (by decide))) rfl ?_
  refine .nil (.then ?_)
  refine .ret ?_
  obtain rfl := some_eq h
  exact Ends.ret1 (.inl rfl) Tryd.results9 (ResOK.tmp rfl trivial Imp.refl)

theorem law_rulesError_ok {l1 : (List Rule)} {r : Int}  (h : law_rulesError l1 = some r) : FSpec Tryd.prog 4 [rep l1] (rep r) := by
 unfold law_rulesError at h
 refine FSpec.intro (n := 75) fnok4 Tryd.func4 rfl Tryd.ntmps4 rfl (fun F => ?_)
 refine .seq (.region [] mixed (by kernel_rfl) ?_)
 refine .cons (.assign .none (.int (by decide))) rfl ?_
 refine .nil (.then ?_)
 refine .seq ?_
 refine .seq (.region [] mixed (by kernel_rfl) ?_)
 refine .cons (.move .none (.s rfl)) rfl ?_
 refine .cons (.len .none sl22 (.s rfl)) rfl ?_
 refine .cons (.gt .none (.s rfl) (.int (by decide))) rfl ?_
 refine .nil (.then ?_)
 refine .cond (t := 10) rfl trivial (fun hb1 => ?_) (fun hb1 => ?_)
 ·
  replace h := bif_t h hb1
  refine .seq (.region [] mixed (by kernel_rfl) ?_)
  refine .cons (.assign .none (.int (by decide))) rfl ?_
  refine .nil (.then ?_)
  refine .ret ?_
  refine .thenRet ?_
  obtain rfl := some_eq h
  exact Ends.ret1 (.inl rfl) Tryd.results4 (ResOK.tmp rfl trivial Imp.refl)
 ·
  replace h := bif_f h hb1
  refine .skip ?_
  refine .then ?_
  refine .seq ?_
  refine .seq (.region [] mixed (by kernel_rfl) ?_)
  refine .cons (.move .none (.s rfl)) rfl ?_
  refine .cons (.len .none sl22 (.s rfl)) rfl ?_
  refine .cons (.move .none (.int (by decide))) rfl ?_
  refine .nil (.then ?_)
  obtain ⟨o_2, h, hK2⟩ := bindR_some h
  refine .thenJ (ι := Unit) (fun j_2 => []) (fun j_2 => []) (fun s => o_2 = Res.nx s) Sub.nil SubB.nil ?_ (fun j_2 hj2 => ?_)
  ·
   skip
   refine .block ?_
   refine .rforEL h (fun p3_ => [(13, ⟨True, rep p3_.1⟩)]) (fun p3_ => []) (.k 13 rfl .nil) SubB.nil (.k 11 rfl (.k 12 rfl .nil)) SubB.nil (fun p3_ o_3 h hD3 => ?_)
   refine .seq (.region [] mixed (by kernel_rfl) ?_)
   refine .cons (.lt .none (.s rfl) (.s rfl)) rfl ?_
   refine .nil (.then ?_)
   refine .seq ?_
   refine .cond (t := 14) rfl trivial (fun hb4 => ?_) (fun hb4 => ?_)
   ·
    replace h := bif_t h hb4
    refine .skip ?_
    refine .then ?_
    refine .seq ?_
    obtain ⟨o_5, h, hK5⟩ := bindD_some h
    unfold law_rulesError_L1 at h
    refine .thenJ (ι := Unit) (fun j_5 => []) (fun j_5 => []) (fun s => o_5 = Res.nx s) (.k 11 rfl (.k 12 rfl (.k 13 rfl .nil))) SubB.nil ?_ (fun j_5 hj5 => ?_)
    ·
     skip
     refine .block ?_
     refine .seq (.region [([], []), ([], []), ([], [4]), ([4], [4])] mixed (by kernel_rfl) ?_)
     obtain ⟨hn6, h⟩ := need_some h
     refine .consA (.indexAddr .none sl22 ty39 (.s rfl) (.s rfl) (fun _ => hn6)) rfl ?_
     obtain ⟨v1, hv7, h⟩ := bnd_some h
     refine .consA (.re hv7 (.load .none ty39 (.s rfl))) rfl ?_
     refine .consW (.alloc zo39 rfl) rfl rfl ?_
     refine .consN (.store ty39 rfl rfl (.s rfl)) rfl ?_
     refine .nil (.then ?_)
     refine .freeze (t := 4) rfl rfl SubB.nil rfl ?_
     refine .seq (.region [] mixed (by kernel_rfl) ?_)
     refine .cons (.fieldAddr .none fd39_2 hfd39_2 (.s rfl)) rfl ?_
     refine .cons (.load .none ty9 (.s rfl)) rfl ?_
     refine .cons (.lenStr .none Tryd.underlying9 (.s rfl)) rfl ?_
     obtain ⟨r1, hv8, h⟩ := bind_some h
     refine .cons (.call .none (ref_In_ok hv8) (.cons (.s rfl) (.cons (.int (by decide)) (.cons (.int (by decide)) .nil)))) rfl ?_
     refine .cons (.not .none (.s rfl)) rfl ?_
     obtain ⟨bad1, hv9, h⟩ := bnd_some h
     refine .cons (.re hv9 (.assign .none (.s rfl))) rfl ?_
     refine .nil (.then ?_)
     refine .seq ?_
     refine .seq (.region [] mixed (by kernel_rfl) ?_)
     refine .cons (.fieldAddr .none fd39_2 hfd39_2 (.s rfl)) rfl ?_
     refine .cons (.load .none ty9 (.s rfl)) rfl ?_
     refine .cons (.lenStr .none Tryd.underlying9 (.s rfl)) rfl ?_
     refine .cons (.move .none (.int (by decide))) rfl ?_
     refine .nil (.then ?_)
     obtain ⟨j_10, h, hK10⟩ := bind_some h
     refine .thenJ (ι := Bool) (fun j_10 => [(5, ⟨True, rep j_10⟩)]) (fun j_10 => []) (fun s => j_10 = s) (.k 4 rfl (.k 11 rfl (.k 12 rfl (.k 13 rfl .nil)))) SubB.nil ?_ (fun j_10' hj10 => ?_)
     ·
      skip
      refine .block ?_
      refine .rforL h (fun p11_ => [(25, ⟨True, rep p11_.1⟩), (5, ⟨True, rep p11_.2⟩)]) (fun p11_ => []) (.k 25 rfl (.k 5 rfl .nil)) SubB.nil (.k 4 rfl (.k 11 rfl (.k 12 rfl (.k 13 rfl (.k 24 rfl .nil))))) SubB.nil (fun p11_ o_11 h hD11 => ?_)
      refine .seq (.region [] mixed (by kernel_rfl) ?_)
      refine .cons (.lt .none (.s rfl) (.s rfl)) rfl ?_
      refine .nil (.then ?_)
      refine .seq ?_
      refine .cond (t := 26) rfl trivial (fun hb12 => ?_) (fun hb12 => ?_)
      ·
       replace h := bif_t h hb12
       refine .skip ?_
       refine .then ?_
       refine .seq ?_
       obtain ⟨j_13, h, hK13⟩ := bind_some h
       unfold law_rulesError_L2 at h
       refine .thenJ (ι := Bool) (fun j_13 => [(5, ⟨True, rep j_13⟩)]) (fun j_13 => []) (fun s => j_13 = s) (.k 4 rfl (.k 11 rfl (.k 12 rfl (.k 13 rfl (.k 24 rfl (.k 25 rfl .nil)))))) SubB.nil ?_ (fun j_13' hj13 => ?_)
       ·
        skip
        refine .block ?_
        refine .seq (.region [] mixed (by kernel_rfl) ?_)
        refine .cons (.move .none (.s rfl)) rfl ?_
        refine .cons (.assign .none (.s rfl)) rfl ?_
        refine .nil (.then ?_)
        refine .region [] mixed (by kernel_rfl) ?_
        refine .cons (.move .none (.s rfl)) rfl ?_
        refine .cons (.move .none (.s rfl)) rfl ?_
        refine .cons (.fieldAddr (.at rfl rfl) fd39_2 hfd39_2 (.s rfl)) rfl ?_
        refine .cons (.load (.at rfl rfl) ty9 (.tmp rfl id)) rfl ?_
        refine .cons (.move (.at rfl rfl) (.s rfl)) rfl ?_
        obtain ⟨hn14, h⟩ := need_some h
        refine .cons (.indexStr (.at rfl rfl) Tryd.underlying9 (.tmp rfl id) (.tmp rfl id) (fun hg => hn14 hg.2)) rfl ?_
        refine .cons (.klss (.at rfl rfl) (.tmp rfl id) .ki) rfl ?_
        refine .cons (.pickOr .none (.s rfl) (.tmp rfl id)) rfl ?_
        refine .cons (.move .none (.s rfl)) rfl ?_
        refine .cons (.fieldAddr (.at rfl rfl) fd39_2 hfd39_2 (.s rfl)) rfl ?_
        refine .cons (.load (.at rfl rfl) ty9 (.tmp rfl id)) rfl ?_
        refine .cons (.move (.at rfl rfl) (.s rfl)) rfl ?_
        obtain ⟨hn15, h⟩ := need_some h
        refine .cons (.indexStr (.at rfl rfl) Tryd.underlying9 (.tmp rfl id) (.tmp rfl id) (fun hg => hn15 hg.2)) rfl ?_
        refine .cons (.kgtr (.at rfl rfl) (.tmp rfl id) .ki) rfl ?_
        refine .cons (.pickOr .none (.s rfl) (.tmp rfl id)) rfl ?_
        refine .cons (.move .none (.s rfl)) rfl ?_
        refine .cons (.fieldAddr (.at rfl rfl) fd39_2 hfd39_2 (.s rfl)) rfl ?_
        refine .cons (.load (.at rfl rfl) ty9 (.tmp rfl id)) rfl ?_
        refine .cons (.move (.at rfl rfl) (.s rfl)) rfl ?_
        obtain ⟨hn16, h⟩ := need_some h
        refine .cons (.indexStr (.at rfl rfl) Tryd.underlying9 (.tmp rfl id) (.tmp rfl id) (fun hg => hn16 hg.2)) rfl ?_
        refine .cons (.keql (.at rfl rfl) (.tmp rfl id) .ki) rfl ?_
        refine .cons (.pickOr .none (.s rfl) (.tmp rfl id)) rfl ?_
        obtain ⟨bad2, hv17, h⟩ := bnd_some h
        refine .cons (.re hv17 (.assign .none (.s rfl))) rfl ?_
        refine .nil ?_
        refine .blkNormal ?_
        exact Ends.join _ (some_eq h) (.k 5 rfl (.k 4 rfl (.k 11 rfl (.k 12 rfl (.k 13 rfl (.k 24 rfl (.k 25 rfl .nil))))))) SubB.nil
       ·
        subst hj13; have h := hK13; clear hK13
        refine .region [] mixed (by kernel_rfl) ?_
        refine .cons (.addW .none (.s rfl) (.int (by decide))) rfl ?_
        refine .cons (.move .none (.s rfl)) rfl ?_
        refine .nil ?_
        exact Ends.againL (some_eq h) (.k 25 rfl (.k 5 rfl (.k 4 rfl (.k 11 rfl (.k 12 rfl (.k 13 rfl (.k 24 rfl .nil))))))) SubB.nil
      ·
       replace h := bif_f h hb12
       refine .exit ?_
       refine .thenExit ?_
       refine .thenExit ?_
       refine .blkExit ?_
       replace h := hD11 _ (some_eq h)
       exact Ends.join _ (some_eq h) (.k 5 rfl (.k 4 rfl (.k 11 rfl (.k 12 rfl (.k 13 rfl .nil))))) SubB.nil
     ·
      subst hj10; have h := hK10; clear hK10
      refine .seq (.region [] mixed (by kernel_rfl) ?_)
      refine .cons (.fieldAddr .none fd39_0 hfd39_0 (.s rfl)) rfl ?_
      refine .cons (.load .none ty9 (.s rfl)) rfl ?_
      refine .cons (.neS .none (eqAt_str Tryd.underlying9) (.s rfl) (.str (l := []) (by decide))) rfl ?_
      refine .cons (.move .none (.s rfl)) rfl ?_
      refine .cons (.fieldAddr (.at rfl rfl) fd39_0 hfd39_0 (.s rfl)) rfl ?_
      refine .cons (.load (.at rfl rfl) ty9 (.tmp rfl id)) rfl ?_
      obtain ⟨r2, hv18, h⟩ := bind_some h
      refine .cons (.callIf (.at rfl rfl) fnok11 (fun hg => ref_NameOf_ok ((fun hg => gd_some hv18 (hg.2)) hg)) (.cons (.tmp rfl id) .nil) (fun h => h)) rfl ?_
      refine .cons (.not (.at rfl rfl) (.tmp rfl id)) rfl ?_
      refine .cons (.pickAnd .none (.s rfl) (.tmp rfl id)) rfl ?_
      refine .cons (.move .none (.s rfl)) rfl ?_
      refine .cons (.fieldAddr (.at rfl rfl) fd39_1 hfd39_1 (.s rfl)) rfl ?_
      refine .cons (.load (.at rfl rfl) ty9 (.tmp rfl id)) rfl ?_
      obtain ⟨r3, hv19, h⟩ := bind_some h
      refine .cons (.callIf (.at rfl rfl) fnok11 (fun hg => ref_NameOf_ok ((fun hg => gd_some hv19 ((notT hg.2))) hg)) (.cons (.tmp rfl id) .nil) (fun h => h)) rfl ?_
      refine .cons (.not (.at rfl rfl) (.tmp rfl id)) rfl ?_
      refine .cons (.pickOr .none (.s rfl) (.tmp rfl id)) rfl ?_
      obtain ⟨r4, hv20, h⟩ := bind_some h
      refine .cons (.call .none (ref_When_ok hv20) (.cons (.s rfl) (.cons (.int (by decide)) .nil))) rfl ?_
      refine .cons (.move .none (.s rfl)) rfl ?_
      obtain ⟨r5, hv21, h⟩ := bind_some h
      refine .cons (.call .none (ref_When_ok hv21) (.cons (.s rfl) (.cons (.int (by decide)) .nil))) rfl ?_
      refine .cons (.buildSlice (xs := [_, _]) .none sl47 ty23 hz23 (.cons (.s rfl) (.cons (.s rfl) .nil)) rfl (by decide)) rfl ?_
      obtain ⟨e1, hv22, h⟩ := bind_some h
      refine .cons (.call .none (ref_First_ok hv22) (.cons (.s rfl) .nil)) rfl ?_
      refine .cons (.assign .none (.s rfl)) rfl ?_
      refine .nil (.then ?_)
      refine .seq (.region [] mixed (by kernel_rfl) ?_)
      refine .cons (.move .none (.s rfl)) rfl ?_
      refine .cons (.neI .none (.s rfl) (.int (by decide))) rfl ?_
      refine .nil (.then ?_)
      refine .cond (t := 72) rfl trivial (fun hb23 => ?_) (fun hb23 => ?_)
      ·
       replace h := bif_t h hb23
       refine .seq (.region [] mixed (by kernel_rfl) ?_)
       refine .cons (.move .none (.s rfl)) rfl ?_
       refine .cons (.assign .none (.s rfl)) rfl ?_
       refine .nil (.then ?_)
       refine .ret ?_
       refine .blkRet ?_
       refine .thenRet ?_
       refine .thenRet ?_
       refine .blkRet ?_
       refine .thenRet ?_
       replace h := resd_ab hK5 (some_eq h)
       replace h := hD3 _ (some_eq h)
       replace h := resb_ab hK2 (some_eq h)
       obtain rfl := some_eq h
       exact Ends.ret1 (.inl rfl) Tryd.results4 (ResOK.tmp rfl trivial Imp.refl)
      ·
       replace h := bif_f h hb23
       refine .skip ?_
       refine .blkNormal ?_
       exact Ends.join _ (some_eq h) (.k 11 rfl (.k 12 rfl (.k 13 rfl .nil))) SubB.nil
    ·
     have h := resd_nx hK5 hj5
     refine .region [] mixed (by kernel_rfl) ?_
     refine .cons (.addW .none (.s rfl) (.int (by decide))) rfl ?_
     refine .cons (.move .none (.s rfl)) rfl ?_
     refine .nil ?_
     exact Ends.againL (some_eq h) (.k 13 rfl (.k 11 rfl (.k 12 rfl .nil))) SubB.nil
   ·
    replace h := bif_f h hb4
    refine .exit ?_
    refine .thenExit ?_
    refine .thenExit ?_
    refine .blkExit ?_
    replace h := hD3 _ (some_eq h)
    exact Ends.join _ (some_eq h) Sub.nil SubB.nil
  ·
   have h := resb_nx hK2 hj2
   refine .seq (.region [] mixed (by kernel_rfl) ?_)
   refine .cons (.assign .none (.int (by decide))) rfl ?_
   refine .nil (.then ?_)
   refine .ret ?_
   obtain rfl := some_eq h
   exact Ends.ret1 (.inl rfl) Tryd.results4 (ResOK.tmp rfl trivial Imp.refl)

theorem desk_isName_ok {s1 : Str} {r : Bool}  (h : desk_isName s1 = some r) : FSpec Tryd.prog 15 [rep s1] (rep r) := by
 unfold desk_isName at h
 refine FSpec.intro (n := 25) fnok15 Tryd.func15 rfl Tryd.ntmps15 rfl (fun F => ?_)
 refine .seq (.region [] mixed (by kernel_rfl) ?_)
 refine .cons (.assign .none .bool) rfl ?_
 refine .nil (.then ?_)
 refine .seq (.region [] mixed (by kernel_rfl) ?_)
 refine .cons (.move .none (.s rfl)) rfl ?_
 refine .cons (.neS .none (eqAt_str Tryd.underlying9) (.s rfl) (.str (l := []) (by decide))) rfl ?_
 refine .cons (.move .none (.s rfl)) rfl ?_
 refine .cons (.move (.at rfl rfl) (.s rfl)) rfl ?_
 refine .cons (.lenStr (.at rfl rfl) Tryd.underlying9 (.tmp rfl id)) rfl ?_
 refine .cons (.le (.at rfl rfl) (.tmp rfl id) (.int (by decide))) rfl ?_
 refine .cons (.pickAnd .none (.s rfl) (.tmp rfl id)) rfl ?_
 refine .cons (.move .none (.s rfl)) rfl ?_
 refine .cons (.move (.at rfl rfl) (.s rfl)) rfl ?_
 obtain ⟨hn1, h⟩ := need_some h
 refine .cons (.indexStr (.at rfl rfl) Tryd.underlying9 (.tmp rfl id) (.int (by decide)) (fun hg => hn1 hg.2)) rfl ?_
 refine .cons (.kgeq (.at rfl rfl) (.tmp rfl id) .ki) rfl ?_
 refine .cons (.pickAnd .none (.s rfl) (.tmp rfl id)) rfl ?_
 refine .cons (.move .none (.s rfl)) rfl ?_
 refine .cons (.move (.at rfl rfl) (.s rfl)) rfl ?_
 obtain ⟨hn2, h⟩ := need_some h
 refine .cons (.indexStr (.at rfl rfl) Tryd.underlying9 (.tmp rfl id) (.int (by decide)) (fun hg => hn2 hg.2)) rfl ?_
 refine .cons (.kleq (.at rfl rfl) (.tmp rfl id) .ki) rfl ?_
 refine .cons (.pickAnd .none (.s rfl) (.tmp rfl id)) rfl ?_
 refine .cons (.move .none (.s rfl)) rfl ?_
 refine .cons (.move (.at rfl rfl) (.s rfl)) rfl ?_
 obtain ⟨r1, hv3, h⟩ := bind_some h
 refine .cons (.callIf (.at rfl rfl) fnok25 (fun hg => strings_Trim_ok ((fun hg => gd_some hv3 (hg.2)) hg)) (.cons (.tmp rfl id) (.cons (.str (l := [97, 98, 99, 100, 101, 102, 103, 104, 105, 106, 107, 108, 109, 110, 111, 112, 113, 114, 115, 116, 117, 118, 119, 120, 121, 122, 48, 49, 50, 51, 52, 53, 54, 55, 56, 57, 45]) (by decide)) .nil)) (fun h => h)) rfl ?_
 refine .cons (.eqS (.at rfl rfl) (eqAt_str Tryd.underlying9) (.tmp rfl id) (.str (l := []) (by decide))) rfl ?_
 refine .cons (.pickAnd .none (.s rfl) (.tmp rfl id)) rfl ?_
 refine .cons (.assign .none (.s rfl)) rfl ?_
 refine .nil (.then ?_)
 refine .ret ?_
 obtain rfl := some_eq h
 exact Ends.ret1 (.inl rfl) Tryd.results15 (ResOK.tmp rfl trivial Imp.refl)

theorem desk_isValue_ok {s1 : Str} {r : Bool}  (h : desk_isValue s1 = some r) : FSpec Tryd.prog 19 [rep s1] (rep r) := by
 unfold desk_isValue at h
 refine FSpec.intro (n := 33) fnok19 Tryd.func19 rfl Tryd.ntmps19 rfl (fun F => ?_)
 refine .seq (.region [] mixed (by kernel_rfl) ?_)
 refine .cons (.assign .none .bool) rfl ?_
 refine .nil (.then ?_)
 refine .seq ?_
 refine .seq (.region [] mixed (by kernel_rfl) ?_)
 refine .cons (.move .none (.s rfl)) rfl ?_
 refine .cons (.eqS .none (eqAt_str Tryd.underlying9) (.s rfl) (.str (l := []) (by decide))) rfl ?_
 refine .cons (.move .none (.s rfl)) rfl ?_
 refine .cons (.move (.at rfl rfl) (.s rfl)) rfl ?_
 refine .cons (.lenStr (.at rfl rfl) Tryd.underlying9 (.tmp rfl id)) rfl ?_
 refine .cons (.gt (.at rfl rfl) (.tmp rfl id) (.int (by decide))) rfl ?_
 refine .cons (.pickOr .none (.s rfl) (.tmp rfl id)) rfl ?_
 refine .nil (.then ?_)
 refine .cond (t := 10) rfl trivial (fun hb1 => ?_) (fun hb1 => ?_)
 ·
  replace h := bif_t h hb1
  refine .seq (.region [] mixed (by kernel_rfl) ?_)
  refine .cons (.assign .none .bool) rfl ?_
  refine .nil (.then ?_)
  refine .ret ?_
  refine .thenRet ?_
  obtain rfl := some_eq h
  exact Ends.ret1 (.inl rfl) Tryd.results19 (ResOK.tmp rfl trivial Imp.refl)
 ·
  replace h := bif_f h hb1
  refine .skip ?_
  refine .then ?_
  refine .seq ?_
  refine .seq (.region [] mixed (by kernel_rfl) ?_)
  refine .cons (.move .none (.s rfl)) rfl ?_
  refine .cons (.lenStr .none Tryd.underlying9 (.s rfl)) rfl ?_
  refine .cons (.move .none (.int (by decide))) rfl ?_
  refine .nil (.then ?_)
  obtain ⟨o_2, h, hK2⟩ := bindR_some h
  refine .thenJ (ι := Unit) (fun j_2 => []) (fun j_2 => []) (fun s => o_2 = Res.nx s) Sub.nil SubB.nil ?_ (fun j_2 hj2 => ?_)
  ·
   skip
   refine .block ?_
   refine .rforEL h (fun p3_ => [(13, ⟨True, rep p3_.1⟩)]) (fun p3_ => []) (.k 13 rfl .nil) SubB.nil (.k 0 rfl (.k 12 rfl .nil)) SubB.nil (fun p3_ o_3 h hD3 => ?_)
   refine .seq (.region [] mixed (by kernel_rfl) ?_)
   refine .cons (.lt .none (.s rfl) (.s rfl)) rfl ?_
   refine .nil (.then ?_)
   refine .seq ?_
   refine .cond (t := 14) rfl trivial (fun hb4 => ?_) (fun hb4 => ?_)
   ·
    replace h := bif_t h hb4
    refine .skip ?_
    refine .then ?_
    refine .seq ?_
    obtain ⟨o_5, h, hK5⟩ := bindD_some h
    unfold desk_isValue_L1 at h
    refine .thenJ (ι := Unit) (fun j_5 => []) (fun j_5 => []) (fun s => o_5 = Res.nx s) (.k 0 rfl (.k 12 rfl (.k 13 rfl .nil))) SubB.nil ?_ (fun j_5 hj5 => ?_)
    ·
     skip
     refine .block ?_
     refine .seq (.region [] mixed (by kernel_rfl) ?_)
     refine .cons (.move .none (.s rfl)) rfl ?_
     refine .cons (.assign .none (.s rfl)) rfl ?_
     refine .nil (.then ?_)
     refine .seq (.region [] mixed (by kernel_rfl) ?_)
     refine .cons (.move .none (.s rfl)) rfl ?_
     refine .cons (.move .none (.s rfl)) rfl ?_
     obtain ⟨hn6, h⟩ := need_some h
     refine .cons (.indexStr .none Tryd.underlying9 (.s rfl) (.s rfl) (fun _ => hn6)) rfl ?_
     refine .cons (.klss .none (.s rfl) .ki) rfl ?_
     refine .cons (.move .none (.s rfl)) rfl ?_
     refine .cons (.move (.at rfl rfl) (.s rfl)) rfl ?_
     refine .cons (.move (.at rfl rfl) (.s rfl)) rfl ?_
     obtain ⟨hn7, h⟩ := need_some h
     refine .cons (.indexStr (.at rfl rfl) Tryd.underlying9 (.tmp rfl id) (.tmp rfl id) (fun hg => hn7 hg.2)) rfl ?_
     refine .cons (.kgtr (.at rfl rfl) (.tmp rfl id) .ki) rfl ?_
     refine .cons (.pickOr .none (.s rfl) (.tmp rfl id)) rfl ?_
     refine .cons (.move .none (.s rfl)) rfl ?_
     refine .cons (.move (.at rfl rfl) (.s rfl)) rfl ?_
     refine .cons (.move (.at rfl rfl) (.s rfl)) rfl ?_
     obtain ⟨hn8, h⟩ := need_some h
     refine .cons (.indexStr (.at rfl rfl) Tryd.underlying9 (.tmp rfl id) (.tmp rfl id) (fun hg => hn8 hg.2)) rfl ?_
     refine .cons (.keql (.at rfl rfl) (.tmp rfl id) .ki) rfl ?_
     refine .cons (.pickOr .none (.s rfl) (.tmp rfl id)) rfl ?_
     refine .nil (.then ?_)
     refine .cond (t := 31) rfl trivial (fun hb9 => ?_) (fun hb9 => ?_)
     ·
      replace h := bif_t h hb9
      refine .seq (.region [] mixed (by kernel_rfl) ?_)
      refine .cons (.assign .none .bool) rfl ?_
      refine .nil (.then ?_)
      refine .ret ?_
      refine .blkRet ?_
      refine .thenRet ?_
      refine .thenRet ?_
      refine .blkRet ?_
      refine .thenRet ?_
      replace h := resd_ab hK5 (some_eq h)
      replace h := hD3 _ (some_eq h)
      replace h := resb_ab hK2 (some_eq h)
      obtain rfl := some_eq h
      exact Ends.ret1 (.inl rfl) Tryd.results19 (ResOK.tmp rfl trivial Imp.refl)
     ·
      replace h := bif_f h hb9
      refine .skip ?_
      refine .blkNormal ?_
      exact Ends.join _ (some_eq h) (.k 0 rfl (.k 12 rfl (.k 13 rfl .nil))) SubB.nil
    ·
     have h := resd_nx hK5 hj5
     refine .region [] mixed (by kernel_rfl) ?_
     refine .cons (.addW .none (.s rfl) (.int (by decide))) rfl ?_
     refine .cons (.move .none (.s rfl)) rfl ?_
     refine .nil ?_
     exact Ends.againL (some_eq h) (.k 13 rfl (.k 0 rfl (.k 12 rfl .nil))) SubB.nil
   ·
    replace h := bif_f h hb4
    refine .exit ?_
    refine .thenExit ?_
    refine .thenExit ?_
    refine .blkExit ?_
    replace h := hD3 _ (some_eq h)
    exact Ends.join _ (some_eq h) Sub.nil SubB.nil
  ·
   have h := resb_nx hK2 hj2
   refine .seq (.region [] mixed (by kernel_rfl) ?_)
   refine .cons (.assign .none .bool) rfl ?_
   refine .nil (.then ?_)
   refine .ret ?_
   obtain rfl := some_eq h
   exact Ends.ret1 (.inl rfl) Tryd.results19 (ResOK.tmp rfl trivial Imp.refl)

theorem desk_CheckRules_ok {l1 : (List Rule)} {r : Int}  (h : desk_CheckRules l1 = some r) : FSpec Tryd.prog 7 [rep l1] (rep r) := by
 unfold desk_CheckRules at h
 refine FSpec.intro (n := 34) fnok7 Tryd.func7 rfl Tryd.ntmps7 rfl (fun F => ?_)
 refine .seq (.region [] mixed (by kernel_rfl) ?_)
 refine .cons (.assign .none (.int (by decide))) rfl ?_
 refine .nil (.then ?_)
 refine .seq ?_
 refine .seq (.region [] mixed (by kernel_rfl) ?_)
 refine .cons (.move .none (.s rfl)) rfl ?_
 refine .cons (.len .none sl22 (.s rfl)) rfl ?_
 refine .cons (.gt .none (.s rfl) (.int (by decide))) rfl ?_
 refine .nil (.then ?_)
 refine .cond (t := 7) rfl trivial (fun hb1 => ?_) (fun hb1 => ?_)
 ·
  replace h := bif_t h hb1
  refine .seq (.region [] mixed (by kernel_rfl) ?_)
  refine .cons (.assign .none (.int (by decide))) rfl ?_
  refine .nil (.then ?_)
  refine .ret ?_
  refine .thenRet ?_
  obtain rfl := some_eq h
  exact Ends.ret1 (.inl rfl) Tryd.results7 (ResOK.tmp rfl trivial Imp.refl)
 ·
  replace h := bif_f h hb1
  refine .skip ?_
  refine .then ?_
  refine .seq ?_
  refine .seq (.region [] mixed (by kernel_rfl) ?_)
  refine .cons (.move .none (.s rfl)) rfl ?_
  refine .cons (.len .none sl22 (.s rfl)) rfl ?_
  refine .cons (.move .none (.int (by decide))) rfl ?_
  refine .nil (.then ?_)
  obtain ⟨o_2, h, hK2⟩ := bindR_some h
  refine .thenJ (ι := Unit) (fun j_2 => []) (fun j_2 => []) (fun s => o_2 = Res.nx s) Sub.nil SubB.nil ?_ (fun j_2 hj2 => ?_)
  ·
   skip
   refine .block ?_
   refine .rforEL h (fun p3_ => [(10, ⟨True, rep p3_.1⟩)]) (fun p3_ => []) (.k 10 rfl .nil) SubB.nil (.k 8 rfl (.k 9 rfl .nil)) SubB.nil (fun p3_ o_3 h hD3 => ?_)
   refine .seq (.region [] mixed (by kernel_rfl) ?_)
   refine .cons (.lt .none (.s rfl) (.s rfl)) rfl ?_
   refine .nil (.then ?_)
   refine .seq ?_
   refine .cond (t := 11) rfl trivial (fun hb4 => ?_) (fun hb4 => ?_)
   ·
    replace h := bif_t h hb4
    refine .skip ?_
    refine .then ?_
    refine .seq ?_
    obtain ⟨o_5, h, hK5⟩ := bindD_some h
    unfold desk_CheckRules_L1 at h
    refine .thenJ (ι := Unit) (fun j_5 => []) (fun j_5 => []) (fun s => o_5 = Res.nx s) (.k 8 rfl (.k 9 rfl (.k 10 rfl .nil))) SubB.nil ?_ (fun j_5 hj5 => ?_)
    ·
     skip
     refine .block ?_
     refine .seq (.region [([], []), ([], []), ([], [4]), ([4], [4])] mixed (by kernel_rfl) ?_)
     obtain ⟨hn6, h⟩ := need_some h
     refine .consA (.indexAddr .none sl22 ty39 (.s rfl) (.s rfl) (fun _ => hn6)) rfl ?_
     obtain ⟨v1, hv7, h⟩ := bnd_some h
     refine .consA (.re hv7 (.load .none ty39 (.s rfl))) rfl ?_
     refine .consW (.alloc zo39 rfl) rfl rfl ?_
     refine .consN (.store ty39 rfl rfl (.s rfl)) rfl ?_
     refine .nil (.then ?_)
     refine .freeze (t := 4) rfl rfl SubB.nil rfl ?_
     refine .block ?_
     refine .seq ?_
     refine .seq (.region [] mixed (by kernel_rfl) ?_)
     refine .cons (.fieldAddr .none fd39_0 hfd39_0 (.s rfl)) rfl ?_
     refine .cons (.load .none ty9 (.s rfl)) rfl ?_
     refine .cons (.neS .none (eqAt_str Tryd.underlying9) (.s rfl) (.str (l := []) (by decide))) rfl ?_
     refine .cons (.move .none (.s rfl)) rfl ?_
     refine .cons (.fieldAddr (.at rfl rfl) fd39_0 hfd39_0 (.s rfl)) rfl ?_
     refine .cons (.load (.at rfl rfl) ty9 (.tmp rfl id)) rfl ?_
     obtain ⟨r1, hv8, h⟩ := bind_some h
     refine .cons (.callIf (.at rfl rfl) fnok15 (fun hg => desk_isName_ok ((fun hg => gd_some hv8 (hg.2)) hg)) (.cons (.tmp rfl id) .nil) (fun h => h)) rfl ?_
     refine .cons (.not (.at rfl rfl) (.tmp rfl id)) rfl ?_
     refine .cons (.pickAnd .none (.s rfl) (.tmp rfl id)) rfl ?_
     obtain ⟨v2, hv9, h⟩ := bnd_some h
     refine .cons (.re hv9 (.assign .none (.s rfl))) rfl ?_
     refine .nil (.then ?_)
     obtain ⟨j_10, h, hK10⟩ := bind_some h
     refine .thenJ (ι := Bool) (fun j_10 => [(14, ⟨True, rep j_10⟩)]) (fun j_10 => []) (fun s => j_10 = s) (.k 4 rfl (.k 8 rfl (.k 9 rfl (.k 10 rfl .nil)))) SubB.nil ?_ (fun j_10' hj10 => ?_)
     ·
      skip
      refine .cond (t := 14) rfl trivial (fun hb11 => ?_) (fun hb11 => ?_)
      ·
       replace h := bif_t h hb11
       refine .skip ?_
       exact Ends.join _ (some_eq h) (.k 14 rfl (.k 4 rfl (.k 8 rfl (.k 9 rfl (.k 10 rfl .nil))))) SubB.nil
      ·
       replace h := bif_f h hb11
       refine .region [] mixed (by kernel_rfl) ?_
       refine .cons (.fieldAddr .none fd39_1 hfd39_1 (.s rfl)) rfl ?_
       refine .cons (.load .none ty9 (.s rfl)) rfl ?_
       obtain ⟨r2, hv12, h⟩ := bind_some h
       refine .cons (.call .none (desk_isName_ok hv12) (.cons (.s rfl) .nil)) rfl ?_
       refine .cons (.not .none (.s rfl)) rfl ?_
       obtain ⟨v3, hv13, h⟩ := bnd_some h
       refine .cons (.re hv13 (.assign .none (.s rfl))) rfl ?_
       refine .nil ?_
       exact Ends.join _ (some_eq h) (.k 14 rfl (.k 4 rfl (.k 8 rfl (.k 9 rfl (.k 10 rfl .nil))))) SubB.nil
     ·
      subst hj10; have h := hK10; clear hK10
      refine .cond (t := 14) rfl trivial (fun hb14 => ?_) (fun hb14 => ?_)
      ·
       replace h := bif_t h hb14
       refine .seq (.region [] mixed (by kernel_rfl) ?_)
       refine .cons (.assign .none (.int (by decide))) rfl ?_
       refine .nil (.then ?_)
       refine .ret ?_
       refine .blkRet ?_
       refine .blkRet ?_
       refine .thenRet ?_
       refine .thenRet ?_
       refine .blkRet ?_
       refine .thenRet ?_
       replace h := resd_ab hK5 (some_eq h)
       replace h := hD3 _ (some_eq h)
       replace h := resb_ab hK2 (some_eq h)
       obtain rfl := some_eq h
       exact Ends.ret1 (.inl rfl) Tryd.results7 (ResOK.tmp rfl trivial Imp.refl)
      ·
       replace h := bif_f h hb14
       refine .seq (.region [] mixed (by kernel_rfl) ?_)
       refine .cons (.fieldAddr .none fd39_2 hfd39_2 (.s rfl)) rfl ?_
       refine .cons (.load .none ty9 (.s rfl)) rfl ?_
       obtain ⟨r3, hv15, h⟩ := bind_some h
       refine .cons (.call .none (desk_isValue_ok hv15) (.cons (.s rfl) .nil)) rfl ?_
       refine .cons (.not .none (.s rfl)) rfl ?_
       refine .cons (.assign .none (.s rfl)) rfl ?_
       refine .nil (.then ?_)
       refine .cond (t := 28) rfl trivial (fun hb16 => ?_) (fun hb16 => ?_)
       ·
        replace h := bif_t h hb16
        refine .seq (.region [] mixed (by kernel_rfl) ?_)
        refine .cons (.assign .none (.int (by decide))) rfl ?_
        refine .nil (.then ?_)
        refine .ret ?_
        refine .blkRet ?_
        refine .blkRet ?_
        refine .thenRet ?_
        refine .thenRet ?_
        refine .blkRet ?_
        refine .thenRet ?_
        replace h := resd_ab hK5 (some_eq h)
        replace h := hD3 _ (some_eq h)
        replace h := resb_ab hK2 (some_eq h)
        obtain rfl := some_eq h
        exact Ends.ret1 (.inl rfl) Tryd.results7 (ResOK.tmp rfl trivial Imp.refl)
       ·
        replace h := bif_f h hb16
        refine .skip ?_
        refine .blkNormal ?_
        refine .blkNormal ?_
        exact Ends.join _ (some_eq h) (.k 8 rfl (.k 9 rfl (.k 10 rfl .nil))) SubB.nil
    ·
     have h := resd_nx hK5 hj5
     refine .region [] mixed (by kernel_rfl) ?_
     refine .cons (.addW .none (.s rfl) (.int (by decide))) rfl ?_
     refine .cons (.move .none (.s rfl)) rfl ?_
     refine .nil ?_
     exact Ends.againL (some_eq h) (.k 10 rfl (.k 8 rfl (.k 9 rfl .nil))) SubB.nil
   ·
    replace h := bif_f h hb4
    refine .exit ?_
    refine .thenExit ?_
    refine .thenExit ?_
    refine .blkExit ?_
    replace h := hD3 _ (some_eq h)
    exact Ends.join _ (some_eq h) Sub.nil SubB.nil
  ·
   have h := resb_nx hK2 hj2
   refine .seq (.region [] mixed (by kernel_rfl) ?_)
   refine .cons (.assign .none (.int (by decide))) rfl ?_
   refine .nil (.then ?_)
   refine .ret ?_
   obtain rfl := some_eq h
   exact Ends.ret1 (.inl rfl) Tryd.results7 (ResOK.tmp rfl trivial Imp.refl)

instance : Enc Attr := Enc.via (fun x : Attr => (x.Field, x.Value))

theorem sortO_Attr : Sort.SWO (Proofs.ltOf sortC_Attr) := by
 have h : ∀ x y, Proofs.ltOf sortC_Attr x y = decide (cmpB x.1.Field.b y.1.Field.b < 0) := fun x y => rfl
 constructor
 ·
  intro x; rw [h, cmpB_self]; rfl
 ·
  intro x y z h1 h2
  rw [h] at *
  simp only [decide_eq_true_eq] at *
  exact (cmpB_trans (by omega) (by omega)).2 (.inl h1)
 ·
  intro x y z h1 h2
  rw [h] at *
  simp only [decide_eq_false_iff_not, Int.not_lt] at *
  have e1 := cmpB_swap x.1.Field.b y.1.Field.b
  have e2 := cmpB_swap y.1.Field.b z.1.Field.b
  have e3 := cmpB_swap x.1.Field.b z.1.Field.b
  have := (cmpB_trans (a := z.1.Field.b) (b := y.1.Field.b) (c := x.1.Field.b) (by omega) (by omega)).1
  omega

theorem sortX_Attr (x y : { x : Attr // sortQ_Attr x }) (w0 : World) : Calls Tryd.prog 17 #[.agg (Enc.enc x.1).toArray, .agg (Enc.enc y.1).toArray] w0 fun e w' => e = .returned (.int .i64 (sortC_Attr x y)) ∧ ∃ q os', w' = Go.Sort.grow (w0.drewN q) os' := by
 obtain ⟨⟨a1, a2⟩, hx⟩ := x
 obtain ⟨⟨b1, b2⟩, hy⟩ := y
 show Calls Tryd.prog 17 #[.agg #[.string ⟨a1.b.toArray⟩, .string ⟨a2.b.toArray⟩], .agg #[.string ⟨b1.b.toArray⟩, .string ⟨b2.b.toArray⟩]] w0 fun e w' => e = .returned (.int .i64 (cmpB a1.b b1.b)) ∧ ∃ q os', w' = Go.Sort.grow (w0.drewN q) os'
 clear hx hy
 rw [← compareBytes_eq]
 go_enter Tryd.func17, Tryd.ntmps17
 go_wp2_with (go_at_call 18; refine (Proofs.Any.strings_Compare compareStr_lay _ _ _).mono ?_; rintro e w' ⟨rfl, rfl⟩)
 go_ret
 exact ⟨by simp, 0, _, by rw [Go.Sort.alloc_eq_grow, Go.Sort.alloc_eq_grow, Go.Sort.grow_grow]; rfl⟩

theorem slices_SortFunc_Attr_ok {l r : List Attr} {s : Value} (h : slices_SortFunc_Attr l = some r) : FSpecO Tryd.prog 16 [isV s, cloV 17 []] [(s, rowV 31 l)] (anyV) [some (rowV 31 r)] := by
 obtain ⟨hl, h⟩ := need_some h
 obtain rfl := some_eq h
 exact sortF_spec sortF31_lay rfl rfl fnok16 fnok17 Tryd.underlying31 ty31 sortO_Attr sortX_Attr hl.1 hl.2

theorem desk_Style_ok {l1 : (List Rule)} {class1 : Str} {r : ((List Attr) × Int)}  (h : desk_Style l1 class1 = some r) : FSpec Tryd.prog 5 [rep l1, rep class1] (tup [rep r.1, rep r.2]) := by
 unfold desk_Style at h
 refine FSpec.intro (n := 68) fnok5 Tryd.func5 rfl Tryd.ntmps5 rfl (fun F => ?_)
 refine .seq (.region [] mixed (by kernel_rfl) ?_)
 refine .cons (.assign .none (.const (x := ([] : (List Attr))) (fun M w => ⟨_, ⟨none, 0, rfl, Nat.le_refl _, by decide, rfl⟩, rfl⟩))) rfl ?_
 refine .cons (.assign .none (.int (by decide))) rfl ?_
 refine .nil (.then ?_)
 refine .seq ?_
 refine .seq (.region [] mixed (by kernel_rfl) ?_)
 refine .cons (.move .none (.s rfl)) rfl ?_
 obtain ⟨e1, hv1, h⟩ := bind_some h
 refine .cons (.call .none (desk_CheckRules_ok hv1) (.cons (.s rfl) .nil)) rfl ?_
 refine .cons (.assign .none (.s rfl)) rfl ?_
 refine .nil (.then ?_)
 refine .seq (.region [] mixed (by kernel_rfl) ?_)
 refine .cons (.move .none (.s rfl)) rfl ?_
 refine .cons (.neI .none (.s rfl) (.int (by decide))) rfl ?_
 refine .nil (.then ?_)
 refine .cond (t := 18) rfl trivial (fun hb2 => ?_) (fun hb2 => ?_)
 ·
  replace h := bif_t h hb2
  refine .seq (.region [] mixed (by kernel_rfl) ?_)
  refine .cons (.move .none (.s rfl)) rfl ?_
  refine .cons (.assign .none (.const (x := ([] : (List Attr))) (fun M w => ⟨_, ⟨none, 0, rfl, Nat.le_refl _, by decide, rfl⟩, rfl⟩))) rfl ?_
  refine .cons (.assign .none (.s rfl)) rfl ?_
  refine .nil (.then ?_)
  refine .ret ?_
  refine .thenRet ?_
  obtain rfl := some_eq h
  exact Ends.ret2 (.inl rfl) Tryd.results5 (ResOK.tmp rfl trivial Imp.refl) (ResOK.tmp rfl trivial Imp.refl)
 ·
  replace h := bif_f h hb2
  refine .skip ?_
  refine .then ?_
  refine .seq ?_
  refine .seq (.region [] mixed (by kernel_rfl) ?_)
  refine .cons (.move .none (.s rfl)) rfl ?_
  refine .cons (.neS .none (eqAt_str Tryd.underlying9) (.s rfl) (.str (l := []) (by decide))) rfl ?_
  refine .cons (.move .none (.s rfl)) rfl ?_
  refine .cons (.move (.at rfl rfl) (.s rfl)) rfl ?_
  obtain ⟨r1, hv3, h⟩ := bind_some h
  refine .cons (.callIf (.at rfl rfl) fnok15 (fun hg => desk_isName_ok ((fun hg => gd_some hv3 (hg.2)) hg)) (.cons (.tmp rfl id) .nil) (fun h => h)) rfl ?_
  refine .cons (.not (.at rfl rfl) (.tmp rfl id)) rfl ?_
  refine .cons (.pickAnd .none (.s rfl) (.tmp rfl id)) rfl ?_
  refine .nil (.then ?_)
  refine .cond (t := 26) rfl trivial (fun hb4 => ?_) (fun hb4 => ?_)
  ·
   replace h := bif_t h hb4
   refine .seq (.region [] mixed (by kernel_rfl) ?_)
   refine .cons (.assign .none (.const (x := ([] : (List Attr))) (fun M w => ⟨_, ⟨none, 0, rfl, Nat.le_refl _, by decide, rfl⟩, rfl⟩))) rfl ?_
   refine .cons (.assign .none (.int (by decide))) rfl ?_
   refine .nil (.then ?_)
   refine .ret ?_
   refine .thenRet ?_
   obtain rfl := some_eq h
   exact Ends.ret2 (.inl rfl) Tryd.results5 (ResOK.tmp rfl trivial Imp.refl) (ResOK.tmp rfl trivial Imp.refl)
  ·
   replace h := bif_f h hb4
   refine .skip ?_
   refine .then ?_
   refine .seq (.region [([], [27]), ([27], [7, 27])] mixed (by kernel_rfl) ?_)
   refine .consW (.makeMap (K := Str) (V := Str) rfl) rfl rfl ?_
   refine .consW (.passRow rfl (.tmp rfl)) rfl rfl ?_
   refine .nil (.then ?_)
   obtain ⟨values1, hv5, h⟩ := bnd_some h
   refine .reB (t := 7) rfl (congrArg mapV hv5) ?_
   refine .nameMap (t := 7) (g := 5001) rfl rfl rfl (fun s5001 => ?_)
   refine .seq ?_
   refine .seq (.region [] mixed (by kernel_rfl) ?_)
   refine .cons (.move .none (.s rfl)) rfl ?_
   obtain ⟨v1, hv6, h⟩ := bnd_some h
   refine .cons (.re hv6 (.buildSlice (xs := [_, _]) .none sl42 ty9 hz9 (.cons (.str (l := []) (by decide)) (.cons (.s rfl) .nil)) rfl (by decide))) rfl ?_
   refine .cons (.len .none sl42 (.s rfl)) rfl ?_
   refine .cons (.move .none (.int (by decide))) rfl ?_
   refine .nil (.then ?_)
   obtain ⟨j_7, h, hK7⟩ := bind_some h
   refine .thenJ (ι := (GMap Str Str)) (fun j_7 => []) (fun j_7 => [(5001, some (CPred.at s5001 (mapV j_7)))]) (fun s => j_7 = s) (.k 7 rfl .nil) SubB.nil ?_ (fun j_7' hj7 => ?_)
   ·
    skip
    refine .block ?_
    refine .rforL h (fun p8_ => [(31, ⟨True, rep p8_.1⟩)]) (fun p8_ => [(5001, some (CPred.at s5001 (mapV p8_.2)))]) (.k 31 rfl .nil) (.k 5001 rfl .nil) (.k 0 rfl (.k 7 rfl (.k 29 rfl (.k 30 rfl .nil)))) SubB.nil (fun p8_ o_8 h hD8 => ?_)
    refine .seq (.region [] mixed (by kernel_rfl) ?_)
    refine .cons (.lt .none (.s rfl) (.s rfl)) rfl ?_
    refine .nil (.then ?_)
    refine .seq ?_
    refine .cond (t := 32) rfl trivial (fun hb9 => ?_) (fun hb9 => ?_)
    ·
     replace h := bif_t h hb9
     refine .skip ?_
     refine .then ?_
     refine .seq ?_
     obtain ⟨j_10, h, hK10⟩ := bind_some h
     unfold desk_Style_L1 at h
     refine .thenJ (ι := (GMap Str Str)) (fun j_10 => []) (fun j_10 => [(5001, some (CPred.at s5001 (mapV j_10)))]) (fun s => j_10 = s) (.k 0 rfl (.k 7 rfl (.k 29 rfl (.k 30 rfl (.k 31 rfl .nil))))) SubB.nil ?_ (fun j_10' hj10 => ?_)
     ·
      skip
      refine .block ?_
      refine .seq (.region [] mixed (by kernel_rfl) ?_)
      obtain ⟨hn11, h⟩ := need_some h
      refine .cons (.indexAddr .none sl42 ty9 (.s rfl) (.s rfl) (fun _ => hn11)) rfl ?_
      refine .cons (.load .none ty9 (.s rfl)) rfl ?_
      refine .cons (.assign .none (.s rfl)) rfl ?_
      refine .nil (.then ?_)
      refine .seq (.region [] mixed (by kernel_rfl) ?_)
      refine .cons (.move .none (.s rfl)) rfl ?_
      refine .cons (.len .none sl22 (.s rfl)) rfl ?_
      refine .cons (.move .none (.int (by decide))) rfl ?_
      refine .nil (.then ?_)
      refine .block ?_
      refine .rforL h (fun p12_ => [(37, ⟨True, rep p12_.1⟩)]) (fun p12_ => [(5001, some (CPred.at s5001 (mapV p12_.2)))]) (.k 37 rfl .nil) (.k 5001 rfl .nil) (.k 0 rfl (.k 7 rfl (.k 9 rfl (.k 29 rfl (.k 30 rfl (.k 31 rfl (.k 35 rfl (.k 36 rfl .nil)))))))) SubB.nil (fun p12_ o_12 h hD12 => ?_)
      refine .seq (.region [] mixed (by kernel_rfl) ?_)
      refine .cons (.lt .none (.s rfl) (.s rfl)) rfl ?_
      refine .nil (.then ?_)
      refine .seq ?_
      refine .cond (t := 38) rfl trivial (fun hb13 => ?_) (fun hb13 => ?_)
      ·
       replace h := bif_t h hb13
       refine .skip ?_
       refine .then ?_
       refine .seq ?_
       obtain ⟨j_14, h, hK14⟩ := bind_some h
       unfold desk_Style_L2 at h
       refine .thenJ (ι := (GMap Str Str)) (fun j_14 => []) (fun j_14 => [(5001, some (CPred.at s5001 (mapV j_14)))]) (fun s => j_14 = s) (.k 0 rfl (.k 7 rfl (.k 9 rfl (.k 29 rfl (.k 30 rfl (.k 31 rfl (.k 35 rfl (.k 36 rfl (.k 37 rfl .nil))))))))) SubB.nil ?_ (fun j_14' hj14 => ?_)
       ·
        skip
        refine .block ?_
        refine .seq (.region [([], []), ([], []), ([], [11]), ([11], [11])] mixed (by kernel_rfl) ?_)
        obtain ⟨hn15, h⟩ := need_some h
        refine .consA (.indexAddr .none sl22 ty39 (.s rfl) (.s rfl) (fun _ => hn15)) rfl ?_
        obtain ⟨v2, hv16, h⟩ := bnd_some h
        refine .consA (.re hv16 (.load .none ty39 (.s rfl))) rfl ?_
        refine .consW (.alloc zo39 rfl) rfl rfl ?_
        refine .consN (.store ty39 rfl rfl (.s rfl)) rfl ?_
        refine .nil (.then ?_)
        refine .freeze (t := 11) rfl rfl (.k 5001 rfl .nil) rfl ?_
        refine .seq (.region [] mixed (by kernel_rfl) ?_)
        refine .cons (.fieldAddr .none fd39_0 hfd39_0 (.s rfl)) rfl ?_
        refine .cons (.load .none ty9 (.s rfl)) rfl ?_
        refine .cons (.move .none (.s rfl)) rfl ?_
        refine .cons (.eqS .none (eqAt_str Tryd.underlying9) (.s rfl) (.s rfl)) rfl ?_
        refine .nil (.then ?_)
        refine .cond (t := 44) rfl trivial (fun hb17 => ?_) (fun hb17 => ?_)
        ·
         replace h := bif_t h hb17
         refine .region [([], []), ([], []), ([], []), ([], []), ([], []), ([5001], [5001])] mixed (by kernel_rfl) ?_
         refine .consA (.move .none (.s rfl)) rfl ?_
         refine .consA (.fieldAddr .none fd39_1 hfd39_1 (.s rfl)) rfl ?_
         refine .consA (.load .none ty9 (.s rfl)) rfl ?_
         refine .consA (.fieldAddr .none fd39_2 hfd39_2 (.s rfl)) rfl ?_
         refine .consA (.load .none ty9 (.s rfl)) rfl ?_
         refine .consN (.mapUpdate (q := 5001) mo41 (.s rfl) rfl (.s rfl) (.s rfl)) rfl ?_
         refine .nil ?_
         refine .blkNormal ?_
         exact Ends.join _ (some_eq h) (.k 0 rfl (.k 7 rfl (.k 9 rfl (.k 29 rfl (.k 30 rfl (.k 31 rfl (.k 35 rfl (.k 36 rfl (.k 37 rfl .nil))))))))) (.k 5001 rfl .nil)
        ·
         replace h := bif_f h hb17
         refine .skip ?_
         refine .blkNormal ?_
         exact Ends.join _ (some_eq h) (.k 0 rfl (.k 7 rfl (.k 9 rfl (.k 29 rfl (.k 30 rfl (.k 31 rfl (.k 35 rfl (.k 36 rfl (.k 37 rfl .nil))))))))) (.k 5001 rfl .nil)
       ·
        subst hj14; have h := hK14; clear hK14
        refine .region [] mixed (by kernel_rfl) ?_
        refine .cons (.addW .none (.s rfl) (.int (by decide))) rfl ?_
        refine .cons (.move .none (.s rfl)) rfl ?_
        refine .nil ?_
        exact Ends.againL (some_eq h) (.k 37 rfl (.k 0 rfl (.k 7 rfl (.k 9 rfl (.k 29 rfl (.k 30 rfl (.k 31 rfl (.k 35 rfl (.k 36 rfl .nil))))))))) (.k 5001 rfl .nil)
      ·
       replace h := bif_f h hb13
       refine .exit ?_
       refine .thenExit ?_
       refine .thenExit ?_
       refine .blkExit ?_
       refine .blkNormal ?_
       replace h := hD12 _ (some_eq h)
       exact Ends.join _ (some_eq h) (.k 0 rfl (.k 7 rfl (.k 29 rfl (.k 30 rfl (.k 31 rfl .nil))))) (.k 5001 rfl .nil)
     ·
      subst hj10; have h := hK10; clear hK10
      refine .region [] mixed (by kernel_rfl) ?_
      refine .cons (.addW .none (.s rfl) (.int (by decide))) rfl ?_
      refine .cons (.move .none (.s rfl)) rfl ?_
      refine .nil ?_
      exact Ends.againL (some_eq h) (.k 31 rfl (.k 0 rfl (.k 7 rfl (.k 29 rfl (.k 30 rfl .nil))))) (.k 5001 rfl .nil)
    ·
     replace h := bif_f h hb9
     refine .exit ?_
     refine .thenExit ?_
     refine .thenExit ?_
     refine .blkExit ?_
     replace h := hD8 _ (some_eq h)
     exact Ends.join _ (some_eq h) (.k 7 rfl .nil) (.k 5001 rfl .nil)
   ·
    subst hj7; have h := hK7; clear hK7
    refine .freezeAt (g := 5001) (S := rep j_7) (ts := [7]) rfl (.cons (t := 7) rfl trivial .nil) SubB.nil rfl (fun M D w h hms => mapV_rep h hms) ?_
    refine .seq (.region [([], [12])] mixed (by kernel_rfl) ?_)
    refine .consW (.nilRow (T := 31) (α := Attr) rfl) rfl rfl ?_
    refine .nil (.then ?_)
    refine .nameRow (t := 12) (g := 5002) rfl rfl rfl (fun s5002 => ?_)
    refine .seq ?_
    refine .seq (.region [([], []), ([], [53])] mixed (by kernel_rfl) ?_)
    refine .consA (.move .none (.s rfl)) rfl ?_
    refine .consW (.rangeMap Tryd.underlying41 rfl (.s rfl)) rfl rfl ?_
    refine .nil (.then ?_)
    refine .nameAt (t := 53) (g := 5003) rfl rfl isBox_iterF rfl (fun m5003 => ?_)
    obtain ⟨P18, h, hK18⟩ := mrangeK_some h
    refine .thenJ (ι := (List Attr)) (fun j_18 => []) (fun j_18 => [(12, some (rowV 31 j_18))]) (fun s => P18 s) (.k 53 rfl .nil) SubB.nil ?_ (fun j_18 hj18 => ?_)
    ·
     skip
     refine .block ?_
     refine .anon (t := 12) (g := 5002) rfl rfl trivial rfl ?_
     refine .listsF (q := 5003) rfl (fun hf19 => ?_)
     refine .mrangeKL h hf19 (fun p19_ => []) (fun p19_ => [(5003, some (CPred.at (ptr m5003 0) (iterF j_7 p19_.1))), (12, some (rowV 31 p19_.2))]) Sub.nil (.k 5003 rfl (.k 12 rfl .nil)) (.k 53 rfl .nil) SubB.nil (fun p19_ H19 => ?_)
     refine .nameRow (t := 12) (g := 5004) rfl rfl rfl (fun s5004 => ?_)
     refine .seq (.region [([5003], [54, 5003]), ([54], [55, 54])] mixed (by kernel_rfl) ?_)
     refine .consW (.nextF (k := 5003) rfl rfl (.s rfl)) rfl rfl ?_
     refine .consW (.nextedOk (d := 54) rfl rfl) rfl rfl ?_
     refine .nil (.then ?_)
     refine .openNext (t := 55) (k := 5003) rfl rfl rfl (fun o19_ ho19 => ?_)
     obtain ⟨out19_, h, hD19⟩ := H19 o19_ ho19
     refine .againM (fun s' hs' => ⟨o19_, ho19, h.trans (congrArg some hs')⟩) ?_
     refine .seq ?_
     cases o19_ with
     | some x19_ =>
      replace h := mstep_some h
      refine .condT (t := 55) rfl trivial rfl ?_
      refine .skip ?_
      refine .then ?_
      obtain ⟨j_20, h, hK20⟩ := bind_some h
      unfold desk_Style_L3 at h
      refine .tailJ (ι := (List Attr)) (fun j_20 => []) (fun j_20 => [(12, some (rowV 31 j_20))]) (fun s => j_20 = s) (.k 53 rfl .nil) (.k 5003 rfl .nil) ?_ (fun j_20' hj20 => ?_)
      ·
       skip
       refine .block ?_
       refine .seq (.region [([5003], []), ([], []), ([], []), ([], []), ([], [])] mixed (by kernel_rfl) ?_)
       refine .consA (.entryF (k := 5003) (p := p19_.1) (y := x19_) rfl (.s rfl)) rfl ?_
       refine .consA (.extract .none (.s rfl) rfl) rfl ?_
       refine .consA (.extract .none (.s rfl) rfl) rfl ?_
       refine .consA (.assign .none (.s rfl)) rfl ?_
       refine .consA (.assign .none (.s rfl)) rfl ?_
       refine .nil (.then ?_)
       refine .region [([], []), ([], []), ([], []), ([], []), ([], []), ([5004], [64, 5004]), ([64], [12, 64])] mixed (by kernel_rfl) ?_
       refine .consA (.move .none (.s rfl)) rfl ?_
       refine .consA (.move .none (.s rfl)) rfl ?_
       refine .consA (.move .none (.s rfl)) rfl ?_
       refine .consA (.buildF (y := (⟨x19_.1, x19_.2⟩ : Attr)) .none bu31 zc31 rfl (.cons (.s rfl) (.cons (.s rfl) .nil)) (.cons rfl sf31_0 (.cons rfl sf31_1 .nil))) rfl ?_
       refine .consA (.buildSlice (xs := [_]) .none sl25 ty31 hz31 (.cons (.s rfl) .nil) rfl (by decide)) rfl ?_
       obtain ⟨hn21, h⟩ := need_some h
       refine .consW (.append (k := 5004) rk25 rfl (.told (.s rfl) rfl) (.s rfl) hn21) rfl rfl ?_
       refine .consWD (.passRow rfl (.tmp rfl)) rfl rfl ?_
       refine .nil ?_
       refine .blkNormal ?_
       exact Ends.join _ (some_eq h) (.k 53 rfl .nil) (.k 12 rfl (.k 5003 rfl .nil))
      ·
       subst hj20; have h := hK20; clear hK20
       exact Ends.againL (some_eq h) (.k 53 rfl .nil) (.k 5003 rfl (.k 12 rfl .nil))
     | none =>
      replace h := mstep_none h
      refine .condF (t := 55) rfl trivial rfl ?_
      refine .exit ?_
      refine .thenExit ?_
      refine .thenExit ?_
      refine .blkExit ?_
      refine .anon (t := 12) (g := 5004) rfl rfl trivial rfl ?_
      replace h := hD19 _ (some_eq h)
      exact Ends.join _ h (.k 53 rfl .nil) (.k 12 rfl .nil)
    ·
     have h := hK18 _ hj18; clear hK18
     refine .nameRow (t := 12) (g := 5005) rfl rfl rfl (fun s5005 => ?_)
     refine .seq (.region [([], []), ([5005], [5005])] mixed (by kernel_rfl) ?_)
     refine .consA (.move .none (.s rfl)) rfl ?_
     obtain ⟨r2, hv22, h⟩ := bind_some h
     refine .consW (.callO [5005] (slices_SortFunc_Attr_ok hv22) (.cons (.s rfl) (.cons .funcC .nil)) (.cons (k := 5005) rfl .nil) rfl (by decide) (by decide) (by intro d h; cases h; decide)) rfl rfl ?_
     refine .nil (.then ?_)
     refine .freezeRow (g := 5005) (ts := [12]) rfl (.cons (t := 12) rfl trivial .nil) SubB.nil rfl ?_
     refine .seq (.region [] mixed (by kernel_rfl) ?_)
     refine .cons (.move .none (.s rfl)) rfl ?_
     refine .cons (.assign .none (.s rfl)) rfl ?_
     refine .cons (.assign .none (.int (by decide))) rfl ?_
     refine .nil (.then ?_)
     refine .ret ?_
     obtain rfl := some_eq h
     exact Ends.ret2 (.inl rfl) Tryd.results5 (ResOK.tmp rfl trivial Imp.refl) (ResOK.tmp rfl trivial Imp.refl)

theorem law_desks_ok  {r : Bool}  (h : law_desks  = some r) : FSpec Tryd.prog 6 [] (rep r) := by
 unfold law_desks at h
 refine FSpec.intro (n := 9) fnok6 Tryd.func6 rfl Tryd.ntmps6 rfl (fun F => ?_)
 refine .seq (.region [] mixed (by kernel_rfl) ?_)
 refine .cons (.assign .none .bool) rfl ?_
 refine .nil (.then ?_)
 refine .seq (.region [] mixed (by kernel_rfl) ?_)
 obtain ⟨r1, hv1, h⟩ := bind_some h
 refine .cons (.call .none (desk_CheckRules_ok hv1) (.cons (.const (x := ([] : (List Rule))) (fun M w => ⟨_, ⟨none, 0, rfl, Nat.le_refl _, by decide, rfl⟩, rfl⟩)) .nil)) rfl ?_
 refine .cons (.eqI .none (.s rfl) (.int (by decide))) rfl ?_
 refine .cons (.move .none (.s rfl)) rfl ?_
 refine .cons (.buildF (y := (⟨Str.nil, Str.nil, Str.nil⟩ : Rule)) (.at rfl rfl) bu39 zc39 rfl .nil .nil) rfl ?_
 refine .cons (.buildSlice (xs := [_]) (.at rfl rfl) sl22 ty39 hz39 (.cons (.tmp rfl id) .nil) rfl (by decide)) rfl ?_
 obtain ⟨r2, hv2, h⟩ := bind_some h
 refine .cons (.callIf (.at rfl rfl) fnok7 (fun hg => desk_CheckRules_ok ((fun hg => gd_some hv2 (hg.2)) hg)) (.cons (.tmp rfl id) .nil) (fun h => h)) rfl ?_
 refine .cons (.eqI (.at rfl rfl) (.tmp rfl id) (.int (by decide))) rfl ?_
 refine .cons (.pickAnd .none (.s rfl) (.tmp rfl id)) rfl ?_
 refine .cons (.assign .none (.s rfl)) rfl ?_
 refine .nil (.then ?_)
 refine .ret ?_
 obtain rfl := some_eq h
 exact Ends.ret1 (.inl rfl) Tryd.results6 (ResOK.tmp rfl trivial Imp.refl)

theorem law_styleOf_1_ok {a1 : Attr} {c0_1 : Rule} {r : Bool}  (h : law_styleOf_1 a1 c0_1 = some r) : FSpec Tryd.prog 22 [rep a1, ref c0_1] (rep r) := by
 unfold law_styleOf_1 at h
 refine FSpec.intro (n := 9) fnok22 Tryd.func22 rfl Tryd.ntmps22 rfl (fun F => ?_)
 refine .seq (.region [] mixed (by kernel_rfl) ?_)
 refine .cons (.box .none (.s rfl)) rfl ?_
 refine .cons (.assign .none .bool) rfl ?_
 refine .nil (.then ?_)
 refine .seq (.region [] mixed (by kernel_rfl) ?_)
 refine .cons (.fieldAddr .none fd31_0 hfd31_0 (.s rfl)) rfl ?_
 refine .cons (.load .none ty9 (.s rfl)) rfl ?_
 refine .cons (.fieldAddr .none fd39_1 hfd39_1 (.s rfl)) rfl ?_
 refine .cons (.load .none ty9 (.s rfl)) rfl ?_
 refine .cons (.eqS .none (eqAt_str Tryd.underlying9) (.s rfl) (.s rfl)) rfl ?_
 refine .cons (.assign .none (.s rfl)) rfl ?_
 refine .nil (.then ?_)
 refine .ret ?_
 obtain rfl := some_eq h
 exact Ends.ret1 (.inl rfl) Tryd.results22 (ResOK.tmp rfl trivial Imp.refl)

theorem slices_IndexFunc_Attr_ok {s1 : (List Attr)} {f1 : (Attr → Option Bool)} {r : Int}  (h : slices_IndexFunc_Attr s1 f1 = some r) : FSpec Tryd.prog 29 [rep s1, fn1 Tryd.prog (rep (α := Bool)) f1] (rep r) := by
 unfold slices_IndexFunc_Attr at h
 refine FSpec.intro (n := 19) fnok29 Tryd.func29 rfl Tryd.ntmps29 rfl (fun F => ?_)
 refine .seq (.region [] mixed (by kernel_rfl) ?_)
 refine .cons (.assign .none (.int (by decide))) rfl ?_
 refine .nil (.then ?_)
 refine .seq ?_
 refine .seq (.region [] mixed (by kernel_rfl) ?_)
 refine .cons (.move .none (.s rfl)) rfl ?_
 refine .cons (.len .none sl25 (.s rfl)) rfl ?_
 refine .cons (.move .none (.int (by decide))) rfl ?_
 refine .nil (.then ?_)
 obtain ⟨o_1, h, hK1⟩ := bindR_some h
 refine .thenJ (ι := Unit) (fun j_1 => []) (fun j_1 => []) (fun s => o_1 = Res.nx s) Sub.nil SubB.nil ?_ (fun j_1 hj1 => ?_)
 ·
  skip
  refine .block ?_
  refine .rforEL h (fun p2_ => [(8, ⟨True, rep p2_.1⟩)]) (fun p2_ => []) (.k 8 rfl .nil) SubB.nil (.k 0 rfl (.k 1 rfl (.k 7 rfl .nil))) SubB.nil (fun p2_ o_2 h hD2 => ?_)
  refine .seq (.region [] mixed (by kernel_rfl) ?_)
  refine .cons (.lt .none (.s rfl) (.s rfl)) rfl ?_
  refine .nil (.then ?_)
  refine .seq ?_
  refine .cond (t := 9) rfl trivial (fun hb3 => ?_) (fun hb3 => ?_)
  ·
   replace h := bif_t h hb3
   refine .skip ?_
   refine .then ?_
   refine .seq ?_
   obtain ⟨o_4, h, hK4⟩ := bindD_some h
   unfold slices_IndexFunc_Attr_L1 at h
   refine .thenJ (ι := Unit) (fun j_4 => []) (fun j_4 => []) (fun s => o_4 = Res.nx s) (.k 0 rfl (.k 1 rfl (.k 7 rfl (.k 8 rfl .nil)))) SubB.nil ?_ (fun j_4 hj4 => ?_)
   ·
    skip
    refine .block ?_
    refine .seq (.region [] mixed (by kernel_rfl) ?_)
    refine .cons (.move .none (.s rfl)) rfl ?_
    refine .cons (.assign .none (.s rfl)) rfl ?_
    refine .nil (.then ?_)
    refine .seq (.region [] mixed (by kernel_rfl) ?_)
    refine .cons (.move .none (.s rfl)) rfl ?_
    refine .cons (.move .none (.s rfl)) rfl ?_
    refine .cons (.move .none (.s rfl)) rfl ?_
    obtain ⟨hn5, h⟩ := need_some h
    refine .cons (.indexAddr .none sl25 ty31 (.s rfl) (.s rfl) (fun _ => hn5)) rfl ?_
    refine .cons (.load .none ty31 (.s rfl)) rfl ?_
    obtain ⟨r1, hv6, h⟩ := bind_some h
    refine .cons (.callV (gx s1 p2_.1, r1) .none (.s rfl) (fun _ => hv6) (.cons (.s rfl) .nil)) rfl ?_
    refine .nil (.then ?_)
    refine .cond (t := 16) rfl trivial (fun hb7 => ?_) (fun hb7 => ?_)
    ·
     replace h := bif_t h hb7
     refine .seq (.region [] mixed (by kernel_rfl) ?_)
     refine .cons (.move .none (.s rfl)) rfl ?_
     refine .cons (.assign .none (.s rfl)) rfl ?_
     refine .nil (.then ?_)
     refine .ret ?_
     refine .blkRet ?_
     refine .thenRet ?_
     refine .thenRet ?_
     refine .blkRet ?_
     refine .thenRet ?_
     replace h := resd_ab hK4 (some_eq h)
     replace h := hD2 _ (some_eq h)
     replace h := resb_ab hK1 (some_eq h)
     obtain rfl := some_eq h
     exact Ends.ret1 (.inl rfl) Tryd.results29 (ResOK.tmp rfl trivial Imp.refl)
    ·
     replace h := bif_f h hb7
     refine .skip ?_
     refine .blkNormal ?_
     exact Ends.join _ (some_eq h) (.k 0 rfl (.k 1 rfl (.k 7 rfl (.k 8 rfl .nil)))) SubB.nil
   ·
    have h := resd_nx hK4 hj4
    refine .region [] mixed (by kernel_rfl) ?_
    refine .cons (.addW .none (.s rfl) (.int (by decide))) rfl ?_
    refine .cons (.move .none (.s rfl)) rfl ?_
    refine .nil ?_
    exact Ends.againL (some_eq h) (.k 8 rfl (.k 0 rfl (.k 1 rfl (.k 7 rfl .nil)))) SubB.nil
  ·
   replace h := bif_f h hb3
   refine .exit ?_
   refine .thenExit ?_
   refine .thenExit ?_
   refine .blkExit ?_
   replace h := hD2 _ (some_eq h)
   exact Ends.join _ (some_eq h) Sub.nil SubB.nil
 ·
  have h := resb_nx hK1 hj1
  refine .seq (.region [] mixed (by kernel_rfl) ?_)
  refine .cons (.assign .none (.int (by decide))) rfl ?_
  refine .nil (.then ?_)
  refine .ret ?_
  obtain rfl := some_eq h
  exact Ends.ret1 (.inl rfl) Tryd.results29 (ResOK.tmp rfl trivial Imp.refl)

theorem slices_ContainsFunc_Attr_ok {s1 : (List Attr)} {f1 : (Attr → Option Bool)} {r : Bool}  (h : slices_ContainsFunc_Attr s1 f1 = some r) : FSpec Tryd.prog 21 [rep s1, fn1 Tryd.prog (rep (α := Bool)) f1] (rep r) := by
 unfold slices_ContainsFunc_Attr at h
 refine FSpec.intro (n := 9) fnok21 Tryd.func21 rfl Tryd.ntmps21 rfl (fun F => ?_)
 refine .seq (.region [] mixed (by kernel_rfl) ?_)
 refine .cons (.assign .none .bool) rfl ?_
 refine .nil (.then ?_)
 refine .seq (.region [] mixed (by kernel_rfl) ?_)
 refine .cons (.move .none (.s rfl)) rfl ?_
 refine .cons (.move .none (.s rfl)) rfl ?_
 obtain ⟨r1, hv1, h⟩ := bind_some h
 refine .cons (.call .none (slices_IndexFunc_Attr_ok hv1) (.cons (.s rfl) (.cons (.s rfl) .nil))) rfl ?_
 refine .cons (.ge .none (.s rfl) (.int (by decide))) rfl ?_
 refine .cons (.assign .none (.s rfl)) rfl ?_
 refine .nil (.then ?_)
 refine .ret ?_
 obtain rfl := some_eq h
 exact Ends.ret1 (.inl rfl) Tryd.results21 (ResOK.tmp rfl trivial Imp.refl)


theorem sortO_Attr_1 : Sort.SWO (Proofs.ltOf sortC_Attr_1) := by
 have h : ∀ x y, Proofs.ltOf sortC_Attr_1 x y = decide (cmpB x.1.Field.b y.1.Field.b < 0) := fun x y => rfl
 constructor
 ·
  intro x; rw [h, cmpB_self]; rfl
 ·
  intro x y z h1 h2
  rw [h] at *
  simp only [decide_eq_true_eq] at *
  exact (cmpB_trans (by omega) (by omega)).2 (.inl h1)
 ·
  intro x y z h1 h2
  rw [h] at *
  simp only [decide_eq_false_iff_not, Int.not_lt] at *
  have e1 := cmpB_swap x.1.Field.b y.1.Field.b
  have e2 := cmpB_swap y.1.Field.b z.1.Field.b
  have e3 := cmpB_swap x.1.Field.b z.1.Field.b
  have := (cmpB_trans (a := z.1.Field.b) (b := y.1.Field.b) (c := x.1.Field.b) (by omega) (by omega)).1
  omega

theorem sortX_Attr_1 (x y : { x : Attr // sortQ_Attr_1 x }) (w0 : World) : Calls Tryd.prog 23 #[.agg (Enc.enc x.1).toArray, .agg (Enc.enc y.1).toArray] w0 fun e w' => e = .returned (.int .i64 (sortC_Attr_1 x y)) ∧ ∃ q os', w' = Go.Sort.grow (w0.drewN q) os' := by
 obtain ⟨⟨a1, a2⟩, hx⟩ := x
 obtain ⟨⟨b1, b2⟩, hy⟩ := y
 show Calls Tryd.prog 23 #[.agg #[.string ⟨a1.b.toArray⟩, .string ⟨a2.b.toArray⟩], .agg #[.string ⟨b1.b.toArray⟩, .string ⟨b2.b.toArray⟩]] w0 fun e w' => e = .returned (.int .i64 (cmpB a1.b b1.b)) ∧ ∃ q os', w' = Go.Sort.grow (w0.drewN q) os'
 clear hx hy
 skip
 go_enter Tryd.func23, Tryd.ntmps23
 go_wp2_with (go_at_call 24; refine (cmpS_ok _ _ _).mono ?_; rintro e w' ⟨rfl, rfl⟩)
 go_ret
 exact ⟨by simp, 0, _, by rw [Go.Sort.alloc_eq_grow, Go.Sort.alloc_eq_grow, Go.Sort.grow_grow]; rfl⟩

theorem slices_SortFunc_Attr_1_ok {l r : List Attr} {s : Value} (h : slices_SortFunc_Attr_1 l = some r) : FSpecO Tryd.prog 16 [isV s, cloV 23 []] [(s, rowV 31 l)] (anyV) [some (rowV 31 r)] := by
 obtain ⟨hl, h⟩ := need_some h
 obtain rfl := some_eq h
 exact sortF_spec sortF31_lay rfl rfl fnok16 fnok23 Tryd.underlying31 ty31 sortO_Attr_1 sortX_Attr_1 hl.1 hl.2

theorem law_styleOf_ok {l1 : (List Rule)} {class1 : Str} {r : (List Attr)}  (h : law_styleOf l1 class1 = some r) : FSpec Tryd.prog 13 [rep l1, rep class1] (rep r) := by
 unfold law_styleOf at h
 refine FSpec.intro (n := 84) fnok13 Tryd.func13 rfl Tryd.ntmps13 rfl (fun F => ?_)
 refine .seq (.region [] mixed (by kernel_rfl) ?_)
 refine .cons (.assign .none (.const (x := ([] : (List Attr))) (fun M w => ⟨_, ⟨none, 0, rfl, Nat.le_refl _, by decide, rfl⟩, rfl⟩))) rfl ?_
 refine .nil (.then ?_)
 refine .seq (.region [([], [5])] mixed (by kernel_rfl) ?_)
 refine .consW (.nilRow (T := 31) (α := Attr) rfl) rfl rfl ?_
 refine .nil (.then ?_)
 refine .nameRow (t := 5) (g := 5001) rfl rfl rfl (fun s5001 => ?_)
 refine .seq ?_
 refine .seq (.region [] mixed (by kernel_rfl) ?_)
 refine .cons (.move .none (.s rfl)) rfl ?_
 refine .cons (.len .none sl22 (.s rfl)) rfl ?_
 refine .cons (.move .none (.int (by decide))) rfl ?_
 refine .nil (.then ?_)
 obtain ⟨j_1, h, hK1⟩ := bind_some h
 refine .thenJ (ι := (List Attr)) (fun j_1 => []) (fun j_1 => [(5, some (rowV 31 j_1))]) (fun s => j_1 = s) Sub.nil SubB.nil ?_ (fun j_1' hj1 => ?_)
 ·
  skip
  refine .block ?_
  refine .anon (t := 5) (g := 5001) rfl rfl trivial rfl ?_
  refine .rforL h (fun p2_ => [(15, ⟨True, rep p2_.1⟩)]) (fun p2_ => [(5, some (rowV 31 p2_.2))]) (.k 15 rfl .nil) (.k 5 rfl .nil) (.k 0 rfl (.k 1 rfl (.k 13 rfl (.k 14 rfl .nil)))) SubB.nil (fun p2_ o_2 h hD2 => ?_)
  refine .nameRow (t := 5) (g := 5002) rfl rfl rfl (fun s5002 => ?_)
  refine .seq (.region [] mixed (by kernel_rfl) ?_)
  refine .cons (.lt .none (.s rfl) (.s rfl)) rfl ?_
  refine .nil (.then ?_)
  refine .seq ?_
  refine .cond (t := 16) rfl trivial (fun hb3 => ?_) (fun hb3 => ?_)
  ·
   replace h := bif_t h hb3
   refine .skip ?_
   refine .then ?_
   refine .seq ?_
   obtain ⟨j_4, h, hK4⟩ := bind_some h
   unfold law_styleOf_L1 at h
   refine .thenJ (ι := (List Attr)) (fun j_4 => []) (fun j_4 => [(5, some (rowV 31 j_4))]) (fun s => j_4 = s) (.k 0 rfl (.k 1 rfl (.k 13 rfl (.k 14 rfl (.k 15 rfl .nil))))) SubB.nil ?_ (fun j_4' hj4 => ?_)
   ·
    skip
    refine .block ?_
    refine .seq (.region [([], []), ([], []), ([], [7]), ([7], [7])] mixed (by kernel_rfl) ?_)
    obtain ⟨hn5, h⟩ := need_some h
    refine .consA (.indexAddr .none sl22 ty39 (.s rfl) (.s rfl) (fun _ => hn5)) rfl ?_
    obtain ⟨v1, hv6, h⟩ := bnd_some h
    refine .consA (.re hv6 (.load .none ty39 (.s rfl))) rfl ?_
    refine .consW (.alloc zo39 rfl) rfl rfl ?_
    refine .consN (.store ty39 rfl rfl (.s rfl)) rfl ?_
    refine .nil (.then ?_)
    refine .freeze (t := 7) rfl rfl (.k 5002 rfl .nil) rfl ?_
    refine .seq ?_
    refine .seq (.region [([], []), ([], []), ([], []), ([], []), ([], []), ([], []), ([], []), ([], []), ([], []), ([], []), ([], []), ([], []), ([5002], []), ([], [])] mixed (by kernel_rfl) ?_)
    refine .consA (.fieldAddr .none fd39_0 hfd39_0 (.s rfl)) rfl ?_
    refine .consA (.load .none ty9 (.s rfl)) rfl ?_
    refine .consA (.neS .none (eqAt_str Tryd.underlying9) (.s rfl) (.str (l := []) (by decide))) rfl ?_
    refine .consA (.move .none (.s rfl)) rfl ?_
    refine .consA (.fieldAddr (.at rfl rfl) fd39_0 hfd39_0 (.s rfl)) rfl ?_
    refine .consA (.load (.at rfl rfl) ty9 (.tmp rfl id)) rfl ?_
    refine .consA (.move (.at rfl rfl) (.s rfl)) rfl ?_
    refine .consA (.neS (.at rfl rfl) (eqAt_str Tryd.underlying9) (.tmp rfl id) (.tmp rfl id)) rfl ?_
    refine .consA (.pickAnd .none (.s rfl) (.tmp rfl id)) rfl ?_
    refine .consA (.move .none (.s rfl)) rfl ?_
    refine .consA (.move (.at rfl rfl) (.s rfl)) rfl ?_
    refine .consA (.makeFunc (ι := Attr × Bool) (pre := fun i => (fun x0 => law_styleOf_1 x0 v1) i.1 = some i.2) (Ss := fun i => [rep i.1]) (S := fun i => rep i.2) (.at rfl rfl) fnok22 (fun i h => law_styleOf_1_ok h) (.cons (.s rfl) .nil)) rfl ?_
    obtain ⟨r1, hv7, h⟩ := bind_some h
    refine .consA (.callC (.at rfl rfl) fnok21 (fun hg => slices_ContainsFunc_Attr_ok ((fun hg => gd_some hv7 ((notT hg.2))) hg)) .rep (.lendG (k := 5002) (.tmp rfl id) rfl (.cons (.tmp rfl id) .nil))) rfl ?_
    refine .consA (.pickOr .none (.s rfl) (.tmp rfl id)) rfl ?_
    refine .nil (.then ?_)
    refine .cond (t := 32) rfl trivial (fun hb8 => ?_) (fun hb8 => ?_)
    ·
     replace h := bif_t h hb8
     refine .exit ?_
     refine .thenExit ?_
     refine .blkExit ?_
     refine .anon (t := 5) (g := 5002) rfl rfl trivial rfl ?_
     exact Ends.join _ (some_eq h) (.k 0 rfl (.k 1 rfl (.k 13 rfl (.k 14 rfl (.k 15 rfl .nil))))) (.k 5 rfl .nil)
    ·
     replace h := bif_f h hb8
     refine .skip ?_
     refine .then ?_
     refine .seq (.region [([], []), ([], []), ([], []), ([], [8]), ([8], [8])] mixed (by kernel_rfl) ?_)
     refine .consA (.fieldAddr .none fd39_1 hfd39_1 (.s rfl)) rfl ?_
     refine .consA (.load .none ty9 (.s rfl)) rfl ?_
     obtain ⟨v2, hv9, h⟩ := bnd_some h
     refine .consA (.re hv9 (.buildF (y := (⟨v1.Prop_, Str.nil⟩ : Attr)) .none bu31 zc31 rfl (.cons (.s rfl) .nil) (.cons rfl sf31_0 .nil))) rfl ?_
     refine .consW (.alloc zo31 rfl) rfl rfl ?_
     refine .consN (.store ty31 rfl rfl (.s rfl)) rfl ?_
     refine .nil (.then ?_)
     refine .nameBox (t := 8) (g := 5003) rfl rfl (fun m5003 => ?_)
     refine .seq ?_
     refine .seq (.region [] mixed (by kernel_rfl) ?_)
     obtain ⟨v3, hv10, h⟩ := bnd_some h
     refine .cons (.re hv10 (.buildSlice (xs := [_, _]) .none sl50 ty4 hz4 (.cons .bool (.cons .bool .nil)) rfl (by decide))) rfl ?_
     refine .cons (.len .none sl50 (.s rfl)) rfl ?_
     refine .cons (.move .none (.int (by decide))) rfl ?_
     refine .nil (.then ?_)
     obtain ⟨j_11, h, hK11⟩ := bind_some h
     refine .thenJ (ι := Attr) (fun j_11 => []) (fun j_11 => [(5003, some (boxAt m5003 31 j_11))]) (fun s => j_11 = s) (.k 0 rfl (.k 1 rfl (.k 5 rfl (.k 8 rfl (.k 13 rfl (.k 14 rfl (.k 15 rfl .nil))))))) (.k 5002 rfl .nil) ?_ (fun j_11' hj11 => ?_)
     ·
      skip
      refine .block ?_
      refine .rforL h (fun p12_ => [(38, ⟨True, rep p12_.1⟩)]) (fun p12_ => [(5003, some (boxAt m5003 31 p12_.2))]) (.k 38 rfl .nil) (.k 5003 rfl .nil) (.k 0 rfl (.k 1 rfl (.k 5 rfl (.k 7 rfl (.k 8 rfl (.k 13 rfl (.k 14 rfl (.k 15 rfl (.k 36 rfl (.k 37 rfl .nil)))))))))) (.k 5002 rfl .nil) (fun p12_ o_12 h hD12 => ?_)
      refine .seq (.region [] mixed (by kernel_rfl) ?_)
      refine .cons (.lt .none (.s rfl) (.s rfl)) rfl ?_
      refine .nil (.then ?_)
      refine .seq ?_
      refine .cond (t := 39) rfl trivial (fun hb13 => ?_) (fun hb13 => ?_)
      ·
       replace h := bif_t h hb13
       refine .skip ?_
       refine .then ?_
       refine .seq ?_
       obtain ⟨j_14, h, hK14⟩ := bind_some h
       unfold law_styleOf_L2 at h
       refine .thenJ (ι := Attr) (fun j_14 => []) (fun j_14 => [(5003, some (boxAt m5003 31 j_14))]) (fun s => j_14 = s) (.k 0 rfl (.k 1 rfl (.k 5 rfl (.k 7 rfl (.k 8 rfl (.k 13 rfl (.k 14 rfl (.k 15 rfl (.k 36 rfl (.k 37 rfl (.k 38 rfl .nil))))))))))) (.k 5002 rfl .nil) ?_ (fun j_14' hj14 => ?_)
       ·
        skip
        refine .block ?_
        refine .seq (.region [] mixed (by kernel_rfl) ?_)
        obtain ⟨hn15, h⟩ := need_some h
        refine .cons (.indexAddr .none sl50 ty4 (.s rfl) (.s rfl) (fun _ => hn15)) rfl ?_
        refine .cons (.load .none ty4 (.s rfl)) rfl ?_
        obtain ⟨own1, hv16, h⟩ := bnd_some h
        refine .cons (.re hv16 (.assign .none (.s rfl))) rfl ?_
        refine .nil (.then ?_)
        refine .seq (.region [] mixed (by kernel_rfl) ?_)
        refine .cons (.move .none (.s rfl)) rfl ?_
        refine .cons (.len .none sl22 (.s rfl)) rfl ?_
        refine .cons (.move .none (.int (by decide))) rfl ?_
        refine .nil (.then ?_)
        refine .block ?_
        refine .rforL h (fun p17_ => [(44, ⟨True, rep p17_.1⟩)]) (fun p17_ => [(5003, some (boxAt m5003 31 p17_.2))]) (.k 44 rfl .nil) (.k 5003 rfl .nil) (.k 0 rfl (.k 1 rfl (.k 5 rfl (.k 7 rfl (.k 8 rfl (.k 10 rfl (.k 13 rfl (.k 14 rfl (.k 15 rfl (.k 36 rfl (.k 37 rfl (.k 38 rfl (.k 42 rfl (.k 43 rfl .nil)))))))))))))) (.k 5002 rfl .nil) (fun p17_ o_17 h hD17 => ?_)
        refine .seq (.region [] mixed (by kernel_rfl) ?_)
        refine .cons (.lt .none (.s rfl) (.s rfl)) rfl ?_
        refine .nil (.then ?_)
        refine .seq ?_
        refine .cond (t := 45) rfl trivial (fun hb18 => ?_) (fun hb18 => ?_)
        ·
         replace h := bif_t h hb18
         refine .skip ?_
         refine .then ?_
         refine .seq ?_
         obtain ⟨j_19, h, hK19⟩ := bind_some h
         unfold law_styleOf_L3 at h
         refine .thenJ (ι := Attr) (fun j_19 => []) (fun j_19 => [(5003, some (boxAt m5003 31 j_19))]) (fun s => j_19 = s) (.k 0 rfl (.k 1 rfl (.k 5 rfl (.k 7 rfl (.k 8 rfl (.k 10 rfl (.k 13 rfl (.k 14 rfl (.k 15 rfl (.k 36 rfl (.k 37 rfl (.k 38 rfl (.k 42 rfl (.k 43 rfl (.k 44 rfl .nil))))))))))))))) (.k 5002 rfl .nil) ?_ (fun j_19' hj19 => ?_)
         ·
          skip
          refine .block ?_
          refine .seq (.region [([], []), ([], []), ([], [12]), ([12], [12])] mixed (by kernel_rfl) ?_)
          obtain ⟨hn20, h⟩ := need_some h
          refine .consA (.indexAddr .none sl22 ty39 (.s rfl) (.s rfl) (fun _ => hn20)) rfl ?_
          obtain ⟨v4, hv21, h⟩ := bnd_some h
          refine .consA (.re hv21 (.load .none ty39 (.s rfl))) rfl ?_
          refine .consW (.alloc zo39 rfl) rfl rfl ?_
          refine .consN (.store ty39 rfl rfl (.s rfl)) rfl ?_
          refine .nil (.then ?_)
          refine .freeze (t := 12) rfl rfl (.k 5002 rfl (.k 5003 rfl .nil)) rfl ?_
          refine .seq (.region [] mixed (by kernel_rfl) ?_)
          refine .cons (.fieldAddr .none fd39_1 hfd39_1 (.s rfl)) rfl ?_
          refine .cons (.load .none ty9 (.s rfl)) rfl ?_
          refine .cons (.fieldAddr .none fd39_1 hfd39_1 (.s rfl)) rfl ?_
          refine .cons (.load .none ty9 (.s rfl)) rfl ?_
          refine .cons (.eqS .none (eqAt_str Tryd.underlying9) (.s rfl) (.s rfl)) rfl ?_
          refine .cons (.move .none (.s rfl)) rfl ?_
          refine .cons (.move (.at rfl rfl) (.s rfl)) rfl ?_
          refine .cons (.move (.at rfl rfl) (.tmp rfl id)) rfl ?_
          refine .cons (.fieldAddr (.at rfl rfl) fd39_0 hfd39_0 (.s rfl)) rfl ?_
          refine .cons (.load (.at rfl rfl) ty9 (.tmp rfl id)) rfl ?_
          refine .cons (.move (.at rfl rfl) (.s rfl)) rfl ?_
          refine .cons (.eqS (.at rfl rfl) (eqAt_str Tryd.underlying9) (.tmp rfl id) (.tmp rfl id)) rfl ?_
          refine .cons (.pickAnd (.at rfl rfl) (.tmp rfl id) (.tmp rfl id)) rfl ?_
          refine .cons (.move (.at rfl rfl) (.tmp rfl id)) rfl ?_
          refine .cons (.move (.at rfl rfl) (.s rfl)) rfl ?_
          refine .cons (.not (.at rfl rfl) (.tmp rfl id)) rfl ?_
          refine .cons (.move (.at rfl rfl) (.tmp rfl id)) rfl ?_
          refine .cons (.fieldAddr (.at rfl rfl) fd39_0 hfd39_0 (.s rfl)) rfl ?_
          refine .cons (.load (.at rfl rfl) ty9 (.tmp rfl id)) rfl ?_
          refine .cons (.eqS (.at rfl rfl) (eqAt_str Tryd.underlying9) (.tmp rfl id) (.str (l := []) (by decide))) rfl ?_
          refine .cons (.pickAnd (.at rfl rfl) (.tmp rfl id) (.tmp rfl id)) rfl ?_
          refine .cons (.pickOr (.at rfl rfl) (.tmp rfl id) (.tmp rfl id)) rfl ?_
          refine .cons (.pickAnd .none (.s rfl) (.tmp rfl id)) rfl ?_
          refine .nil (.then ?_)
          refine .cond (t := 70) rfl trivial (fun hb22 => ?_) (fun hb22 => ?_)
          ·
           replace h := bif_t h hb22
           refine .region [([], []), ([], []), ([], []), ([5003], [5003])] mixed (by kernel_rfl) ?_
           refine .consA (.fieldAddr .none fd39_2 hfd39_2 (.s rfl)) rfl ?_
           refine .consA (.load .none ty9 (.s rfl)) rfl ?_
           refine .consA (.fieldPtr .none fd31_1 (.s rfl)) rfl ?_
           refine .consN (.storeAt (g := 5003) ty9 rfl (.s rfl) sf31_1 (.s rfl)) rfl ?_
           refine .nil ?_
           refine .blkNormal ?_
           exact Ends.join _ (some_eq h) (.k 0 rfl (.k 1 rfl (.k 5 rfl (.k 7 rfl (.k 8 rfl (.k 10 rfl (.k 13 rfl (.k 14 rfl (.k 15 rfl (.k 36 rfl (.k 37 rfl (.k 38 rfl (.k 42 rfl (.k 43 rfl (.k 44 rfl .nil))))))))))))))) (.k 5003 rfl (.k 5002 rfl .nil))
          ·
           replace h := bif_f h hb22
           refine .skip ?_
           refine .blkNormal ?_
           exact Ends.join _ (some_eq h) (.k 0 rfl (.k 1 rfl (.k 5 rfl (.k 7 rfl (.k 8 rfl (.k 10 rfl (.k 13 rfl (.k 14 rfl (.k 15 rfl (.k 36 rfl (.k 37 rfl (.k 38 rfl (.k 42 rfl (.k 43 rfl (.k 44 rfl .nil))))))))))))))) (.k 5003 rfl (.k 5002 rfl .nil))
         ·
          subst hj19; have h := hK19; clear hK19
          refine .region [] mixed (by kernel_rfl) ?_
          refine .cons (.addW .none (.s rfl) (.int (by decide))) rfl ?_
          refine .cons (.move .none (.s rfl)) rfl ?_
          refine .nil ?_
          exact Ends.againL (some_eq h) (.k 44 rfl (.k 0 rfl (.k 1 rfl (.k 5 rfl (.k 7 rfl (.k 8 rfl (.k 10 rfl (.k 13 rfl (.k 14 rfl (.k 15 rfl (.k 36 rfl (.k 37 rfl (.k 38 rfl (.k 42 rfl (.k 43 rfl .nil))))))))))))))) (.k 5003 rfl (.k 5002 rfl .nil))
        ·
         replace h := bif_f h hb18
         refine .exit ?_
         refine .thenExit ?_
         refine .thenExit ?_
         refine .blkExit ?_
         refine .blkNormal ?_
         replace h := hD17 _ (some_eq h)
         exact Ends.join _ (some_eq h) (.k 0 rfl (.k 1 rfl (.k 5 rfl (.k 7 rfl (.k 8 rfl (.k 13 rfl (.k 14 rfl (.k 15 rfl (.k 36 rfl (.k 37 rfl (.k 38 rfl .nil))))))))))) (.k 5003 rfl (.k 5002 rfl .nil))
       ·
        subst hj14; have h := hK14; clear hK14
        refine .region [] mixed (by kernel_rfl) ?_
        refine .cons (.addW .none (.s rfl) (.int (by decide))) rfl ?_
        refine .cons (.move .none (.s rfl)) rfl ?_
        refine .nil ?_
        exact Ends.againL (some_eq h) (.k 38 rfl (.k 0 rfl (.k 1 rfl (.k 5 rfl (.k 7 rfl (.k 8 rfl (.k 13 rfl (.k 14 rfl (.k 15 rfl (.k 36 rfl (.k 37 rfl .nil))))))))))) (.k 5003 rfl (.k 5002 rfl .nil))
      ·
       replace h := bif_f h hb13
       refine .exit ?_
       refine .thenExit ?_
       refine .thenExit ?_
       refine .blkExit ?_
       replace h := hD12 _ (some_eq h)
       exact Ends.join _ (some_eq h) (.k 0 rfl (.k 1 rfl (.k 5 rfl (.k 8 rfl (.k 13 rfl (.k 14 rfl (.k 15 rfl .nil))))))) (.k 5003 rfl (.k 5002 rfl .nil))
     ·
      subst hj11; have h := hK11; clear hK11
      refine .freezeBox (g := 5003) (ts := [8]) rfl (.cons (t := 8) rfl trivial .nil) (.k 5002 rfl .nil) rfl ?_
      refine .region [([], []), ([], []), ([], []), ([5002], [79, 5002]), ([79], [5, 79])] mixed (by kernel_rfl) ?_
      refine .consA (.move .none (.s rfl)) rfl ?_
      refine .consA (.load .none ty31 (.s rfl)) rfl ?_
      refine .consA (.buildSlice (xs := [_]) .none sl25 ty31 hz31 (.cons (.s rfl) .nil) rfl (by decide)) rfl ?_
      obtain ⟨hn23, h⟩ := need_some h
      refine .consW (.append (k := 5002) rk25 rfl (.told (.s rfl) rfl) (.s rfl) hn23) rfl rfl ?_
      refine .consW (.passRow rfl (.tmp rfl)) rfl rfl ?_
      refine .nil ?_
      refine .blkNormal ?_
      exact Ends.join _ (some_eq h) (.k 0 rfl (.k 1 rfl (.k 13 rfl (.k 14 rfl (.k 15 rfl .nil))))) (.k 5 rfl .nil)
   ·
    subst hj4; have h := hK4; clear hK4
    refine .nameRow (t := 5) (g := 5004) rfl rfl rfl (fun s5004 => ?_)
    refine .region [] mixed (by kernel_rfl) ?_
    refine .cons (.addW .none (.s rfl) (.int (by decide))) rfl ?_
    refine .cons (.move .none (.s rfl)) rfl ?_
    refine .nil ?_
    refine .anon (t := 5) (g := 5004) rfl rfl trivial rfl ?_
    exact Ends.againL (some_eq h) (.k 15 rfl (.k 0 rfl (.k 1 rfl (.k 13 rfl (.k 14 rfl .nil))))) (.k 5 rfl .nil)
  ·
   replace h := bif_f h hb3
   refine .exit ?_
   refine .thenExit ?_
   refine .thenExit ?_
   refine .blkExit ?_
   refine .anon (t := 5) (g := 5002) rfl rfl trivial rfl ?_
   replace h := hD2 _ (some_eq h)
   exact Ends.join _ (some_eq h) Sub.nil (.k 5 rfl .nil)
 ·
  subst hj1; have h := hK1; clear hK1
  refine .nameRow (t := 5) (g := 5005) rfl rfl rfl (fun s5005 => ?_)
  refine .seq (.region [([], []), ([5005], [5005])] mixed (by kernel_rfl) ?_)
  refine .consA (.move .none (.s rfl)) rfl ?_
  obtain ⟨r2, hv24, h⟩ := bind_some h
  refine .consW (.callO [5005] (slices_SortFunc_Attr_1_ok hv24) (.cons (.s rfl) (.cons .funcC .nil)) (.cons (k := 5005) rfl .nil) rfl (by decide) (by decide) (by intro d h; cases h; decide)) rfl rfl ?_
  refine .nil (.then ?_)
  refine .freezeRow (g := 5005) (ts := [5]) rfl (.cons (t := 5) rfl trivial .nil) SubB.nil rfl ?_
  refine .seq (.region [] mixed (by kernel_rfl) ?_)
  refine .cons (.move .none (.s rfl)) rfl ?_
  refine .cons (.assign .none (.s rfl)) rfl ?_
  refine .nil (.then ?_)
  refine .ret ?_
  obtain rfl := some_eq h
  exact Ends.ret1 (.inl rfl) Tryd.results13 (ResOK.tmp rfl trivial Imp.refl)

theorem law_StylesMatch_1_ok {c0_1 : (List Rule)} {c1_1 : Str} {r : (List Attr)}  (h : law_StylesMatch_1 c0_1 c1_1 = some r) : FSpec Tryd.prog 12 [ref c0_1, ref c1_1] (rep r) := by
 unfold law_StylesMatch_1 at h
 refine FSpec.intro (n := 6) fnok12 Tryd.func12 rfl Tryd.ntmps12 rfl (fun F => ?_)
 refine .seq (.region [] mixed (by kernel_rfl) ?_)
 refine .cons (.assign .none (.const (x := ([] : (List Attr))) (fun M w => ⟨_, ⟨none, 0, rfl, Nat.le_refl _, by decide, rfl⟩, rfl⟩))) rfl ?_
 refine .nil (.then ?_)
 refine .seq (.region [] mixed (by kernel_rfl) ?_)
 refine .cons (.load .none ty22 (.s rfl)) rfl ?_
 refine .cons (.load .none ty9 (.s rfl)) rfl ?_
 obtain ⟨r1, hv1, h⟩ := bind_some h
 refine .cons (.call .none (law_styleOf_ok hv1) (.cons (.s rfl) (.cons (.s rfl) .nil))) rfl ?_
 refine .cons (.assign .none (.s rfl)) rfl ?_
 refine .nil (.then ?_)
 refine .ret ?_
 obtain rfl := some_eq h
 exact Ends.ret1 (.inl rfl) Tryd.results12 (ResOK.tmp rfl trivial Imp.refl)

theorem slices_Equal_Attr_ok {s1_1 : (List Attr)} {s2_1 : (List Attr)} {r : Bool}  (h : slices_Equal_Attr s1_1 s2_1 = some r) : FSpec Tryd.prog 20 [rep s1_1, rep s2_1] (rep r) := by
 unfold slices_Equal_Attr at h
 refine FSpec.intro (n := 26) fnok20 Tryd.func20 rfl Tryd.ntmps20 rfl (fun F => ?_)
 refine .seq (.region [] mixed (by kernel_rfl) ?_)
 refine .cons (.assign .none .bool) rfl ?_
 refine .nil (.then ?_)
 refine .seq ?_
 refine .seq (.region [] mixed (by kernel_rfl) ?_)
 refine .cons (.move .none (.s rfl)) rfl ?_
 refine .cons (.len .none sl25 (.s rfl)) rfl ?_
 refine .cons (.move .none (.s rfl)) rfl ?_
 refine .cons (.len .none sl25 (.s rfl)) rfl ?_
 refine .cons (.neI .none (.s rfl) (.s rfl)) rfl ?_
 refine .nil (.then ?_)
 refine .cond (t := 10) rfl trivial (fun hb1 => ?_) (fun hb1 => ?_)
 ·
  replace h := bif_t h hb1
  refine .seq (.region [] mixed (by kernel_rfl) ?_)
  refine .cons (.assign .none .bool) rfl ?_
  refine .nil (.then ?_)
  refine .ret ?_
  refine .thenRet ?_
  obtain rfl := some_eq h
  exact Ends.ret1 (.inl rfl) Tryd.results20 (ResOK.tmp rfl trivial Imp.refl)
 ·
  replace h := bif_f h hb1
  refine .skip ?_
  refine .then ?_
  refine .seq ?_
  refine .seq (.region [] mixed (by kernel_rfl) ?_)
  refine .cons (.move .none (.s rfl)) rfl ?_
  refine .cons (.len .none sl25 (.s rfl)) rfl ?_
  refine .cons (.move .none (.int (by decide))) rfl ?_
  refine .nil (.then ?_)
  obtain ⟨o_2, h, hK2⟩ := bindR_some h
  refine .thenJ (ι := Unit) (fun j_2 => []) (fun j_2 => []) (fun s => o_2 = Res.nx s) Sub.nil SubB.nil ?_ (fun j_2 hj2 => ?_)
  ·
   skip
   refine .block ?_
   refine .rforEL h (fun p3_ => [(13, ⟨True, rep p3_.1⟩)]) (fun p3_ => []) (.k 13 rfl .nil) SubB.nil (.k 0 rfl (.k 1 rfl (.k 12 rfl .nil))) SubB.nil (fun p3_ o_3 h hD3 => ?_)
   refine .seq (.region [] mixed (by kernel_rfl) ?_)
   refine .cons (.lt .none (.s rfl) (.s rfl)) rfl ?_
   refine .nil (.then ?_)
   refine .seq ?_
   refine .cond (t := 14) rfl trivial (fun hb4 => ?_) (fun hb4 => ?_)
   ·
    replace h := bif_t h hb4
    refine .skip ?_
    refine .then ?_
    refine .seq ?_
    obtain ⟨o_5, h, hK5⟩ := bindD_some h
    unfold slices_Equal_Attr_L1 at h
    refine .thenJ (ι := Unit) (fun j_5 => []) (fun j_5 => []) (fun s => o_5 = Res.nx s) (.k 0 rfl (.k 1 rfl (.k 12 rfl (.k 13 rfl .nil)))) SubB.nil ?_ (fun j_5 hj5 => ?_)
    ·
     skip
     refine .block ?_
     refine .seq (.region [] mixed (by kernel_rfl) ?_)
     refine .cons (.move .none (.s rfl)) rfl ?_
     refine .cons (.assign .none (.s rfl)) rfl ?_
     refine .nil (.then ?_)
     refine .seq (.region [] mixed (by kernel_rfl) ?_)
     refine .cons (.move .none (.s rfl)) rfl ?_
     refine .cons (.move .none (.s rfl)) rfl ?_
     obtain ⟨hn6, h⟩ := need_some h
     refine .cons (.indexAddr .none sl25 ty31 (.s rfl) (.s rfl) (fun _ => hn6)) rfl ?_
     refine .cons (.load .none ty31 (.s rfl)) rfl ?_
     refine .cons (.move .none (.s rfl)) rfl ?_
     refine .cons (.move .none (.s rfl)) rfl ?_
     obtain ⟨hn7, h⟩ := need_some h
     refine .cons (.indexAddr .none sl25 ty31 (.s rfl) (.s rfl) (fun _ => hn7)) rfl ?_
     refine .cons (.load .none ty31 (.s rfl)) rfl ?_
     refine .cons (.neS .none eqa31 (.s rfl) (.s rfl)) rfl ?_
     refine .nil (.then ?_)
     refine .cond (t := 24) rfl trivial (fun hb8 => ?_) (fun hb8 => ?_)
     ·
      replace h := bif_t h hb8
      refine .seq (.region [] mixed (by kernel_rfl) ?_)
      refine .cons (.assign .none .bool) rfl ?_
      refine .nil (.then ?_)
      refine .ret ?_
      refine .blkRet ?_
      refine .thenRet ?_
      refine .thenRet ?_
      refine .blkRet ?_
      refine .thenRet ?_
      replace h := resd_ab hK5 (some_eq h)
      replace h := hD3 _ (some_eq h)
      replace h := resb_ab hK2 (some_eq h)
      obtain rfl := some_eq h
      exact Ends.ret1 (.inl rfl) Tryd.results20 (ResOK.tmp rfl trivial Imp.refl)
     ·
      replace h := bif_f h hb8
      refine .skip ?_
      refine .blkNormal ?_
      exact Ends.join _ (some_eq h) (.k 0 rfl (.k 1 rfl (.k 12 rfl (.k 13 rfl .nil)))) SubB.nil
    ·
     have h := resd_nx hK5 hj5
     refine .region [] mixed (by kernel_rfl) ?_
     refine .cons (.addW .none (.s rfl) (.int (by decide))) rfl ?_
     refine .cons (.move .none (.s rfl)) rfl ?_
     refine .nil ?_
     exact Ends.againL (some_eq h) (.k 13 rfl (.k 0 rfl (.k 1 rfl (.k 12 rfl .nil)))) SubB.nil
   ·
    replace h := bif_f h hb4
    refine .exit ?_
    refine .thenExit ?_
    refine .thenExit ?_
    refine .blkExit ?_
    replace h := hD3 _ (some_eq h)
    exact Ends.join _ (some_eq h) Sub.nil SubB.nil
  ·
   have h := resb_nx hK2 hj2
   refine .seq (.region [] mixed (by kernel_rfl) ?_)
   refine .cons (.assign .none .bool) rfl ?_
   refine .nil (.then ?_)
   refine .ret ?_
   obtain rfl := some_eq h
   exact Ends.ret1 (.inl rfl) Tryd.results20 (ResOK.tmp rfl trivial Imp.refl)

theorem law_lists_Attr_ok {got1 : (List Attr)} {e1 : Int} {want1 : Int} {right1 : (Option (List Attr))} {r : Bool}  (h : law_lists_Attr got1 e1 want1 right1 = some r) : FSpec Tryd.prog 8 [rep got1, rep e1, rep want1, fn0 Tryd.prog (rep (α := (List Attr))) right1] (rep r) := by
 unfold law_lists_Attr at h
 refine FSpec.intro (n := 27) fnok8 Tryd.func8 rfl Tryd.ntmps8 rfl (fun F => ?_)
 refine .seq (.region [] mixed (by kernel_rfl) ?_)
 refine .cons (.assign .none .bool) rfl ?_
 refine .nil (.then ?_)
 refine .seq ?_
 refine .seq (.region [] mixed (by kernel_rfl) ?_)
 refine .cons (.move .none (.s rfl)) rfl ?_
 refine .cons (.neI .none (.s rfl) (.int (by decide))) rfl ?_
 refine .nil (.then ?_)
 refine .cond (t := 10) rfl trivial (fun hb1 => ?_) (fun hb1 => ?_)
 ·
  replace h := bif_t h hb1
  refine .seq (.region [] mixed (by kernel_rfl) ?_)
  refine .cons (.move .none (.s rfl)) rfl ?_
  refine .cons (.len .none sl25 (.s rfl)) rfl ?_
  refine .cons (.eqI .none (.s rfl) (.int (by decide))) rfl ?_
  refine .cons (.move .none (.s rfl)) rfl ?_
  refine .cons (.move (.at rfl rfl) (.s rfl)) rfl ?_
  refine .cons (.move (.at rfl rfl) (.s rfl)) rfl ?_
  refine .cons (.eqI (.at rfl rfl) (.tmp rfl id) (.tmp rfl id)) rfl ?_
  refine .cons (.pickAnd .none (.s rfl) (.tmp rfl id)) rfl ?_
  refine .cons (.assign .none (.s rfl)) rfl ?_
  refine .nil (.then ?_)
  refine .ret ?_
  refine .thenRet ?_
  obtain rfl := some_eq h
  exact Ends.ret1 (.inl rfl) Tryd.results8 (ResOK.tmp rfl trivial Imp.refl)
 ·
  replace h := bif_f h hb1
  refine .skip ?_
  refine .then ?_
  refine .seq (.region [] mixed (by kernel_rfl) ?_)
  refine .cons (.move .none (.s rfl)) rfl ?_
  refine .cons (.eqI .none (.s rfl) (.int (by decide))) rfl ?_
  refine .cons (.move .none (.s rfl)) rfl ?_
  refine .cons (.move (.at rfl rfl) (.s rfl)) rfl ?_
  refine .cons (.move (.at rfl rfl) (.s rfl)) rfl ?_
  obtain ⟨r1, hv2, h⟩ := bind_some h
  refine .cons (.callV _ (.at rfl rfl) (.tmp rfl id) (fun hg => gd_some hv2 (hg.2)) .nil) rfl ?_
  obtain ⟨r2, hv3, h⟩ := bind_some h
  refine .cons (.callIf (.at rfl rfl) fnok20 (fun hg => slices_Equal_Attr_ok ((fun hg => gd_some hv3 (hg.2)) hg)) (.cons (.tmp rfl id) (.cons (.tmp rfl id) .nil)) (fun h => h)) rfl ?_
  refine .cons (.pickAnd .none (.s rfl) (.tmp rfl id)) rfl ?_
  refine .cons (.assign .none (.s rfl)) rfl ?_
  refine .nil (.then ?_)
  refine .ret ?_
  obtain rfl := some_eq h
  exact Ends.ret1 (.inl rfl) Tryd.results8 (ResOK.tmp rfl trivial Imp.refl)

theorem law_StylesMatch_ok {l1 : (List Rule)} {class1 : Str} {r : Bool}  (h : law_StylesMatch l1 class1 = some r) : FSpec Tryd.prog 3 [rep l1, rep class1] (rep r) := by
 unfold law_StylesMatch at h
 refine FSpec.intro (n := 40) fnok3 Tryd.func3 rfl Tryd.ntmps3 rfl (fun F => ?_)
 refine .seq (.region [] mixed (by kernel_rfl) ?_)
 refine .cons (.box .none (.s rfl)) rfl ?_
 refine .cons (.box .none (.s rfl)) rfl ?_
 refine .cons (.assign .none .bool) rfl ?_
 refine .nil (.then ?_)
 refine .seq (.region [] mixed (by kernel_rfl) ?_)
 refine .cons (.load .none ty22 (.s rfl)) rfl ?_
 obtain ⟨own1, hv1, h⟩ := bind_some h
 refine .cons (.call .none (law_rulesError_ok hv1) (.cons (.s rfl) .nil)) rfl ?_
 refine .cons (.assign .none (.s rfl)) rfl ?_
 refine .nil (.then ?_)
 refine .seq (.region [] mixed (by kernel_rfl) ?_)
 refine .cons (.load .none ty22 (.s rfl)) rfl ?_
 refine .cons (.load .none ty9 (.s rfl)) rfl ?_
 obtain ⟨r1, hv2, h⟩ := bind_some h
 refine .cons (.call .none (desk_Style_ok hv2) (.cons (.s rfl) (.cons (.s rfl) .nil))) rfl ?_
 refine .cons (.move .none (.s rfl)) rfl ?_
 refine .cons (.extract .none (.s rfl) rfl) rfl ?_
 refine .cons (.extract .none (.s rfl) rfl) rfl ?_
 refine .cons (.assign .none (.s rfl)) rfl ?_
 refine .cons (.assign .none (.s rfl)) rfl ?_
 refine .nil (.then ?_)
 refine .seq (.region [] mixed (by kernel_rfl) ?_)
 obtain ⟨r2, hv3, h⟩ := bind_some h
 refine .cons (.call .none (law_desks_ok hv3) .nil) rfl ?_
 refine .cons (.move .none (.s rfl)) rfl ?_
 refine .cons (.load (.at rfl rfl) ty22 (.s rfl)) rfl ?_
 obtain ⟨r3, hv4, h⟩ := bind_some h
 refine .cons (.callIf (.at rfl rfl) fnok7 (fun hg => desk_CheckRules_ok ((fun hg => gd_some hv4 (hg.2)) hg)) (.cons (.tmp rfl id) .nil) (fun h => h)) rfl ?_
 refine .cons (.move (.at rfl rfl) (.s rfl)) rfl ?_
 refine .cons (.eqI (.at rfl rfl) (.tmp rfl id) (.tmp rfl id)) rfl ?_
 refine .cons (.pickAnd .none (.s rfl) (.tmp rfl id)) rfl ?_
 refine .cons (.move .none (.s rfl)) rfl ?_
 refine .cons (.move (.at rfl rfl) (.s rfl)) rfl ?_
 refine .cons (.move (.at rfl rfl) (.s rfl)) rfl ?_
 refine .cons (.move (.at rfl rfl) (.s rfl)) rfl ?_
 refine .cons (.load (.at rfl rfl) ty9 (.s rfl)) rfl ?_
 refine .cons (.neS (.at rfl rfl) (eqAt_str Tryd.underlying9) (.tmp rfl id) (.str (l := []) (by decide))) rfl ?_
 refine .cons (.move (.at rfl rfl) (.tmp rfl id)) rfl ?_
 refine .cons (.load (.at rfl rfl) ty9 (.s rfl)) rfl ?_
 obtain ⟨r4, hv5, h⟩ := bind_some h
 refine .cons (.callIf (.at rfl rfl) fnok11 (fun hg => ref_NameOf_ok ((fun hg => gd_some hv5 ((andT hg.1.2 hg.2))) hg)) (.cons (.tmp rfl id) .nil) (fun h => h)) rfl ?_
 refine .cons (.not (.at rfl rfl) (.tmp rfl id)) rfl ?_
 refine .cons (.pickAnd (.at rfl rfl) (.tmp rfl id) (.tmp rfl id)) rfl ?_
 obtain ⟨r5, hv6, h⟩ := bind_some h
 refine .cons (.callIf (.at rfl rfl) fnok10 (fun hg => ref_When_ok ((fun hg => gd_some hv6 (hg.2)) hg)) (.cons (.tmp rfl id) (.cons (.int (by decide)) .nil)) (fun h => h)) rfl ?_
 refine .cons (.buildSlice (xs := [_, _]) (.at rfl rfl) sl47 ty23 hz23 (.cons (.tmp rfl id) (.cons (.tmp rfl id) .nil)) rfl (by decide)) rfl ?_
 obtain ⟨r6, hv7, h⟩ := bind_some h
 refine .cons (.callIf (.at rfl rfl) fnok9 (fun hg => ref_First_ok ((fun hg => gd_some hv7 (hg.2)) hg)) (.cons (.tmp rfl id) .nil) (fun h => h)) rfl ?_
 refine .cons (.makeFunc (ι := (List Attr)) (pre := fun i => (law_StylesMatch_1 l1 class1)  = some i) (Ss := fun i => []) (S := fun i => rep i) (.at rfl rfl) fnok12 (fun i h => law_StylesMatch_1_ok h) (.cons (.s rfl) (.cons (.s rfl) .nil))) rfl ?_
 obtain ⟨r7, hv8, h⟩ := bind_some h
 refine .cons (.callIf (.at rfl rfl) fnok8 (fun hg => law_lists_Attr_ok ((fun hg => gd_some hv8 (hg.2)) hg)) (.cons (.tmp rfl id) (.cons (.tmp rfl id) (.cons (.tmp rfl id) (.cons (.tmp rfl id) .nil)))) (fun h => h)) rfl ?_
 refine .cons (.pickAnd .none (.s rfl) (.tmp rfl id)) rfl ?_
 refine .cons (.assign .none (.s rfl)) rfl ?_
 refine .nil (.then ?_)
 refine .ret ?_
 obtain rfl := some_eq h
 exact Ends.ret1 (.inl rfl) Tryd.results3 (ResOK.tmp rfl trivial Imp.refl)


end Go.Proofs.YtgphjfcibeijiaaDoor
