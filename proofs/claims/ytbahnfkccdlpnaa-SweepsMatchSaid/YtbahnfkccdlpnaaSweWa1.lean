/-
  The walks: what a function computes is what its plain function says (printed by a program of one's own).
-/
import Derived.Test.YtbahnfkccdlpnaaSweFa
set_option maxRecDepth 100000
set_option linter.unusedSimpArgs false
set_option linter.unusedVariables false
namespace Go.Proofs.Ytbahnfkccdlpnaa
open Go Go.DB Go.RowKit

theorem layer_checkRow_ok {row1 : (List Int)} {r : Int}  (h : layer_checkRow row1 = some r) : FSpec Try.prog 96 [rep row1] (rep r) := by
 unfold layer_checkRow at h
 refine FSpec.intro (n := 28) fnok96 Try.func96 rfl Try.ntmps96 rfl (fun F => ?_)
 refine .seq (.region [] mixed (by kernel_rfl) ?_)
 refine .cons (.assign .none (.int (by decide))) rfl ?_
 refine .nil (.then ?_)
 refine .seq ?_
 refine .seq (.region [] mixed (by kernel_rfl) ?_)
 refine .cons (.move .none (.s rfl)) rfl ?_
 refine .cons (.len .none sl32 (.s rfl)) rfl ?_
 refine .cons (.gt .none (.s rfl) (.int (by decide))) rfl ?_
 refine .nil (.then ?_)
 refine .cond (t := 8) rfl trivial (fun hb1 => ?_) (fun hb1 => ?_)
 ·
  replace h := bif_t h hb1
  refine .seq (.region [] mixed (by kernel_rfl) ?_)
  refine .cons (.assign .none (.int (by decide))) rfl ?_
  refine .nil (.then ?_)
  refine .ret ?_
  refine .thenRet ?_
  obtain rfl := some_eq h
  exact Ends.ret1 (.inl rfl) Try.results96 (ResOK.tmp rfl trivial Imp.refl)
 ·
  replace h := bif_f h hb1
  refine .skip ?_
  refine .then ?_
  refine .seq (.region [([], [9]), ([9], [3, 9])] mixed (by kernel_rfl) ?_)
  refine .consW (.makeMap (K := Int) (V := Bool) rfl) rfl rfl ?_
  refine .consW (.passRow rfl (.tmp rfl)) rfl rfl ?_
  refine .nil (.then ?_)
  obtain ⟨known1, hv2, h⟩ := bnd_some h
  refine .reB (t := 3) rfl (congrArg mapV hv2) ?_
  refine .nameMap (t := 3) (g := 5001) rfl rfl rfl (fun s5001 => ?_)
  refine .seq ?_
  refine .seq (.region [] mixed (by kernel_rfl) ?_)
  refine .cons (.move .none (.s rfl)) rfl ?_
  refine .cons (.len .none sl32 (.s rfl)) rfl ?_
  refine .cons (.move .none (.int (by decide))) rfl ?_
  refine .nil (.then ?_)
  obtain ⟨o_3, h, hK3⟩ := bindR_some h
  refine .thenJ (ι := (GMap Int Bool)) (fun j_3 => []) (fun j_3 => [(5001, some (CPred.at s5001 (mapV j_3)))]) (fun s => o_3 = Res.nx s) (.k 3 rfl .nil) SubB.nil ?_ (fun j_3 hj3 => ?_)
  ·
   skip
   refine .block ?_
   refine .rforEL h (fun p4_ => [(12, ⟨True, rep p4_.1⟩)]) (fun p4_ => [(5001, some (CPred.at s5001 (mapV p4_.2)))]) (.k 12 rfl .nil) (.k 5001 rfl .nil) (.k 3 rfl (.k 10 rfl (.k 11 rfl .nil))) SubB.nil (fun p4_ o_4 h hD4 => ?_)
   refine .seq (.region [] mixed (by kernel_rfl) ?_)
   refine .cons (.lt .none (.s rfl) (.s rfl)) rfl ?_
   refine .nil (.then ?_)
   refine .seq ?_
   refine .cond (t := 13) rfl trivial (fun hb5 => ?_) (fun hb5 => ?_)
   ·
    replace h := bif_t h hb5
    refine .skip ?_
    refine .then ?_
    refine .seq ?_
    obtain ⟨o_6, h, hK6⟩ := bindD_some h
    unfold layer_checkRow_L1 at h
    refine .thenJ (ι := (GMap Int Bool)) (fun j_6 => []) (fun j_6 => [(5001, some (CPred.at s5001 (mapV j_6)))]) (fun s => o_6 = Res.nx s) (.k 3 rfl (.k 10 rfl (.k 11 rfl (.k 12 rfl .nil)))) SubB.nil ?_ (fun j_6 hj6 => ?_)
    ·
     skip
     refine .block ?_
     refine .seq (.region [] mixed (by kernel_rfl) ?_)
     obtain ⟨hn7, h⟩ := need_some h
     refine .cons (.indexAddr .none sl32 ty3 (.s rfl) (.s rfl) (fun _ => hn7)) rfl ?_
     refine .cons (.load .none ty3 (.s rfl)) rfl ?_
     obtain ⟨k1, hv8, h⟩ := bnd_some h
     refine .cons (.re hv8 (.assign .none (.s rfl))) rfl ?_
     refine .nil (.then ?_)
     refine .seq ?_
     refine .seq (.region [] mixed (by kernel_rfl) ?_)
     refine .cons (.move .none (.s rfl)) rfl ?_
     refine .cons (.lt .none (.s rfl) (.int (by decide))) rfl ?_
     refine .cons (.move .none (.s rfl)) rfl ?_
     refine .cons (.move (.at rfl rfl) (.s rfl)) rfl ?_
     refine .cons (.ge (.at rfl rfl) (.tmp rfl id) (.int (by decide))) rfl ?_
     refine .cons (.pickOr .none (.s rfl) (.tmp rfl id)) rfl ?_
     refine .nil (.then ?_)
     refine .cond (t := 21) rfl trivial (fun hb9 => ?_) (fun hb9 => ?_)
     ·
      replace h := bif_t h hb9
      refine .seq (.region [] mixed (by kernel_rfl) ?_)
      refine .cons (.assign .none (.int (by decide))) rfl ?_
      refine .nil (.then ?_)
      refine .ret ?_
      refine .thenRet ?_
      refine .blkRet ?_
      refine .thenRet ?_
      refine .thenRet ?_
      refine .blkRet ?_
      refine .thenRet ?_
      replace h := resd_ab hK6 (some_eq h)
      replace h := hD4 _ (some_eq h)
      replace h := resb_ab hK3 (some_eq h)
      obtain rfl := some_eq h
      exact Ends.ret1 (.inl rfl) Try.results96 (ResOK.tmp rfl trivial Imp.refl)
     ·
      replace h := bif_f h hb9
      refine .skip ?_
      refine .then ?_
      refine .seq ?_
      refine .seq (.region [([], []), ([], []), ([5001], [])] mixed (by kernel_rfl) ?_)
      refine .consA (.move .none (.s rfl)) rfl ?_
      refine .consA (.move .none (.s rfl)) rfl ?_
      refine .consA (.lookupO (q := 5001) .none mo133 zo4 ownMap_self (.told (.s rfl) rfl) (.s rfl)) rfl ?_
      refine .nil (.then ?_)
      refine .cond (t := 24) rfl trivial (fun hb10 => ?_) (fun hb10 => ?_)
      ·
       replace h := bif_t h hb10
       refine .seq (.region [] mixed (by kernel_rfl) ?_)
       refine .cons (.assign .none (.int (by decide))) rfl ?_
       refine .nil (.then ?_)
       refine .ret ?_
       refine .thenRet ?_
       refine .blkRet ?_
       refine .thenRet ?_
       refine .thenRet ?_
       refine .blkRet ?_
       refine .thenRet ?_
       replace h := resd_ab hK6 (some_eq h)
       replace h := hD4 _ (some_eq h)
       replace h := resb_ab hK3 (some_eq h)
       obtain rfl := some_eq h
       exact Ends.ret1 (.inl rfl) Try.results96 (ResOK.tmp rfl trivial Imp.refl)
      ·
       replace h := bif_f h hb10
       refine .skip ?_
       refine .then ?_
       refine .region [([], []), ([], []), ([5001], [5001])] mixed (by kernel_rfl) ?_
       refine .consA (.move .none (.s rfl)) rfl ?_
       refine .consA (.move .none (.s rfl)) rfl ?_
       refine .consN (.mapUpdate (q := 5001) mo133 (.s rfl) rfl (.s rfl) .bool) rfl ?_
       refine .nil ?_
       refine .blkNormal ?_
       exact Ends.join _ (some_eq h) (.k 3 rfl (.k 10 rfl (.k 11 rfl (.k 12 rfl .nil)))) (.k 5001 rfl .nil)
    ·
     have h := resd_nx hK6 hj6
     refine .region [] mixed (by kernel_rfl) ?_
     refine .cons (.addW .none (.s rfl) (.int (by decide))) rfl ?_
     refine .cons (.move .none (.s rfl)) rfl ?_
     refine .nil ?_
     exact Ends.againL (some_eq h) (.k 12 rfl (.k 3 rfl (.k 10 rfl (.k 11 rfl .nil)))) (.k 5001 rfl .nil)
   ·
    replace h := bif_f h hb5
    refine .exit ?_
    refine .thenExit ?_
    refine .thenExit ?_
    refine .blkExit ?_
    replace h := hD4 _ (some_eq h)
    exact Ends.join _ (some_eq h) (.k 3 rfl .nil) (.k 5001 rfl .nil)
  ·
   have h := resb_nx hK3 hj3
   refine .seq (.region [] mixed (by kernel_rfl) ?_)
   refine .cons (.assign .none (.int (by decide))) rfl ?_
   refine .nil (.then ?_)
   refine .ret ?_
   obtain rfl := some_eq h
   exact Ends.ret1 (.inl rfl) Try.results96 (ResOK.tmp rfl trivial Imp.refl)

theorem layer_checkRows_ok {rows1 : (List (List Int))} {l1 : (List Link)} {r : Int}  (h : layer_checkRows rows1 l1 = some r) : FSpec Try.prog 54 [rep rows1, rep l1] (rep r) := by
 unfold layer_checkRows at h
 refine FSpec.intro (n := 89) fnok54 Try.func54 rfl Try.ntmps54 rfl (fun F => ?_)
 refine .seq (.region [] mixed (by kernel_rfl) ?_)
 refine .cons (.assign .none (.int (by decide))) rfl ?_
 refine .nil (.then ?_)
 refine .seq ?_
 refine .seq (.region [] mixed (by kernel_rfl) ?_)
 refine .cons (.move .none (.s rfl)) rfl ?_
 refine .cons (.len .none sl22 (.s rfl)) rfl ?_
 refine .cons (.gt .none (.s rfl) (.int (by decide))) rfl ?_
 refine .nil (.then ?_)
 refine .cond (t := 21) rfl trivial (fun hb1 => ?_) (fun hb1 => ?_)
 ·
  replace h := bif_t h hb1
  refine .seq (.region [] mixed (by kernel_rfl) ?_)
  refine .cons (.assign .none (.int (by decide))) rfl ?_
  refine .nil (.then ?_)
  refine .ret ?_
  refine .thenRet ?_
  obtain rfl := some_eq h
  exact Ends.ret1 (.inl rfl) Try.results54 (ResOK.tmp rfl trivial Imp.refl)
 ·
  replace h := bif_f h hb1
  refine .skip ?_
  refine .then ?_
  refine .seq (.region [([], [22]), ([22], [5, 22])] mixed (by kernel_rfl) ?_)
  refine .consW (.makeMap (K := Int) (V := Int) rfl) rfl rfl ?_
  refine .consW (.passRow rfl (.tmp rfl)) rfl rfl ?_
  refine .nil (.then ?_)
  obtain ⟨of1, hv2, h⟩ := bnd_some h
  refine .reB (t := 5) rfl (congrArg mapV hv2) ?_
  refine .nameMap (t := 5) (g := 5001) rfl rfl rfl (fun s5001 => ?_)
  refine .seq ?_
  refine .seq (.region [] mixed (by kernel_rfl) ?_)
  refine .cons (.move .none (.s rfl)) rfl ?_
  refine .cons (.len .none sl22 (.s rfl)) rfl ?_
  refine .cons (.move .none (.int (by decide))) rfl ?_
  refine .nil (.then ?_)
  obtain ⟨o_3, h, hK3⟩ := bindR_some h
  refine .thenJ (ι := (GMap Int Int)) (fun j_3 => []) (fun j_3 => [(5001, some (CPred.at s5001 (mapV j_3)))]) (fun s => o_3 = Res.nx s) (.k 1 rfl (.k 5 rfl .nil)) SubB.nil ?_ (fun j_3 hj3 => ?_)
  ·
   skip
   refine .block ?_
   refine .rforEL h (fun p4_ => [(25, ⟨True, rep p4_.1⟩)]) (fun p4_ => [(5001, some (CPred.at s5001 (mapV p4_.2)))]) (.k 25 rfl .nil) (.k 5001 rfl .nil) (.k 1 rfl (.k 5 rfl (.k 23 rfl (.k 24 rfl .nil)))) SubB.nil (fun p4_ o_4 h hD4 => ?_)
   refine .seq (.region [] mixed (by kernel_rfl) ?_)
   refine .cons (.lt .none (.s rfl) (.s rfl)) rfl ?_
   refine .nil (.then ?_)
   refine .seq ?_
   refine .cond (t := 26) rfl trivial (fun hb5 => ?_) (fun hb5 => ?_)
   ·
    replace h := bif_t h hb5
    refine .skip ?_
    refine .then ?_
    refine .seq ?_
    obtain ⟨o_6, h, hK6⟩ := bindD_some h
    unfold layer_checkRows_L1 at h
    refine .thenJ (ι := (GMap Int Int)) (fun j_6 => []) (fun j_6 => [(5001, some (CPred.at s5001 (mapV j_6)))]) (fun s => o_6 = Res.nx s) (.k 1 rfl (.k 5 rfl (.k 23 rfl (.k 24 rfl (.k 25 rfl .nil))))) SubB.nil ?_ (fun j_6 hj6 => ?_)
    ·
     skip
     refine .block ?_
     refine .seq (.region [] mixed (by kernel_rfl) ?_)
     refine .cons (.move .none (.s rfl)) rfl ?_
     obtain ⟨hn7, h⟩ := need_some h
     refine .cons (.indexAddr .none sl22 ty32 (.s rfl) (.s rfl) (fun _ => hn7)) rfl ?_
     refine .cons (.load .none ty32 (.s rfl)) rfl ?_
     refine .cons (.assign .none (.s rfl)) rfl ?_
     obtain ⟨r1, hv8, h⟩ := bnd_some h
     refine .cons (.re hv8 (.assign .none (.s rfl))) rfl ?_
     refine .nil (.then ?_)
     refine .seq ?_
     refine .seq (.region [] mixed (by kernel_rfl) ?_)
     refine .cons (.move .none (.s rfl)) rfl ?_
     obtain ⟨e1, hv9, h⟩ := bind_some h
     refine .cons (.call .none (layer_checkRow_ok hv9) (.cons (.s rfl) .nil)) rfl ?_
     refine .cons (.assign .none (.s rfl)) rfl ?_
     refine .nil (.then ?_)
     refine .seq (.region [] mixed (by kernel_rfl) ?_)
     refine .cons (.move .none (.s rfl)) rfl ?_
     refine .cons (.neI .none (.s rfl) (.int (by decide))) rfl ?_
     refine .nil (.then ?_)
     refine .cond (t := 33) rfl trivial (fun hb10 => ?_) (fun hb10 => ?_)
     ·
      replace h := bif_t h hb10
      refine .seq (.region [] mixed (by kernel_rfl) ?_)
      refine .cons (.move .none (.s rfl)) rfl ?_
      refine .cons (.assign .none (.s rfl)) rfl ?_
      refine .nil (.then ?_)
      refine .ret ?_
      refine .thenRet ?_
      refine .blkRet ?_
      refine .thenRet ?_
      refine .thenRet ?_
      refine .blkRet ?_
      refine .thenRet ?_
      replace h := resd_ab hK6 (some_eq h)
      replace h := hD4 _ (some_eq h)
      replace h := resb_ab hK3 (some_eq h)
      obtain rfl := some_eq h
      exact Ends.ret1 (.inl rfl) Try.results54 (ResOK.tmp rfl trivial Imp.refl)
     ·
      replace h := bif_f h hb10
      refine .skip ?_
      refine .then ?_
      refine .seq (.region [] mixed (by kernel_rfl) ?_)
      refine .cons (.move .none (.s rfl)) rfl ?_
      refine .cons (.len .none sl32 (.s rfl)) rfl ?_
      refine .cons (.move .none (.int (by decide))) rfl ?_
      refine .nil (.then ?_)
      refine .block ?_
      refine .rforEL h (fun p11_ => [(37, ⟨True, rep p11_.1⟩)]) (fun p11_ => [(5001, some (CPred.at s5001 (mapV p11_.2)))]) (.k 37 rfl .nil) (.k 5001 rfl .nil) (.k 1 rfl (.k 5 rfl (.k 6 rfl (.k 23 rfl (.k 24 rfl (.k 25 rfl (.k 35 rfl (.k 36 rfl .nil)))))))) SubB.nil (fun p11_ o_11 h hD11 => ?_)
      refine .seq (.region [] mixed (by kernel_rfl) ?_)
      refine .cons (.lt .none (.s rfl) (.s rfl)) rfl ?_
      refine .nil (.then ?_)
      refine .seq ?_
      refine .cond (t := 38) rfl trivial (fun hb12 => ?_) (fun hb12 => ?_)
      ·
       replace h := bif_t h hb12
       refine .skip ?_
       refine .then ?_
       refine .seq ?_
       obtain ⟨o_13, h, hK13⟩ := bindD_some h
       unfold layer_checkRows_L2 at h
       refine .thenJ (ι := (GMap Int Int)) (fun j_13 => []) (fun j_13 => [(5001, some (CPred.at s5001 (mapV j_13)))]) (fun s => o_13 = Res.nx s) (.k 1 rfl (.k 5 rfl (.k 6 rfl (.k 23 rfl (.k 24 rfl (.k 25 rfl (.k 35 rfl (.k 36 rfl (.k 37 rfl .nil))))))))) SubB.nil ?_ (fun j_13 hj13 => ?_)
       ·
        skip
        refine .block ?_
        refine .seq (.region [] mixed (by kernel_rfl) ?_)
        obtain ⟨hn14, h⟩ := need_some h
        refine .cons (.indexAddr .none sl32 ty3 (.s rfl) (.s rfl) (fun _ => hn14)) rfl ?_
        refine .cons (.load .none ty3 (.s rfl)) rfl ?_
        obtain ⟨k1, hv15, h⟩ := bnd_some h
        refine .cons (.re hv15 (.assign .none (.s rfl))) rfl ?_
        refine .nil (.then ?_)
        refine .seq ?_
        refine .seq (.region [([], []), ([], []), ([5001], []), ([], []), ([], []), ([], []), ([], []), ([], [])] mixed (by kernel_rfl) ?_)
        refine .consA (.move .none (.s rfl)) rfl ?_
        refine .consA (.move .none (.s rfl)) rfl ?_
        refine .consA (.lookupOkO (q := 5001) .none mo88 zo3 ownMap_self (.told (.s rfl) rfl) (.s rfl)) rfl ?_
        refine .consA (.move .none (.s rfl)) rfl ?_
        refine .consA (.extract .none (.s rfl) rfl) rfl ?_
        refine .consA (.extract .none (.s rfl) rfl) rfl ?_
        refine .consA (.assign .none (.s rfl)) rfl ?_
        refine .consA (.assign .none (.s rfl)) rfl ?_
        refine .nil (.then ?_)
        refine .seq (.region [] mixed (by kernel_rfl) ?_)
        refine .cons (.move .none (.s rfl)) rfl ?_
        refine .nil (.then ?_)
        refine .cond (t := 47) rfl trivial (fun hb16 => ?_) (fun hb16 => ?_)
        ·
         replace h := bif_t h hb16
         refine .seq (.region [] mixed (by kernel_rfl) ?_)
         refine .cons (.assign .none (.int (by decide))) rfl ?_
         refine .nil (.then ?_)
         refine .ret ?_
         refine .thenRet ?_
         refine .blkRet ?_
         refine .thenRet ?_
         refine .thenRet ?_
         refine .blkRet ?_
         refine .blkRet ?_
         refine .thenRet ?_
         refine .thenRet ?_
         refine .blkRet ?_
         refine .thenRet ?_
         replace h := resd_ab hK13 (some_eq h)
         replace h := hD11 _ (some_eq h)
         replace h := resd_ab hK6 (some_eq h)
         replace h := hD4 _ (some_eq h)
         replace h := resb_ab hK3 (some_eq h)
         obtain rfl := some_eq h
         exact Ends.ret1 (.inl rfl) Try.results54 (ResOK.tmp rfl trivial Imp.refl)
        ·
         replace h := bif_f h hb16
         refine .skip ?_
         refine .then ?_
         refine .region [([], []), ([], []), ([], []), ([5001], [5001])] mixed (by kernel_rfl) ?_
         refine .consA (.move .none (.s rfl)) rfl ?_
         refine .consA (.move .none (.s rfl)) rfl ?_
         refine .consA (.move .none (.s rfl)) rfl ?_
         refine .consN (.mapUpdate (q := 5001) mo88 (.s rfl) rfl (.s rfl) (.s rfl)) rfl ?_
         refine .nil ?_
         refine .blkNormal ?_
         exact Ends.join _ (some_eq h) (.k 1 rfl (.k 5 rfl (.k 6 rfl (.k 23 rfl (.k 24 rfl (.k 25 rfl (.k 35 rfl (.k 36 rfl (.k 37 rfl .nil))))))))) (.k 5001 rfl .nil)
       ·
        have h := resd_nx hK13 hj13
        refine .region [] mixed (by kernel_rfl) ?_
        refine .cons (.addW .none (.s rfl) (.int (by decide))) rfl ?_
        refine .cons (.move .none (.s rfl)) rfl ?_
        refine .nil ?_
        exact Ends.againL (some_eq h) (.k 37 rfl (.k 1 rfl (.k 5 rfl (.k 6 rfl (.k 23 rfl (.k 24 rfl (.k 25 rfl (.k 35 rfl (.k 36 rfl .nil))))))))) (.k 5001 rfl .nil)
      ·
       replace h := bif_f h hb12
       refine .exit ?_
       refine .thenExit ?_
       refine .thenExit ?_
       refine .blkExit ?_
       refine .blkNormal ?_
       replace h := hD11 _ (some_eq h)
       exact Ends.join _ (some_eq h) (.k 1 rfl (.k 5 rfl (.k 23 rfl (.k 24 rfl (.k 25 rfl .nil))))) (.k 5001 rfl .nil)
    ·
     have h := resd_nx hK6 hj6
     refine .region [] mixed (by kernel_rfl) ?_
     refine .cons (.addW .none (.s rfl) (.int (by decide))) rfl ?_
     refine .cons (.move .none (.s rfl)) rfl ?_
     refine .nil ?_
     exact Ends.againL (some_eq h) (.k 25 rfl (.k 1 rfl (.k 5 rfl (.k 23 rfl (.k 24 rfl .nil))))) (.k 5001 rfl .nil)
   ·
    replace h := bif_f h hb5
    refine .exit ?_
    refine .thenExit ?_
    refine .thenExit ?_
    refine .blkExit ?_
    replace h := hD4 _ (some_eq h)
    exact Ends.join _ (some_eq h) (.k 1 rfl (.k 5 rfl .nil)) (.k 5001 rfl .nil)
  ·
   have h := resb_nx hK3 hj3
   refine .freezeAt (g := 5001) (S := rep j_3) (ts := [5]) rfl (.cons (t := 5) rfl trivial .nil) SubB.nil rfl (fun M D w h hms => mapV_rep h hms) ?_
   refine .seq ?_
   refine .seq (.region [] mixed (by kernel_rfl) ?_)
   refine .cons (.move .none (.s rfl)) rfl ?_
   refine .cons (.len .none sl23 (.s rfl)) rfl ?_
   refine .cons (.gt .none (.s rfl) (.int (by decide))) rfl ?_
   refine .nil (.then ?_)
   refine .cond (t := 55) rfl trivial (fun hb17 => ?_) (fun hb17 => ?_)
   ·
    replace h := bif_t h hb17
    refine .seq (.region [] mixed (by kernel_rfl) ?_)
    refine .cons (.assign .none (.int (by decide))) rfl ?_
    refine .nil (.then ?_)
    refine .ret ?_
    refine .thenRet ?_
    obtain rfl := some_eq h
    exact Ends.ret1 (.inl rfl) Try.results54 (ResOK.tmp rfl trivial Imp.refl)
   ·
    replace h := bif_f h hb17
    refine .skip ?_
    refine .then ?_
    refine .seq ?_
    refine .seq (.region [] mixed (by kernel_rfl) ?_)
    refine .cons (.move .none (.s rfl)) rfl ?_
    refine .cons (.len .none sl23 (.s rfl)) rfl ?_
    refine .cons (.move .none (.int (by decide))) rfl ?_
    refine .nil (.then ?_)
    obtain ⟨o_18, h, hK18⟩ := bindR_some h
    refine .thenJ (ι := Unit) (fun j_18 => []) (fun j_18 => []) (fun s => o_18 = Res.nx s) Sub.nil SubB.nil ?_ (fun j_18 hj18 => ?_)
    ·
     skip
     refine .block ?_
     refine .rforEL h (fun p19_ => [(58, ⟨True, rep p19_.1⟩)]) (fun p19_ => []) (.k 58 rfl .nil) SubB.nil (.k 5 rfl (.k 56 rfl (.k 57 rfl .nil))) SubB.nil (fun p19_ o_19 h hD19 => ?_)
     refine .seq (.region [] mixed (by kernel_rfl) ?_)
     refine .cons (.lt .none (.s rfl) (.s rfl)) rfl ?_
     refine .nil (.then ?_)
     refine .seq ?_
     refine .cond (t := 59) rfl trivial (fun hb20 => ?_) (fun hb20 => ?_)
     ·
      replace h := bif_t h hb20
      refine .skip ?_
      refine .then ?_
      refine .seq ?_
      obtain ⟨o_21, h, hK21⟩ := bindD_some h
      unfold layer_checkRows_L3 at h
      refine .thenJ (ι := Unit) (fun j_21 => []) (fun j_21 => []) (fun s => o_21 = Res.nx s) (.k 5 rfl (.k 56 rfl (.k 57 rfl (.k 58 rfl .nil)))) SubB.nil ?_ (fun j_21 hj21 => ?_)
      ·
       skip
       refine .block ?_
       refine .seq (.region [([], []), ([], []), ([], [14]), ([14], [14])] mixed (by kernel_rfl) ?_)
       obtain ⟨hn22, h⟩ := need_some h
       refine .consA (.indexAddr .none sl23 ty79 (.s rfl) (.s rfl) (fun _ => hn22)) rfl ?_
       obtain ⟨v1, hv23, h⟩ := bnd_some h
       refine .consA (.re hv23 (.load .none ty79 (.s rfl))) rfl ?_
       refine .consW (.alloc zo79 rfl) rfl rfl ?_
       refine .consN (.store ty79 rfl rfl (.s rfl)) rfl ?_
       refine .nil (.then ?_)
       refine .freeze (t := 14) rfl rfl SubB.nil rfl ?_
       refine .seq (.region [] mixed (by kernel_rfl) ?_)
       refine .cons (.move .none (.s rfl)) rfl ?_
       refine .cons (.fieldAddr .none fd79_0 hfd79_0 (.s rfl)) rfl ?_
       refine .cons (.load .none ty3 (.s rfl)) rfl ?_
       refine .cons (.lookupOk .none mo88 zo3 (.s rfl) (.s rfl)) rfl ?_
       refine .cons (.move .none (.s rfl)) rfl ?_
       refine .cons (.extract .none (.s rfl) rfl) rfl ?_
       refine .cons (.extract .none (.s rfl) rfl) rfl ?_
       refine .cons (.assign .none (.s rfl)) rfl ?_
       refine .cons (.assign .none (.s rfl)) rfl ?_
       refine .nil (.then ?_)
       refine .seq (.region [] mixed (by kernel_rfl) ?_)
       refine .cons (.move .none (.s rfl)) rfl ?_
       refine .cons (.fieldAddr .none fd79_1 hfd79_1 (.s rfl)) rfl ?_
       refine .cons (.load .none ty3 (.s rfl)) rfl ?_
       refine .cons (.lookupOk .none mo88 zo3 (.s rfl) (.s rfl)) rfl ?_
       refine .cons (.move .none (.s rfl)) rfl ?_
       refine .cons (.extract .none (.s rfl) rfl) rfl ?_
       refine .cons (.extract .none (.s rfl) rfl) rfl ?_
       refine .cons (.assign .none (.s rfl)) rfl ?_
       refine .cons (.assign .none (.s rfl)) rfl ?_
       refine .nil (.then ?_)
       refine .block ?_
       refine .seq (.region [] mixed (by kernel_rfl) ?_)
       refine .cons (.move .none (.s rfl)) rfl ?_
       refine .cons (.not .none (.s rfl)) rfl ?_
       refine .cons (.move .none (.s rfl)) rfl ?_
       refine .cons (.move (.at rfl rfl) (.s rfl)) rfl ?_
       refine .cons (.not (.at rfl rfl) (.tmp rfl id)) rfl ?_
       refine .cons (.pickOr .none (.s rfl) (.tmp rfl id)) rfl ?_
       refine .cons (.assign .none (.s rfl)) rfl ?_
       refine .nil (.then ?_)
       refine .cond (t := 76) rfl trivial (fun hb24 => ?_) (fun hb24 => ?_)
       ·
        replace h := bif_t h hb24
        refine .seq (.region [] mixed (by kernel_rfl) ?_)
        refine .cons (.assign .none (.int (by decide))) rfl ?_
        refine .nil (.then ?_)
        refine .ret ?_
        refine .blkRet ?_
        refine .blkRet ?_
        refine .thenRet ?_
        refine .thenRet ?_
        refine .blkRet ?_
        refine .thenRet ?_
        replace h := resd_ab hK21 (some_eq h)
        replace h := hD19 _ (some_eq h)
        replace h := resb_ab hK18 (some_eq h)
        obtain rfl := some_eq h
        exact Ends.ret1 (.inl rfl) Try.results54 (ResOK.tmp rfl trivial Imp.refl)
       ·
        replace h := bif_f h hb24
        refine .seq (.region [] mixed (by kernel_rfl) ?_)
        refine .cons (.move .none (.s rfl)) rfl ?_
        refine .cons (.move .none (.s rfl)) rfl ?_
        refine .cons (.addW .none (.s rfl) (.int (by decide))) rfl ?_
        refine .cons (.neI .none (.s rfl) (.s rfl)) rfl ?_
        refine .cons (.assign .none (.s rfl)) rfl ?_
        refine .nil (.then ?_)
        refine .cond (t := 83) rfl trivial (fun hb25 => ?_) (fun hb25 => ?_)
        ·
         replace h := bif_t h hb25
         refine .seq (.region [] mixed (by kernel_rfl) ?_)
         refine .cons (.assign .none (.int (by decide))) rfl ?_
         refine .nil (.then ?_)
         refine .ret ?_
         refine .blkRet ?_
         refine .blkRet ?_
         refine .thenRet ?_
         refine .thenRet ?_
         refine .blkRet ?_
         refine .thenRet ?_
         replace h := resd_ab hK21 (some_eq h)
         replace h := hD19 _ (some_eq h)
         replace h := resb_ab hK18 (some_eq h)
         obtain rfl := some_eq h
         exact Ends.ret1 (.inl rfl) Try.results54 (ResOK.tmp rfl trivial Imp.refl)
        ·
         replace h := bif_f h hb25
         refine .skip ?_
         refine .blkNormal ?_
         refine .blkNormal ?_
         exact Ends.join _ (some_eq h) (.k 5 rfl (.k 56 rfl (.k 57 rfl (.k 58 rfl .nil)))) SubB.nil
      ·
       have h := resd_nx hK21 hj21
       refine .region [] mixed (by kernel_rfl) ?_
       refine .cons (.addW .none (.s rfl) (.int (by decide))) rfl ?_
       refine .cons (.move .none (.s rfl)) rfl ?_
       refine .nil ?_
       exact Ends.againL (some_eq h) (.k 58 rfl (.k 5 rfl (.k 56 rfl (.k 57 rfl .nil)))) SubB.nil
     ·
      replace h := bif_f h hb20
      refine .exit ?_
      refine .thenExit ?_
      refine .thenExit ?_
      refine .blkExit ?_
      replace h := hD19 _ (some_eq h)
      exact Ends.join _ (some_eq h) Sub.nil SubB.nil
    ·
     have h := resb_nx hK18 hj18
     refine .seq (.region [] mixed (by kernel_rfl) ?_)
     refine .cons (.assign .none (.int (by decide))) rfl ?_
     refine .nil (.then ?_)
     refine .ret ?_
     obtain rfl := some_eq h
     exact Ends.ret1 (.inl rfl) Try.results54 (ResOK.tmp rfl trivial Imp.refl)

theorem slices_Clone_Lint_ok {s1 : (List (List Int))} {r : (List (List Int))}  (h : slices_Clone_Lint s1 = some r) : FSpecO Try.prog 97 [rep s1] [] (anyV) [some (rowV 32 r)] := by
 unfold slices_Clone_Lint at h
 refine FSpecO.intro (n := 8) fnok97 Try.func97 rfl Try.ntmps97 rfl (fun F => ?_)
 refine .seq (.region [] mixed (by kernel_rfl) ?_)
 refine .cons (.assign .none (.const (x := ([] : (List (List Int)))) (fun M w => ⟨_, ⟨none, 0, rfl, Nat.le_refl _, by decide, rfl⟩, rfl⟩))) rfl ?_
 refine .nil (.then ?_)
 refine .seq ?_
 refine .seq (.region [] mixed (by kernel_rfl) ?_)
 refine .cons (.move .none (.s rfl)) rfl ?_
 refine .cons (.eqNil .none sl22 (.s rfl)) rfl ?_
 refine .nil (.then ?_)
 refine .condNil (t := 4) rfl trivial (fun hb1 => ?_) ?_
 ·
  replace h := nilc_t h hb1
  refine .seq (.region [([], [2])] mixed (by kernel_rfl) ?_)
  refine .consW (.nilRow (T := 32) (α := (List Int)) rfl) rfl rfl ?_
  refine .nil (.then ?_)
  refine .nameRow (t := 2) (g := 5001) rfl rfl rfl (fun s5001 => ?_)
  refine .ret ?_
  refine .thenRet ?_
  refine .anon (t := 2) (g := 5001) rfl rfl trivial rfl ?_
  obtain rfl := some_eq h
  exact Ends.ret1O (.inl rfl) [2] Try.results97 (by decide) (.res rfl rfl) (ResOK.tmp rfl trivial (fun _ _ _ _ => trivial))
 ·
  replace h := nilc_f h
  refine .skip ?_
  refine .then ?_
  refine .seq (.region [([], [5]), ([], []), ([5], [7, 5]), ([7], [2, 7])] mixed (by kernel_rfl) ?_)
  refine .consW (.buildSliceO (xs := []) rfl sl22 ty32 hz32 .nil rfl (by decide)) rfl rfl ?_
  refine .consA (.move .none (.s rfl)) rfl ?_
  obtain ⟨hn2, h⟩ := need_some h
  refine .consW (.append (k := 5) rk22 rfl (.tmp rfl) (.s rfl) hn2) rfl rfl ?_
  refine .consW (.passRow rfl (.tmp rfl)) rfl rfl ?_
  refine .nil (.then ?_)
  obtain ⟨v1, hv3, h⟩ := bnd_some h
  refine .reB (t := 2) rfl (congrArg (rowV 32) hv3) ?_
  refine .nameRow (t := 2) (g := 5002) rfl rfl rfl (fun s5002 => ?_)
  refine .ret ?_
  refine .anon (t := 2) (g := 5002) rfl rfl trivial rfl ?_
  obtain rfl := some_eq h
  exact Ends.ret1O (.inl rfl) [2] Try.results97 (by decide) (.res rfl rfl) (ResOK.tmp rfl trivial (fun _ _ _ _ => trivial))

theorem slices_Clone_Lint_own_ok {l : List (List Int)} {r : List (List Int) × List (List Int)} {s : Value} (h : slices_Clone_Lint_own l = some r) : FSpecO Try.prog 97 [isV s] [(s, rowV 32 l)] (anyV) [some (rowV 32 r.2), some (rowV 32 r.1)] := by
 obtain ⟨hl, h⟩ := need_some h
 obtain rfl := some_eq h
 exact cloneO_row cloneO97_lay rfl fnok97 rfl rk22 hl

theorem layer_places_ok {row1 : (List Int)} {r : (GMap Int Int)}  (h : layer_places row1 = some r) : FSpec Try.prog 83 [rep row1] (rep r) := by
 unfold layer_places at h
 refine FSpec.intro (n := 19) fnok83 Try.func83 rfl Try.ntmps83 rfl (fun F => ?_)
 refine .seq (.region [] mixed (by kernel_rfl) ?_)
 refine .cons (.assign .none (.const (x := (GMap.nil : (GMap Int Int))) (fun M w => ⟨_, map_zero, rfl⟩))) rfl ?_
 refine .nil (.then ?_)
 refine .seq (.region [([], [6]), ([6], [3, 6])] mixed (by kernel_rfl) ?_)
 refine .consW (.makeMap (K := Int) (V := Int) rfl) rfl rfl ?_
 refine .consW (.passRow rfl (.tmp rfl)) rfl rfl ?_
 refine .nil (.then ?_)
 obtain ⟨out1, hv1, h⟩ := bnd_some h
 refine .reB (t := 3) rfl (congrArg mapV hv1) ?_
 refine .nameMap (t := 3) (g := 5001) rfl rfl rfl (fun s5001 => ?_)
 refine .seq ?_
 refine .seq (.region [] mixed (by kernel_rfl) ?_)
 refine .cons (.move .none (.s rfl)) rfl ?_
 refine .cons (.len .none sl32 (.s rfl)) rfl ?_
 refine .cons (.move .none (.int (by decide))) rfl ?_
 refine .nil (.then ?_)
 obtain ⟨j_2, h, hK2⟩ := bind_some h
 refine .thenJ (ι := (GMap Int Int)) (fun j_2 => []) (fun j_2 => [(5001, some (CPred.at s5001 (mapV j_2)))]) (fun s => j_2 = s) (.k 3 rfl .nil) SubB.nil ?_ (fun j_2' hj2 => ?_)
 ·
  skip
  refine .block ?_
  refine .rforL h (fun p3_ => [(9, ⟨True, rep p3_.1⟩)]) (fun p3_ => [(5001, some (CPred.at s5001 (mapV p3_.2)))]) (.k 9 rfl .nil) (.k 5001 rfl .nil) (.k 3 rfl (.k 7 rfl (.k 8 rfl .nil))) SubB.nil (fun p3_ o_3 h hD3 => ?_)
  refine .seq (.region [] mixed (by kernel_rfl) ?_)
  refine .cons (.lt .none (.s rfl) (.s rfl)) rfl ?_
  refine .nil (.then ?_)
  refine .seq ?_
  refine .cond (t := 10) rfl trivial (fun hb4 => ?_) (fun hb4 => ?_)
  ·
   replace h := bif_t h hb4
   refine .skip ?_
   refine .then ?_
   refine .seq ?_
   obtain ⟨j_5, h, hK5⟩ := bind_some h
   unfold layer_places_L1 at h
   refine .thenJ (ι := (GMap Int Int)) (fun j_5 => []) (fun j_5 => [(5001, some (CPred.at s5001 (mapV j_5)))]) (fun s => j_5 = s) (.k 3 rfl (.k 7 rfl (.k 8 rfl (.k 9 rfl .nil)))) SubB.nil ?_ (fun j_5' hj5 => ?_)
   ·
    skip
    refine .block ?_
    refine .seq (.region [] mixed (by kernel_rfl) ?_)
    refine .cons (.move .none (.s rfl)) rfl ?_
    obtain ⟨hn6, h⟩ := need_some h
    refine .cons (.indexAddr .none sl32 ty3 (.s rfl) (.s rfl) (fun _ => hn6)) rfl ?_
    refine .cons (.load .none ty3 (.s rfl)) rfl ?_
    refine .cons (.assign .none (.s rfl)) rfl ?_
    refine .cons (.assign .none (.s rfl)) rfl ?_
    refine .nil (.then ?_)
    refine .region [([], []), ([], []), ([], []), ([5001], [5001])] mixed (by kernel_rfl) ?_
    refine .consA (.move .none (.s rfl)) rfl ?_
    refine .consA (.move .none (.s rfl)) rfl ?_
    refine .consA (.move .none (.s rfl)) rfl ?_
    refine .consN (.mapUpdate (q := 5001) mo88 (.s rfl) rfl (.s rfl) (.s rfl)) rfl ?_
    refine .nil ?_
    refine .blkNormal ?_
    exact Ends.join _ (some_eq h) (.k 3 rfl (.k 7 rfl (.k 8 rfl (.k 9 rfl .nil)))) (.k 5001 rfl .nil)
   ·
    subst hj5; have h := hK5; clear hK5
    refine .region [] mixed (by kernel_rfl) ?_
    refine .cons (.addW .none (.s rfl) (.int (by decide))) rfl ?_
    refine .cons (.move .none (.s rfl)) rfl ?_
    refine .nil ?_
    exact Ends.againL (some_eq h) (.k 9 rfl (.k 3 rfl (.k 7 rfl (.k 8 rfl .nil)))) (.k 5001 rfl .nil)
  ·
   replace h := bif_f h hb4
   refine .exit ?_
   refine .thenExit ?_
   refine .thenExit ?_
   refine .blkExit ?_
   replace h := hD3 _ (some_eq h)
   exact Ends.join _ (some_eq h) (.k 3 rfl .nil) (.k 5001 rfl .nil)
 ·
  subst hj2; have h := hK2; clear hK2
  refine .freezeAt (g := 5001) (S := rep j_2) (ts := [3]) rfl (.cons (t := 3) rfl trivial .nil) SubB.nil rfl (fun M D w h hms => mapV_rep h hms) ?_
  refine .seq (.region [] mixed (by kernel_rfl) ?_)
  refine .cons (.move .none (.s rfl)) rfl ?_
  refine .cons (.assign .none (.s rfl)) rfl ?_
  refine .nil (.then ?_)
  refine .ret ?_
  obtain rfl := some_eq h
  exact Ends.ret1 (.inl rfl) Try.results83 (ResOK.tmp rfl trivial Imp.refl)

theorem slices_Clone_Link_ok {s1 : (List Link)} {r : (List Link)}  (h : slices_Clone_Link s1 = some r) : FSpecO Try.prog 50 [rep s1] [] (anyV) [some (rowV 79 r)] := by
 unfold slices_Clone_Link at h
 refine FSpecO.intro (n := 8) fnok50 Try.func50 rfl Try.ntmps50 rfl (fun F => ?_)
 refine .seq (.region [] mixed (by kernel_rfl) ?_)
 refine .cons (.assign .none (.const (x := ([] : (List Link))) (fun M w => ⟨_, ⟨none, 0, rfl, Nat.le_refl _, by decide, rfl⟩, rfl⟩))) rfl ?_
 refine .nil (.then ?_)
 refine .seq ?_
 refine .seq (.region [] mixed (by kernel_rfl) ?_)
 refine .cons (.move .none (.s rfl)) rfl ?_
 refine .cons (.eqNil .none sl23 (.s rfl)) rfl ?_
 refine .nil (.then ?_)
 refine .condNil (t := 4) rfl trivial (fun hb1 => ?_) ?_
 ·
  replace h := nilc_t h hb1
  refine .seq (.region [([], [2])] mixed (by kernel_rfl) ?_)
  refine .consW (.nilRow (T := 79) (α := Link) rfl) rfl rfl ?_
  refine .nil (.then ?_)
  refine .nameRow (t := 2) (g := 5001) rfl rfl rfl (fun s5001 => ?_)
  refine .ret ?_
  refine .thenRet ?_
  refine .anon (t := 2) (g := 5001) rfl rfl trivial rfl ?_
  obtain rfl := some_eq h
  exact Ends.ret1O (.inl rfl) [2] Try.results50 (by decide) (.res rfl rfl) (ResOK.tmp rfl trivial (fun _ _ _ _ => trivial))
 ·
  replace h := nilc_f h
  refine .skip ?_
  refine .then ?_
  refine .seq (.region [([], [5]), ([], []), ([5], [7, 5]), ([7], [2, 7])] mixed (by kernel_rfl) ?_)
  refine .consW (.buildSliceO (xs := []) rfl sl23 ty79 hz79 .nil rfl (by decide)) rfl rfl ?_
  refine .consA (.move .none (.s rfl)) rfl ?_
  obtain ⟨hn2, h⟩ := need_some h
  refine .consW (.append (k := 5) rk23 rfl (.tmp rfl) (.s rfl) hn2) rfl rfl ?_
  refine .consW (.passRow rfl (.tmp rfl)) rfl rfl ?_
  refine .nil (.then ?_)
  obtain ⟨v1, hv3, h⟩ := bnd_some h
  refine .reB (t := 2) rfl (congrArg (rowV 79) hv3) ?_
  refine .nameRow (t := 2) (g := 5002) rfl rfl rfl (fun s5002 => ?_)
  refine .ret ?_
  refine .anon (t := 2) (g := 5002) rfl rfl trivial rfl ?_
  obtain rfl := some_eq h
  exact Ends.ret1O (.inl rfl) [2] Try.results50 (by decide) (.res rfl rfl) (ResOK.tmp rfl trivial (fun _ _ _ _ => trivial))

theorem layer_all_1_ok {x1 : Link} {c0_1 : (GMap Int Int)} {c1_1 : (GMap Int Int)} {r : Bool}  (h : layer_all_1 x1 c0_1 c1_1 = some r) : FSpec Try.prog 115 [rep x1, ref c0_1, ref c1_1] (rep r) := by
 unfold layer_all_1 at h
 refine FSpec.intro (n := 29) fnok115 Try.func115 rfl Try.ntmps115 rfl (fun F => ?_)
 refine .seq (.region [] mixed (by kernel_rfl) ?_)
 refine .cons (.box .none (.s rfl)) rfl ?_
 refine .cons (.assign .none .bool) rfl ?_
 refine .nil (.then ?_)
 refine .seq (.region [] mixed (by kernel_rfl) ?_)
 refine .cons (.load .none ty88 (.s rfl)) rfl ?_
 refine .cons (.fieldAddr .none fd79_0 hfd79_0 (.s rfl)) rfl ?_
 refine .cons (.load .none ty3 (.s rfl)) rfl ?_
 refine .cons (.lookupOk .none mo88 zo3 (.s rfl) (.s rfl)) rfl ?_
 refine .cons (.move .none (.s rfl)) rfl ?_
 refine .cons (.extract .none (.s rfl) rfl) rfl ?_
 refine .cons (.extract .none (.s rfl) rfl) rfl ?_
 refine .cons (.assign .none (.s rfl)) rfl ?_
 refine .cons (.assign .none (.s rfl)) rfl ?_
 refine .nil (.then ?_)
 refine .seq (.region [] mixed (by kernel_rfl) ?_)
 refine .cons (.load .none ty88 (.s rfl)) rfl ?_
 refine .cons (.fieldAddr .none fd79_1 hfd79_1 (.s rfl)) rfl ?_
 refine .cons (.load .none ty3 (.s rfl)) rfl ?_
 refine .cons (.lookupOk .none mo88 zo3 (.s rfl) (.s rfl)) rfl ?_
 refine .cons (.move .none (.s rfl)) rfl ?_
 refine .cons (.extract .none (.s rfl) rfl) rfl ?_
 refine .cons (.extract .none (.s rfl) rfl) rfl ?_
 refine .cons (.assign .none (.s rfl)) rfl ?_
 refine .cons (.assign .none (.s rfl)) rfl ?_
 refine .nil (.then ?_)
 refine .seq (.region [] mixed (by kernel_rfl) ?_)
 refine .cons (.move .none (.s rfl)) rfl ?_
 refine .cons (.not .none (.s rfl)) rfl ?_
 refine .cons (.move .none (.s rfl)) rfl ?_
 refine .cons (.move (.at rfl rfl) (.s rfl)) rfl ?_
 refine .cons (.not (.at rfl rfl) (.tmp rfl id)) rfl ?_
 refine .cons (.pickOr .none (.s rfl) (.tmp rfl id)) rfl ?_
 refine .cons (.assign .none (.s rfl)) rfl ?_
 refine .nil (.then ?_)
 refine .ret ?_
 obtain rfl := some_eq h
 exact Ends.ret1 (.inl rfl) Try.results115 (ResOK.tmp rfl trivial Imp.refl)

theorem slices_IndexFunc_Link_ok {s1 : (List Link)} {f1 : (Link → Option Bool)} {r : Int}  (h : slices_IndexFunc_Link s1 f1 = some r) : FSpec Try.prog 112 [rep s1, fn1 Try.prog (rep (α := Bool)) f1] (rep r) := by
 unfold slices_IndexFunc_Link at h
 refine FSpec.intro (n := 19) fnok112 Try.func112 rfl Try.ntmps112 rfl (fun F => ?_)
 refine .seq (.region [] mixed (by kernel_rfl) ?_)
 refine .cons (.assign .none (.int (by decide))) rfl ?_
 refine .nil (.then ?_)
 refine .seq ?_
 refine .seq (.region [] mixed (by kernel_rfl) ?_)
 refine .cons (.move .none (.s rfl)) rfl ?_
 refine .cons (.len .none sl23 (.s rfl)) rfl ?_
 refine .cons (.move .none (.int (by decide))) rfl ?_
 refine .nil (.then ?_)
 obtain ⟨o_1, h, hK1⟩ := bindR_some h
 refine .thenJ (ι := Unit) (fun j_1 => []) (fun j_1 => []) (fun s => o_1 = Res.nx s) Sub.nil SubB.nil ?_ (fun j_1 hj1 => ?_)
 ·
  skip
  refine .block ?_
  refine .rforEL h (fun p2_ => [(8, ⟨True, rep p2_.1⟩)]) (fun p2_ => []) (.k 8 rfl .nil) SubB.nil (.k 0 rfl (.k 1 rfl (.k 7 rfl .nil))) SubB.nil (fun p2_ o_2 h hD2 => ?_)
  refine .seq (.region [] mixed (by kernel_rfl) ?_)
  refine .cons (.lt .none (.s rfl) (.s rfl)) rfl ?_
  refine .nil (.then ?_)
  refine .seq ?_
  refine .cond (t := 9) rfl trivial (fun hb3 => ?_) (fun hb3 => ?_)
  ·
   replace h := bif_t h hb3
   refine .skip ?_
   refine .then ?_
   refine .seq ?_
   obtain ⟨o_4, h, hK4⟩ := bindD_some h
   unfold slices_IndexFunc_Link_L1 at h
   refine .thenJ (ι := Unit) (fun j_4 => []) (fun j_4 => []) (fun s => o_4 = Res.nx s) (.k 0 rfl (.k 1 rfl (.k 7 rfl (.k 8 rfl .nil)))) SubB.nil ?_ (fun j_4 hj4 => ?_)
   ·
    skip
    refine .block ?_
    refine .seq (.region [] mixed (by kernel_rfl) ?_)
    refine .cons (.move .none (.s rfl)) rfl ?_
    refine .cons (.assign .none (.s rfl)) rfl ?_
    refine .nil (.then ?_)
    refine .seq (.region [] mixed (by kernel_rfl) ?_)
    refine .cons (.move .none (.s rfl)) rfl ?_
    refine .cons (.move .none (.s rfl)) rfl ?_
    refine .cons (.move .none (.s rfl)) rfl ?_
    obtain ⟨hn5, h⟩ := need_some h
    refine .cons (.indexAddr .none sl23 ty79 (.s rfl) (.s rfl) (fun _ => hn5)) rfl ?_
    refine .cons (.load .none ty79 (.s rfl)) rfl ?_
    obtain ⟨r1, hv6, h⟩ := bind_some h
    refine .cons (.callV (gx s1 p2_.1, r1) .none (.s rfl) (fun _ => hv6) (.cons (.s rfl) .nil)) rfl ?_
    refine .nil (.then ?_)
    refine .cond (t := 16) rfl trivial (fun hb7 => ?_) (fun hb7 => ?_)
    ·
     replace h := bif_t h hb7
     refine .seq (.region [] mixed (by kernel_rfl) ?_)
     refine .cons (.move .none (.s rfl)) rfl ?_
     refine .cons (.assign .none (.s rfl)) rfl ?_
     refine .nil (.then ?_)
     refine .ret ?_
     refine .blkRet ?_
     refine .thenRet ?_
     refine .thenRet ?_
     refine .blkRet ?_
     refine .thenRet ?_
     replace h := resd_ab hK4 (some_eq h)
     replace h := hD2 _ (some_eq h)
     replace h := resb_ab hK1 (some_eq h)
     obtain rfl := some_eq h
     exact Ends.ret1 (.inl rfl) Try.results112 (ResOK.tmp rfl trivial Imp.refl)
    ·
     replace h := bif_f h hb7
     refine .skip ?_
     refine .blkNormal ?_
     exact Ends.join _ (some_eq h) (.k 0 rfl (.k 1 rfl (.k 7 rfl (.k 8 rfl .nil)))) SubB.nil
   ·
    have h := resd_nx hK4 hj4
    refine .region [] mixed (by kernel_rfl) ?_
    refine .cons (.addW .none (.s rfl) (.int (by decide))) rfl ?_
    refine .cons (.move .none (.s rfl)) rfl ?_
    refine .nil ?_
    exact Ends.againL (some_eq h) (.k 8 rfl (.k 0 rfl (.k 1 rfl (.k 7 rfl .nil)))) SubB.nil
  ·
   replace h := bif_f h hb3
   refine .exit ?_
   refine .thenExit ?_
   refine .thenExit ?_
   refine .blkExit ?_
   replace h := hD2 _ (some_eq h)
   exact Ends.join _ (some_eq h) Sub.nil SubB.nil
 ·
  have h := resb_nx hK1 hj1
  refine .seq (.region [] mixed (by kernel_rfl) ?_)
  refine .cons (.assign .none (.int (by decide))) rfl ?_
  refine .nil (.then ?_)
  refine .ret ?_
  obtain rfl := some_eq h
  exact Ends.ret1 (.inl rfl) Try.results112 (ResOK.tmp rfl trivial Imp.refl)

theorem slices_DeleteFunc_Link_ok {s1 : (List Link)} {del1 : (Link → Option Bool)} {r : (List Link)} {s42 : Value} (h : slices_DeleteFunc_Link s1 del1 = some r) : FSpecO Try.prog 86 [isV s42, fn1 Try.prog (rep (α := Bool)) del1] [(s42, rowV 79 s1)] (anyV) [none, some (rowV 79 r)] := by
 unfold slices_DeleteFunc_Link at h
 refine FSpecO.intro (n := 42) fnok86 Try.func86 rfl Try.ntmps86 rfl (fun F => ?_)
 refine .seq (.region [] mixed (by kernel_rfl) ?_)
 refine .cons (.assign .none (.const (x := ([] : (List Link))) (fun M w => ⟨_, ⟨none, 0, rfl, Nat.le_refl _, by decide, rfl⟩, rfl⟩))) rfl ?_
 refine .nil (.then ?_)
 refine .seq (.region [([], []), ([], []), ([42], []), ([], [])] mixed (by kernel_rfl) ?_)
 refine .consA (.move .none (.s rfl)) rfl ?_
 refine .consA (.move .none (.s rfl)) rfl ?_
 obtain ⟨i1, hv1, h⟩ := bind_some h
 refine .consA (.callC .none fnok112 (fun hg => slices_IndexFunc_Link_ok  hv1) .rep (.lend (k := 42) (.told (.s rfl) rfl) (.cons (.s rfl) .nil))) rfl ?_
 refine .consA (.assign .none (.s rfl)) rfl ?_
 refine .nil (.then ?_)
 refine .seq ?_
 refine .seq (.region [] mixed (by kernel_rfl) ?_)
 refine .cons (.move .none (.s rfl)) rfl ?_
 refine .cons (.eqI .none (.s rfl) (.int (by decide))) rfl ?_
 refine .nil (.then ?_)
 refine .cond (t := 12) rfl trivial (fun hb2 => ?_) (fun hb2 => ?_)
 ·
  replace h := bif_t h hb2
  refine .seq (.region [] mixed (by kernel_rfl) ?_)
  refine .cons (.move .none (.s rfl)) rfl ?_
  refine .cons (.assign .none (.s rfl)) rfl ?_
  refine .nil (.then ?_)
  refine .ret ?_
  refine .thenRet ?_
  refine .anon (t := 4) (g := 42) rfl rfl trivial rfl ?_
  obtain rfl := some_eq h
  exact Ends.ret1O (.inl rfl) [42, 4] Try.results86 (by decide) (.skip (.res rfl rfl)) (ResOK.tmp rfl trivial (fun _ _ _ _ => trivial))
 ·
  replace h := bif_f h hb2
  refine .skip ?_
  refine .then ?_
  refine .seq ?_
  refine .seq (.region [] mixed (by kernel_rfl) ?_)
  refine .cons (.move .none (.s rfl)) rfl ?_
  refine .cons (.addW .none (.s rfl) (.int (by decide))) rfl ?_
  obtain ⟨j1, hv3, h⟩ := bnd_some h
  refine .cons (.re hv3 (.assign .none (.s rfl))) rfl ?_
  refine .nil (.then ?_)
  obtain ⟨j_4, h, hK4⟩ := bind_some h
  refine .thenJ (ι := (Int × (List Link))) (fun j_4 => [(5, ⟨True, rep j_4.1⟩)]) (fun j_4 => [(42, some (CPred.at s42 (rowV 79 j_4.2)))]) (fun s => j_4 = s) (.k 0 rfl .nil) SubB.nil ?_ (fun j_4' hj4 => ?_)
  ·
   skip
   refine .block ?_
   refine .loopL h (fun s5_ => [(5, ⟨True, rep s5_.1⟩), (6, ⟨True, rep s5_.2.1⟩)]) (fun s5_ => [(42, some (CPred.at s42 (rowV 79 s5_.2.2)))]) (.k 5 rfl (.k 6 rfl .nil)) (.k 42 rfl .nil) (.k 0 rfl (.k 1 rfl .nil)) SubB.nil (fun s5_ o_5 h hD5 => ?_)
   unfold slices_DeleteFunc_Link_L1 at h
   refine .seq ?_
   refine .seq (.region [([], []), ([], []), ([42], []), ([], [])] mixed (by kernel_rfl) ?_)
   refine .consA (.move .none (.s rfl)) rfl ?_
   refine .consA (.move .none (.s rfl)) rfl ?_
   refine .consA (.lenO (k := 42) sl23 (.told (.s rfl) rfl)) rfl ?_
   refine .consA (.lt .none (.s rfl) (.s rfl)) rfl ?_
   refine .nil (.then ?_)
   refine .cond (t := 19) rfl trivial (fun hb6 => ?_) (fun hb6 => ?_)
   ·
    replace h := bif_t h hb6
    refine .skip ?_
    refine .then ?_
    refine .seq ?_
    obtain ⟨j_7, h, hK7⟩ := bind_some h
    refine .thenJ (ι := (Int × (List Link))) (fun j_7 => [(5, ⟨True, rep j_7.1⟩)]) (fun j_7 => [(42, some (CPred.at s42 (rowV 79 j_7.2)))]) (fun s => j_7 = s) (.k 0 rfl (.k 1 rfl (.k 6 rfl .nil))) SubB.nil ?_ (fun j_7' hj7 => ?_)
    ·
     skip
     refine .block ?_
     refine .seq (.region [([], []), ([], []), ([42], []), ([42], []), ([], [7]), ([7], [7])] mixed (by kernel_rfl) ?_)
     refine .consA (.move .none (.s rfl)) rfl ?_
     refine .consA (.move .none (.s rfl)) rfl ?_
     obtain ⟨hn8, h⟩ := need_some h
     refine .consA (.indexAddrO (k := 42) .none sl23 ty79 (.s rfl) rfl (.s rfl) (fun _ => hn8)) rfl ?_
     obtain ⟨v1, hv9, h⟩ := bnd_some h
     refine .consA (.re hv9 (.loadElem0 (k := 42) .none ty79 (.s rfl) rfl (fun _ => hn8))) rfl ?_
     refine .consW (.alloc zo79 rfl) rfl rfl ?_
     refine .consN (.store ty79 rfl rfl (.s rfl)) rfl ?_
     refine .nil (.then ?_)
     refine .freeze (t := 7) rfl rfl (.k 42 rfl .nil) rfl ?_
     refine .seq (.region [] mixed (by kernel_rfl) ?_)
     refine .cons (.move .none (.s rfl)) rfl ?_
     refine .cons (.load .none ty79 (.s rfl)) rfl ?_
     obtain ⟨r1, hv10, h⟩ := bind_some h
     refine .cons (.callV (v1, r1) .none (.s rfl) (fun _ => hv10) (.cons (.s rfl) .nil)) rfl ?_
     refine .cons (.not .none (.s rfl)) rfl ?_
     refine .nil (.then ?_)
     refine .cond (t := 29) rfl trivial (fun hb11 => ?_) (fun hb11 => ?_)
     ·
      replace h := bif_t h hb11
      refine .seq (.region [([], []), ([], []), ([], []), ([42], []), ([42], [42])] mixed (by kernel_rfl) ?_)
      refine .consA (.move .none (.s rfl)) rfl ?_
      refine .consA (.move .none (.s rfl)) rfl ?_
      refine .consA (.load .none ty79 (.s rfl)) rfl ?_
      obtain ⟨hn12, h⟩ := need_some h
      refine .consA (.indexAddrO (k := 42) .none sl23 ty79 (.s rfl) rfl (.s rfl) (fun _ => hn12)) rfl ?_
      refine .consN (.storeElem0 (k := 42) ty79 (.s rfl) rfl (.s rfl) hn12) rfl ?_
      refine .nil (.then ?_)
      obtain ⟨s2, hv13, h⟩ := bnd_some h
      refine .reB (t := 42) rfl (congrArg (fun y => CPred.at s42 (rowV 79 y)) hv13) ?_
      refine .region [] mixed (by kernel_rfl) ?_
      refine .cons (.move .none (.s rfl)) rfl ?_
      refine .cons (.addW .none (.s rfl) (.int (by decide))) rfl ?_
      obtain ⟨i2, hv14, h⟩ := bnd_some h
      refine .cons (.re hv14 (.assign .none (.s rfl))) rfl ?_
      refine .nil ?_
      refine .blkNormal ?_
      exact Ends.join _ (some_eq h) (.k 5 rfl (.k 0 rfl (.k 1 rfl (.k 6 rfl .nil)))) (.k 42 rfl .nil)
     ·
      replace h := bif_f h hb11
      refine .skip ?_
      refine .blkNormal ?_
      exact Ends.join _ (some_eq h) (.k 5 rfl (.k 0 rfl (.k 1 rfl (.k 6 rfl .nil)))) (.k 42 rfl .nil)
    ·
     subst hj7; have h := hK7; clear hK7
     refine .region [] mixed (by kernel_rfl) ?_
     refine .cons (.move .none (.s rfl)) rfl ?_
     refine .cons (.addW .none (.s rfl) (.int (by decide))) rfl ?_
     obtain ⟨j2, hv15, h⟩ := bnd_some h
     refine .cons (.re hv15 (.assign .none (.s rfl))) rfl ?_
     refine .nil ?_
     exact Ends.againL (some_eq h) (.k 5 rfl (.k 6 rfl (.k 0 rfl (.k 1 rfl .nil)))) (.k 42 rfl .nil)
   ·
    replace h := bif_f h hb6
    refine .exit ?_
    refine .thenExit ?_
    refine .thenExit ?_
    refine .blkExit ?_
    replace h := hD5 _ (some_eq h)
    exact Ends.join _ (some_eq h) (.k 5 rfl (.k 0 rfl .nil)) (.k 42 rfl .nil)
  ·
   subst hj4; have h := hK4; clear hK4
   refine .seq (.region [([], []), ([], []), ([42], []), ([42], [42])] mixed (by kernel_rfl) ?_)
   refine .consA (.move .none (.s rfl)) rfl ?_
   refine .consA (.move .none (.s rfl)) rfl ?_
   obtain ⟨hn16, h⟩ := need_some h
   refine .consA (.sliceLend (k := 42) sl23 ty79 (.s rfl) rfl (.s rfl) rfl hn16) rfl ?_
   refine .consN (.clearPart (k := 42) sl23 zo79 (.s rfl) rfl hn16) rfl ?_
   refine .nil (.then ?_)
   obtain ⟨s3, hv17, h⟩ := bnd_some h
   refine .reB (t := 42) rfl (congrArg (fun y => CPred.at s42 (rowV 79 y)) hv17) ?_
   refine .seq (.region [([], []), ([], []), ([42], [41, 42]), ([41], [4, 41])] mixed (by kernel_rfl) ?_)
   refine .consA (.move .none (.s rfl)) rfl ?_
   refine .consA (.move .none (.s rfl)) rfl ?_
   obtain ⟨hn18, h⟩ := need_some h
   refine .consW (.sliceRow (k := 42) sl23 ty79 rfl (.s rfl) rfl rfl (.s rfl) hn18) rfl rfl ?_
   refine .consW (.passRow rfl (.tmp rfl)) rfl rfl ?_
   refine .nil (.then ?_)
   obtain ⟨v2, hv19, h⟩ := bnd_some h
   refine .reB (t := 4) rfl (congrArg (rowV 79) hv19) ?_
   refine .nameRow (t := 4) (g := 5001) rfl rfl rfl (fun s5001 => ?_)
   refine .ret ?_
   refine .anon (t := 4) (g := 5001) rfl rfl trivial rfl ?_
   obtain rfl := some_eq h
   exact Ends.ret1O (.inl rfl) [42, 4] Try.results86 (by decide) (.skip (.res rfl rfl)) (ResOK.tmp rfl trivial (fun _ _ _ _ => trivial))

theorem layer_crossings_ok {upper1 : (List Int)} {lower1 : (List Int)} {l1 : (List Link)} {r : Int}  (h : layer_crossings upper1 lower1 l1 = some r) : FSpec Try.prog 81 [rep upper1, rep lower1, rep l1] (rep r) := by
 unfold layer_crossings at h
 refine FSpec.intro (n := 58) fnok81 Try.func81 rfl Try.ntmps81 rfl (fun F => ?_)
 refine .seq (.region [] mixed (by kernel_rfl) ?_)
 refine .cons (.assign .none (.int (by decide))) rfl ?_
 refine .nil (.then ?_)
 refine .seq (.region [] mixed (by kernel_rfl) ?_)
 refine .cons (.move .none (.s rfl)) rfl ?_
 obtain ⟨up1, hv1, h⟩ := bind_some h
 refine .cons (.call .none (layer_places_ok hv1) (.cons (.s rfl) .nil)) rfl ?_
 refine .cons (.move .none (.s rfl)) rfl ?_
 obtain ⟨low1, hv2, h⟩ := bind_some h
 refine .cons (.call .none (layer_places_ok hv2) (.cons (.s rfl) .nil)) rfl ?_
 refine .cons (.assign .none (.s rfl)) rfl ?_
 refine .cons (.assign .none (.s rfl)) rfl ?_
 refine .nil (.then ?_)
 refine .seq (.region [] mixed (by kernel_rfl) ?_)
 refine .cons (.assign .none (.int (by decide))) rfl ?_
 refine .nil (.then ?_)
 refine .seq ?_
 refine .seq (.region [] mixed (by kernel_rfl) ?_)
 refine .cons (.move .none (.s rfl)) rfl ?_
 refine .cons (.len .none sl23 (.s rfl)) rfl ?_
 refine .cons (.move .none (.int (by decide))) rfl ?_
 refine .nil (.then ?_)
 obtain ⟨j_3, h, hK3⟩ := bind_some h
 refine .thenJ (ι := Int) (fun j_3 => [(9, ⟨True, rep j_3⟩)]) (fun j_3 => []) (fun s => j_3 = s) Sub.nil SubB.nil ?_ (fun j_3' hj3 => ?_)
 ·
  skip
  refine .block ?_
  refine .rforL h (fun p4_ => [(20, ⟨True, rep p4_.1⟩), (9, ⟨True, rep p4_.2⟩)]) (fun p4_ => []) (.k 20 rfl (.k 9 rfl .nil)) SubB.nil (.k 2 rfl (.k 7 rfl (.k 8 rfl (.k 18 rfl (.k 19 rfl .nil))))) SubB.nil (fun p4_ o_4 h hD4 => ?_)
  refine .seq (.region [] mixed (by kernel_rfl) ?_)
  refine .cons (.lt .none (.s rfl) (.s rfl)) rfl ?_
  refine .nil (.then ?_)
  refine .seq ?_
  refine .cond (t := 21) rfl trivial (fun hb5 => ?_) (fun hb5 => ?_)
  ·
   replace h := bif_t h hb5
   refine .skip ?_
   refine .then ?_
   refine .seq ?_
   obtain ⟨j_6, h, hK6⟩ := bind_some h
   unfold layer_crossings_L1 at h
   refine .thenJ (ι := Int) (fun j_6 => [(9, ⟨True, rep j_6⟩)]) (fun j_6 => []) (fun s => j_6 = s) (.k 2 rfl (.k 7 rfl (.k 8 rfl (.k 18 rfl (.k 19 rfl (.k 20 rfl .nil)))))) SubB.nil ?_ (fun j_6' hj6 => ?_)
   ·
    skip
    refine .block ?_
    refine .seq (.region [([], []), ([], []), ([], []), ([], [11]), ([], []), ([11], [11])] mixed (by kernel_rfl) ?_)
    refine .consA (.move .none (.s rfl)) rfl ?_
    obtain ⟨hn7, h⟩ := need_some h
    refine .consA (.indexAddr .none sl23 ty79 (.s rfl) (.s rfl) (fun _ => hn7)) rfl ?_
    obtain ⟨v1, hv8, h⟩ := bnd_some h
    refine .consA (.re hv8 (.load .none ty79 (.s rfl))) rfl ?_
    refine .consW (.alloc zo79 rfl) rfl rfl ?_
    refine .consA (.assign .none (.s rfl)) rfl ?_
    refine .consN (.store ty79 rfl rfl (.s rfl)) rfl ?_
    refine .nil (.then ?_)
    refine .freeze (t := 11) rfl rfl SubB.nil rfl ?_
    refine .seq (.region [] mixed (by kernel_rfl) ?_)
    refine .cons (.move .none (.s rfl)) rfl ?_
    refine .cons (.move .none (.s rfl)) rfl ?_
    obtain ⟨hn9, h⟩ := need_some h
    obtain ⟨v2, hv10, h⟩ := bnd_some h
    refine .cons (.re hv10 (.slice .none sl23 ty79 (.s rfl) rfl (.s rfl) (fun _ => hn9))) rfl ?_
    refine .cons (.len .none sl23 (.s rfl)) rfl ?_
    refine .cons (.move .none (.int (by decide))) rfl ?_
    refine .nil (.then ?_)
    refine .block ?_
    refine .rforL h (fun p11_ => [(29, ⟨True, rep p11_.1⟩), (9, ⟨True, rep p11_.2⟩)]) (fun p11_ => []) (.k 29 rfl (.k 9 rfl .nil)) SubB.nil (.k 2 rfl (.k 7 rfl (.k 8 rfl (.k 11 rfl (.k 18 rfl (.k 19 rfl (.k 20 rfl (.k 27 rfl (.k 28 rfl .nil))))))))) SubB.nil (fun p11_ o_11 h hD11 => ?_)
    refine .seq (.region [] mixed (by kernel_rfl) ?_)
    refine .cons (.lt .none (.s rfl) (.s rfl)) rfl ?_
    refine .nil (.then ?_)
    refine .seq ?_
    refine .cond (t := 30) rfl trivial (fun hb12 => ?_) (fun hb12 => ?_)
    ·
     replace h := bif_t h hb12
     refine .skip ?_
     refine .then ?_
     refine .seq ?_
     obtain ⟨j_13, h, hK13⟩ := bind_some h
     unfold layer_crossings_L2 at h
     refine .thenJ (ι := Int) (fun j_13 => [(9, ⟨True, rep j_13⟩)]) (fun j_13 => []) (fun s => j_13 = s) (.k 2 rfl (.k 7 rfl (.k 8 rfl (.k 11 rfl (.k 18 rfl (.k 19 rfl (.k 20 rfl (.k 27 rfl (.k 28 rfl (.k 29 rfl .nil)))))))))) SubB.nil ?_ (fun j_13' hj13 => ?_)
     ·
      skip
      refine .block ?_
      refine .seq (.region [([], []), ([], []), ([], [13]), ([13], [13])] mixed (by kernel_rfl) ?_)
      obtain ⟨hn14, h⟩ := need_some h
      refine .consA (.indexAddr .none sl23 ty79 (.s rfl) (.s rfl) (fun _ => hn14)) rfl ?_
      obtain ⟨v3, hv15, h⟩ := bnd_some h
      refine .consA (.re hv15 (.load .none ty79 (.s rfl))) rfl ?_
      refine .consW (.alloc zo79 rfl) rfl rfl ?_
      refine .consN (.store ty79 rfl rfl (.s rfl)) rfl ?_
      refine .nil (.then ?_)
      refine .freeze (t := 13) rfl rfl SubB.nil rfl ?_
      refine .seq (.region [] mixed (by kernel_rfl) ?_)
      refine .cons (.move .none (.s rfl)) rfl ?_
      refine .cons (.fieldAddr .none fd79_0 hfd79_0 (.s rfl)) rfl ?_
      refine .cons (.load .none ty3 (.s rfl)) rfl ?_
      refine .cons (.lookup .none mo88 zo3 (.s rfl) (.s rfl)) rfl ?_
      refine .cons (.move .none (.s rfl)) rfl ?_
      refine .cons (.fieldAddr .none fd79_0 hfd79_0 (.s rfl)) rfl ?_
      refine .cons (.load .none ty3 (.s rfl)) rfl ?_
      refine .cons (.lookup .none mo88 zo3 (.s rfl) (.s rfl)) rfl ?_
      refine .cons (.subW .none (.s rfl) (.s rfl)) rfl ?_
      refine .cons (.move .none (.s rfl)) rfl ?_
      refine .cons (.fieldAddr .none fd79_1 hfd79_1 (.s rfl)) rfl ?_
      refine .cons (.load .none ty3 (.s rfl)) rfl ?_
      refine .cons (.lookup .none mo88 zo3 (.s rfl) (.s rfl)) rfl ?_
      refine .cons (.move .none (.s rfl)) rfl ?_
      refine .cons (.fieldAddr .none fd79_1 hfd79_1 (.s rfl)) rfl ?_
      refine .cons (.load .none ty3 (.s rfl)) rfl ?_
      refine .cons (.lookup .none mo88 zo3 (.s rfl) (.s rfl)) rfl ?_
      refine .cons (.subW .none (.s rfl) (.s rfl)) rfl ?_
      refine .cons (.mulW .none (.s rfl) (.s rfl)) rfl ?_
      refine .cons (.lt .none (.s rfl) (.int (by decide))) rfl ?_
      refine .nil (.then ?_)
      refine .cond (t := 52) rfl trivial (fun hb16 => ?_) (fun hb16 => ?_)
      ·
       replace h := bif_t h hb16
       refine .region [] mixed (by kernel_rfl) ?_
       refine .cons (.move .none (.s rfl)) rfl ?_
       refine .cons (.addW .none (.s rfl) (.int (by decide))) rfl ?_
       obtain ⟨n1, hv17, h⟩ := bnd_some h
       refine .cons (.re hv17 (.assign .none (.s rfl))) rfl ?_
       refine .nil ?_
       refine .blkNormal ?_
       exact Ends.join _ (some_eq h) (.k 9 rfl (.k 2 rfl (.k 7 rfl (.k 8 rfl (.k 11 rfl (.k 18 rfl (.k 19 rfl (.k 20 rfl (.k 27 rfl (.k 28 rfl (.k 29 rfl .nil))))))))))) SubB.nil
      ·
       replace h := bif_f h hb16
       refine .skip ?_
       refine .blkNormal ?_
       exact Ends.join _ (some_eq h) (.k 9 rfl (.k 2 rfl (.k 7 rfl (.k 8 rfl (.k 11 rfl (.k 18 rfl (.k 19 rfl (.k 20 rfl (.k 27 rfl (.k 28 rfl (.k 29 rfl .nil))))))))))) SubB.nil
     ·
      subst hj13; have h := hK13; clear hK13
      refine .region [] mixed (by kernel_rfl) ?_
      refine .cons (.addW .none (.s rfl) (.int (by decide))) rfl ?_
      refine .cons (.move .none (.s rfl)) rfl ?_
      refine .nil ?_
      exact Ends.againL (some_eq h) (.k 29 rfl (.k 9 rfl (.k 2 rfl (.k 7 rfl (.k 8 rfl (.k 11 rfl (.k 18 rfl (.k 19 rfl (.k 20 rfl (.k 27 rfl (.k 28 rfl .nil))))))))))) SubB.nil
    ·
     replace h := bif_f h hb12
     refine .exit ?_
     refine .thenExit ?_
     refine .thenExit ?_
     refine .blkExit ?_
     refine .blkNormal ?_
     replace h := hD11 _ (some_eq h)
     exact Ends.join _ (some_eq h) (.k 9 rfl (.k 2 rfl (.k 7 rfl (.k 8 rfl (.k 18 rfl (.k 19 rfl (.k 20 rfl .nil))))))) SubB.nil
   ·
    subst hj6; have h := hK6; clear hK6
    refine .region [] mixed (by kernel_rfl) ?_
    refine .cons (.addW .none (.s rfl) (.int (by decide))) rfl ?_
    refine .cons (.move .none (.s rfl)) rfl ?_
    refine .nil ?_
    exact Ends.againL (some_eq h) (.k 20 rfl (.k 9 rfl (.k 2 rfl (.k 7 rfl (.k 8 rfl (.k 18 rfl (.k 19 rfl .nil))))))) SubB.nil
  ·
   replace h := bif_f h hb5
   refine .exit ?_
   refine .thenExit ?_
   refine .thenExit ?_
   refine .blkExit ?_
   replace h := hD4 _ (some_eq h)
   exact Ends.join _ (some_eq h) (.k 9 rfl .nil) SubB.nil
 ·
  subst hj3; have h := hK3; clear hK3
  refine .seq (.region [] mixed (by kernel_rfl) ?_)
  refine .cons (.move .none (.s rfl)) rfl ?_
  refine .cons (.assign .none (.s rfl)) rfl ?_
  refine .nil (.then ?_)
  refine .ret ?_
  obtain rfl := some_eq h
  exact Ends.ret1 (.inl rfl) Try.results81 (ResOK.tmp rfl trivial Imp.refl)

theorem layer_all_ok {rows1 : (List (List Int))} {l1 : (List Link)} {r : Int}  (h : layer_all rows1 l1 = some r) : FSpec Try.prog 98 [rep rows1, rep l1] (rep r) := by
 unfold layer_all at h
 refine FSpec.intro (n := 45) fnok98 Try.func98 rfl Try.ntmps98 rfl (fun F => ?_)
 refine .seq (.region [] mixed (by kernel_rfl) ?_)
 refine .cons (.assign .none (.int (by decide))) rfl ?_
 refine .nil (.then ?_)
 refine .seq (.region [] mixed (by kernel_rfl) ?_)
 refine .cons (.assign .none (.int (by decide))) rfl ?_
 refine .nil (.then ?_)
 refine .seq ?_
 refine .seq (.region [] mixed (by kernel_rfl) ?_)
 refine .cons (.assign .none (.int (by decide))) rfl ?_
 refine .nil (.then ?_)
 obtain ⟨j_1, h, hK1⟩ := bind_some h
 refine .thenJ (ι := Int) (fun j_1 => [(5, ⟨True, rep j_1⟩)]) (fun j_1 => []) (fun s => j_1 = s) Sub.nil SubB.nil ?_ (fun j_1' hj1 => ?_)
 ·
  skip
  refine .block ?_
  refine .loopL h (fun s2_ => [(5, ⟨True, rep s2_.1⟩), (6, ⟨True, rep s2_.2⟩)]) (fun s2_ => []) (.k 5 rfl (.k 6 rfl .nil)) SubB.nil (.k 0 rfl (.k 1 rfl .nil)) SubB.nil (fun s2_ o_2 h hD2 => ?_)
  unfold layer_all_L1 at h
  refine .seq ?_
  refine .seq (.region [] mixed (by kernel_rfl) ?_)
  refine .cons (.move .none (.s rfl)) rfl ?_
  refine .cons (.move .none (.s rfl)) rfl ?_
  refine .cons (.len .none sl22 (.s rfl)) rfl ?_
  refine .cons (.lt .none (.s rfl) (.s rfl)) rfl ?_
  refine .nil (.then ?_)
  refine .cond (t := 13) rfl trivial (fun hb3 => ?_) (fun hb3 => ?_)
  ·
   replace h := bif_t h hb3
   refine .skip ?_
   refine .then ?_
   refine .seq ?_
   refine .block ?_
   refine .seq (.region [([], []), ([], []), ([], []), ([], []), ([], []), ([], []), ([], []), ([], []), ([], []), ([], []), ([], []), ([], [7]), ([], [8]), ([7], [7]), ([8], [8])] mixed (by kernel_rfl) ?_)
   refine .consA (.move .none (.s rfl)) rfl ?_
   refine .consA (.move .none (.s rfl)) rfl ?_
   refine .consA (.subW .none (.s rfl) (.int (by decide))) rfl ?_
   obtain ⟨hn4, h⟩ := need_some h
   refine .consA (.indexAddr .none sl22 ty32 (.s rfl) (.s rfl) (fun _ => hn4)) rfl ?_
   refine .consA (.load .none ty32 (.s rfl)) rfl ?_
   obtain ⟨r1, hv5, h⟩ := bind_some h
   refine .consA (.call .none (layer_places_ok hv5) (.cons (.s rfl) .nil)) rfl ?_
   refine .consA (.move .none (.s rfl)) rfl ?_
   refine .consA (.move .none (.s rfl)) rfl ?_
   obtain ⟨hn6, h⟩ := need_some h
   refine .consA (.indexAddr .none sl22 ty32 (.s rfl) (.s rfl) (fun _ => hn6)) rfl ?_
   refine .consA (.load .none ty32 (.s rfl)) rfl ?_
   obtain ⟨r2, hv7, h⟩ := bind_some h
   refine .consA (.call .none (layer_places_ok hv7) (.cons (.s rfl) .nil)) rfl ?_
   refine .consW (.alloc zo88 rfl) rfl rfl ?_
   refine .consW (.alloc zo88 rfl) rfl rfl ?_
   refine .consN (.store ty88 rfl rfl (.s rfl)) rfl ?_
   refine .consN (.store ty88 rfl rfl (.s rfl)) rfl ?_
   refine .nil (.then ?_)
   refine .freeze (t := 7) rfl rfl (.k 8 rfl .nil) rfl ?_
   refine .freeze (t := 8) rfl rfl SubB.nil rfl ?_
   refine .seq (.region [([], []), ([], [28]), ([], []), ([28], [28]), ([], [])] mixed (by kernel_rfl) ?_)
   refine .consA (.move .none (.s rfl)) rfl ?_
   obtain ⟨r3, hv8, h⟩ := bind_some h
   refine .consW (.callO [] (slices_Clone_Link_ok hv8) (.cons (.s rfl) .nil) .nil rfl (by decide) (by decide) (by intro d h; cases h; decide)) rfl rfl ?_
   refine .consA (.makeFunc (ι := Link × Bool) (pre := fun i => (fun x0 => layer_all_1 x0 r1 r2) i.1 = some i.2) (Ss := fun i => [rep i.1]) (S := fun i => rep i.2) .none fnok115 (fun i h => layer_all_1_ok h) (.cons (.s rfl) (.cons (.s rfl) .nil))) rfl ?_
   obtain ⟨between1, hv9, h⟩ := bind_some h
   refine .consW (.tell (t := 28) rfl row_one rfl (by decide) (fun _ => StepOK.callO [28] ((slices_DeleteFunc_Link_ok hv9).frzO1) (.cons (.s rfl) (.cons (.s rfl) .nil)) (.cons (k := 28) rfl .nil) rfl (by decide) (by decide) (by intro d h; cases h; decide))) rfl rfl ?_
   refine .consA (.assign .none (.s rfl)) rfl ?_
   refine .nil (.then ?_)
   refine .region [] mixed (by kernel_rfl) ?_
   refine .cons (.move .none (.s rfl)) rfl ?_
   refine .cons (.move .none (.s rfl)) rfl ?_
   refine .cons (.move .none (.s rfl)) rfl ?_
   refine .cons (.subW .none (.s rfl) (.int (by decide))) rfl ?_
   obtain ⟨hn10, h⟩ := need_some h
   refine .cons (.indexAddr .none sl22 ty32 (.s rfl) (.s rfl) (fun _ => hn10)) rfl ?_
   refine .cons (.load .none ty32 (.s rfl)) rfl ?_
   refine .cons (.move .none (.s rfl)) rfl ?_
   refine .cons (.move .none (.s rfl)) rfl ?_
   obtain ⟨hn11, h⟩ := need_some h
   refine .cons (.indexAddr .none sl22 ty32 (.s rfl) (.s rfl) (fun _ => hn11)) rfl ?_
   refine .cons (.load .none ty32 (.s rfl)) rfl ?_
   refine .cons (.move .none (.s rfl)) rfl ?_
   obtain ⟨r4, hv12, h⟩ := bind_some h
   refine .cons (.call .none (layer_crossings_ok hv12) (.cons (.s rfl) (.cons (.s rfl) (.cons (.s rfl) .nil)))) rfl ?_
   refine .cons (.addW .none (.s rfl) (.s rfl)) rfl ?_
   obtain ⟨n1, hv13, h⟩ := bnd_some h
   refine .cons (.re hv13 (.assign .none (.s rfl))) rfl ?_
   refine .nil ?_
   refine .blkNormal ?_
   refine .then ?_
   refine .region [] mixed (by kernel_rfl) ?_
   refine .cons (.move .none (.s rfl)) rfl ?_
   refine .cons (.addW .none (.s rfl) (.int (by decide))) rfl ?_
   obtain ⟨i1, hv14, h⟩ := bnd_some h
   refine .cons (.re hv14 (.assign .none (.s rfl))) rfl ?_
   refine .nil ?_
   exact Ends.againL (some_eq h) (.k 5 rfl (.k 6 rfl (.k 0 rfl (.k 1 rfl .nil)))) SubB.nil
  ·
   replace h := bif_f h hb3
   refine .exit ?_
   refine .thenExit ?_
   refine .thenExit ?_
   refine .blkExit ?_
   replace h := hD2 _ (some_eq h)
   exact Ends.join _ (some_eq h) (.k 5 rfl .nil) SubB.nil
 ·
  subst hj1; have h := hK1; clear hK1
  refine .seq (.region [] mixed (by kernel_rfl) ?_)
  refine .cons (.move .none (.s rfl)) rfl ?_
  refine .cons (.assign .none (.s rfl)) rfl ?_
  refine .nil (.then ?_)
  refine .ret ?_
  obtain rfl := some_eq h
  exact Ends.ret1 (.inl rfl) Try.results98 (ResOK.tmp rfl trivial Imp.refl)

theorem slices_Clone_int_ok {s1 : (List Int)} {r : (List Int)}  (h : slices_Clone_int s1 = some r) : FSpecO Try.prog 27 [rep s1] [] (anyV) [some (rowV 3 r)] := by
 unfold slices_Clone_int at h
 refine FSpecO.intro (n := 8) fnok27 Try.func27 rfl Try.ntmps27 rfl (fun F => ?_)
 refine .seq (.region [] mixed (by kernel_rfl) ?_)
 refine .cons (.assign .none (.const (x := ([] : (List Int))) (fun M w => ⟨_, ⟨none, 0, rfl, Nat.le_refl _, by decide, rfl⟩, rfl⟩))) rfl ?_
 refine .nil (.then ?_)
 refine .seq ?_
 refine .seq (.region [] mixed (by kernel_rfl) ?_)
 refine .cons (.move .none (.s rfl)) rfl ?_
 refine .cons (.eqNil .none sl32 (.s rfl)) rfl ?_
 refine .nil (.then ?_)
 refine .condNil (t := 4) rfl trivial (fun hb1 => ?_) ?_
 ·
  replace h := nilc_t h hb1
  refine .seq (.region [([], [2])] mixed (by kernel_rfl) ?_)
  refine .consW (.nilRow (T := 3) (α := Int) rfl) rfl rfl ?_
  refine .nil (.then ?_)
  refine .nameRow (t := 2) (g := 5001) rfl rfl rfl (fun s5001 => ?_)
  refine .ret ?_
  refine .thenRet ?_
  refine .anon (t := 2) (g := 5001) rfl rfl trivial rfl ?_
  obtain rfl := some_eq h
  exact Ends.ret1O (.inl rfl) [2] Try.results27 (by decide) (.res rfl rfl) (ResOK.tmp rfl trivial (fun _ _ _ _ => trivial))
 ·
  replace h := nilc_f h
  refine .skip ?_
  refine .then ?_
  refine .seq (.region [([], [5]), ([], []), ([5], [7, 5]), ([7], [2, 7])] mixed (by kernel_rfl) ?_)
  refine .consW (.buildSliceO (xs := []) rfl sl32 ty3 hz3 .nil rfl (by decide)) rfl rfl ?_
  refine .consA (.move .none (.s rfl)) rfl ?_
  obtain ⟨hn2, h⟩ := need_some h
  refine .consW (.append (k := 5) rk32 rfl (.tmp rfl) (.s rfl) hn2) rfl rfl ?_
  refine .consW (.passRow rfl (.tmp rfl)) rfl rfl ?_
  refine .nil (.then ?_)
  obtain ⟨v1, hv3, h⟩ := bnd_some h
  refine .reB (t := 2) rfl (congrArg (rowV 3) hv3) ?_
  refine .nameRow (t := 2) (g := 5002) rfl rfl rfl (fun s5002 => ?_)
  refine .ret ?_
  refine .anon (t := 2) (g := 5002) rfl rfl trivial rfl ?_
  obtain rfl := some_eq h
  exact Ends.ret1O (.inl rfl) [2] Try.results27 (by decide) (.res rfl rfl) (ResOK.tmp rfl trivial (fun _ _ _ _ => trivial))

theorem slices_insertionSortCmpFunc_int_ok {data1 : (List Int)} {a1 : Int} {b1 : Int} {cmp1 : (Int → Int → Option Int)} {r : (List Int)} {s53 : Value} (h : slices_insertionSortCmpFunc_int data1 a1 b1 cmp1 = some r) : FSpecO Try.prog 140 [isV s53, rep a1, rep b1, fn2 Try.prog (rep (α := Int)) cmp1] [(s53, rowV 3 data1)] (anyV) [some (rowV 3 r)] := by
 unfold slices_insertionSortCmpFunc_int at h
 refine FSpecO.intro (n := 53) fnok140 Try.func140 rfl Try.ntmps140 rfl (fun F => ?_)
 refine .seq (.region [] mixed (by kernel_rfl) ?_)
 refine .cons (.move .none (.s rfl)) rfl ?_
 refine .cons (.addW .none (.s rfl) (.int (by decide))) rfl ?_
 obtain ⟨i1, hv1, h⟩ := bnd_some h
 refine .cons (.re hv1 (.assign .none (.s rfl))) rfl ?_
 refine .nil (.then ?_)
 refine .block ?_
 refine .loopL h (fun s2_ => [(8, ⟨True, rep s2_.1⟩)]) (fun s2_ => [(53, some (CPred.at s53 (rowV 3 s2_.2)))]) (.k 8 rfl .nil) (.k 53 rfl .nil) (.k 0 rfl (.k 1 rfl (.k 2 rfl (.k 3 rfl .nil)))) SubB.nil (fun s2_ o_2 h hD2 => ?_)
 unfold slices_insertionSortCmpFunc_int_L1 at h
 refine .seq ?_
 refine .seq (.region [] mixed (by kernel_rfl) ?_)
 refine .cons (.move .none (.s rfl)) rfl ?_
 refine .cons (.move .none (.s rfl)) rfl ?_
 refine .cons (.lt .none (.s rfl) (.s rfl)) rfl ?_
 refine .nil (.then ?_)
 refine .cond (t := 14) rfl trivial (fun hb3 => ?_) (fun hb3 => ?_)
 ·
  replace h := bif_t h hb3
  refine .skip ?_
  refine .then ?_
  refine .seq ?_
  obtain ⟨j_4, h, hK4⟩ := bind_some h
  refine .thenJ (ι := (List Int)) (fun j_4 => []) (fun j_4 => [(53, some (CPred.at s53 (rowV 3 j_4)))]) (fun s => j_4 = s) (.k 0 rfl (.k 1 rfl (.k 2 rfl (.k 3 rfl (.k 8 rfl .nil))))) SubB.nil ?_ (fun j_4' hj4 => ?_)
  ·
   skip
   refine .block ?_
   refine .seq (.region [] mixed (by kernel_rfl) ?_)
   refine .cons (.move .none (.s rfl)) rfl ?_
   refine .cons (.assign .none (.s rfl)) rfl ?_
   refine .nil (.then ?_)
   refine .block ?_
   refine .loopL h (fun s5_ => [(9, ⟨True, rep s5_.1⟩)]) (fun s5_ => [(53, some (CPred.at s53 (rowV 3 s5_.2)))]) (.k 9 rfl .nil) (.k 53 rfl .nil) (.k 0 rfl (.k 1 rfl (.k 2 rfl (.k 3 rfl (.k 8 rfl .nil))))) SubB.nil (fun s5_ o_5 h hD5 => ?_)
   unfold slices_insertionSortCmpFunc_int_L2 at h
   refine .seq ?_
   refine .seq (.region [([], []), ([], []), ([], []), ([], []), ([], []), ([], []), ([], []), ([53], []), ([53], []), ([], []), ([], []), ([], []), ([53], []), ([53], []), ([], []), ([], []), ([], [])] mixed (by kernel_rfl) ?_)
   refine .consA (.move .none (.s rfl)) rfl ?_
   refine .consA (.move .none (.s rfl)) rfl ?_
   refine .consA (.gt .none (.s rfl) (.s rfl)) rfl ?_
   refine .consA (.move .none (.s rfl)) rfl ?_
   refine .consA (.move (.at rfl rfl) (.s rfl)) rfl ?_
   refine .consA (.move (.at rfl rfl) (.s rfl)) rfl ?_
   refine .consA (.move (.at rfl rfl) (.s rfl)) rfl ?_
   obtain ⟨hn6, h⟩ := need_some h
   refine .consA (.indexAddrO (k := 53) (.at rfl rfl) sl32 ty3 (.tmp rfl id) rfl (.tmp rfl id) (fun hg => hn6 hg.2)) rfl ?_
   refine .consA (.loadElem0 (k := 53) (.at rfl rfl) ty3 (.tmp rfl id) rfl (fun hg => hn6 hg.2)) rfl ?_
   refine .consA (.move (.at rfl rfl) (.s rfl)) rfl ?_
   refine .consA (.move (.at rfl rfl) (.s rfl)) rfl ?_
   refine .consA (.subW (.at rfl rfl) (.tmp rfl id) (.int (by decide))) rfl ?_
   obtain ⟨hn7, h⟩ := need_some h
   refine .consA (.indexAddrO (k := 53) (.at rfl rfl) sl32 ty3 (.tmp rfl id) rfl (.tmp rfl id) (fun hg => hn7 hg.2)) rfl ?_
   refine .consA (.loadElem0 (k := 53) (.at rfl rfl) ty3 (.tmp rfl id) rfl (fun hg => hn7 hg.2)) rfl ?_
   obtain ⟨r1, hv8, h⟩ := bind_some h
   refine .consA (.callV (gx s5_.2 s5_.1, gx s5_.2 (W (s5_.1 - 1)), r1) (.at rfl rfl) (.tmp rfl id) (fun hg => gd_some hv8 (hg.2)) (.cons (.tmp rfl id) (.cons (.tmp rfl id) .nil))) rfl ?_
   refine .consA (.lt (.at rfl rfl) (.tmp rfl id) (.int (by decide))) rfl ?_
   refine .consA (.pickAnd .none (.s rfl) (.tmp rfl id)) rfl ?_
   refine .nil (.then ?_)
   refine .cond (t := 34) rfl trivial (fun hb9 => ?_) (fun hb9 => ?_)
   ·
    replace h := bif_t h hb9
    refine .skip ?_
    refine .then ?_
    refine .seq ?_
    refine .block ?_
    refine .region [([], []), ([], []), ([], []), ([], []), ([], []), ([], []), ([], []), ([], []), ([53], []), ([53], []), ([], []), ([], []), ([53], []), ([53], []), ([53], []), ([53], [53]), ([53], []), ([53], [53])] mixed (by kernel_rfl) ?_
    refine .consA (.move .none (.s rfl)) rfl ?_
    refine .consA (.move .none (.s rfl)) rfl ?_
    refine .consA (.move .none (.s rfl)) rfl ?_
    refine .consA (.move .none (.s rfl)) rfl ?_
    refine .consA (.subW .none (.s rfl) (.int (by decide))) rfl ?_
    refine .consA (.move .none (.s rfl)) rfl ?_
    refine .consA (.move .none (.s rfl)) rfl ?_
    refine .consA (.subW .none (.s rfl) (.int (by decide))) rfl ?_
    obtain ⟨hn10, h⟩ := need_some h
    refine .consA (.indexAddrO (k := 53) .none sl32 ty3 (.s rfl) rfl (.s rfl) (fun _ => hn10)) rfl ?_
    obtain ⟨v1, hv11, h⟩ := bnd_some h
    refine .consA (.re hv11 (.loadElem0 (k := 53) .none ty3 (.s rfl) rfl (fun _ => hn10))) rfl ?_
    refine .consA (.move .none (.s rfl)) rfl ?_
    refine .consA (.move .none (.s rfl)) rfl ?_
    obtain ⟨hn12, h⟩ := need_some h
    refine .consA (.indexAddrO (k := 53) .none sl32 ty3 (.s rfl) rfl (.s rfl) (fun _ => hn12)) rfl ?_
    obtain ⟨v2, hv13, h⟩ := bnd_some h
    refine .consA (.re hv13 (.loadElem0 (k := 53) .none ty3 (.s rfl) rfl (fun _ => hn12))) rfl ?_
    obtain ⟨hn14, h⟩ := need_some h
    refine .consA (.indexAddrO (k := 53) .none sl32 ty3 (.s rfl) rfl (.s rfl) (fun _ => hn14)) rfl ?_
    refine .consN (.storeElem0 (k := 53) ty3 (.s rfl) rfl (.s rfl) hn14) rfl ?_
    obtain ⟨hn15, h⟩ := need_some h
    refine .consA (.indexAddrO (k := 53) .none sl32 ty3 (.s rfl) rfl (.s rfl) (fun _ => hn15)) rfl ?_
    refine .consN (.storeElem0 (k := 53) ty3 (.s rfl) rfl (.s rfl) hn15) rfl ?_
    refine .nil ?_
    refine .blkNormal ?_
    refine .then ?_
    obtain ⟨data2, hv16, h⟩ := bnd_some h
    refine .reB (t := 53) rfl (congrArg (fun y => CPred.at s53 (rowV 3 y)) hv16) ?_
    refine .region [] mixed (by kernel_rfl) ?_
    refine .cons (.move .none (.s rfl)) rfl ?_
    refine .cons (.subW .none (.s rfl) (.int (by decide))) rfl ?_
    obtain ⟨j1, hv17, h⟩ := bnd_some h
    refine .cons (.re hv17 (.assign .none (.s rfl))) rfl ?_
    refine .nil ?_
    exact Ends.againL (some_eq h) (.k 9 rfl (.k 0 rfl (.k 1 rfl (.k 2 rfl (.k 3 rfl (.k 8 rfl .nil)))))) (.k 53 rfl .nil)
   ·
    replace h := bif_f h hb9
    refine .exit ?_
    refine .thenExit ?_
    refine .thenExit ?_
    refine .blkExit ?_
    refine .blkNormal ?_
    replace h := hD5 _ (some_eq h)
    exact Ends.join _ (some_eq h) (.k 0 rfl (.k 1 rfl (.k 2 rfl (.k 3 rfl (.k 8 rfl .nil))))) (.k 53 rfl .nil)
  ·
   subst hj4; have h := hK4; clear hK4
   refine .region [] mixed (by kernel_rfl) ?_
   refine .cons (.move .none (.s rfl)) rfl ?_
   refine .cons (.addW .none (.s rfl) (.int (by decide))) rfl ?_
   obtain ⟨i2, hv18, h⟩ := bnd_some h
   refine .cons (.re hv18 (.assign .none (.s rfl))) rfl ?_
   refine .nil ?_
   exact Ends.againL (some_eq h) (.k 8 rfl (.k 0 rfl (.k 1 rfl (.k 2 rfl (.k 3 rfl .nil))))) (.k 53 rfl .nil)
 ·
  replace h := bif_f h hb3
  refine .exit ?_
  refine .thenExit ?_
  refine .thenExit ?_
  refine .blkExit ?_
  replace h := hD2 _ (some_eq h)
  obtain rfl := some_eq h
  exact Ends.ret0O (.inr rfl) [53] Try.results140 (by decide) (.held rfl .nil) 

theorem slices_swapRangeCmpFunc_int_ok {data1 : (List Int)} {a1 : Int} {b1 : Int} {n1 : Int} {cmp1 : (Int → Int → Option Int)} {r : (List Int)} {s38 : Value} (h : slices_swapRangeCmpFunc_int data1 a1 b1 n1 cmp1 = some r) : FSpecO Try.prog 145 [isV s38, rep a1, rep b1, rep n1, fn2 Try.prog (rep (α := Int)) cmp1] [(s38, rowV 3 data1)] (anyV) [some (rowV 3 r)] := by
 unfold slices_swapRangeCmpFunc_int at h
 refine FSpecO.intro (n := 38) fnok145 Try.func145 rfl Try.ntmps145 rfl (fun F => ?_)
 refine .seq (.region [] mixed (by kernel_rfl) ?_)
 refine .cons (.assign .none (.int (by decide))) rfl ?_
 refine .nil (.then ?_)
 refine .block ?_
 refine .loopL h (fun s1_ => [(10, ⟨True, rep s1_.1⟩)]) (fun s1_ => [(38, some (CPred.at s38 (rowV 3 s1_.2)))]) (.k 10 rfl .nil) (.k 38 rfl .nil) (.k 0 rfl (.k 1 rfl (.k 2 rfl (.k 3 rfl .nil)))) SubB.nil (fun s1_ o_1 h hD1 => ?_)
 unfold slices_swapRangeCmpFunc_int_L1 at h
 refine .seq ?_
 refine .seq (.region [] mixed (by kernel_rfl) ?_)
 refine .cons (.move .none (.s rfl)) rfl ?_
 refine .cons (.move .none (.s rfl)) rfl ?_
 refine .cons (.lt .none (.s rfl) (.s rfl)) rfl ?_
 refine .nil (.then ?_)
 refine .cond (t := 13) rfl trivial (fun hb2 => ?_) (fun hb2 => ?_)
 ·
  replace h := bif_t h hb2
  refine .skip ?_
  refine .then ?_
  refine .seq ?_
  refine .block ?_
  refine .region [([], []), ([], []), ([], []), ([], []), ([], []), ([], []), ([], []), ([], []), ([], []), ([], []), ([], []), ([], []), ([38], []), ([38], []), ([], []), ([], []), ([], []), ([], []), ([38], []), ([38], []), ([38], []), ([38], [38]), ([38], []), ([38], [38])] mixed (by kernel_rfl) ?_
  refine .consA (.move .none (.s rfl)) rfl ?_
  refine .consA (.move .none (.s rfl)) rfl ?_
  refine .consA (.move .none (.s rfl)) rfl ?_
  refine .consA (.addW .none (.s rfl) (.s rfl)) rfl ?_
  refine .consA (.move .none (.s rfl)) rfl ?_
  refine .consA (.move .none (.s rfl)) rfl ?_
  refine .consA (.move .none (.s rfl)) rfl ?_
  refine .consA (.addW .none (.s rfl) (.s rfl)) rfl ?_
  refine .consA (.move .none (.s rfl)) rfl ?_
  refine .consA (.move .none (.s rfl)) rfl ?_
  refine .consA (.move .none (.s rfl)) rfl ?_
  refine .consA (.addW .none (.s rfl) (.s rfl)) rfl ?_
  obtain ⟨hn3, h⟩ := need_some h
  refine .consA (.indexAddrO (k := 38) .none sl32 ty3 (.s rfl) rfl (.s rfl) (fun _ => hn3)) rfl ?_
  obtain ⟨v1, hv4, h⟩ := bnd_some h
  refine .consA (.re hv4 (.loadElem0 (k := 38) .none ty3 (.s rfl) rfl (fun _ => hn3))) rfl ?_
  refine .consA (.move .none (.s rfl)) rfl ?_
  refine .consA (.move .none (.s rfl)) rfl ?_
  refine .consA (.move .none (.s rfl)) rfl ?_
  refine .consA (.addW .none (.s rfl) (.s rfl)) rfl ?_
  obtain ⟨hn5, h⟩ := need_some h
  refine .consA (.indexAddrO (k := 38) .none sl32 ty3 (.s rfl) rfl (.s rfl) (fun _ => hn5)) rfl ?_
  obtain ⟨v2, hv6, h⟩ := bnd_some h
  refine .consA (.re hv6 (.loadElem0 (k := 38) .none ty3 (.s rfl) rfl (fun _ => hn5))) rfl ?_
  obtain ⟨hn7, h⟩ := need_some h
  refine .consA (.indexAddrO (k := 38) .none sl32 ty3 (.s rfl) rfl (.s rfl) (fun _ => hn7)) rfl ?_
  refine .consN (.storeElem0 (k := 38) ty3 (.s rfl) rfl (.s rfl) hn7) rfl ?_
  obtain ⟨hn8, h⟩ := need_some h
  refine .consA (.indexAddrO (k := 38) .none sl32 ty3 (.s rfl) rfl (.s rfl) (fun _ => hn8)) rfl ?_
  refine .consN (.storeElem0 (k := 38) ty3 (.s rfl) rfl (.s rfl) hn8) rfl ?_
  refine .nil ?_
  refine .blkNormal ?_
  refine .then ?_
  obtain ⟨data2, hv9, h⟩ := bnd_some h
  refine .reB (t := 38) rfl (congrArg (fun y => CPred.at s38 (rowV 3 y)) hv9) ?_
  refine .region [] mixed (by kernel_rfl) ?_
  refine .cons (.move .none (.s rfl)) rfl ?_
  refine .cons (.addW .none (.s rfl) (.int (by decide))) rfl ?_
  obtain ⟨i1, hv10, h⟩ := bnd_some h
  refine .cons (.re hv10 (.assign .none (.s rfl))) rfl ?_
  refine .nil ?_
  exact Ends.againL (some_eq h) (.k 10 rfl (.k 0 rfl (.k 1 rfl (.k 2 rfl (.k 3 rfl .nil))))) (.k 38 rfl .nil)
 ·
  replace h := bif_f h hb2
  refine .exit ?_
  refine .thenExit ?_
  refine .thenExit ?_
  refine .blkExit ?_
  replace h := hD1 _ (some_eq h)
  obtain rfl := some_eq h
  exact Ends.ret0O (.inr rfl) [38] Try.results145 (by decide) (.held rfl .nil) 

theorem slices_rotateCmpFunc_int_ok {data1 : (List Int)} {a1 : Int} {m1 : Int} {b1 : Int} {cmp1 : (Int → Int → Option Int)} {r : (List Int)} {s58 : Value} (h : slices_rotateCmpFunc_int data1 a1 m1 b1 cmp1 = some r) : FSpecO Try.prog 144 [isV s58, rep a1, rep m1, rep b1, fn2 Try.prog (rep (α := Int)) cmp1] [(s58, rowV 3 data1)] (anyV) [some (rowV 3 r)] := by
 unfold slices_rotateCmpFunc_int at h
 refine FSpecO.intro (n := 58) fnok144 Try.func144 rfl Try.ntmps144 rfl (fun F => ?_)
 refine .seq (.region [] mixed (by kernel_rfl) ?_)
 refine .cons (.move .none (.s rfl)) rfl ?_
 refine .cons (.move .none (.s rfl)) rfl ?_
 refine .cons (.subW .none (.s rfl) (.s rfl)) rfl ?_
 obtain ⟨i1, hv1, h⟩ := bnd_some h
 refine .cons (.re hv1 (.assign .none (.s rfl))) rfl ?_
 refine .nil (.then ?_)
 refine .seq (.region [] mixed (by kernel_rfl) ?_)
 refine .cons (.move .none (.s rfl)) rfl ?_
 refine .cons (.move .none (.s rfl)) rfl ?_
 refine .cons (.subW .none (.s rfl) (.s rfl)) rfl ?_
 obtain ⟨j1, hv2, h⟩ := bnd_some h
 refine .cons (.re hv2 (.assign .none (.s rfl))) rfl ?_
 refine .nil (.then ?_)
 refine .seq ?_
 obtain ⟨j_3, h, hK3⟩ := bind_some h
 refine .thenJ (ι := (Int × (List Int))) (fun j_3 => [(10, ⟨True, rep j_3.1⟩)]) (fun j_3 => [(58, some (CPred.at s58 (rowV 3 j_3.2)))]) (fun s => j_3 = s) (.k 0 rfl (.k 2 rfl (.k 4 rfl .nil))) SubB.nil ?_ (fun j_3' hj3 => ?_)
 ·
  skip
  refine .block ?_
  refine .loopL h (fun s4_ => [(10, ⟨True, rep s4_.1⟩), (11, ⟨True, rep s4_.2.1⟩)]) (fun s4_ => [(58, some (CPred.at s58 (rowV 3 s4_.2.2)))]) (.k 10 rfl (.k 11 rfl .nil)) (.k 58 rfl .nil) (.k 0 rfl (.k 2 rfl (.k 4 rfl .nil))) SubB.nil (fun s4_ o_4 h hD4 => ?_)
  unfold slices_rotateCmpFunc_int_L1 at h
  refine .seq ?_
  refine .seq (.region [] mixed (by kernel_rfl) ?_)
  refine .cons (.move .none (.s rfl)) rfl ?_
  refine .cons (.move .none (.s rfl)) rfl ?_
  refine .cons (.neI .none (.s rfl) (.s rfl)) rfl ?_
  refine .nil (.then ?_)
  refine .cond (t := 20) rfl trivial (fun hb5 => ?_) (fun hb5 => ?_)
  ·
   replace h := bif_t h hb5
   refine .skip ?_
   refine .then ?_
   refine .block ?_
   refine .seq (.region [] mixed (by kernel_rfl) ?_)
   refine .cons (.move .none (.s rfl)) rfl ?_
   refine .cons (.move .none (.s rfl)) rfl ?_
   refine .cons (.gt .none (.s rfl) (.s rfl)) rfl ?_
   refine .nil (.then ?_)
   refine .cond (t := 23) rfl trivial (fun hb6 => ?_) (fun hb6 => ?_)
   ·
    replace h := bif_t h hb6
    refine .seq (.region [([], []), ([], []), ([], []), ([], []), ([], []), ([], []), ([], []), ([58], [58])] mixed (by kernel_rfl) ?_)
    refine .consA (.move .none (.s rfl)) rfl ?_
    refine .consA (.move .none (.s rfl)) rfl ?_
    refine .consA (.move .none (.s rfl)) rfl ?_
    refine .consA (.subW .none (.s rfl) (.s rfl)) rfl ?_
    refine .consA (.move .none (.s rfl)) rfl ?_
    refine .consA (.move .none (.s rfl)) rfl ?_
    refine .consA (.move .none (.s rfl)) rfl ?_
    obtain ⟨r1, hv7, h⟩ := bind_some h
    refine .consW (.callO [58] (slices_swapRangeCmpFunc_int_ok hv7) (.cons (.s rfl) (.cons (.s rfl) (.cons (.s rfl) (.cons (.s rfl) (.cons (.s rfl) .nil))))) (.cons (k := 58) rfl .nil) rfl (by decide) (by decide) (by intro d h; cases h; decide)) rfl rfl ?_
    refine .nil (.then ?_)
    refine .region [] mixed (by kernel_rfl) ?_
    refine .cons (.move .none (.s rfl)) rfl ?_
    refine .cons (.move .none (.s rfl)) rfl ?_
    refine .cons (.subW .none (.s rfl) (.s rfl)) rfl ?_
    obtain ⟨i2, hv8, h⟩ := bnd_some h
    refine .cons (.re hv8 (.assign .none (.s rfl))) rfl ?_
    refine .nil ?_
    refine .blkNormal ?_
    exact Ends.againL (some_eq h) (.k 10 rfl (.k 11 rfl (.k 0 rfl (.k 2 rfl (.k 4 rfl .nil))))) (.k 58 rfl .nil)
   ·
    replace h := bif_f h hb6
    refine .seq (.region [([], []), ([], []), ([], []), ([], []), ([], []), ([], []), ([], []), ([], []), ([], []), ([], []), ([], []), ([58], [58])] mixed (by kernel_rfl) ?_)
    refine .consA (.move .none (.s rfl)) rfl ?_
    refine .consA (.move .none (.s rfl)) rfl ?_
    refine .consA (.move .none (.s rfl)) rfl ?_
    refine .consA (.subW .none (.s rfl) (.s rfl)) rfl ?_
    refine .consA (.move .none (.s rfl)) rfl ?_
    refine .consA (.move .none (.s rfl)) rfl ?_
    refine .consA (.addW .none (.s rfl) (.s rfl)) rfl ?_
    refine .consA (.move .none (.s rfl)) rfl ?_
    refine .consA (.subW .none (.s rfl) (.s rfl)) rfl ?_
    refine .consA (.move .none (.s rfl)) rfl ?_
    refine .consA (.move .none (.s rfl)) rfl ?_
    obtain ⟨r2, hv9, h⟩ := bind_some h
    refine .consW (.callO [58] (slices_swapRangeCmpFunc_int_ok hv9) (.cons (.s rfl) (.cons (.s rfl) (.cons (.s rfl) (.cons (.s rfl) (.cons (.s rfl) .nil))))) (.cons (k := 58) rfl .nil) rfl (by decide) (by decide) (by intro d h; cases h; decide)) rfl rfl ?_
    refine .nil (.then ?_)
    refine .region [] mixed (by kernel_rfl) ?_
    refine .cons (.move .none (.s rfl)) rfl ?_
    refine .cons (.move .none (.s rfl)) rfl ?_
    refine .cons (.subW .none (.s rfl) (.s rfl)) rfl ?_
    obtain ⟨j2, hv10, h⟩ := bnd_some h
    refine .cons (.re hv10 (.assign .none (.s rfl))) rfl ?_
    refine .nil ?_
    refine .blkNormal ?_
    exact Ends.againL (some_eq h) (.k 10 rfl (.k 11 rfl (.k 0 rfl (.k 2 rfl (.k 4 rfl .nil))))) (.k 58 rfl .nil)
  ·
   replace h := bif_f h hb5
   refine .exit ?_
   refine .thenExit ?_
   refine .thenExit ?_
   refine .blkExit ?_
   replace h := hD4 _ (some_eq h)
   exact Ends.join _ (some_eq h) (.k 10 rfl (.k 0 rfl (.k 2 rfl (.k 4 rfl .nil)))) (.k 58 rfl .nil)
 ·
  subst hj3; have h := hK3; clear hK3
  refine .region [([], []), ([], []), ([], []), ([], []), ([], []), ([], []), ([], []), ([58], [58])] mixed (by kernel_rfl) ?_
  refine .consA (.move .none (.s rfl)) rfl ?_
  refine .consA (.move .none (.s rfl)) rfl ?_
  refine .consA (.move .none (.s rfl)) rfl ?_
  refine .consA (.subW .none (.s rfl) (.s rfl)) rfl ?_
  refine .consA (.move .none (.s rfl)) rfl ?_
  refine .consA (.move .none (.s rfl)) rfl ?_
  refine .consA (.move .none (.s rfl)) rfl ?_
  obtain ⟨r3, hv11, h⟩ := bind_some h
  refine .consW (.callO [58] (slices_swapRangeCmpFunc_int_ok hv11) (.cons (.s rfl) (.cons (.s rfl) (.cons (.s rfl) (.cons (.s rfl) (.cons (.s rfl) .nil))))) (.cons (k := 58) rfl .nil) rfl (by decide) (by decide) (by intro d h; cases h; decide)) rfl rfl ?_
  refine .nil ?_
  obtain rfl := some_eq h
  exact Ends.ret0O (.inr rfl) [58] Try.results144 (by decide) (.held rfl .nil) 

set_option maxHeartbeats 4000000 in
theorem slices_symMergeCmpFunc_int_okS {self : ((List Int) × Int × Int × Int × (Int → Int → Option Int)) → Option (List Int)} (hself : ∀ {s220 : Value} (x : ((List Int) × Int × Int × Int × (Int → Int → Option Int))) (r : (List Int)), self x = some r → FSpecO Try.prog 141 [isV s220, rep x.2.1, rep x.2.2.1, rep x.2.2.2.1, fn2 Try.prog (rep (α := Int)) x.2.2.2.2] [(s220, rowV 3 x.1)] (anyV) [some (rowV 3 r)]) {s220 : Value} {x : ((List Int) × Int × Int × Int × (Int → Int → Option Int))} {r : (List Int)} (h : slices_symMergeCmpFunc_int_body self x = some r) : FSpecO Try.prog 141 [isV s220, rep x.2.1, rep x.2.2.1, rep x.2.2.2.1, fn2 Try.prog (rep (α := Int)) x.2.2.2.2] [(s220, rowV 3 x.1)] (anyV) [some (rowV 3 r)] := by
 unfold slices_symMergeCmpFunc_int_body at h
 refine FSpecO.intro (n := 220) fnok141 Try.func141 rfl Try.ntmps141 rfl (fun F => ?_)
 refine .seq ?_
 refine .seq (.region [] mixed (by kernel_rfl) ?_)
 refine .cons (.move .none (.s rfl)) rfl ?_
 refine .cons (.move .none (.s rfl)) rfl ?_
 refine .cons (.subW .none (.s rfl) (.s rfl)) rfl ?_
 refine .cons (.eqI .none (.s rfl) (.int (by decide))) rfl ?_
 refine .nil (.then ?_)
 obtain ⟨o_1, h, hK1⟩ := bindR_some h
 refine .thenJ (ι := Unit) (fun j_1 => []) (fun j_1 => []) (fun s => o_1 = Res.nx s) (.k 0 rfl (.k 1 rfl (.k 2 rfl (.k 3 rfl (.k 4 rfl .nil))))) (.k 220 rfl .nil) ?_ (fun j_1 hj1 => ?_)
 ·
  skip
  refine .cond (t := 28) rfl trivial (fun hb2 => ?_) (fun hb2 => ?_)
  ·
   replace h := bif_t h hb2
   refine .seq (.region [] mixed (by kernel_rfl) ?_)
   refine .cons (.move .none (.s rfl)) rfl ?_
   refine .cons (.assign .none (.s rfl)) rfl ?_
   refine .nil (.then ?_)
   refine .seq (.region [] mixed (by kernel_rfl) ?_)
   refine .cons (.move .none (.s rfl)) rfl ?_
   refine .cons (.assign .none (.s rfl)) rfl ?_
   refine .nil (.then ?_)
   refine .seq ?_
   obtain ⟨j_3, h, hK3⟩ := bind_some h
   refine .thenJ (ι := Int) (fun j_3 => [(10, ⟨True, rep j_3⟩)]) (fun j_3 => []) (fun s => j_3 = s) (.k 0 rfl (.k 1 rfl .nil)) (.k 220 rfl .nil) ?_ (fun j_3' hj3 => ?_)
   ·
    skip
    refine .block ?_
    refine .loopL h (fun s4_ => [(10, ⟨True, rep s4_.1⟩), (11, ⟨True, rep s4_.2⟩)]) (fun s4_ => []) (.k 10 rfl (.k 11 rfl .nil)) SubB.nil (.k 0 rfl (.k 1 rfl (.k 4 rfl .nil))) (.k 220 rfl .nil) (fun s4_ o_4 h hD4 => ?_)
    unfold slices_symMergeCmpFunc_int_L1 at h
    refine .seq ?_
    refine .seq (.region [] mixed (by kernel_rfl) ?_)
    refine .cons (.move .none (.s rfl)) rfl ?_
    refine .cons (.move .none (.s rfl)) rfl ?_
    refine .cons (.lt .none (.s rfl) (.s rfl)) rfl ?_
    refine .nil (.then ?_)
    refine .cond (t := 33) rfl trivial (fun hb5 => ?_) (fun hb5 => ?_)
    ·
     replace h := bif_t h hb5
     refine .skip ?_
     refine .then ?_
     refine .block ?_
     refine .seq (.region [] mixed (by kernel_rfl) ?_)
     refine .cons (.move .none (.s rfl)) rfl ?_
     refine .cons (.move .none (.s rfl)) rfl ?_
     refine .cons (.addW .none (.s rfl) (.s rfl)) rfl ?_
     refine .cons (.toK .none (by kernel_rfl) Try.underlying69 (.s rfl)) rfl ?_
     refine .cons (.kshr .none (.s rfl) .ki (fun _ => by decide)) rfl ?_
     refine .cons (.toInt .none (by kernel_rfl) Try.underlying3 (.s rfl)) rfl ?_
     obtain ⟨h1, hv6, h⟩ := bnd_some h
     refine .cons (.re hv6 (.assign .none (.s rfl))) rfl ?_
     refine .nil (.then ?_)
     refine .seq (.region [([], []), ([], []), ([], []), ([220], []), ([220], []), ([], []), ([], []), ([220], []), ([220], []), ([], []), ([], [])] mixed (by kernel_rfl) ?_)
     refine .consA (.move .none (.s rfl)) rfl ?_
     refine .consA (.move .none (.s rfl)) rfl ?_
     refine .consA (.move .none (.s rfl)) rfl ?_
     obtain ⟨hn7, h⟩ := need_some h
     refine .consA (.indexAddrO (k := 220) .none sl32 ty3 (.s rfl) rfl (.s rfl) (fun _ => hn7)) rfl ?_
     refine .consA (.loadElem0 (k := 220) .none ty3 (.s rfl) rfl (fun _ => hn7)) rfl ?_
     refine .consA (.move .none (.s rfl)) rfl ?_
     refine .consA (.move .none (.s rfl)) rfl ?_
     obtain ⟨hn8, h⟩ := need_some h
     refine .consA (.indexAddrO (k := 220) .none sl32 ty3 (.s rfl) rfl (.s rfl) (fun _ => hn8)) rfl ?_
     refine .consA (.loadElem0 (k := 220) .none ty3 (.s rfl) rfl (fun _ => hn8)) rfl ?_
     obtain ⟨r1, hv9, h⟩ := bind_some h
     refine .consA (.callV (gx x.1 h1, gx x.1 x.2.1, r1) .none (.s rfl) (fun _ => hv9) (.cons (.s rfl) (.cons (.s rfl) .nil))) rfl ?_
     refine .consA (.lt .none (.s rfl) (.int (by decide))) rfl ?_
     refine .nil (.then ?_)
     refine .cond (t := 50) rfl trivial (fun hb10 => ?_) (fun hb10 => ?_)
     ·
      replace h := bif_t h hb10
      refine .region [] mixed (by kernel_rfl) ?_
      refine .cons (.move .none (.s rfl)) rfl ?_
      refine .cons (.addW .none (.s rfl) (.int (by decide))) rfl ?_
      obtain ⟨i1, hv11, h⟩ := bnd_some h
      refine .cons (.re hv11 (.assign .none (.s rfl))) rfl ?_
      refine .nil ?_
      refine .blkNormal ?_
      exact Ends.againL (some_eq h) (.k 10 rfl (.k 11 rfl (.k 0 rfl (.k 1 rfl (.k 4 rfl .nil))))) (.k 220 rfl .nil)
     ·
      replace h := bif_f h hb10
      refine .region [] mixed (by kernel_rfl) ?_
      refine .cons (.move .none (.s rfl)) rfl ?_
      refine .cons (.assign .none (.s rfl)) rfl ?_
      refine .nil ?_
      refine .blkNormal ?_
      exact Ends.againL (some_eq h) (.k 10 rfl (.k 11 rfl (.k 0 rfl (.k 1 rfl (.k 4 rfl .nil))))) (.k 220 rfl .nil)
    ·
     replace h := bif_f h hb5
     refine .exit ?_
     refine .thenExit ?_
     refine .thenExit ?_
     refine .blkExit ?_
     replace h := hD4 _ (some_eq h)
     exact Ends.join _ (some_eq h) (.k 10 rfl (.k 0 rfl (.k 1 rfl .nil))) (.k 220 rfl .nil)
   ·
    subst hj3; have h := hK3; clear hK3
    refine .seq ?_
    refine .seq (.region [] mixed (by kernel_rfl) ?_)
    refine .cons (.move .none (.s rfl)) rfl ?_
    refine .cons (.assign .none (.s rfl)) rfl ?_
    refine .nil (.then ?_)
    obtain ⟨j_12, h, hK12⟩ := bind_some h
    refine .thenJ (ι := (List Int)) (fun j_12 => []) (fun j_12 => [(220, some (CPred.at s220 (rowV 3 j_12)))]) (fun s => j_12 = s) Sub.nil SubB.nil ?_ (fun j_12' hj12 => ?_)
    ·
     skip
     refine .block ?_
     refine .loopL h (fun s13_ => [(13, ⟨True, rep s13_.1⟩)]) (fun s13_ => [(220, some (CPred.at s220 (rowV 3 s13_.2)))]) (.k 13 rfl .nil) (.k 220 rfl .nil) (.k 0 rfl (.k 10 rfl .nil)) SubB.nil (fun s13_ o_13 h hD13 => ?_)
     unfold slices_symMergeCmpFunc_int_L2 at h
     refine .seq ?_
     refine .seq (.region [] mixed (by kernel_rfl) ?_)
     refine .cons (.move .none (.s rfl)) rfl ?_
     refine .cons (.move .none (.s rfl)) rfl ?_
     refine .cons (.subW .none (.s rfl) (.int (by decide))) rfl ?_
     refine .cons (.lt .none (.s rfl) (.s rfl)) rfl ?_
     refine .nil (.then ?_)
     refine .cond (t := 58) rfl trivial (fun hb14 => ?_) (fun hb14 => ?_)
     ·
      replace h := bif_t h hb14
      refine .skip ?_
      refine .then ?_
      refine .seq ?_
      refine .block ?_
      refine .region [([], []), ([], []), ([], []), ([], []), ([], []), ([], []), ([], []), ([], []), ([220], []), ([220], []), ([], []), ([], []), ([220], []), ([220], []), ([220], []), ([220], [220]), ([220], []), ([220], [220])] mixed (by kernel_rfl) ?_
      refine .consA (.move .none (.s rfl)) rfl ?_
      refine .consA (.move .none (.s rfl)) rfl ?_
      refine .consA (.move .none (.s rfl)) rfl ?_
      refine .consA (.move .none (.s rfl)) rfl ?_
      refine .consA (.addW .none (.s rfl) (.int (by decide))) rfl ?_
      refine .consA (.move .none (.s rfl)) rfl ?_
      refine .consA (.move .none (.s rfl)) rfl ?_
      refine .consA (.addW .none (.s rfl) (.int (by decide))) rfl ?_
      obtain ⟨hn15, h⟩ := need_some h
      refine .consA (.indexAddrO (k := 220) .none sl32 ty3 (.s rfl) rfl (.s rfl) (fun _ => hn15)) rfl ?_
      obtain ⟨v1, hv16, h⟩ := bnd_some h
      refine .consA (.re hv16 (.loadElem0 (k := 220) .none ty3 (.s rfl) rfl (fun _ => hn15))) rfl ?_
      refine .consA (.move .none (.s rfl)) rfl ?_
      refine .consA (.move .none (.s rfl)) rfl ?_
      obtain ⟨hn17, h⟩ := need_some h
      refine .consA (.indexAddrO (k := 220) .none sl32 ty3 (.s rfl) rfl (.s rfl) (fun _ => hn17)) rfl ?_
      obtain ⟨v2, hv18, h⟩ := bnd_some h
      refine .consA (.re hv18 (.loadElem0 (k := 220) .none ty3 (.s rfl) rfl (fun _ => hn17))) rfl ?_
      obtain ⟨hn19, h⟩ := need_some h
      refine .consA (.indexAddrO (k := 220) .none sl32 ty3 (.s rfl) rfl (.s rfl) (fun _ => hn19)) rfl ?_
      refine .consN (.storeElem0 (k := 220) ty3 (.s rfl) rfl (.s rfl) hn19) rfl ?_
      obtain ⟨hn20, h⟩ := need_some h
      refine .consA (.indexAddrO (k := 220) .none sl32 ty3 (.s rfl) rfl (.s rfl) (fun _ => hn20)) rfl ?_
      refine .consN (.storeElem0 (k := 220) ty3 (.s rfl) rfl (.s rfl) hn20) rfl ?_
      refine .nil ?_
      refine .blkNormal ?_
      refine .then ?_
      obtain ⟨data2, hv21, h⟩ := bnd_some h
      refine .reB (t := 220) rfl (congrArg (fun y => CPred.at s220 (rowV 3 y)) hv21) ?_
      refine .region [] mixed (by kernel_rfl) ?_
      refine .cons (.move .none (.s rfl)) rfl ?_
      refine .cons (.addW .none (.s rfl) (.int (by decide))) rfl ?_
      obtain ⟨k1, hv22, h⟩ := bnd_some h
      refine .cons (.re hv22 (.assign .none (.s rfl))) rfl ?_
      refine .nil ?_
      exact Ends.againL (some_eq h) (.k 13 rfl (.k 0 rfl (.k 10 rfl .nil))) (.k 220 rfl .nil)
     ·
      replace h := bif_f h hb14
      refine .exit ?_
      refine .thenExit ?_
      refine .thenExit ?_
      refine .blkExit ?_
      replace h := hD13 _ (some_eq h)
      exact Ends.join _ (some_eq h) Sub.nil (.k 220 rfl .nil)
    ·
     subst hj12; have h := hK12; clear hK12
     refine .ret ?_
     refine .thenRet ?_
     replace h := resb_ab hK1 (some_eq h)
     obtain rfl := some_eq h
     exact Ends.ret0O (.inl rfl) [220] Try.results141 (by decide) (.held rfl .nil) 
  ·
   replace h := bif_f h hb2
   refine .skip ?_
   exact Ends.join _ (some_eq h) (.k 0 rfl (.k 1 rfl (.k 2 rfl (.k 3 rfl (.k 4 rfl .nil))))) (.k 220 rfl .nil)
 ·
  have h := resb_nx hK1 hj1
  refine .seq ?_
  refine .seq (.region [] mixed (by kernel_rfl) ?_)
  refine .cons (.move .none (.s rfl)) rfl ?_
  refine .cons (.move .none (.s rfl)) rfl ?_
  refine .cons (.subW .none (.s rfl) (.s rfl)) rfl ?_
  refine .cons (.eqI .none (.s rfl) (.int (by decide))) rfl ?_
  refine .nil (.then ?_)
  obtain ⟨o_23, h, hK23⟩ := bindR_some h
  refine .thenJ (ι := Unit) (fun j_23 => []) (fun j_23 => []) (fun s => o_23 = Res.nx s) (.k 0 rfl (.k 1 rfl (.k 2 rfl (.k 3 rfl (.k 4 rfl .nil))))) (.k 220 rfl .nil) ?_ (fun j_23 hj23 => ?_)
  ·
   skip
   refine .cond (t := 80) rfl trivial (fun hb24 => ?_) (fun hb24 => ?_)
   ·
    replace h := bif_t h hb24
    refine .seq (.region [] mixed (by kernel_rfl) ?_)
    refine .cons (.move .none (.s rfl)) rfl ?_
    refine .cons (.assign .none (.s rfl)) rfl ?_
    refine .nil (.then ?_)
    refine .seq (.region [] mixed (by kernel_rfl) ?_)
    refine .cons (.move .none (.s rfl)) rfl ?_
    refine .cons (.assign .none (.s rfl)) rfl ?_
    refine .nil (.then ?_)
    refine .seq ?_
    obtain ⟨j_25, h, hK25⟩ := bind_some h
    refine .thenJ (ι := Int) (fun j_25 => [(14, ⟨True, rep j_25⟩)]) (fun j_25 => []) (fun s => j_25 = s) (.k 0 rfl (.k 2 rfl .nil)) (.k 220 rfl .nil) ?_ (fun j_25' hj25 => ?_)
    ·
     skip
     refine .block ?_
     refine .loopL h (fun s26_ => [(14, ⟨True, rep s26_.1⟩), (15, ⟨True, rep s26_.2⟩)]) (fun s26_ => []) (.k 14 rfl (.k 15 rfl .nil)) SubB.nil (.k 0 rfl (.k 2 rfl (.k 4 rfl .nil))) (.k 220 rfl .nil) (fun s26_ o_26 h hD26 => ?_)
     unfold slices_symMergeCmpFunc_int_L3 at h
     refine .seq ?_
     refine .seq (.region [] mixed (by kernel_rfl) ?_)
     refine .cons (.move .none (.s rfl)) rfl ?_
     refine .cons (.move .none (.s rfl)) rfl ?_
     refine .cons (.lt .none (.s rfl) (.s rfl)) rfl ?_
     refine .nil (.then ?_)
     refine .cond (t := 85) rfl trivial (fun hb27 => ?_) (fun hb27 => ?_)
     ·
      replace h := bif_t h hb27
      refine .skip ?_
      refine .then ?_
      refine .block ?_
      refine .seq (.region [] mixed (by kernel_rfl) ?_)
      refine .cons (.move .none (.s rfl)) rfl ?_
      refine .cons (.move .none (.s rfl)) rfl ?_
      refine .cons (.addW .none (.s rfl) (.s rfl)) rfl ?_
      refine .cons (.toK .none (by kernel_rfl) Try.underlying69 (.s rfl)) rfl ?_
      refine .cons (.kshr .none (.s rfl) .ki (fun _ => by decide)) rfl ?_
      refine .cons (.toInt .none (by kernel_rfl) Try.underlying3 (.s rfl)) rfl ?_
      obtain ⟨h2, hv28, h⟩ := bnd_some h
      refine .cons (.re hv28 (.assign .none (.s rfl))) rfl ?_
      refine .nil (.then ?_)
      refine .seq (.region [([], []), ([], []), ([], []), ([220], []), ([220], []), ([], []), ([], []), ([220], []), ([220], []), ([], []), ([], []), ([], [])] mixed (by kernel_rfl) ?_)
      refine .consA (.move .none (.s rfl)) rfl ?_
      refine .consA (.move .none (.s rfl)) rfl ?_
      refine .consA (.move .none (.s rfl)) rfl ?_
      obtain ⟨hn29, h⟩ := need_some h
      refine .consA (.indexAddrO (k := 220) .none sl32 ty3 (.s rfl) rfl (.s rfl) (fun _ => hn29)) rfl ?_
      refine .consA (.loadElem0 (k := 220) .none ty3 (.s rfl) rfl (fun _ => hn29)) rfl ?_
      refine .consA (.move .none (.s rfl)) rfl ?_
      refine .consA (.move .none (.s rfl)) rfl ?_
      obtain ⟨hn30, h⟩ := need_some h
      refine .consA (.indexAddrO (k := 220) .none sl32 ty3 (.s rfl) rfl (.s rfl) (fun _ => hn30)) rfl ?_
      refine .consA (.loadElem0 (k := 220) .none ty3 (.s rfl) rfl (fun _ => hn30)) rfl ?_
      obtain ⟨r2, hv31, h⟩ := bind_some h
      refine .consA (.callV (gx x.1 x.2.2.1, gx x.1 h2, r2) .none (.s rfl) (fun _ => hv31) (.cons (.s rfl) (.cons (.s rfl) .nil))) rfl ?_
      refine .consA (.lt .none (.s rfl) (.int (by decide))) rfl ?_
      refine .consA (.not .none (.s rfl)) rfl ?_
      refine .nil (.then ?_)
      refine .cond (t := 103) rfl trivial (fun hb32 => ?_) (fun hb32 => ?_)
      ·
       replace h := bif_t h hb32
       refine .region [] mixed (by kernel_rfl) ?_
       refine .cons (.move .none (.s rfl)) rfl ?_
       refine .cons (.addW .none (.s rfl) (.int (by decide))) rfl ?_
       obtain ⟨i2, hv33, h⟩ := bnd_some h
       refine .cons (.re hv33 (.assign .none (.s rfl))) rfl ?_
       refine .nil ?_
       refine .blkNormal ?_
       exact Ends.againL (some_eq h) (.k 14 rfl (.k 15 rfl (.k 0 rfl (.k 2 rfl (.k 4 rfl .nil))))) (.k 220 rfl .nil)
      ·
       replace h := bif_f h hb32
       refine .region [] mixed (by kernel_rfl) ?_
       refine .cons (.move .none (.s rfl)) rfl ?_
       refine .cons (.assign .none (.s rfl)) rfl ?_
       refine .nil ?_
       refine .blkNormal ?_
       exact Ends.againL (some_eq h) (.k 14 rfl (.k 15 rfl (.k 0 rfl (.k 2 rfl (.k 4 rfl .nil))))) (.k 220 rfl .nil)
     ·
      replace h := bif_f h hb27
      refine .exit ?_
      refine .thenExit ?_
      refine .thenExit ?_
      refine .blkExit ?_
      replace h := hD26 _ (some_eq h)
      exact Ends.join _ (some_eq h) (.k 14 rfl (.k 0 rfl (.k 2 rfl .nil))) (.k 220 rfl .nil)
    ·
     subst hj25; have h := hK25; clear hK25
     refine .seq ?_
     refine .seq (.region [] mixed (by kernel_rfl) ?_)
     refine .cons (.move .none (.s rfl)) rfl ?_
     refine .cons (.assign .none (.s rfl)) rfl ?_
     refine .nil (.then ?_)
     obtain ⟨j_34, h, hK34⟩ := bind_some h
     refine .thenJ (ι := (List Int)) (fun j_34 => []) (fun j_34 => [(220, some (CPred.at s220 (rowV 3 j_34)))]) (fun s => j_34 = s) Sub.nil SubB.nil ?_ (fun j_34' hj34 => ?_)
     ·
      skip
      refine .block ?_
      refine .loopL h (fun s35_ => [(17, ⟨True, rep s35_.1⟩)]) (fun s35_ => [(220, some (CPred.at s220 (rowV 3 s35_.2)))]) (.k 17 rfl .nil) (.k 220 rfl .nil) (.k 0 rfl (.k 14 rfl .nil)) SubB.nil (fun s35_ o_35 h hD35 => ?_)
      unfold slices_symMergeCmpFunc_int_L4 at h
      refine .seq ?_
      refine .seq (.region [] mixed (by kernel_rfl) ?_)
      refine .cons (.move .none (.s rfl)) rfl ?_
      refine .cons (.move .none (.s rfl)) rfl ?_
      refine .cons (.gt .none (.s rfl) (.s rfl)) rfl ?_
      refine .nil (.then ?_)
      refine .cond (t := 110) rfl trivial (fun hb36 => ?_) (fun hb36 => ?_)
      ·
       replace h := bif_t h hb36
       refine .skip ?_
       refine .then ?_
       refine .seq ?_
       refine .block ?_
       refine .region [([], []), ([], []), ([], []), ([], []), ([], []), ([], []), ([], []), ([], []), ([220], []), ([220], []), ([], []), ([], []), ([220], []), ([220], []), ([220], []), ([220], [220]), ([220], []), ([220], [220])] mixed (by kernel_rfl) ?_
       refine .consA (.move .none (.s rfl)) rfl ?_
       refine .consA (.move .none (.s rfl)) rfl ?_
       refine .consA (.move .none (.s rfl)) rfl ?_
       refine .consA (.move .none (.s rfl)) rfl ?_
       refine .consA (.subW .none (.s rfl) (.int (by decide))) rfl ?_
       refine .consA (.move .none (.s rfl)) rfl ?_
       refine .consA (.move .none (.s rfl)) rfl ?_
       refine .consA (.subW .none (.s rfl) (.int (by decide))) rfl ?_
       obtain ⟨hn37, h⟩ := need_some h
       refine .consA (.indexAddrO (k := 220) .none sl32 ty3 (.s rfl) rfl (.s rfl) (fun _ => hn37)) rfl ?_
       obtain ⟨v3, hv38, h⟩ := bnd_some h
       refine .consA (.re hv38 (.loadElem0 (k := 220) .none ty3 (.s rfl) rfl (fun _ => hn37))) rfl ?_
       refine .consA (.move .none (.s rfl)) rfl ?_
       refine .consA (.move .none (.s rfl)) rfl ?_
       obtain ⟨hn39, h⟩ := need_some h
       refine .consA (.indexAddrO (k := 220) .none sl32 ty3 (.s rfl) rfl (.s rfl) (fun _ => hn39)) rfl ?_
       obtain ⟨v4, hv40, h⟩ := bnd_some h
       refine .consA (.re hv40 (.loadElem0 (k := 220) .none ty3 (.s rfl) rfl (fun _ => hn39))) rfl ?_
       obtain ⟨hn41, h⟩ := need_some h
       refine .consA (.indexAddrO (k := 220) .none sl32 ty3 (.s rfl) rfl (.s rfl) (fun _ => hn41)) rfl ?_
       refine .consN (.storeElem0 (k := 220) ty3 (.s rfl) rfl (.s rfl) hn41) rfl ?_
       obtain ⟨hn42, h⟩ := need_some h
       refine .consA (.indexAddrO (k := 220) .none sl32 ty3 (.s rfl) rfl (.s rfl) (fun _ => hn42)) rfl ?_
       refine .consN (.storeElem0 (k := 220) ty3 (.s rfl) rfl (.s rfl) hn42) rfl ?_
       refine .nil ?_
       refine .blkNormal ?_
       refine .then ?_
       obtain ⟨data3, hv43, h⟩ := bnd_some h
       refine .reB (t := 220) rfl (congrArg (fun y => CPred.at s220 (rowV 3 y)) hv43) ?_
       refine .region [] mixed (by kernel_rfl) ?_
       refine .cons (.move .none (.s rfl)) rfl ?_
       refine .cons (.subW .none (.s rfl) (.int (by decide))) rfl ?_
       obtain ⟨k2, hv44, h⟩ := bnd_some h
       refine .cons (.re hv44 (.assign .none (.s rfl))) rfl ?_
       refine .nil ?_
       exact Ends.againL (some_eq h) (.k 17 rfl (.k 0 rfl (.k 14 rfl .nil))) (.k 220 rfl .nil)
      ·
       replace h := bif_f h hb36
       refine .exit ?_
       refine .thenExit ?_
       refine .thenExit ?_
       refine .blkExit ?_
       replace h := hD35 _ (some_eq h)
       exact Ends.join _ (some_eq h) Sub.nil (.k 220 rfl .nil)
     ·
      subst hj34; have h := hK34; clear hK34
      refine .ret ?_
      refine .thenRet ?_
      replace h := resb_ab hK23 (some_eq h)
      obtain rfl := some_eq h
      exact Ends.ret0O (.inl rfl) [220] Try.results141 (by decide) (.held rfl .nil) 
   ·
    replace h := bif_f h hb24
    refine .skip ?_
    exact Ends.join _ (some_eq h) (.k 0 rfl (.k 1 rfl (.k 2 rfl (.k 3 rfl (.k 4 rfl .nil))))) (.k 220 rfl .nil)
  ·
   have h := resb_nx hK23 hj23
   refine .seq (.region [] mixed (by kernel_rfl) ?_)
   refine .cons (.move .none (.s rfl)) rfl ?_
   refine .cons (.move .none (.s rfl)) rfl ?_
   refine .cons (.addW .none (.s rfl) (.s rfl)) rfl ?_
   refine .cons (.toK .none (by kernel_rfl) Try.underlying69 (.s rfl)) rfl ?_
   refine .cons (.kshr .none (.s rfl) .ki (fun _ => by decide)) rfl ?_
   refine .cons (.toInt .none (by kernel_rfl) Try.underlying3 (.s rfl)) rfl ?_
   obtain ⟨mid1, hv45, h⟩ := bnd_some h
   refine .cons (.re hv45 (.assign .none (.s rfl))) rfl ?_
   refine .nil (.then ?_)
   refine .seq (.region [] mixed (by kernel_rfl) ?_)
   refine .cons (.move .none (.s rfl)) rfl ?_
   refine .cons (.move .none (.s rfl)) rfl ?_
   refine .cons (.addW .none (.s rfl) (.s rfl)) rfl ?_
   obtain ⟨n1, hv46, h⟩ := bnd_some h
   refine .cons (.re hv46 (.assign .none (.s rfl))) rfl ?_
   refine .nil (.then ?_)
   refine .seq (.region [] mixed (by kernel_rfl) ?_)
   refine .cons (.assign .none (.int (by decide))) rfl ?_
   refine .cons (.assign .none (.int (by decide))) rfl ?_
   refine .nil (.then ?_)
   refine .seq ?_
   refine .seq (.region [] mixed (by kernel_rfl) ?_)
   refine .cons (.move .none (.s rfl)) rfl ?_
   refine .cons (.move .none (.s rfl)) rfl ?_
   refine .cons (.gt .none (.s rfl) (.s rfl)) rfl ?_
   refine .nil (.then ?_)
   obtain ⟨j_47, h, hK47⟩ := bind_some h
   refine .thenJ (ι := (Int × Int)) (fun j_47 => [(20, ⟨True, rep j_47.1⟩), (21, ⟨True, rep j_47.2⟩)]) (fun j_47 => []) (fun s => j_47 = s) (.k 0 rfl (.k 1 rfl (.k 2 rfl (.k 3 rfl (.k 4 rfl (.k 18 rfl (.k 19 rfl .nil))))))) (.k 220 rfl .nil) ?_ (fun j_47' hj47 => ?_)
   ·
    skip
    refine .cond (t := 140) rfl trivial (fun hb48 => ?_) (fun hb48 => ?_)
    ·
     replace h := bif_t h hb48
     refine .seq (.region [] mixed (by kernel_rfl) ?_)
     refine .cons (.move .none (.s rfl)) rfl ?_
     refine .cons (.move .none (.s rfl)) rfl ?_
     refine .cons (.subW .none (.s rfl) (.s rfl)) rfl ?_
     obtain ⟨start1, hv49, h⟩ := bnd_some h
     refine .cons (.re hv49 (.assign .none (.s rfl))) rfl ?_
     refine .nil (.then ?_)
     refine .region [] mixed (by kernel_rfl) ?_
     refine .cons (.move .none (.s rfl)) rfl ?_
     refine .cons (.assign .none (.s rfl)) rfl ?_
     refine .nil ?_
     exact Ends.join _ (some_eq h) (.k 20 rfl (.k 21 rfl (.k 0 rfl (.k 1 rfl (.k 2 rfl (.k 3 rfl (.k 4 rfl (.k 18 rfl (.k 19 rfl .nil))))))))) (.k 220 rfl .nil)
    ·
     replace h := bif_f h hb48
     refine .seq (.region [] mixed (by kernel_rfl) ?_)
     refine .cons (.move .none (.s rfl)) rfl ?_
     refine .cons (.assign .none (.s rfl)) rfl ?_
     refine .nil (.then ?_)
     refine .region [] mixed (by kernel_rfl) ?_
     refine .cons (.move .none (.s rfl)) rfl ?_
     refine .cons (.assign .none (.s rfl)) rfl ?_
     refine .nil ?_
     exact Ends.join _ (some_eq h) (.k 20 rfl (.k 21 rfl (.k 0 rfl (.k 1 rfl (.k 2 rfl (.k 3 rfl (.k 4 rfl (.k 18 rfl (.k 19 rfl .nil))))))))) (.k 220 rfl .nil)
   ·
    subst hj47; have h := hK47; clear hK47
    refine .seq (.region [] mixed (by kernel_rfl) ?_)
    refine .cons (.move .none (.s rfl)) rfl ?_
    refine .cons (.subW .none (.s rfl) (.int (by decide))) rfl ?_
    refine .cons (.assign .none (.s rfl)) rfl ?_
    refine .nil (.then ?_)
    refine .seq ?_
    obtain ⟨j_50, h, hK50⟩ := bind_some h
    refine .thenJ (ι := Int) (fun j_50 => [(20, ⟨True, rep j_50⟩)]) (fun j_50 => []) (fun s => j_50 = s) (.k 0 rfl (.k 1 rfl (.k 2 rfl (.k 3 rfl (.k 4 rfl (.k 18 rfl (.k 19 rfl .nil))))))) (.k 220 rfl .nil) ?_ (fun j_50' hj50 => ?_)
    ·
     skip
     refine .block ?_
     refine .loopL h (fun s51_ => [(20, ⟨True, rep s51_.1⟩), (21, ⟨True, rep s51_.2⟩)]) (fun s51_ => []) (.k 20 rfl (.k 21 rfl .nil)) SubB.nil (.k 0 rfl (.k 1 rfl (.k 2 rfl (.k 3 rfl (.k 4 rfl (.k 18 rfl (.k 19 rfl (.k 22 rfl .nil)))))))) (.k 220 rfl .nil) (fun s51_ o_51 h hD51 => ?_)
     unfold slices_symMergeCmpFunc_int_L5 at h
     refine .seq ?_
     refine .seq (.region [] mixed (by kernel_rfl) ?_)
     refine .cons (.move .none (.s rfl)) rfl ?_
     refine .cons (.move .none (.s rfl)) rfl ?_
     refine .cons (.lt .none (.s rfl) (.s rfl)) rfl ?_
     refine .nil (.then ?_)
     refine .cond (t := 151) rfl trivial (fun hb52 => ?_) (fun hb52 => ?_)
     ·
      replace h := bif_t h hb52
      refine .skip ?_
      refine .then ?_
      refine .block ?_
      refine .seq (.region [] mixed (by kernel_rfl) ?_)
      refine .cons (.move .none (.s rfl)) rfl ?_
      refine .cons (.move .none (.s rfl)) rfl ?_
      refine .cons (.addW .none (.s rfl) (.s rfl)) rfl ?_
      refine .cons (.toK .none (by kernel_rfl) Try.underlying69 (.s rfl)) rfl ?_
      refine .cons (.kshr .none (.s rfl) .ki (fun _ => by decide)) rfl ?_
      refine .cons (.toInt .none (by kernel_rfl) Try.underlying3 (.s rfl)) rfl ?_
      obtain ⟨c1, hv53, h⟩ := bnd_some h
      refine .cons (.re hv53 (.assign .none (.s rfl))) rfl ?_
      refine .nil (.then ?_)
      refine .seq (.region [([], []), ([], []), ([], []), ([], []), ([], []), ([220], []), ([220], []), ([], []), ([], []), ([220], []), ([220], []), ([], []), ([], []), ([], [])] mixed (by kernel_rfl) ?_)
      refine .consA (.move .none (.s rfl)) rfl ?_
      refine .consA (.move .none (.s rfl)) rfl ?_
      refine .consA (.move .none (.s rfl)) rfl ?_
      refine .consA (.move .none (.s rfl)) rfl ?_
      refine .consA (.subW .none (.s rfl) (.s rfl)) rfl ?_
      obtain ⟨hn54, h⟩ := need_some h
      refine .consA (.indexAddrO (k := 220) .none sl32 ty3 (.s rfl) rfl (.s rfl) (fun _ => hn54)) rfl ?_
      refine .consA (.loadElem0 (k := 220) .none ty3 (.s rfl) rfl (fun _ => hn54)) rfl ?_
      refine .consA (.move .none (.s rfl)) rfl ?_
      refine .consA (.move .none (.s rfl)) rfl ?_
      obtain ⟨hn55, h⟩ := need_some h
      refine .consA (.indexAddrO (k := 220) .none sl32 ty3 (.s rfl) rfl (.s rfl) (fun _ => hn55)) rfl ?_
      refine .consA (.loadElem0 (k := 220) .none ty3 (.s rfl) rfl (fun _ => hn55)) rfl ?_
      obtain ⟨r3, hv56, h⟩ := bind_some h
      refine .consA (.callV (gx x.1 (W ((W (n1 - 1)) - c1)), gx x.1 c1, r3) .none (.s rfl) (fun _ => hv56) (.cons (.s rfl) (.cons (.s rfl) .nil))) rfl ?_
      refine .consA (.lt .none (.s rfl) (.int (by decide))) rfl ?_
      refine .consA (.not .none (.s rfl)) rfl ?_
      refine .nil (.then ?_)
      refine .cond (t := 171) rfl trivial (fun hb57 => ?_) (fun hb57 => ?_)
      ·
       replace h := bif_t h hb57
       refine .region [] mixed (by kernel_rfl) ?_
       refine .cons (.move .none (.s rfl)) rfl ?_
       refine .cons (.addW .none (.s rfl) (.int (by decide))) rfl ?_
       obtain ⟨start2, hv58, h⟩ := bnd_some h
       refine .cons (.re hv58 (.assign .none (.s rfl))) rfl ?_
       refine .nil ?_
       refine .blkNormal ?_
       exact Ends.againL (some_eq h) (.k 20 rfl (.k 21 rfl (.k 0 rfl (.k 1 rfl (.k 2 rfl (.k 3 rfl (.k 4 rfl (.k 18 rfl (.k 19 rfl (.k 22 rfl .nil)))))))))) (.k 220 rfl .nil)
      ·
       replace h := bif_f h hb57
       refine .region [] mixed (by kernel_rfl) ?_
       refine .cons (.move .none (.s rfl)) rfl ?_
       refine .cons (.assign .none (.s rfl)) rfl ?_
       refine .nil ?_
       refine .blkNormal ?_
       exact Ends.againL (some_eq h) (.k 20 rfl (.k 21 rfl (.k 0 rfl (.k 1 rfl (.k 2 rfl (.k 3 rfl (.k 4 rfl (.k 18 rfl (.k 19 rfl (.k 22 rfl .nil)))))))))) (.k 220 rfl .nil)
     ·
      replace h := bif_f h hb52
      refine .exit ?_
      refine .thenExit ?_
      refine .thenExit ?_
      refine .blkExit ?_
      replace h := hD51 _ (some_eq h)
      exact Ends.join _ (some_eq h) (.k 20 rfl (.k 0 rfl (.k 1 rfl (.k 2 rfl (.k 3 rfl (.k 4 rfl (.k 18 rfl (.k 19 rfl .nil)))))))) (.k 220 rfl .nil)
    ·
     subst hj50; have h := hK50; clear hK50
     refine .seq (.region [] mixed (by kernel_rfl) ?_)
     refine .cons (.move .none (.s rfl)) rfl ?_
     refine .cons (.move .none (.s rfl)) rfl ?_
     refine .cons (.subW .none (.s rfl) (.s rfl)) rfl ?_
     obtain ⟨end1, hv59, h⟩ := bnd_some h
     refine .cons (.re hv59 (.assign .none (.s rfl))) rfl ?_
     refine .nil (.then ?_)
     refine .seq ?_
     refine .seq (.region [] mixed (by kernel_rfl) ?_)
     refine .cons (.move .none (.s rfl)) rfl ?_
     refine .cons (.move .none (.s rfl)) rfl ?_
     refine .cons (.lt .none (.s rfl) (.s rfl)) rfl ?_
     refine .cons (.move .none (.s rfl)) rfl ?_
     refine .cons (.move (.at rfl rfl) (.s rfl)) rfl ?_
     refine .cons (.move (.at rfl rfl) (.s rfl)) rfl ?_
     refine .cons (.lt (.at rfl rfl) (.tmp rfl id) (.tmp rfl id)) rfl ?_
     refine .cons (.pickAnd .none (.s rfl) (.tmp rfl id)) rfl ?_
     refine .nil (.then ?_)
     obtain ⟨j_60, h, hK60⟩ := bind_some h
     refine .thenJ (ι := (List Int)) (fun j_60 => []) (fun j_60 => [(220, some (CPred.at s220 (rowV 3 j_60)))]) (fun s => j_60 = s) (.k 0 rfl (.k 1 rfl (.k 3 rfl (.k 4 rfl (.k 18 rfl (.k 20 rfl (.k 24 rfl .nil))))))) SubB.nil ?_ (fun j_60' hj60 => ?_)
     ·
      skip
      refine .cond (t := 185) rfl trivial (fun hb61 => ?_) (fun hb61 => ?_)
      ·
       replace h := bif_t h hb61
       refine .region [([], []), ([], []), ([], []), ([], []), ([], []), ([220], [220])] mixed (by kernel_rfl) ?_
       refine .consA (.move .none (.s rfl)) rfl ?_
       refine .consA (.move .none (.s rfl)) rfl ?_
       refine .consA (.move .none (.s rfl)) rfl ?_
       refine .consA (.move .none (.s rfl)) rfl ?_
       refine .consA (.move .none (.s rfl)) rfl ?_
       obtain ⟨r4, hv62, h⟩ := bind_some h
       refine .consW (.callO [220] (slices_rotateCmpFunc_int_ok hv62) (.cons (.s rfl) (.cons (.s rfl) (.cons (.s rfl) (.cons (.s rfl) (.cons (.s rfl) .nil))))) (.cons (k := 220) rfl .nil) rfl (by decide) (by decide) (by intro d h; cases h; decide)) rfl rfl ?_
       refine .nil ?_
       exact Ends.join _ (some_eq h) (.k 0 rfl (.k 1 rfl (.k 3 rfl (.k 4 rfl (.k 18 rfl (.k 20 rfl (.k 24 rfl .nil))))))) (.k 220 rfl .nil)
      ·
       replace h := bif_f h hb61
       refine .skip ?_
       exact Ends.join _ (some_eq h) (.k 0 rfl (.k 1 rfl (.k 3 rfl (.k 4 rfl (.k 18 rfl (.k 20 rfl (.k 24 rfl .nil))))))) (.k 220 rfl .nil)
     ·
      subst hj60; have h := hK60; clear hK60
      refine .seq ?_
      refine .seq (.region [] mixed (by kernel_rfl) ?_)
      refine .cons (.move .none (.s rfl)) rfl ?_
      refine .cons (.move .none (.s rfl)) rfl ?_
      refine .cons (.lt .none (.s rfl) (.s rfl)) rfl ?_
      refine .cons (.move .none (.s rfl)) rfl ?_
      refine .cons (.move (.at rfl rfl) (.s rfl)) rfl ?_
      refine .cons (.move (.at rfl rfl) (.s rfl)) rfl ?_
      refine .cons (.lt (.at rfl rfl) (.tmp rfl id) (.tmp rfl id)) rfl ?_
      refine .cons (.pickAnd .none (.s rfl) (.tmp rfl id)) rfl ?_
      refine .nil (.then ?_)
      obtain ⟨j_63, h, hK63⟩ := bind_some h
      refine .thenJ (ι := (List Int)) (fun j_63 => []) (fun j_63 => [(220, some (CPred.at s220 (rowV 3 j_63)))]) (fun s => j_63 = s) (.k 0 rfl (.k 3 rfl (.k 4 rfl (.k 18 rfl (.k 24 rfl .nil))))) SubB.nil ?_ (fun j_63' hj63 => ?_)
      ·
       skip
       refine .cond (t := 199) rfl trivial (fun hb64 => ?_) (fun hb64 => ?_)
       ·
        replace h := bif_t h hb64
        refine .region [([], []), ([], []), ([], []), ([], []), ([], []), ([220], [220])] mixed (by kernel_rfl) ?_
        refine .consA (.move .none (.s rfl)) rfl ?_
        refine .consA (.move .none (.s rfl)) rfl ?_
        refine .consA (.move .none (.s rfl)) rfl ?_
        refine .consA (.move .none (.s rfl)) rfl ?_
        refine .consA (.move .none (.s rfl)) rfl ?_
        obtain ⟨r5, hv65, h⟩ := bind_some h
        refine .consW (.callO [220] (hself _ _ hv65) (.cons (.s rfl) (.cons (.s rfl) (.cons (.s rfl) (.cons (.s rfl) (.cons (.s rfl) .nil))))) (.cons (k := 220) rfl .nil) rfl (by decide) (by decide) (by intro d h; cases h; decide)) rfl rfl ?_
        refine .nil ?_
        exact Ends.join _ (some_eq h) (.k 0 rfl (.k 3 rfl (.k 4 rfl (.k 18 rfl (.k 24 rfl .nil))))) (.k 220 rfl .nil)
       ·
        replace h := bif_f h hb64
        refine .skip ?_
        exact Ends.join _ (some_eq h) (.k 0 rfl (.k 3 rfl (.k 4 rfl (.k 18 rfl (.k 24 rfl .nil))))) (.k 220 rfl .nil)
      ·
       subst hj63; have h := hK63; clear hK63
       refine .seq (.region [] mixed (by kernel_rfl) ?_)
       refine .cons (.move .none (.s rfl)) rfl ?_
       refine .cons (.move .none (.s rfl)) rfl ?_
       refine .cons (.lt .none (.s rfl) (.s rfl)) rfl ?_
       refine .cons (.move .none (.s rfl)) rfl ?_
       refine .cons (.move (.at rfl rfl) (.s rfl)) rfl ?_
       refine .cons (.move (.at rfl rfl) (.s rfl)) rfl ?_
       refine .cons (.lt (.at rfl rfl) (.tmp rfl id) (.tmp rfl id)) rfl ?_
       refine .cons (.pickAnd .none (.s rfl) (.tmp rfl id)) rfl ?_
       refine .nil (.then ?_)
       refine .cond (t := 213) rfl trivial (fun hb66 => ?_) (fun hb66 => ?_)
       ·
        replace h := bif_t h hb66
        refine .region [([], []), ([], []), ([], []), ([], []), ([], []), ([220], [220])] mixed (by kernel_rfl) ?_
        refine .consA (.move .none (.s rfl)) rfl ?_
        refine .consA (.move .none (.s rfl)) rfl ?_
        refine .consA (.move .none (.s rfl)) rfl ?_
        refine .consA (.move .none (.s rfl)) rfl ?_
        refine .consA (.move .none (.s rfl)) rfl ?_
        obtain ⟨r6, hv67, h⟩ := bind_some h
        refine .consW (.callO [220] (hself _ _ hv67) (.cons (.s rfl) (.cons (.s rfl) (.cons (.s rfl) (.cons (.s rfl) (.cons (.s rfl) .nil))))) (.cons (k := 220) rfl .nil) rfl (by decide) (by decide) (by intro d h; cases h; decide)) rfl rfl ?_
        refine .nil ?_
        obtain rfl := some_eq h
        exact Ends.ret0O (.inr rfl) [220] Try.results141 (by decide) (.held rfl .nil) 
       ·
        replace h := bif_f h hb66
        refine .skip ?_
        obtain rfl := some_eq h
        exact Ends.ret0O (.inr rfl) [220] Try.results141 (by decide) (.held rfl .nil) 
theorem slices_symMergeCmpFunc_int_okN : ∀ (k : Nat) {s220 : Value} (x : ((List Int) × Int × Int × Int × (Int → Int → Option Int))) (r : (List Int)) (h : fixN slices_symMergeCmpFunc_int_body k x = some r), FSpecO Try.prog 141 [isV s220, rep x.2.1, rep x.2.2.1, rep x.2.2.2.1, fn2 Try.prog (rep (α := Int)) x.2.2.2.2] [(s220, rowV 3 x.1)] (anyV) [some (rowV 3 r)]
 | 0, _, x, r, h => by simp [fixN] at h
 | k + 1, _, x, r, h => slices_symMergeCmpFunc_int_okS (slices_symMergeCmpFunc_int_okN k) h
theorem slices_symMergeCmpFunc_int_ok {data1 : (List Int)} {a1 : Int} {m1 : Int} {b1 : Int} {cmp1 : (Int → Int → Option Int)} {r : (List Int)} {s220 : Value} (h : slices_symMergeCmpFunc_int data1 a1 m1 b1 cmp1 = some r) : FSpecO Try.prog 141 [isV s220, rep a1, rep m1, rep b1, fn2 Try.prog (rep (α := Int)) cmp1] [(s220, rowV 3 data1)] (anyV) [some (rowV 3 r)] :=
 let ⟨k, hk⟩ := fixp_some h
 slices_symMergeCmpFunc_int_okN k (data1, a1, m1, b1, cmp1) r hk

theorem slices_stableCmpFunc_int_ok {data1 : (List Int)} {n1 : Int} {cmp1 : (Int → Int → Option Int)} {r : (List Int)} {s63 : Value} (h : slices_stableCmpFunc_int data1 n1 cmp1 = some r) : FSpecO Try.prog 133 [isV s63, rep n1, fn2 Try.prog (rep (α := Int)) cmp1] [(s63, rowV 3 data1)] (anyV) [some (rowV 3 r)] := by
 unfold slices_stableCmpFunc_int at h
 refine FSpecO.intro (n := 63) fnok133 Try.func133 rfl Try.ntmps133 rfl (fun F => ?_)
 refine .seq (.region [] mixed (by kernel_rfl) ?_)
 refine .cons (.assign .none (.int (by decide))) rfl ?_
 refine .nil (.then ?_)
 refine .seq (.region [] mixed (by kernel_rfl) ?_)
 refine .cons (.move .none (.s rfl)) rfl ?_
 refine .cons (.assign .none (.int (by decide))) rfl ?_
 refine .cons (.assign .none (.s rfl)) rfl ?_
 refine .nil (.then ?_)
 refine .seq ?_
 obtain ⟨j_1, h, hK1⟩ := bind_some h
 refine .thenJ (ι := (Int × (List Int))) (fun j_1 => [(7, ⟨True, rep j_1.1⟩)]) (fun j_1 => [(63, some (CPred.at s63 (rowV 3 j_1.2)))]) (fun s => j_1 = s) (.k 0 rfl (.k 1 rfl (.k 2 rfl (.k 6 rfl .nil)))) SubB.nil ?_ (fun j_1' hj1 => ?_)
 ·
  skip
  refine .block ?_
  refine .loopL h (fun s2_ => [(7, ⟨True, rep s2_.1⟩), (8, ⟨True, rep s2_.2.1⟩)]) (fun s2_ => [(63, some (CPred.at s63 (rowV 3 s2_.2.2)))]) (.k 7 rfl (.k 8 rfl .nil)) (.k 63 rfl .nil) (.k 0 rfl (.k 1 rfl (.k 2 rfl (.k 6 rfl .nil)))) SubB.nil (fun s2_ o_2 h hD2 => ?_)
  unfold slices_stableCmpFunc_int_L1 at h
  refine .seq ?_
  refine .seq (.region [] mixed (by kernel_rfl) ?_)
  refine .cons (.move .none (.s rfl)) rfl ?_
  refine .cons (.move .none (.s rfl)) rfl ?_
  refine .cons (.le .none (.s rfl) (.s rfl)) rfl ?_
  refine .nil (.then ?_)
  refine .cond (t := 13) rfl trivial (fun hb3 => ?_) (fun hb3 => ?_)
  ·
   replace h := bif_t h hb3
   refine .skip ?_
   refine .then ?_
   refine .block ?_
   refine .seq (.region [([], []), ([], []), ([], []), ([], []), ([63], [63])] mixed (by kernel_rfl) ?_)
   refine .consA (.move .none (.s rfl)) rfl ?_
   refine .consA (.move .none (.s rfl)) rfl ?_
   refine .consA (.move .none (.s rfl)) rfl ?_
   refine .consA (.move .none (.s rfl)) rfl ?_
   obtain ⟨r1, hv4, h⟩ := bind_some h
   refine .consW (.callO [63] (slices_insertionSortCmpFunc_int_ok hv4) (.cons (.s rfl) (.cons (.s rfl) (.cons (.s rfl) (.cons (.s rfl) .nil)))) (.cons (k := 63) rfl .nil) rfl (by decide) (by decide) (by intro d h; cases h; decide)) rfl rfl ?_
   refine .nil (.then ?_)
   refine .seq (.region [] mixed (by kernel_rfl) ?_)
   refine .cons (.move .none (.s rfl)) rfl ?_
   refine .cons (.assign .none (.s rfl)) rfl ?_
   refine .nil (.then ?_)
   refine .region [] mixed (by kernel_rfl) ?_
   refine .cons (.move .none (.s rfl)) rfl ?_
   refine .cons (.move .none (.s rfl)) rfl ?_
   refine .cons (.addW .none (.s rfl) (.s rfl)) rfl ?_
   obtain ⟨b1, hv5, h⟩ := bnd_some h
   refine .cons (.re hv5 (.assign .none (.s rfl))) rfl ?_
   refine .nil ?_
   refine .blkNormal ?_
   exact Ends.againL (some_eq h) (.k 7 rfl (.k 8 rfl (.k 0 rfl (.k 1 rfl (.k 2 rfl (.k 6 rfl .nil)))))) (.k 63 rfl .nil)
  ·
   replace h := bif_f h hb3
   refine .exit ?_
   refine .thenExit ?_
   refine .thenExit ?_
   refine .blkExit ?_
   replace h := hD2 _ (some_eq h)
   exact Ends.join _ (some_eq h) (.k 7 rfl (.k 0 rfl (.k 1 rfl (.k 2 rfl (.k 6 rfl .nil))))) (.k 63 rfl .nil)
 ·
  subst hj1; have h := hK1; clear hK1
  refine .seq (.region [([], []), ([], []), ([], []), ([], []), ([63], [63])] mixed (by kernel_rfl) ?_)
  refine .consA (.move .none (.s rfl)) rfl ?_
  refine .consA (.move .none (.s rfl)) rfl ?_
  refine .consA (.move .none (.s rfl)) rfl ?_
  refine .consA (.move .none (.s rfl)) rfl ?_
  obtain ⟨r2, hv6, h⟩ := bind_some h
  refine .consW (.callO [63] (slices_insertionSortCmpFunc_int_ok hv6) (.cons (.s rfl) (.cons (.s rfl) (.cons (.s rfl) (.cons (.s rfl) .nil)))) (.cons (k := 63) rfl .nil) rfl (by decide) (by decide) (by intro d h; cases h; decide)) rfl rfl ?_
  refine .nil (.then ?_)
  refine .block ?_
  refine .loopL h (fun s7_ => [(6, ⟨True, rep s7_.1⟩)]) (fun s7_ => [(63, some (CPred.at s63 (rowV 3 s7_.2)))]) (.k 6 rfl .nil) (.k 63 rfl .nil) (.k 0 rfl (.k 1 rfl (.k 2 rfl .nil))) SubB.nil (fun s7_ o_7 h hD7 => ?_)
  unfold slices_stableCmpFunc_int_L2 at h
  refine .seq ?_
  refine .seq (.region [] mixed (by kernel_rfl) ?_)
  refine .cons (.move .none (.s rfl)) rfl ?_
  refine .cons (.move .none (.s rfl)) rfl ?_
  refine .cons (.lt .none (.s rfl) (.s rfl)) rfl ?_
  refine .nil (.then ?_)
  refine .cond (t := 30) rfl trivial (fun hb8 => ?_) (fun hb8 => ?_)
  ·
   replace h := bif_t h hb8
   refine .skip ?_
   refine .then ?_
   refine .block ?_
   refine .seq (.region [] mixed (by kernel_rfl) ?_)
   refine .cons (.move .none (.s rfl)) rfl ?_
   refine .cons (.mulW .none (.int (by decide)) (.s rfl)) rfl ?_
   refine .cons (.assign .none (.int (by decide))) rfl ?_
   obtain ⟨b2, hv9, h⟩ := bnd_some h
   refine .cons (.re hv9 (.assign .none (.s rfl))) rfl ?_
   refine .nil (.then ?_)
   refine .seq ?_
   obtain ⟨j_10, h, hK10⟩ := bind_some h
   refine .thenJ (ι := (Int × (List Int))) (fun j_10 => [(7, ⟨True, rep j_10.1⟩)]) (fun j_10 => [(63, some (CPred.at s63 (rowV 3 j_10.2)))]) (fun s => j_10 = s) (.k 0 rfl (.k 1 rfl (.k 2 rfl (.k 6 rfl .nil)))) SubB.nil ?_ (fun j_10' hj10 => ?_)
   ·
    skip
    refine .block ?_
    refine .loopL h (fun s11_ => [(7, ⟨True, rep s11_.1⟩), (8, ⟨True, rep s11_.2.1⟩)]) (fun s11_ => [(63, some (CPred.at s63 (rowV 3 s11_.2.2)))]) (.k 7 rfl (.k 8 rfl .nil)) (.k 63 rfl .nil) (.k 0 rfl (.k 1 rfl (.k 2 rfl (.k 6 rfl .nil)))) SubB.nil (fun s11_ o_11 h hD11 => ?_)
    unfold slices_stableCmpFunc_int_L3 at h
    refine .seq ?_
    refine .seq (.region [] mixed (by kernel_rfl) ?_)
    refine .cons (.move .none (.s rfl)) rfl ?_
    refine .cons (.move .none (.s rfl)) rfl ?_
    refine .cons (.le .none (.s rfl) (.s rfl)) rfl ?_
    refine .nil (.then ?_)
    refine .cond (t := 35) rfl trivial (fun hb12 => ?_) (fun hb12 => ?_)
    ·
     replace h := bif_t h hb12
     refine .skip ?_
     refine .then ?_
     refine .block ?_
     refine .seq (.region [([], []), ([], []), ([], []), ([], []), ([], []), ([], []), ([], []), ([63], [63])] mixed (by kernel_rfl) ?_)
     refine .consA (.move .none (.s rfl)) rfl ?_
     refine .consA (.move .none (.s rfl)) rfl ?_
     refine .consA (.move .none (.s rfl)) rfl ?_
     refine .consA (.move .none (.s rfl)) rfl ?_
     refine .consA (.addW .none (.s rfl) (.s rfl)) rfl ?_
     refine .consA (.move .none (.s rfl)) rfl ?_
     refine .consA (.move .none (.s rfl)) rfl ?_
     obtain ⟨r3, hv13, h⟩ := bind_some h
     refine .consW (.callO [63] (slices_symMergeCmpFunc_int_ok hv13) (.cons (.s rfl) (.cons (.s rfl) (.cons (.s rfl) (.cons (.s rfl) (.cons (.s rfl) .nil))))) (.cons (k := 63) rfl .nil) rfl (by decide) (by decide) (by intro d h; cases h; decide)) rfl rfl ?_
     refine .nil (.then ?_)
     refine .seq (.region [] mixed (by kernel_rfl) ?_)
     refine .cons (.move .none (.s rfl)) rfl ?_
     refine .cons (.assign .none (.s rfl)) rfl ?_
     refine .nil (.then ?_)
     refine .region [] mixed (by kernel_rfl) ?_
     refine .cons (.move .none (.s rfl)) rfl ?_
     refine .cons (.move .none (.s rfl)) rfl ?_
     refine .cons (.mulW .none (.int (by decide)) (.s rfl)) rfl ?_
     refine .cons (.addW .none (.s rfl) (.s rfl)) rfl ?_
     obtain ⟨b3, hv14, h⟩ := bnd_some h
     refine .cons (.re hv14 (.assign .none (.s rfl))) rfl ?_
     refine .nil ?_
     refine .blkNormal ?_
     exact Ends.againL (some_eq h) (.k 7 rfl (.k 8 rfl (.k 0 rfl (.k 1 rfl (.k 2 rfl (.k 6 rfl .nil)))))) (.k 63 rfl .nil)
    ·
     replace h := bif_f h hb12
     refine .exit ?_
     refine .thenExit ?_
     refine .thenExit ?_
     refine .blkExit ?_
     replace h := hD11 _ (some_eq h)
     exact Ends.join _ (some_eq h) (.k 7 rfl (.k 0 rfl (.k 1 rfl (.k 2 rfl (.k 6 rfl .nil))))) (.k 63 rfl .nil)
   ·
    subst hj10; have h := hK10; clear hK10
    refine .seq ?_
    refine .seq (.region [] mixed (by kernel_rfl) ?_)
    refine .cons (.move .none (.s rfl)) rfl ?_
    refine .cons (.move .none (.s rfl)) rfl ?_
    refine .cons (.addW .none (.s rfl) (.s rfl)) rfl ?_
    obtain ⟨m1, hv15, h⟩ := bnd_some h
    refine .cons (.re hv15 (.assign .none (.s rfl))) rfl ?_
    refine .nil (.then ?_)
    refine .seq (.region [] mixed (by kernel_rfl) ?_)
    refine .cons (.move .none (.s rfl)) rfl ?_
    refine .cons (.move .none (.s rfl)) rfl ?_
    refine .cons (.lt .none (.s rfl) (.s rfl)) rfl ?_
    refine .nil (.then ?_)
    obtain ⟨j_16, h, hK16⟩ := bind_some h
    refine .thenJ (ι := (List Int)) (fun j_16 => []) (fun j_16 => [(63, some (CPred.at s63 (rowV 3 j_16)))]) (fun s => j_16 = s) (.k 0 rfl (.k 1 rfl (.k 2 rfl (.k 6 rfl .nil)))) SubB.nil ?_ (fun j_16' hj16 => ?_)
    ·
     skip
     refine .cond (t := 54) rfl trivial (fun hb17 => ?_) (fun hb17 => ?_)
     ·
      replace h := bif_t h hb17
      refine .region [([], []), ([], []), ([], []), ([], []), ([], []), ([63], [63])] mixed (by kernel_rfl) ?_
      refine .consA (.move .none (.s rfl)) rfl ?_
      refine .consA (.move .none (.s rfl)) rfl ?_
      refine .consA (.move .none (.s rfl)) rfl ?_
      refine .consA (.move .none (.s rfl)) rfl ?_
      refine .consA (.move .none (.s rfl)) rfl ?_
      obtain ⟨r4, hv18, h⟩ := bind_some h
      refine .consW (.callO [63] (slices_symMergeCmpFunc_int_ok hv18) (.cons (.s rfl) (.cons (.s rfl) (.cons (.s rfl) (.cons (.s rfl) (.cons (.s rfl) .nil))))) (.cons (k := 63) rfl .nil) rfl (by decide) (by decide) (by intro d h; cases h; decide)) rfl rfl ?_
      refine .nil ?_
      exact Ends.join _ (some_eq h) (.k 0 rfl (.k 1 rfl (.k 2 rfl (.k 6 rfl .nil)))) (.k 63 rfl .nil)
     ·
      replace h := bif_f h hb17
      refine .skip ?_
      exact Ends.join _ (some_eq h) (.k 0 rfl (.k 1 rfl (.k 2 rfl (.k 6 rfl .nil)))) (.k 63 rfl .nil)
    ·
     subst hj16; have h := hK16; clear hK16
     refine .region [] mixed (by kernel_rfl) ?_
     refine .cons (.move .none (.s rfl)) rfl ?_
     refine .cons (.mulW .none (.s rfl) (.int (by decide))) rfl ?_
     obtain ⟨blockSize1, hv19, h⟩ := bnd_some h
     refine .cons (.re hv19 (.assign .none (.s rfl))) rfl ?_
     refine .nil ?_
     refine .blkNormal ?_
     exact Ends.againL (some_eq h) (.k 6 rfl (.k 0 rfl (.k 1 rfl (.k 2 rfl .nil)))) (.k 63 rfl .nil)
  ·
   replace h := bif_f h hb8
   refine .exit ?_
   refine .thenExit ?_
   refine .thenExit ?_
   refine .blkExit ?_
   replace h := hD7 _ (some_eq h)
   obtain rfl := some_eq h
   exact Ends.ret0O (.inr rfl) [63] Try.results133 (by decide) (.held rfl .nil) 

theorem slices_SortStableFunc_int_ok {x1 : (List Int)} {cmp1 : (Int → Int → Option Int)} {r : (List Int)} {s9 : Value} (h : slices_SortStableFunc_int x1 cmp1 = some r) : FSpecO Try.prog 116 [isV s9, fn2 Try.prog (rep (α := Int)) cmp1] [(s9, rowV 3 x1)] (anyV) [some (rowV 3 r)] := by
 unfold slices_SortStableFunc_int at h
 refine FSpecO.intro (n := 9) fnok116 Try.func116 rfl Try.ntmps116 rfl (fun F => ?_)
 refine .region [([], []), ([], []), ([9], []), ([], []), ([9], [9])] mixed (by kernel_rfl) ?_
 refine .consA (.move .none (.s rfl)) rfl ?_
 refine .consA (.move .none (.s rfl)) rfl ?_
 refine .consA (.lenO (k := 9) sl32 (.told (.s rfl) rfl)) rfl ?_
 refine .consA (.move .none (.s rfl)) rfl ?_
 obtain ⟨r1, hv1, h⟩ := bind_some h
 refine .consW (.callO [9] (slices_stableCmpFunc_int_ok hv1) (.cons (.s rfl) (.cons (.s rfl) (.cons (.s rfl) .nil))) (.cons (k := 9) rfl .nil) rfl (by decide) (by decide) (by intro d h; cases h; decide)) rfl rfl ?_
 refine .nil ?_
 obtain rfl := some_eq h
 exact Ends.ret0O (.inr rfl) [9] Try.results116 (by decide) (.held rfl .nil) 

theorem cmp_isNaN_int_ok {x1 : Int} {r : Bool}  (h : cmp_isNaN_int x1 = some r) : FSpec Try.prog 105 [rep x1] (rep r) := by
 unfold cmp_isNaN_int at h
 refine FSpec.intro (n := 6) fnok105 Try.func105 rfl Try.ntmps105 rfl (fun F => ?_)
 refine .seq (.region [] mixed (by kernel_rfl) ?_)
 refine .cons (.assign .none .bool) rfl ?_
 refine .nil (.then ?_)
 refine .seq (.region [] mixed (by kernel_rfl) ?_)
 refine .cons (.move .none (.s rfl)) rfl ?_
 refine .cons (.move .none (.s rfl)) rfl ?_
 refine .cons (.neI .none (.s rfl) (.s rfl)) rfl ?_
 refine .cons (.assign .none (.s rfl)) rfl ?_
 refine .nil (.then ?_)
 refine .ret ?_
 obtain rfl := some_eq h
 exact Ends.ret1 (.inl rfl) Try.results105 (ResOK.tmp rfl trivial Imp.refl)

theorem cmp_Compare_int_ok {x1 : Int} {y1 : Int} {r : Int}  (h : cmp_Compare_int x1 y1 = some r) : FSpec Try.prog 63 [rep x1, rep y1] (rep r) := by
 unfold cmp_Compare_int at h
 refine FSpec.intro (n := 20) fnok63 Try.func63 rfl Try.ntmps63 rfl (fun F => ?_)
 refine .seq (.region [] mixed (by kernel_rfl) ?_)
 refine .cons (.assign .none (.int (by decide))) rfl ?_
 refine .nil (.then ?_)
 refine .seq (.region [] mixed (by kernel_rfl) ?_)
 refine .cons (.move .none (.s rfl)) rfl ?_
 obtain ⟨xNaN1, hv1, h⟩ := bind_some h
 refine .cons (.call .none (cmp_isNaN_int_ok hv1) (.cons (.s rfl) .nil)) rfl ?_
 refine .cons (.assign .none (.s rfl)) rfl ?_
 refine .nil (.then ?_)
 refine .seq (.region [] mixed (by kernel_rfl) ?_)
 refine .cons (.move .none (.s rfl)) rfl ?_
 obtain ⟨yNaN1, hv2, h⟩ := bind_some h
 refine .cons (.call .none (cmp_isNaN_int_ok hv2) (.cons (.s rfl) .nil)) rfl ?_
 refine .cons (.assign .none (.s rfl)) rfl ?_
 refine .nil (.then ?_)
 refine .seq ?_
 refine .seq (.region [] mixed (by kernel_rfl) ?_)
 refine .cons (.move .none (.s rfl)) rfl ?_
 refine .nil (.then ?_)
 refine .cond (t := 11) rfl trivial (fun hb3 => ?_) (fun hb3 => ?_)
 ·
  replace h := bif_t h hb3
  refine .seq ?_
  refine .seq (.region [] mixed (by kernel_rfl) ?_)
  refine .cons (.move .none (.s rfl)) rfl ?_
  refine .nil (.then ?_)
  refine .cond (t := 12) rfl trivial (fun hb4 => ?_) (fun hb4 => ?_)
  ·
   replace h := bif_t h hb4
   refine .seq (.region [] mixed (by kernel_rfl) ?_)
   refine .cons (.assign .none (.int (by decide))) rfl ?_
   refine .nil (.then ?_)
   refine .ret ?_
   refine .thenRet ?_
   refine .thenRet ?_
   obtain rfl := some_eq h
   exact Ends.ret1 (.inl rfl) Try.results63 (ResOK.tmp rfl trivial Imp.refl)
  ·
   replace h := bif_f h hb4
   refine .skip ?_
   refine .then ?_
   refine .seq (.region [] mixed (by kernel_rfl) ?_)
   refine .cons (.assign .none (.int (by decide))) rfl ?_
   refine .nil (.then ?_)
   refine .ret ?_
   refine .thenRet ?_
   obtain rfl := some_eq h
   exact Ends.ret1 (.inl rfl) Try.results63 (ResOK.tmp rfl trivial Imp.refl)
 ·
  replace h := bif_f h hb3
  refine .skip ?_
  refine .then ?_
  refine .seq ?_
  refine .seq (.region [] mixed (by kernel_rfl) ?_)
  refine .cons (.move .none (.s rfl)) rfl ?_
  refine .nil (.then ?_)
  refine .cond (t := 13) rfl trivial (fun hb5 => ?_) (fun hb5 => ?_)
  ·
   replace h := bif_t h hb5
   refine .seq (.region [] mixed (by kernel_rfl) ?_)
   refine .cons (.assign .none (.int (by decide))) rfl ?_
   refine .nil (.then ?_)
   refine .ret ?_
   refine .thenRet ?_
   obtain rfl := some_eq h
   exact Ends.ret1 (.inl rfl) Try.results63 (ResOK.tmp rfl trivial Imp.refl)
  ·
   replace h := bif_f h hb5
   refine .skip ?_
   refine .then ?_
   refine .seq ?_
   refine .seq (.region [] mixed (by kernel_rfl) ?_)
   refine .cons (.move .none (.s rfl)) rfl ?_
   refine .cons (.move .none (.s rfl)) rfl ?_
   refine .cons (.lt .none (.s rfl) (.s rfl)) rfl ?_
   refine .nil (.then ?_)
   refine .cond (t := 16) rfl trivial (fun hb6 => ?_) (fun hb6 => ?_)
   ·
    replace h := bif_t h hb6
    refine .seq (.region [] mixed (by kernel_rfl) ?_)
    refine .cons (.assign .none (.int (by decide))) rfl ?_
    refine .nil (.then ?_)
    refine .ret ?_
    refine .thenRet ?_
    obtain rfl := some_eq h
    exact Ends.ret1 (.inl rfl) Try.results63 (ResOK.tmp rfl trivial Imp.refl)
   ·
    replace h := bif_f h hb6
    refine .skip ?_
    refine .then ?_
    refine .seq ?_
    refine .seq (.region [] mixed (by kernel_rfl) ?_)
    refine .cons (.move .none (.s rfl)) rfl ?_
    refine .cons (.move .none (.s rfl)) rfl ?_
    refine .cons (.gt .none (.s rfl) (.s rfl)) rfl ?_
    refine .nil (.then ?_)
    refine .cond (t := 19) rfl trivial (fun hb7 => ?_) (fun hb7 => ?_)
    ·
     replace h := bif_t h hb7
     refine .seq (.region [] mixed (by kernel_rfl) ?_)
     refine .cons (.assign .none (.int (by decide))) rfl ?_
     refine .nil (.then ?_)
     refine .ret ?_
     refine .thenRet ?_
     obtain rfl := some_eq h
     exact Ends.ret1 (.inl rfl) Try.results63 (ResOK.tmp rfl trivial Imp.refl)
    ·
     replace h := bif_f h hb7
     refine .skip ?_
     refine .then ?_
     refine .seq (.region [] mixed (by kernel_rfl) ?_)
     refine .cons (.assign .none (.int (by decide))) rfl ?_
     refine .nil (.then ?_)
     refine .ret ?_
     obtain rfl := some_eq h
     exact Ends.ret1 (.inl rfl) Try.results63 (ResOK.tmp rfl trivial Imp.refl)

theorem layer_sorted_1_ok {a1 : Int} {b1 : Int} {c0_1 : (GMap Int Layer_mean)} {r : Int}  (h : layer_sorted_1 a1 b1 c0_1 = some r) : FSpec Try.prog 117 [rep a1, rep b1, ref c0_1] (rep r) := by
 unfold layer_sorted_1 at h
 refine FSpec.intro (n := 25) fnok117 Try.func117 rfl Try.ntmps117 rfl (fun F => ?_)
 refine .seq (.region [] mixed (by kernel_rfl) ?_)
 refine .cons (.assign .none (.int (by decide))) rfl ?_
 refine .nil (.then ?_)
 refine .seq (.region [([], []), ([], []), ([], []), ([], []), ([], []), ([], []), ([], [6]), ([], [7]), ([6], [6]), ([7], [7])] mixed (by kernel_rfl) ?_)
 refine .consA (.load .none ty134 (.s rfl)) rfl ?_
 refine .consA (.move .none (.s rfl)) rfl ?_
 obtain ⟨v1, hv1, h⟩ := bnd_some h
 refine .consA (.re hv1 (.lookup .none mo134 zo137 (.s rfl) (.s rfl))) rfl ?_
 refine .consA (.load .none ty134 (.s rfl)) rfl ?_
 refine .consA (.move .none (.s rfl)) rfl ?_
 obtain ⟨v2, hv2, h⟩ := bnd_some h
 refine .consA (.re hv2 (.lookup .none mo134 zo137 (.s rfl) (.s rfl))) rfl ?_
 refine .consW (.alloc zo137 rfl) rfl rfl ?_
 refine .consW (.alloc zo137 rfl) rfl rfl ?_
 refine .consN (.store ty137 rfl rfl (.s rfl)) rfl ?_
 refine .consN (.store ty137 rfl rfl (.s rfl)) rfl ?_
 refine .nil (.then ?_)
 refine .freeze (t := 6) rfl rfl (.k 7 rfl .nil) rfl ?_
 refine .freeze (t := 7) rfl rfl SubB.nil rfl ?_
 refine .seq (.region [] mixed (by kernel_rfl) ?_)
 refine .cons (.fieldAddr .none fd137_0 hfd137_0 (.s rfl)) rfl ?_
 refine .cons (.load .none ty3 (.s rfl)) rfl ?_
 refine .cons (.fieldAddr .none fd137_1 hfd137_1 (.s rfl)) rfl ?_
 refine .cons (.load .none ty3 (.s rfl)) rfl ?_
 refine .cons (.mulW .none (.s rfl) (.s rfl)) rfl ?_
 refine .cons (.fieldAddr .none fd137_0 hfd137_0 (.s rfl)) rfl ?_
 refine .cons (.load .none ty3 (.s rfl)) rfl ?_
 refine .cons (.fieldAddr .none fd137_1 hfd137_1 (.s rfl)) rfl ?_
 refine .cons (.load .none ty3 (.s rfl)) rfl ?_
 refine .cons (.mulW .none (.s rfl) (.s rfl)) rfl ?_
 obtain ⟨r1, hv3, h⟩ := bind_some h
 refine .cons (.call .none (cmp_Compare_int_ok hv3) (.cons (.s rfl) (.cons (.s rfl) .nil))) rfl ?_
 refine .cons (.assign .none (.s rfl)) rfl ?_
 refine .nil (.then ?_)
 refine .ret ?_
 obtain rfl := some_eq h
 exact Ends.ret1 (.inl rfl) Try.results117 (ResOK.tmp rfl trivial Imp.refl)

theorem layer_sorted_ok {row1 : (List Int)} {other1 : (List Int)} {l1 : (List Link)} {ends1 : (Link → Option (Int × Int))} {r : (List Int)}  (h : layer_sorted row1 other1 l1 ends1 = some r) : FSpec Try.prog 100 [rep row1, rep other1, rep l1, fn1 Try.prog tup2 ends1] (rep r) := by
 unfold layer_sorted at h
 refine FSpec.intro (n := 79) fnok100 Try.func100 rfl Try.ntmps100 rfl (fun F => ?_)
 refine .seq (.region [] mixed (by kernel_rfl) ?_)
 refine .cons (.assign .none (.const (x := ([] : (List Int))) (fun M w => ⟨_, ⟨none, 0, rfl, Nat.le_refl _, by decide, rfl⟩, rfl⟩))) rfl ?_
 refine .nil (.then ?_)
 refine .seq (.region [] mixed (by kernel_rfl) ?_)
 refine .cons (.move .none (.s rfl)) rfl ?_
 obtain ⟨at1, hv1, h⟩ := bind_some h
 refine .cons (.call .none (layer_places_ok hv1) (.cons (.s rfl) .nil)) rfl ?_
 refine .cons (.assign .none (.s rfl)) rfl ?_
 refine .nil (.then ?_)
 refine .seq (.region [([], [22]), ([], [10]), ([10, 22], [10, 22])] mixed (by kernel_rfl) ?_)
 refine .consW (.makeMap (K := Int) (V := Layer_mean) rfl) rfl rfl ?_
 refine .consW (.alloc zr134 rfl) rfl rfl ?_
 refine .consN (.storeRow0M (k := 10) (t := 22) ty134 rfl rfl rfl oneMap rfl) rfl ?_
 refine .nil (.then ?_)
 refine .nameAt (t := 10) (g := 5001) rfl rfl (isBox_deep fun _ => isBox_cont) rfl (fun m5001 => ?_)
 refine .open (k := 5001) (g := 5002) rfl rfl (fun s5002 => ?_)
 refine .seq ?_
 refine .seq (.region [] mixed (by kernel_rfl) ?_)
 refine .cons (.move .none (.s rfl)) rfl ?_
 refine .cons (.len .none sl23 (.s rfl)) rfl ?_
 refine .cons (.move .none (.int (by decide))) rfl ?_
 refine .nil (.then ?_)
 obtain ⟨c1, hv2, h⟩ := bnd_some h
 refine .reB (t := 5002) rfl (congrArg (fun y => CPred.at s5002 (mapV y)) hv2) ?_
 obtain ⟨j_3, h, hK3⟩ := bind_some h
 refine .thenJ (ι := (GMap Int Layer_mean)) (fun j_3 => []) (fun j_3 => [(5002, some (CPred.at s5002 (mapV j_3)))]) (fun s => j_3 = s) (.k 0 rfl (.k 10 rfl .nil)) (.k 5001 rfl .nil) ?_ (fun j_3' hj3 => ?_)
 ·
  skip
  refine .block ?_
  refine .rforL h (fun p4_ => [(25, ⟨True, rep p4_.1⟩)]) (fun p4_ => [(5002, some (CPred.at s5002 (mapV p4_.2)))]) (.k 25 rfl .nil) (.k 5002 rfl .nil) (.k 0 rfl (.k 3 rfl (.k 9 rfl (.k 10 rfl (.k 23 rfl (.k 24 rfl .nil)))))) (.k 5001 rfl .nil) (fun p4_ o_4 h hD4 => ?_)
  refine .seq (.region [] mixed (by kernel_rfl) ?_)
  refine .cons (.lt .none (.s rfl) (.s rfl)) rfl ?_
  refine .nil (.then ?_)
  refine .seq ?_
  refine .cond (t := 26) rfl trivial (fun hb5 => ?_) (fun hb5 => ?_)
  ·
   replace h := bif_t h hb5
   refine .skip ?_
   refine .then ?_
   refine .seq ?_
   obtain ⟨j_6, h, hK6⟩ := bind_some h
   unfold layer_sorted_L1 at h
   refine .thenJ (ι := (GMap Int Layer_mean)) (fun j_6 => []) (fun j_6 => [(5002, some (CPred.at s5002 (mapV j_6)))]) (fun s => j_6 = s) (.k 0 rfl (.k 3 rfl (.k 9 rfl (.k 10 rfl (.k 23 rfl (.k 24 rfl (.k 25 rfl .nil))))))) (.k 5001 rfl .nil) ?_ (fun j_6' hj6 => ?_)
   ·
    skip
    refine .block ?_
    refine .seq (.region [([], []), ([], []), ([], [12]), ([12], [12])] mixed (by kernel_rfl) ?_)
    obtain ⟨hn7, h⟩ := need_some h
    refine .consA (.indexAddr .none sl23 ty79 (.s rfl) (.s rfl) (fun _ => hn7)) rfl ?_
    obtain ⟨v1, hv8, h⟩ := bnd_some h
    refine .consA (.re hv8 (.load .none ty79 (.s rfl))) rfl ?_
    refine .consW (.alloc zo79 rfl) rfl rfl ?_
    refine .consN (.store ty79 rfl rfl (.s rfl)) rfl ?_
    refine .nil (.then ?_)
    refine .freeze (t := 12) rfl rfl (.k 5001 rfl (.k 5002 rfl .nil)) rfl ?_
    refine .seq (.region [] mixed (by kernel_rfl) ?_)
    refine .cons (.move .none (.s rfl)) rfl ?_
    refine .cons (.load .none ty79 (.s rfl)) rfl ?_
    obtain ⟨r1, hv9, h⟩ := bind_some h
    refine .cons (.callV (v1, r1) .none (.s rfl) (fun _ => hv9) (.cons (.s rfl) .nil)) rfl ?_
    refine .cons (.move .none (.s rfl)) rfl ?_
    refine .cons (.extract .none (.s rfl) rfl) rfl ?_
    refine .cons (.extract .none (.s rfl) rfl) rfl ?_
    refine .cons (.assign .none (.s rfl)) rfl ?_
    refine .cons (.assign .none (.s rfl)) rfl ?_
    refine .nil (.then ?_)
    refine .seq (.region [] mixed (by kernel_rfl) ?_)
    refine .cons (.move .none (.s rfl)) rfl ?_
    refine .cons (.move .none (.s rfl)) rfl ?_
    refine .cons (.lookupOk .none mo88 zo3 (.s rfl) (.s rfl)) rfl ?_
    refine .cons (.move .none (.s rfl)) rfl ?_
    refine .cons (.extract .none (.s rfl) rfl) rfl ?_
    refine .cons (.extract .none (.s rfl) rfl) rfl ?_
    refine .cons (.assign .none (.s rfl)) rfl ?_
    refine .cons (.assign .none (.s rfl)) rfl ?_
    refine .nil (.then ?_)
    refine .seq (.region [] mixed (by kernel_rfl) ?_)
    refine .cons (.move .none (.s rfl)) rfl ?_
    refine .nil (.then ?_)
    refine .cond (t := 41) rfl trivial (fun hb10 => ?_) (fun hb10 => ?_)
    ·
     replace h := bif_t h hb10
     refine .seq (.region [([5001], []), ([], []), ([5002], []), ([], [17]), ([17], [17])] mixed (by kernel_rfl) ?_)
     refine .consA (.loadAt0 (k := 5001) .none tr134 rfl (.s rfl)) rfl ?_
     refine .consA (.move .none (.s rfl)) rfl ?_
     obtain ⟨v2, hv11, h⟩ := bnd_some h
     refine .consA (.re hv11 (.lookupO (q := 5002) .none mo134 zo137 ownMap_self (.told (.s rfl) rfl) (.s rfl))) rfl ?_
     refine .consW (.alloc zo137 rfl) rfl rfl ?_
     refine .consN (.store ty137 rfl rfl (.s rfl)) rfl ?_
     refine .nil (.then ?_)
     refine .freeze (t := 17) rfl rfl (.k 5001 rfl (.k 5002 rfl .nil)) rfl ?_
     refine .region [([5001], []), ([], []), ([], []), ([], []), ([], []), ([], []), ([], []), ([], []), ([], []), ([], []), ([5002], [5002])] mixed (by kernel_rfl) ?_
     refine .consA (.loadAt0 (k := 5001) .none tr134 rfl (.s rfl)) rfl ?_
     refine .consA (.move .none (.s rfl)) rfl ?_
     refine .consA (.fieldAddr .none fd137_0 hfd137_0 (.s rfl)) rfl ?_
     refine .consA (.load .none ty3 (.s rfl)) rfl ?_
     refine .consA (.move .none (.s rfl)) rfl ?_
     refine .consA (.addW .none (.s rfl) (.s rfl)) rfl ?_
     refine .consA (.fieldAddr .none fd137_1 hfd137_1 (.s rfl)) rfl ?_
     refine .consA (.load .none ty3 (.s rfl)) rfl ?_
     refine .consA (.addW .none (.s rfl) (.int (by decide))) rfl ?_
     refine .consA (.buildF (y := (⟨W (v2.sum + (at1.getD r1.2 (0 : Int))), W (v2.many + 1)⟩ : Layer_mean)) .none bu137 zc137 rfl (.cons (.s rfl) (.cons (.s rfl) .nil)) (.cons rfl sf137_0 (.cons rfl sf137_1 .nil))) rfl ?_
     refine .consN (.mapUpdate (q := 5002) mo134 (.s rfl) rfl (.s rfl) (.s rfl)) rfl ?_
     refine .nil ?_
     refine .blkNormal ?_
     exact Ends.join _ (some_eq h) (.k 0 rfl (.k 3 rfl (.k 9 rfl (.k 10 rfl (.k 23 rfl (.k 24 rfl (.k 25 rfl .nil))))))) (.k 5002 rfl (.k 5001 rfl .nil))
    ·
     replace h := bif_f h hb10
     refine .skip ?_
     refine .blkNormal ?_
     exact Ends.join _ (some_eq h) (.k 0 rfl (.k 3 rfl (.k 9 rfl (.k 10 rfl (.k 23 rfl (.k 24 rfl (.k 25 rfl .nil))))))) (.k 5002 rfl (.k 5001 rfl .nil))
   ·
    subst hj6; have h := hK6; clear hK6
    refine .region [] mixed (by kernel_rfl) ?_
    refine .cons (.addW .none (.s rfl) (.int (by decide))) rfl ?_
    refine .cons (.move .none (.s rfl)) rfl ?_
    refine .nil ?_
    exact Ends.againL (some_eq h) (.k 25 rfl (.k 0 rfl (.k 3 rfl (.k 9 rfl (.k 10 rfl (.k 23 rfl (.k 24 rfl .nil))))))) (.k 5002 rfl (.k 5001 rfl .nil))
  ·
   replace h := bif_f h hb5
   refine .exit ?_
   refine .thenExit ?_
   refine .thenExit ?_
   refine .blkExit ?_
   replace h := hD4 _ (some_eq h)
   exact Ends.join _ (some_eq h) (.k 0 rfl (.k 10 rfl .nil)) (.k 5002 rfl (.k 5001 rfl .nil))
 ·
  subst hj3; have h := hK3; clear hK3
  refine .seq ?_
  refine .seq (.region [] mixed (by kernel_rfl) ?_)
  refine .cons (.move .none (.s rfl)) rfl ?_
  refine .cons (.len .none sl32 (.s rfl)) rfl ?_
  refine .cons (.move .none (.int (by decide))) rfl ?_
  refine .nil (.then ?_)
  obtain ⟨j_12, h, hK12⟩ := bind_some h
  refine .thenJ (ι := (GMap Int Layer_mean)) (fun j_12 => []) (fun j_12 => [(5002, some (CPred.at s5002 (mapV j_12)))]) (fun s => j_12 = s) (.k 0 rfl (.k 10 rfl .nil)) (.k 5001 rfl .nil) ?_ (fun j_12' hj12 => ?_)
  ·
   skip
   refine .block ?_
   refine .rforL h (fun p13_ => [(58, ⟨True, rep p13_.1⟩)]) (fun p13_ => [(5002, some (CPred.at s5002 (mapV p13_.2)))]) (.k 58 rfl .nil) (.k 5002 rfl .nil) (.k 0 rfl (.k 10 rfl (.k 56 rfl (.k 57 rfl .nil)))) (.k 5001 rfl .nil) (fun p13_ o_13 h hD13 => ?_)
   refine .seq (.region [] mixed (by kernel_rfl) ?_)
   refine .cons (.lt .none (.s rfl) (.s rfl)) rfl ?_
   refine .nil (.then ?_)
   refine .seq ?_
   refine .cond (t := 59) rfl trivial (fun hb14 => ?_) (fun hb14 => ?_)
   ·
    replace h := bif_t h hb14
    refine .skip ?_
    refine .then ?_
    refine .seq ?_
    obtain ⟨j_15, h, hK15⟩ := bind_some h
    unfold layer_sorted_L2 at h
    refine .thenJ (ι := (GMap Int Layer_mean)) (fun j_15 => []) (fun j_15 => [(5002, some (CPred.at s5002 (mapV j_15)))]) (fun s => j_15 = s) (.k 0 rfl (.k 10 rfl (.k 56 rfl (.k 57 rfl (.k 58 rfl .nil))))) (.k 5001 rfl .nil) ?_ (fun j_15' hj15 => ?_)
    ·
     skip
     refine .block ?_
     refine .seq (.region [] mixed (by kernel_rfl) ?_)
     refine .cons (.move .none (.s rfl)) rfl ?_
     obtain ⟨hn16, h⟩ := need_some h
     refine .cons (.indexAddr .none sl32 ty3 (.s rfl) (.s rfl) (fun _ => hn16)) rfl ?_
     refine .cons (.load .none ty3 (.s rfl)) rfl ?_
     refine .cons (.assign .none (.s rfl)) rfl ?_
     obtain ⟨k1, hv17, h⟩ := bnd_some h
     refine .cons (.re hv17 (.assign .none (.s rfl))) rfl ?_
     refine .nil (.then ?_)
     refine .seq (.region [([5001], []), ([], []), ([5002], []), ([], []), ([], [])] mixed (by kernel_rfl) ?_)
     refine .consA (.loadAt0 (k := 5001) .none tr134 rfl (.s rfl)) rfl ?_
     refine .consA (.move .none (.s rfl)) rfl ?_
     refine .consA (.lookupO (q := 5002) .none mo134 zo137 ownMap_self (.told (.s rfl) rfl) (.s rfl)) rfl ?_
     refine .consA (.fieldV (proj := Layer_mean.many) .none ft137_1 ty3 hfd137_1 rfl (.s rfl)) rfl ?_
     refine .consA (.eqI .none (.s rfl) (.int (by decide))) rfl ?_
     refine .nil (.then ?_)
     refine .cond (t := 67) rfl trivial (fun hb18 => ?_) (fun hb18 => ?_)
     ·
      replace h := bif_t h hb18
      refine .region [([5001], []), ([], []), ([], []), ([], []), ([5002], [5002])] mixed (by kernel_rfl) ?_
      refine .consA (.loadAt0 (k := 5001) .none tr134 rfl (.s rfl)) rfl ?_
      refine .consA (.move .none (.s rfl)) rfl ?_
      refine .consA (.move .none (.s rfl)) rfl ?_
      refine .consA (.buildF (y := (⟨p13_.1, 1⟩ : Layer_mean)) .none bu137 zc137 rfl (.cons (.s rfl) (.cons (.int (by decide)) .nil)) (.cons rfl sf137_0 (.cons rfl sf137_1 .nil))) rfl ?_
      refine .consN (.mapUpdate (q := 5002) mo134 (.s rfl) rfl (.s rfl) (.s rfl)) rfl ?_
      refine .nil ?_
      refine .blkNormal ?_
      exact Ends.join _ (some_eq h) (.k 0 rfl (.k 10 rfl (.k 56 rfl (.k 57 rfl (.k 58 rfl .nil))))) (.k 5002 rfl (.k 5001 rfl .nil))
     ·
      replace h := bif_f h hb18
      refine .skip ?_
      refine .blkNormal ?_
      exact Ends.join _ (some_eq h) (.k 0 rfl (.k 10 rfl (.k 56 rfl (.k 57 rfl (.k 58 rfl .nil))))) (.k 5002 rfl (.k 5001 rfl .nil))
    ·
     subst hj15; have h := hK15; clear hK15
     refine .region [] mixed (by kernel_rfl) ?_
     refine .cons (.addW .none (.s rfl) (.int (by decide))) rfl ?_
     refine .cons (.move .none (.s rfl)) rfl ?_
     refine .nil ?_
     exact Ends.againL (some_eq h) (.k 58 rfl (.k 0 rfl (.k 10 rfl (.k 56 rfl (.k 57 rfl .nil))))) (.k 5002 rfl (.k 5001 rfl .nil))
   ·
    replace h := bif_f h hb14
    refine .exit ?_
    refine .thenExit ?_
    refine .thenExit ?_
    refine .blkExit ?_
    replace h := hD13 _ (some_eq h)
    exact Ends.join _ (some_eq h) (.k 0 rfl (.k 10 rfl .nil)) (.k 5002 rfl (.k 5001 rfl .nil))
  ·
   subst hj12; have h := hK12; clear hK12
   refine .seq (.region [([], []), ([], [74]), ([74], [0, 74])] mixed (by kernel_rfl) ?_)
   refine .consA (.move .none (.s rfl)) rfl ?_
   obtain ⟨row2, hv19, h⟩ := bind_some h
   refine .consW (.callO [] (slices_Clone_int_ok hv19) (.cons (.s rfl) .nil) .nil rfl (by decide) (by decide) (by intro d h; cases h; decide)) rfl rfl ?_
   refine .consW (.passRow rfl (.tmp rfl)) rfl rfl ?_
   refine .nil (.then ?_)
   refine .nameRow (t := 0) (g := 5003) rfl rfl rfl (fun s5003 => ?_)
   refine .seq (.region [([], []), ([], []), ([5003, 5001, 5002], [5003])] mixed (by kernel_rfl) ?_)
   refine .consA (.move .none (.s rfl)) rfl ?_
   refine .consA (.makeFuncC (Cs := [isV (ptr m5001 0)]) .none (.cons (.s rfl) .nil)) rfl ?_
   obtain ⟨r2, hv20, h⟩ := bind_some h
   refine .consW (.callOL (kl := [5001, 5002]) [5003] (slices_SortStableFunc_int_ok hv20) .any (FlatO.some .row FlatO.nil) (.cons (.s rfl) (.gen (LentTo.clo (ι := Int × Int × Int) (pre := fun i => (fun x0 x1 => layer_sorted_1 x0 x1 j_12) i.1 i.2.1 = some i.2.2) (Ss := fun i => [rep i.1, rep i.2.1]) (S := fun i => rep i.2.2) (.s rfl) fnok117 (.deepR (k := 5001) (q := 5002) (x := (⟨s5002⟩ : Raw)) (y := j_12) rfl rfl rfl (fun M D w h hms => frzMap M D _ w h hms) (fun M cs w hc hl => map_cells hc hl) .nil) (fun i h => layer_sorted_1_ok h)) .nil)) (.cons (k := 5003) rfl .nil) rfl (by decide) (by decide) (by intro d h; cases h; decide) (by decide) (by intro k hk; simp only [List.mem_cons, List.mem_nil_iff, or_false] at hk; rcases hk with rfl | rfl <;> rfl)) rfl rfl ?_
   refine .nil (.then ?_)
   refine .freezeRow (g := 5003) (ts := [0]) rfl (.cons (t := 0) rfl trivial .nil) SubB.nil rfl ?_
   refine .seq (.region [] mixed (by kernel_rfl) ?_)
   refine .cons (.move .none (.s rfl)) rfl ?_
   refine .cons (.assign .none (.s rfl)) rfl ?_
   refine .nil (.then ?_)
   refine .ret ?_
   obtain rfl := some_eq h
   exact Ends.ret1 (.inl rfl) Try.results100 (ResOK.tmp rfl trivial Imp.refl)

theorem layer_sweep_2_ok {x1 : Link} {r : (Int × Int)}  (h : layer_sweep_2 x1 = some r) : FSpec Try.prog 101 [rep x1] (tup [rep r.1, rep r.2]) := by
 unfold layer_sweep_2 at h
 refine FSpec.intro (n := 8) fnok101 Try.func101 rfl Try.ntmps101 rfl (fun F => ?_)
 refine .seq (.region [] mixed (by kernel_rfl) ?_)
 refine .cons (.box .none (.s rfl)) rfl ?_
 refine .cons (.assign .none (.int (by decide))) rfl ?_
 refine .cons (.assign .none (.int (by decide))) rfl ?_
 refine .nil (.then ?_)
 refine .seq (.region [] mixed (by kernel_rfl) ?_)
 refine .cons (.fieldAddr .none fd79_1 hfd79_1 (.s rfl)) rfl ?_
 refine .cons (.load .none ty3 (.s rfl)) rfl ?_
 refine .cons (.fieldAddr .none fd79_0 hfd79_0 (.s rfl)) rfl ?_
 refine .cons (.load .none ty3 (.s rfl)) rfl ?_
 refine .cons (.assign .none (.s rfl)) rfl ?_
 refine .cons (.assign .none (.s rfl)) rfl ?_
 refine .nil (.then ?_)
 refine .ret ?_
 obtain rfl := some_eq h
 exact Ends.ret2 (.inl rfl) Try.results101 (ResOK.tmp rfl trivial Imp.refl) (ResOK.tmp rfl trivial Imp.refl)

theorem layer_sweep_1_ok {c0_1 : (List (List Int))} {c1_1 : (List Link)} {c2_1 : Int} {c3_1 : (List (List Int))} {r : ((List (List Int)) × Int × (List (List Int)))} {m14 : Nat} {s15 : Value} {m16 : Nat} {m17 : Nat} {s18 : Value} (h : layer_sweep_1 c0_1 c1_1 c2_1 c3_1 = some r) : FSpecO Try.prog 99 [isV (ptr m14 0), ref c1_1, isV (ptr m16 0), isV (ptr m17 0)] [(ptr m14 0, cont 22 (⟨s15⟩ : Raw)), (s15, rowV 32 c0_1), (ptr m16 0, cont 3 c2_1), (ptr m17 0, cont 22 (⟨s18⟩ : Raw)), (s18, rowV 32 c3_1)] (anyV) [some (deep (fun z0 => cont 22 (⟨z0⟩ : Raw)) (rowV 32 r.1)), none, some (cont 3 r.2.1), some (deep (fun z0 => cont 22 (⟨z0⟩ : Raw)) (rowV 32 r.2.2)), none] := by
 unfold layer_sweep_1 at h
 refine FSpecO.intro (n := 14) fnok99 Try.func99 rfl Try.ntmps99 rfl (fun F => ?_)
 refine .seq (.region [([14], []), ([], []), ([15], []), ([], [])] mixed (by kernel_rfl) ?_)
 refine .consA (.loadAt0 (k := 14) .none tr22 rfl (.s rfl)) rfl ?_
 refine .consA (.load .none ty23 (.s rfl)) rfl ?_
 obtain ⟨n1, hv1, h⟩ := bind_some h
 refine .consA (.callC .none fnok98 (fun hg => layer_all_ok  hv1) .rep (.lend (k := 15) (.told (.s rfl) rfl) (.cons (.s rfl) .nil))) rfl ?_
 refine .consA (.assign .none (.s rfl)) rfl ?_
 refine .nil (.then ?_)
 refine .seq (.region [([], []), ([16], []), ([], [])] mixed (by kernel_rfl) ?_)
 refine .consA (.move .none (.s rfl)) rfl ?_
 refine .consA (.loadAt0 (k := 16) .none ty3 rfl (.s rfl)) rfl ?_
 refine .consA (.lt .none (.s rfl) (.s rfl)) rfl ?_
 refine .nil (.then ?_)
 refine .cond (t := 10) rfl trivial (fun hb2 => ?_) (fun hb2 => ?_)
 ·
  replace h := bif_t h hb2
  refine .region [([14], []), ([15], [15, 12]), ([], []), ([17, 12], [17, 12]), ([16], [16])] mixed (by kernel_rfl) ?_
  refine .consA (.loadAt0 (k := 14) .none tr22 rfl (.s rfl)) rfl ?_
  obtain ⟨r1, hv3, h⟩ := bind_some h
  refine .consW (.callO [15] (slices_Clone_Lint_own_ok hv3) (.cons (.s rfl) .nil) (.cons (k := 15) rfl .nil) rfl (by decide) (by decide) (by intro d h; cases h; decide)) rfl rfl ?_
  refine .consA (.move .none (.s rfl)) rfl ?_
  refine .consN (.storeRow (k := 17) (t := 12) (set := fun _ z => z) ty22 rfl (.s rfl) .self rfl rfl) rfl ?_
  refine .consN (.storeAt0 (g := 16) ty3 rfl (.s rfl) (.s rfl)) rfl ?_
  refine .nil ?_
  refine .close (k := 14) (g := 15) (fun z => cont 22 (⟨z⟩ : Raw)) rfl rfl rfl ?_
  obtain rfl := some_eq h
  exact Ends.ret0O (.inr rfl) [14, 15, 16, 17, 18] Try.results99 (by decide) (.held rfl (.skip (.held rfl (.held rfl (.skip .nil))))) 
 ·
  replace h := bif_f h hb2
  refine .skip ?_
  refine .close (k := 14) (g := 15) (fun z => cont 22 (⟨z⟩ : Raw)) rfl rfl rfl ?_
  refine .close (k := 17) (g := 18) (fun z => cont 22 (⟨z⟩ : Raw)) rfl rfl rfl ?_
  obtain rfl := some_eq h
  exact Ends.ret0O (.inr rfl) [14, 15, 16, 17, 18] Try.results99 (by decide) (.held rfl (.skip (.held rfl (.held rfl (.skip .nil))))) 

theorem layer_sweep_3_ok {x1 : Link} {r : (Int × Int)}  (h : layer_sweep_3 x1 = some r) : FSpec Try.prog 102 [rep x1] (tup [rep r.1, rep r.2]) := by
 unfold layer_sweep_3 at h
 refine FSpec.intro (n := 8) fnok102 Try.func102 rfl Try.ntmps102 rfl (fun F => ?_)
 refine .seq (.region [] mixed (by kernel_rfl) ?_)
 refine .cons (.box .none (.s rfl)) rfl ?_
 refine .cons (.assign .none (.int (by decide))) rfl ?_
 refine .cons (.assign .none (.int (by decide))) rfl ?_
 refine .nil (.then ?_)
 refine .seq (.region [] mixed (by kernel_rfl) ?_)
 refine .cons (.fieldAddr .none fd79_0 hfd79_0 (.s rfl)) rfl ?_
 refine .cons (.load .none ty3 (.s rfl)) rfl ?_
 refine .cons (.fieldAddr .none fd79_1 hfd79_1 (.s rfl)) rfl ?_
 refine .cons (.load .none ty3 (.s rfl)) rfl ?_
 refine .cons (.assign .none (.s rfl)) rfl ?_
 refine .cons (.assign .none (.s rfl)) rfl ?_
 refine .nil (.then ?_)
 refine .ret ?_
 obtain rfl := some_eq h
 exact Ends.ret2 (.inl rfl) Try.results102 (ResOK.tmp rfl trivial Imp.refl) (ResOK.tmp rfl trivial Imp.refl)

theorem layer_sweep_ok {rows1 : (List (List Int))} {l1 : (List Link)} {rounds1 : Int} {r : ((List (List Int)) × Int)}  (h : layer_sweep rows1 l1 rounds1 = some r) : FSpec Try.prog 55 [rep rows1, rep l1, rep rounds1] (tup [rep r.1, rep r.2]) := by
 unfold layer_sweep at h
 refine FSpec.intro (n := 88) fnok55 Try.func55 rfl Try.ntmps55 rfl (fun F => ?_)
 refine .seq (.region [] mixed (by kernel_rfl) ?_)
 refine .cons (.box .none (.s rfl)) rfl ?_
 refine .cons (.assign .none (.const (x := ([] : (List (List Int)))) (fun M w => ⟨_, ⟨none, 0, rfl, Nat.le_refl _, by decide, rfl⟩, rfl⟩))) rfl ?_
 refine .cons (.assign .none (.int (by decide))) rfl ?_
 refine .nil (.then ?_)
 refine .seq (.region [([], []), ([], [16]), ([], [8]), ([8, 16], [8, 16])] mixed (by kernel_rfl) ?_)
 refine .consA (.move .none (.s rfl)) rfl ?_
 obtain ⟨r1, hv1, h⟩ := bind_some h
 refine .consW (.callO [] (slices_Clone_Lint_ok hv1) (.cons (.s rfl) .nil) .nil rfl (by decide) (by decide) (by intro d h; cases h; decide)) rfl rfl ?_
 refine .consW (.alloc zr22 rfl) rfl rfl ?_
 refine .consN (.storeRow0 (k := 8) (t := 16) ty22 rfl rfl rfl rfl) rfl ?_
 refine .nil (.then ?_)
 refine .nameAt (t := 8) (g := 5001) rfl rfl (isBox_deep fun _ => isBox_cont) rfl (fun m5001 => ?_)
 refine .open (k := 5001) (g := 5002) rfl rfl (fun s5002 => ?_)
 refine .seq (.region [([5001], []), ([5002], [5002, 18]), ([5001], []), ([], []), ([5002], []), ([], [9]), ([], [10]), ([9, 18], [9, 18]), ([10], [10])] mixed (by kernel_rfl) ?_)
 refine .consA (.loadAt0 (k := 5001) .none tr22 rfl (.s rfl)) rfl ?_
 obtain ⟨r2, hv2, h⟩ := bind_some h
 refine .consW (.callO [5002] (slices_Clone_Lint_own_ok hv2) (.cons (.s rfl) .nil) (.cons (k := 5002) rfl .nil) rfl (by decide) (by decide) (by intro d h; cases h; decide)) rfl rfl ?_
 refine .consA (.loadAt0 (k := 5001) .none tr22 rfl (.s rfl)) rfl ?_
 refine .consA (.load .none ty23 (.s rfl)) rfl ?_
 obtain ⟨r3, hv3, h⟩ := bind_some h
 refine .consA (.callC .none fnok98 (fun hg => layer_all_ok  hv3) .rep (.lend (k := 5002) (.told (.s rfl) rfl) (.cons (.s rfl) .nil))) rfl ?_
 refine .consW (.alloc zr22 rfl) rfl rfl ?_
 refine .consW (.alloc zo3 rfl) rfl rfl ?_
 refine .consN (.storeRow0 (k := 9) (t := 18) ty22 rfl rfl rfl rfl) rfl ?_
 refine .consN (.store ty3 rfl rfl (.s rfl)) rfl ?_
 refine .nil (.then ?_)
 refine .nameAt (t := 9) (g := 5003) rfl rfl (isBox_deep fun _ => isBox_cont) rfl (fun m5003 => ?_)
 refine .nameBox (t := 10) (g := 5004) rfl rfl (fun m5004 => ?_)
 refine .open (k := 5003) (g := 5005) rfl rfl (fun s5005 => ?_)
 refine .seq (.region [] mixed (by kernel_rfl) ?_)
 refine .cons (.makeFuncC (Cs := [isV (ptr m5001 0), ref l1, isV (ptr m5004 0), isV (ptr m5003 0)]) .none (.cons (.s rfl) (.cons (.s rfl) (.cons (.s rfl) (.cons (.s rfl) .nil))))) rfl ?_
 refine .cons (.assign .none (.s rfl)) rfl ?_
 refine .nil (.then ?_)
 refine .seq ?_
 refine .seq (.region [] mixed (by kernel_rfl) ?_)
 refine .cons (.move .none (.s rfl)) rfl ?_
 refine .cons (.move .none (.int (by decide))) rfl ?_
 refine .nil (.then ?_)
 obtain ⟨j_4, h, hK4⟩ := bind_some h
 refine .thenJ (ι := ((List (List Int)) × (List (List Int)) × Int)) (fun j_4 => []) (fun j_4 => [(5001, some (CPred.at (ptr m5001 0) (deep (fun z0 => cont 22 (⟨z0⟩ : Raw)) (rowV 32 j_4.1)))), (5003, some (CPred.at (ptr m5003 0) (deep (fun z0 => cont 22 (⟨z0⟩ : Raw)) (rowV 32 j_4.2.1)))), (5004, some (boxAt m5004 3 j_4.2.2))]) (fun s => j_4 = s) (.k 8 rfl (.k 9 rfl (.k 10 rfl .nil))) SubB.nil ?_ (fun j_4' hj4 => ?_)
 ·
  skip
  refine .block ?_
  refine .close (k := 5001) (g := 5002) (fun z => cont 22 (⟨z⟩ : Raw)) rfl rfl rfl ?_
  refine .close (k := 5003) (g := 5005) (fun z => cont 22 (⟨z⟩ : Raw)) rfl rfl rfl ?_
  refine .rforL h (fun p5_ => [(24, ⟨True, rep p5_.1⟩)]) (fun p5_ => [(5001, some (CPred.at (ptr m5001 0) (deep (fun z0 => cont 22 (⟨z0⟩ : Raw)) (rowV 32 p5_.2.1)))), (5003, some (CPred.at (ptr m5003 0) (deep (fun z0 => cont 22 (⟨z0⟩ : Raw)) (rowV 32 p5_.2.2.1)))), (5004, some (boxAt m5004 3 p5_.2.2.2))]) (.k 24 rfl .nil) (.k 5001 rfl (.k 5003 rfl (.k 5004 rfl .nil))) (.k 4 rfl (.k 8 rfl (.k 9 rfl (.k 10 rfl (.k 11 rfl (.k 23 rfl .nil)))))) SubB.nil (fun p5_ o_5 h hD5 => ?_)
  refine .open (k := 5001) (g := 5006) rfl rfl (fun s5006 => ?_)
  refine .open (k := 5003) (g := 5007) rfl rfl (fun s5007 => ?_)
  refine .seq (.region [] mixed (by kernel_rfl) ?_)
  refine .cons (.lt .none (.s rfl) (.s rfl)) rfl ?_
  refine .nil (.then ?_)
  refine .seq ?_
  refine .cond (t := 25) rfl trivial (fun hb6 => ?_) (fun hb6 => ?_)
  ·
   replace h := bif_t h hb6
   refine .skip ?_
   refine .then ?_
   refine .seq ?_
   obtain ⟨j_7, h, hK7⟩ := bind_some h
   unfold layer_sweep_L1 at h
   refine .thenJ (ι := ((List (List Int)) × (List (List Int)) × Int)) (fun j_7 => []) (fun j_7 => [(5001, some (CPred.at (ptr m5001 0) (deep (fun z0 => cont 22 (⟨z0⟩ : Raw)) (rowV 32 j_7.1)))), (5003, some (CPred.at (ptr m5003 0) (deep (fun z0 => cont 22 (⟨z0⟩ : Raw)) (rowV 32 j_7.2.1)))), (5004, some (boxAt m5004 3 j_7.2.2))]) (fun s => j_7 = s) (.k 4 rfl (.k 8 rfl (.k 9 rfl (.k 10 rfl (.k 11 rfl (.k 23 rfl (.k 24 rfl .nil))))))) SubB.nil ?_ (fun j_7' hj7 => ?_)
   ·
    skip
    refine .block ?_
    refine .seq ?_
    refine .seq (.region [] mixed (by kernel_rfl) ?_)
    refine .cons (.assign .none (.int (by decide))) rfl ?_
    refine .nil (.then ?_)
    obtain ⟨j_8, h, hK8⟩ := bind_some h
    refine .thenJ (ι := (List (List Int))) (fun j_8 => []) (fun j_8 => [(5006, some (CPred.at s5006 (rowV 32 j_8)))]) (fun s => j_8 = s) (.k 4 rfl (.k 8 rfl (.k 9 rfl (.k 10 rfl (.k 11 rfl (.k 23 rfl (.k 24 rfl .nil))))))) (.k 5001 rfl (.k 5003 rfl (.k 5004 rfl (.k 5007 rfl .nil)))) ?_ (fun j_8' hj8 => ?_)
    ·
     skip
     refine .block ?_
     refine .loopL h (fun s9_ => [(12, ⟨True, rep s9_.1⟩)]) (fun s9_ => [(5006, some (CPred.at s5006 (rowV 32 s9_.2)))]) (.k 12 rfl .nil) (.k 5006 rfl .nil) (.k 4 rfl (.k 8 rfl (.k 9 rfl (.k 10 rfl (.k 11 rfl (.k 23 rfl (.k 24 rfl .nil))))))) (.k 5001 rfl (.k 5003 rfl (.k 5004 rfl (.k 5007 rfl .nil)))) (fun s9_ o_9 h hD9 => ?_)
     unfold layer_sweep_L2 at h
     refine .seq ?_
     refine .seq (.region [([], []), ([5001], []), ([5006], []), ([], [])] mixed (by kernel_rfl) ?_)
     refine .consA (.move .none (.s rfl)) rfl ?_
     refine .consA (.loadAt0 (k := 5001) .none tr22 rfl (.s rfl)) rfl ?_
     refine .consA (.lenO (k := 5006) sl22 (.told (.s rfl) rfl)) rfl ?_
     refine .consA (.lt .none (.s rfl) (.s rfl)) rfl ?_
     refine .nil (.then ?_)
     refine .cond (t := 29) rfl trivial (fun hb10 => ?_) (fun hb10 => ?_)
     ·
      replace h := bif_t h hb10
      refine .skip ?_
      refine .then ?_
      refine .seq ?_
      refine .block ?_
      refine .region [([5001], []), ([], []), ([5001], []), ([], []), ([5006], []), ([5006], []), ([5001], []), ([], []), ([], []), ([5006], []), ([5006], []), ([], []), ([], []), ([5006], []), ([5006], [5006])] mixed (by kernel_rfl) ?_
      refine .consA (.loadAt0 (k := 5001) .none tr22 rfl (.s rfl)) rfl ?_
      refine .consA (.move .none (.s rfl)) rfl ?_
      refine .consA (.loadAt0 (k := 5001) .none tr22 rfl (.s rfl)) rfl ?_
      refine .consA (.move .none (.s rfl)) rfl ?_
      obtain ⟨hn11, h⟩ := need_some h
      refine .consA (.indexAddrO (k := 5006) .none sl22 ty32 (.s rfl) rfl (.s rfl) (fun _ => hn11)) rfl ?_
      refine .consA (.loadElem0 (k := 5006) .none ty32 (.s rfl) rfl (fun _ => hn11)) rfl ?_
      refine .consA (.loadAt0 (k := 5001) .none tr22 rfl (.s rfl)) rfl ?_
      refine .consA (.move .none (.s rfl)) rfl ?_
      refine .consA (.subW .none (.s rfl) (.int (by decide))) rfl ?_
      obtain ⟨hn12, h⟩ := need_some h
      refine .consA (.indexAddrO (k := 5006) .none sl22 ty32 (.s rfl) rfl (.s rfl) (fun _ => hn12)) rfl ?_
      refine .consA (.loadElem0 (k := 5006) .none ty32 (.s rfl) rfl (fun _ => hn12)) rfl ?_
      refine .consA (.load .none ty23 (.s rfl)) rfl ?_
      obtain ⟨r4, hv13, h⟩ := bind_some h
      refine .consA (.call .none (layer_sorted_ok hv13) (.cons (.s rfl) (.cons (.s rfl) (.cons (.s rfl) (.cons (Opd.func (ι := Link × (Int × Int)) (pre := fun i => layer_sweep_2 i.1 = some i.2) (Ss := fun i => [rep i.1]) (S := fun i => tup2 i.2) fnok101 (fun i h => layer_sweep_2_ok h)) .nil))))) rfl ?_
      obtain ⟨hn14, h⟩ := need_some h
      refine .consA (.indexAddrO (k := 5006) .none sl22 ty32 (.s rfl) rfl (.s rfl) (fun _ => hn14)) rfl ?_
      refine .consN (.storeElem0 (k := 5006) ty32 (.s rfl) rfl (.s rfl) hn14) rfl ?_
      refine .nil ?_
      refine .blkNormal ?_
      refine .then ?_
      obtain ⟨c1, hv15, h⟩ := bnd_some h
      refine .reB (t := 5006) rfl (congrArg (fun y => CPred.at s5006 (rowV 32 y)) hv15) ?_
      refine .region [] mixed (by kernel_rfl) ?_
      refine .cons (.move .none (.s rfl)) rfl ?_
      refine .cons (.addW .none (.s rfl) (.int (by decide))) rfl ?_
      obtain ⟨i1, hv16, h⟩ := bnd_some h
      refine .cons (.re hv16 (.assign .none (.s rfl))) rfl ?_
      refine .nil ?_
      exact Ends.againL (some_eq h) (.k 12 rfl (.k 4 rfl (.k 8 rfl (.k 9 rfl (.k 10 rfl (.k 11 rfl (.k 23 rfl (.k 24 rfl .nil)))))))) (.k 5006 rfl (.k 5001 rfl (.k 5003 rfl (.k 5004 rfl (.k 5007 rfl .nil)))))
     ·
      replace h := bif_f h hb10
      refine .exit ?_
      refine .thenExit ?_
      refine .thenExit ?_
      refine .blkExit ?_
      replace h := hD9 _ (some_eq h)
      exact Ends.join _ (some_eq h) (.k 4 rfl (.k 8 rfl (.k 9 rfl (.k 10 rfl (.k 11 rfl (.k 23 rfl (.k 24 rfl .nil))))))) (.k 5006 rfl (.k 5001 rfl (.k 5003 rfl (.k 5004 rfl (.k 5007 rfl .nil)))))
    ·
     subst hj8; have h := hK8; clear hK8
     refine .seq (.region [([], []), ([5001, 5006, 5004, 5003, 5007], [5001, 5006, 5004, 5003, 5007])] mixed (by kernel_rfl) ?_)
     refine .consA (.move .none (.s rfl)) rfl ?_
     obtain ⟨r5, hv17, h⟩ := bind_some h
     refine .consW (.callClo [5001, 5006, 5004, 5003, 5007] (Ss := []) (Cs := [isV (ptr m5001 0), ref l1, isV (ptr m5004 0), isV (ptr m5003 0)]) (.s rfl) (layer_sweep_1_ok hv17) .nil (.cons (k := 5001) rfl (.cons (k := 5006) rfl (.cons (k := 5004) rfl (.cons (k := 5003) rfl (.cons (k := 5007) rfl .nil))))) rfl (by decide) (by decide) (by intro d h; cases h; decide)) rfl rfl ?_
     refine .nil (.then ?_)
     refine .open (k := 5001) (g := 5008) rfl rfl (fun s5008 => ?_)
     refine .open (k := 5003) (g := 5009) rfl rfl (fun s5009 => ?_)
     refine .seq ?_
     refine .seq (.region [([5001], []), ([5008], []), ([], []), ([], [])] mixed (by kernel_rfl) ?_)
     refine .consA (.loadAt0 (k := 5001) .none tr22 rfl (.s rfl)) rfl ?_
     refine .consA (.lenO (k := 5008) sl22 (.told (.s rfl) rfl)) rfl ?_
     refine .consA (.subW .none (.s rfl) (.int (by decide))) rfl ?_
     obtain ⟨i2, hv18, h⟩ := bnd_some h
     refine .consA (.re hv18 (.assign .none (.s rfl))) rfl ?_
     refine .nil (.then ?_)
     obtain ⟨j_19, h, hK19⟩ := bind_some h
     refine .thenJ (ι := (List (List Int))) (fun j_19 => []) (fun j_19 => [(5008, some (CPred.at s5008 (rowV 32 j_19)))]) (fun s => j_19 = s) (.k 4 rfl (.k 8 rfl (.k 9 rfl (.k 10 rfl (.k 11 rfl (.k 23 rfl (.k 24 rfl .nil))))))) (.k 5001 rfl (.k 5003 rfl (.k 5004 rfl (.k 5009 rfl .nil)))) ?_ (fun j_19' hj19 => ?_)
     ·
      skip
      refine .block ?_
      refine .loopL h (fun s20_ => [(13, ⟨True, rep s20_.1⟩)]) (fun s20_ => [(5008, some (CPred.at s5008 (rowV 32 s20_.2)))]) (.k 13 rfl .nil) (.k 5008 rfl .nil) (.k 4 rfl (.k 8 rfl (.k 9 rfl (.k 10 rfl (.k 11 rfl (.k 23 rfl (.k 24 rfl .nil))))))) (.k 5001 rfl (.k 5003 rfl (.k 5004 rfl (.k 5009 rfl .nil)))) (fun s20_ o_20 h hD20 => ?_)
      unfold layer_sweep_L3 at h
      refine .seq ?_
      refine .seq (.region [] mixed (by kernel_rfl) ?_)
      refine .cons (.move .none (.s rfl)) rfl ?_
      refine .cons (.ge .none (.s rfl) (.int (by decide))) rfl ?_
      refine .nil (.then ?_)
      refine .cond (t := 52) rfl trivial (fun hb21 => ?_) (fun hb21 => ?_)
      ·
       replace h := bif_t h hb21
       refine .skip ?_
       refine .then ?_
       refine .seq ?_
       refine .block ?_
       refine .region [([5001], []), ([], []), ([5001], []), ([], []), ([5008], []), ([5008], []), ([5001], []), ([], []), ([], []), ([5008], []), ([5008], []), ([], []), ([], []), ([5008], []), ([5008], [5008])] mixed (by kernel_rfl) ?_
       refine .consA (.loadAt0 (k := 5001) .none tr22 rfl (.s rfl)) rfl ?_
       refine .consA (.move .none (.s rfl)) rfl ?_
       refine .consA (.loadAt0 (k := 5001) .none tr22 rfl (.s rfl)) rfl ?_
       refine .consA (.move .none (.s rfl)) rfl ?_
       obtain ⟨hn22, h⟩ := need_some h
       refine .consA (.indexAddrO (k := 5008) .none sl22 ty32 (.s rfl) rfl (.s rfl) (fun _ => hn22)) rfl ?_
       refine .consA (.loadElem0 (k := 5008) .none ty32 (.s rfl) rfl (fun _ => hn22)) rfl ?_
       refine .consA (.loadAt0 (k := 5001) .none tr22 rfl (.s rfl)) rfl ?_
       refine .consA (.move .none (.s rfl)) rfl ?_
       refine .consA (.addW .none (.s rfl) (.int (by decide))) rfl ?_
       obtain ⟨hn23, h⟩ := need_some h
       refine .consA (.indexAddrO (k := 5008) .none sl22 ty32 (.s rfl) rfl (.s rfl) (fun _ => hn23)) rfl ?_
       refine .consA (.loadElem0 (k := 5008) .none ty32 (.s rfl) rfl (fun _ => hn23)) rfl ?_
       refine .consA (.load .none ty23 (.s rfl)) rfl ?_
       obtain ⟨r6, hv24, h⟩ := bind_some h
       refine .consA (.call .none (layer_sorted_ok hv24) (.cons (.s rfl) (.cons (.s rfl) (.cons (.s rfl) (.cons (Opd.func (ι := Link × (Int × Int)) (pre := fun i => layer_sweep_3 i.1 = some i.2) (Ss := fun i => [rep i.1]) (S := fun i => tup2 i.2) fnok102 (fun i h => layer_sweep_3_ok h)) .nil))))) rfl ?_
       obtain ⟨hn25, h⟩ := need_some h
       refine .consA (.indexAddrO (k := 5008) .none sl22 ty32 (.s rfl) rfl (.s rfl) (fun _ => hn25)) rfl ?_
       refine .consN (.storeElem0 (k := 5008) ty32 (.s rfl) rfl (.s rfl) hn25) rfl ?_
       refine .nil ?_
       refine .blkNormal ?_
       refine .then ?_
       obtain ⟨c2, hv26, h⟩ := bnd_some h
       refine .reB (t := 5008) rfl (congrArg (fun y => CPred.at s5008 (rowV 32 y)) hv26) ?_
       refine .region [] mixed (by kernel_rfl) ?_
       refine .cons (.move .none (.s rfl)) rfl ?_
       refine .cons (.subW .none (.s rfl) (.int (by decide))) rfl ?_
       obtain ⟨i3, hv27, h⟩ := bnd_some h
       refine .cons (.re hv27 (.assign .none (.s rfl))) rfl ?_
       refine .nil ?_
       exact Ends.againL (some_eq h) (.k 13 rfl (.k 4 rfl (.k 8 rfl (.k 9 rfl (.k 10 rfl (.k 11 rfl (.k 23 rfl (.k 24 rfl .nil)))))))) (.k 5008 rfl (.k 5001 rfl (.k 5003 rfl (.k 5004 rfl (.k 5009 rfl .nil)))))
      ·
       replace h := bif_f h hb21
       refine .exit ?_
       refine .thenExit ?_
       refine .thenExit ?_
       refine .blkExit ?_
       replace h := hD20 _ (some_eq h)
       exact Ends.join _ (some_eq h) (.k 4 rfl (.k 8 rfl (.k 9 rfl (.k 10 rfl (.k 11 rfl (.k 23 rfl (.k 24 rfl .nil))))))) (.k 5008 rfl (.k 5001 rfl (.k 5003 rfl (.k 5004 rfl (.k 5009 rfl .nil)))))
     ·
      subst hj19; have h := hK19; clear hK19
      refine .region [([], []), ([5001, 5008, 5004, 5003, 5009], [5001, 5008, 5004, 5003, 5009])] mixed (by kernel_rfl) ?_
      refine .consA (.move .none (.s rfl)) rfl ?_
      obtain ⟨r7, hv28, h⟩ := bind_some h
      refine .consW (.callClo [5001, 5008, 5004, 5003, 5009] (Ss := []) (Cs := [isV (ptr m5001 0), ref l1, isV (ptr m5004 0), isV (ptr m5003 0)]) (.s rfl) (layer_sweep_1_ok hv28) .nil (.cons (k := 5001) rfl (.cons (k := 5008) rfl (.cons (k := 5004) rfl (.cons (k := 5003) rfl (.cons (k := 5009) rfl .nil))))) rfl (by decide) (by decide) (by intro d h; cases h; decide)) rfl rfl ?_
      refine .nil ?_
      refine .blkNormal ?_
      exact Ends.join _ (some_eq h) (.k 4 rfl (.k 8 rfl (.k 9 rfl (.k 10 rfl (.k 11 rfl (.k 23 rfl (.k 24 rfl .nil))))))) (.k 5001 rfl (.k 5003 rfl (.k 5004 rfl .nil)))
   ·
    subst hj7; have h := hK7; clear hK7
    refine .open (k := 5001) (g := 5010) rfl rfl (fun s5010 => ?_)
    refine .open (k := 5003) (g := 5011) rfl rfl (fun s5011 => ?_)
    refine .region [] mixed (by kernel_rfl) ?_
    refine .cons (.addW .none (.s rfl) (.int (by decide))) rfl ?_
    refine .cons (.move .none (.s rfl)) rfl ?_
    refine .nil ?_
    refine .close (k := 5001) (g := 5010) (fun z => cont 22 (⟨z⟩ : Raw)) rfl rfl rfl ?_
    refine .close (k := 5003) (g := 5011) (fun z => cont 22 (⟨z⟩ : Raw)) rfl rfl rfl ?_
    exact Ends.againL (some_eq h) (.k 24 rfl (.k 4 rfl (.k 8 rfl (.k 9 rfl (.k 10 rfl (.k 11 rfl (.k 23 rfl .nil))))))) (.k 5001 rfl (.k 5003 rfl (.k 5004 rfl .nil)))
  ·
   replace h := bif_f h hb6
   refine .exit ?_
   refine .thenExit ?_
   refine .thenExit ?_
   refine .blkExit ?_
   refine .close (k := 5001) (g := 5006) (fun z => cont 22 (⟨z⟩ : Raw)) rfl rfl rfl ?_
   refine .close (k := 5003) (g := 5007) (fun z => cont 22 (⟨z⟩ : Raw)) rfl rfl rfl ?_
   replace h := hD5 _ (some_eq h)
   exact Ends.join _ (some_eq h) (.k 8 rfl (.k 9 rfl (.k 10 rfl .nil))) (.k 5001 rfl (.k 5003 rfl (.k 5004 rfl .nil)))
 ·
  subst hj4; have h := hK4; clear hK4
  refine .freezeBox (g := 5004) (ts := [10]) rfl (.cons (t := 10) rfl trivial .nil) (.k 5003 rfl .nil) rfl ?_
  refine .open (k := 5003) (g := 5012) rfl rfl (fun s5012 => ?_)
  refine .seq ?_
  refine .seq (.region [([5003], []), ([5012], []), ([], [])] mixed (by kernel_rfl) ?_)
  refine .consA (.loadAt0 (k := 5003) .none tr22 rfl (.s rfl)) rfl ?_
  refine .consA (.lenO (k := 5012) sl22 (.told (.s rfl) rfl)) rfl ?_
  refine .consA (.move .none (.int (by decide))) rfl ?_
  refine .nil (.then ?_)
  obtain ⟨j_29, h, hK29⟩ := bind_some h
  refine .thenJ (ι := (List (List Int))) (fun j_29 => []) (fun j_29 => [(5012, some (CPred.at s5012 (rowV 32 j_29)))]) (fun s => j_29 = s) (.k 9 rfl (.k 10 rfl .nil)) (.k 5003 rfl .nil) ?_ (fun j_29' hj29 => ?_)
  ·
   skip
   refine .block ?_
   refine .rforL h (fun p30_ => [(74, ⟨True, rep p30_.1⟩)]) (fun p30_ => [(5012, some (CPred.at s5012 (rowV 32 p30_.2)))]) (.k 74 rfl .nil) (.k 5012 rfl .nil) (.k 9 rfl (.k 10 rfl (.k 73 rfl .nil))) (.k 5003 rfl .nil) (fun p30_ o_30 h hD30 => ?_)
   refine .seq (.region [] mixed (by kernel_rfl) ?_)
   refine .cons (.lt .none (.s rfl) (.s rfl)) rfl ?_
   refine .nil (.then ?_)
   refine .seq ?_
   refine .cond (t := 75) rfl trivial (fun hb31 => ?_) (fun hb31 => ?_)
   ·
    replace h := bif_t h hb31
    refine .skip ?_
    refine .then ?_
    refine .seq ?_
    obtain ⟨j_32, h, hK32⟩ := bind_some h
    unfold layer_sweep_L4 at h
    refine .thenJ (ι := (List (List Int))) (fun j_32 => []) (fun j_32 => [(5012, some (CPred.at s5012 (rowV 32 j_32)))]) (fun s => j_32 = s) (.k 9 rfl (.k 10 rfl (.k 73 rfl (.k 74 rfl .nil)))) (.k 5003 rfl .nil) ?_ (fun j_32' hj32 => ?_)
    ·
     skip
     refine .block ?_
     refine .seq (.region [] mixed (by kernel_rfl) ?_)
     refine .cons (.move .none (.s rfl)) rfl ?_
     refine .cons (.assign .none (.s rfl)) rfl ?_
     refine .nil (.then ?_)
     refine .region [([5003], []), ([], []), ([5003], []), ([], []), ([5012], []), ([5012], []), ([], []), ([5012], []), ([5012], [5012])] mixed (by kernel_rfl) ?_
     refine .consA (.loadAt0 (k := 5003) .none tr22 rfl (.s rfl)) rfl ?_
     refine .consA (.move .none (.s rfl)) rfl ?_
     refine .consA (.loadAt0 (k := 5003) .none tr22 rfl (.s rfl)) rfl ?_
     refine .consA (.move .none (.s rfl)) rfl ?_
     obtain ⟨hn33, h⟩ := need_some h
     refine .consA (.indexAddrO (k := 5012) .none sl22 ty32 (.s rfl) rfl (.s rfl) (fun _ => hn33)) rfl ?_
     refine .consA (.loadElem0 (k := 5012) .none ty32 (.s rfl) rfl (fun _ => hn33)) rfl ?_
     obtain ⟨r8, hv34, h⟩ := bind_some h
     refine .consA (.call .none (slices_Clone_int_ok hv34).frz (.cons (.s rfl) .nil)) rfl ?_
     obtain ⟨hn35, h⟩ := need_some h
     refine .consA (.indexAddrO (k := 5012) .none sl22 ty32 (.s rfl) rfl (.s rfl) (fun _ => hn35)) rfl ?_
     refine .consN (.storeElem0 (k := 5012) ty32 (.s rfl) rfl (.s rfl) hn35) rfl ?_
     refine .nil ?_
     refine .blkNormal ?_
     exact Ends.join _ (some_eq h) (.k 9 rfl (.k 10 rfl (.k 73 rfl (.k 74 rfl .nil)))) (.k 5012 rfl (.k 5003 rfl .nil))
    ·
     subst hj32; have h := hK32; clear hK32
     refine .region [] mixed (by kernel_rfl) ?_
     refine .cons (.addW .none (.s rfl) (.int (by decide))) rfl ?_
     refine .cons (.move .none (.s rfl)) rfl ?_
     refine .nil ?_
     exact Ends.againL (some_eq h) (.k 74 rfl (.k 9 rfl (.k 10 rfl (.k 73 rfl .nil)))) (.k 5012 rfl (.k 5003 rfl .nil))
   ·
    replace h := bif_f h hb31
    refine .exit ?_
    refine .thenExit ?_
    refine .thenExit ?_
    refine .blkExit ?_
    replace h := hD30 _ (some_eq h)
    exact Ends.join _ (some_eq h) (.k 9 rfl (.k 10 rfl .nil)) (.k 5012 rfl (.k 5003 rfl .nil))
  ·
   subst hj29; have h := hK29; clear hK29
   refine .seq (.region [([5003], []), ([], []), ([], []), ([], [])] mixed (by kernel_rfl) ?_)
   refine .consA (.loadAt0 (k := 5003) .none tr22 rfl (.s rfl)) rfl ?_
   refine .consA (.load .none ty3 (.s rfl)) rfl ?_
   refine .consA (.assign .none (.s rfl)) rfl ?_
   refine .consA (.assign .none (.s rfl)) rfl ?_
   refine .nil (.then ?_)
   refine .freezeRow (g := 5012) (ts := [6]) rfl (.cons (t := 6) rfl trivial .nil) SubB.nil rfl ?_
   refine .ret ?_
   obtain rfl := some_eq h
   exact Ends.ret2 (.inl rfl) Try.results55 (ResOK.tmp rfl trivial Imp.refl) (ResOK.tmp rfl trivial Imp.refl)

theorem layer_Sweep_ok {rows1 : (List (List Int))} {l1 : (List Link)} {rounds1 : Int} {r : ((List (List Int)) × Int × Int)}  (h : layer_Sweep rows1 l1 rounds1 = some r) : FSpec Try.prog 10 [rep rows1, rep l1, rep rounds1] (tup [rep r.1, rep r.2.1, rep r.2.2]) := by
 unfold layer_Sweep at h
 refine FSpec.intro (n := 33) fnok10 Try.func10 rfl Try.ntmps10 rfl (fun F => ?_)
 refine .seq (.region [] mixed (by kernel_rfl) ?_)
 refine .cons (.assign .none (.const (x := ([] : (List (List Int)))) (fun M w => ⟨_, ⟨none, 0, rfl, Nat.le_refl _, by decide, rfl⟩, rfl⟩))) rfl ?_
 refine .cons (.assign .none (.int (by decide))) rfl ?_
 refine .cons (.assign .none (.int (by decide))) rfl ?_
 refine .nil (.then ?_)
 refine .seq ?_
 refine .seq (.region [] mixed (by kernel_rfl) ?_)
 refine .cons (.move .none (.s rfl)) rfl ?_
 refine .cons (.move .none (.s rfl)) rfl ?_
 obtain ⟨e1, hv1, h⟩ := bind_some h
 refine .cons (.call .none (layer_checkRows_ok hv1) (.cons (.s rfl) (.cons (.s rfl) .nil))) rfl ?_
 refine .cons (.assign .none (.s rfl)) rfl ?_
 refine .nil (.then ?_)
 refine .seq (.region [] mixed (by kernel_rfl) ?_)
 refine .cons (.move .none (.s rfl)) rfl ?_
 refine .cons (.neI .none (.s rfl) (.int (by decide))) rfl ?_
 refine .nil (.then ?_)
 refine .cond (t := 16) rfl trivial (fun hb2 => ?_) (fun hb2 => ?_)
 ·
  replace h := bif_t h hb2
  refine .seq (.region [] mixed (by kernel_rfl) ?_)
  refine .cons (.move .none (.s rfl)) rfl ?_
  refine .cons (.assign .none (.const (x := ([] : (List (List Int)))) (fun M w => ⟨_, ⟨none, 0, rfl, Nat.le_refl _, by decide, rfl⟩, rfl⟩))) rfl ?_
  refine .cons (.assign .none (.int (by decide))) rfl ?_
  refine .cons (.assign .none (.s rfl)) rfl ?_
  refine .nil (.then ?_)
  refine .ret ?_
  refine .thenRet ?_
  obtain rfl := some_eq h
  exact Ends.ret3 (.inl rfl) Try.results10 (ResOK.tmp rfl trivial Imp.refl) (ResOK.tmp rfl trivial Imp.refl) (ResOK.tmp rfl trivial Imp.refl)
 ·
  replace h := bif_f h hb2
  refine .skip ?_
  refine .then ?_
  refine .seq ?_
  refine .seq (.region [] mixed (by kernel_rfl) ?_)
  refine .cons (.move .none (.s rfl)) rfl ?_
  refine .cons (.lt .none (.s rfl) (.int (by decide))) rfl ?_
  refine .cons (.move .none (.s rfl)) rfl ?_
  refine .cons (.move (.at rfl rfl) (.s rfl)) rfl ?_
  refine .cons (.gt (.at rfl rfl) (.tmp rfl id) (.int (by decide))) rfl ?_
  refine .cons (.pickOr .none (.s rfl) (.tmp rfl id)) rfl ?_
  refine .nil (.then ?_)
  refine .cond (t := 23) rfl trivial (fun hb3 => ?_) (fun hb3 => ?_)
  ·
   replace h := bif_t h hb3
   refine .seq (.region [] mixed (by kernel_rfl) ?_)
   refine .cons (.assign .none (.const (x := ([] : (List (List Int)))) (fun M w => ⟨_, ⟨none, 0, rfl, Nat.le_refl _, by decide, rfl⟩, rfl⟩))) rfl ?_
   refine .cons (.assign .none (.int (by decide))) rfl ?_
   refine .cons (.assign .none (.int (by decide))) rfl ?_
   refine .nil (.then ?_)
   refine .ret ?_
   refine .thenRet ?_
   obtain rfl := some_eq h
   exact Ends.ret3 (.inl rfl) Try.results10 (ResOK.tmp rfl trivial Imp.refl) (ResOK.tmp rfl trivial Imp.refl) (ResOK.tmp rfl trivial Imp.refl)
  ·
   replace h := bif_f h hb3
   refine .skip ?_
   refine .then ?_
   refine .seq (.region [] mixed (by kernel_rfl) ?_)
   refine .cons (.move .none (.s rfl)) rfl ?_
   refine .cons (.move .none (.s rfl)) rfl ?_
   refine .cons (.move .none (.s rfl)) rfl ?_
   obtain ⟨r1, hv4, h⟩ := bind_some h
   refine .cons (.call .none (layer_sweep_ok hv4) (.cons (.s rfl) (.cons (.s rfl) (.cons (.s rfl) .nil)))) rfl ?_
   refine .cons (.move .none (.s rfl)) rfl ?_
   refine .cons (.extract .none (.s rfl) rfl) rfl ?_
   refine .cons (.extract .none (.s rfl) rfl) rfl ?_
   refine .cons (.assign .none (.s rfl)) rfl ?_
   refine .cons (.assign .none (.s rfl)) rfl ?_
   refine .nil (.then ?_)
   refine .seq (.region [] mixed (by kernel_rfl) ?_)
   refine .cons (.move .none (.s rfl)) rfl ?_
   refine .cons (.move .none (.s rfl)) rfl ?_
   refine .cons (.assign .none (.s rfl)) rfl ?_
   refine .cons (.assign .none (.s rfl)) rfl ?_
   refine .cons (.assign .none (.int (by decide))) rfl ?_
   refine .nil (.then ?_)
   refine .ret ?_
   obtain rfl := some_eq h
   exact Ends.ret3 (.inl rfl) Try.results10 (ResOK.tmp rfl trivial Imp.refl) (ResOK.tmp rfl trivial Imp.refl) (ResOK.tmp rfl trivial Imp.refl)


end Go.Proofs.Ytbahnfkccdlpnaa
