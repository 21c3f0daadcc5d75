/-
  The walks: what a function computes is what its plain function says (printed by a program of one's own).
-/
import Derived.Test.YtbahnfkccdlpnaaTLaWa2
set_option maxRecDepth 100000
set_option linter.unusedSimpArgs false
set_option linter.unusedVariables false
namespace Go.Proofs.Ytbahnfkccdlpnaa
open Go Go.DB Go.RowKit

set_option maxHeartbeats 4000000 in
theorem layer_Draw_ok {sizes1 : (List Point)} {l1 : (List Link)} {gapx1 : Int} {gapy1 : Int} {r : ((List Point) × Int)}  (h : layer_Draw sizes1 l1 gapx1 gapy1 = some r) : FSpec Try.prog 47 [rep sizes1, rep l1, rep gapx1, rep gapy1] (tup [rep r.1, rep r.2]) := by
 unfold layer_Draw at h
 refine FSpec.intro (n := 261) fnok47 Try.func47 rfl Try.ntmps47 rfl (fun F => ?_)
 refine .seq (.region [] mixed (by kernel_rfl) ?_)
 refine .cons (.assign .none (.const (x := ([] : (List Point))) (fun M w => ⟨_, ⟨none, 0, rfl, Nat.le_refl _, by decide, rfl⟩, rfl⟩))) rfl ?_
 refine .cons (.assign .none (.int (by decide))) rfl ?_
 refine .nil (.then ?_)
 refine .seq ?_
 refine .seq (.region [] mixed (by kernel_rfl) ?_)
 refine .cons (.move .none (.s rfl)) rfl ?_
 refine .cons (.len .none sl71 (.s rfl)) rfl ?_
 refine .cons (.eqI .none (.s rfl) (.int (by decide))) rfl ?_
 refine .nil (.then ?_)
 refine .cond (t := 38) rfl trivial (fun hb1 => ?_) (fun hb1 => ?_)
 ·
  replace h := bif_t h hb1
  refine .seq (.region [] mixed (by kernel_rfl) ?_)
  refine .cons (.assign .none (.const (x := ([] : (List Point))) (fun M w => ⟨_, ⟨none, 0, rfl, Nat.le_refl _, by decide, rfl⟩, rfl⟩))) rfl ?_
  refine .cons (.assign .none (.int (by decide))) rfl ?_
  refine .nil (.then ?_)
  refine .ret ?_
  refine .thenRet ?_
  obtain rfl := some_eq h
  exact Ends.ret2 (.inl rfl) Try.results47 (ResOK.tmp rfl trivial Imp.refl) (ResOK.tmp rfl trivial Imp.refl)
 ·
  replace h := bif_f h hb1
  refine .skip ?_
  refine .then ?_
  refine .seq (.region [] mixed (by kernel_rfl) ?_)
  refine .cons (.move .none (.s rfl)) rfl ?_
  refine .cons (.len .none sl71 (.s rfl)) rfl ?_
  obtain ⟨n1, hv2, h⟩ := bnd_some h
  refine .cons (.re hv2 (.assign .none (.s rfl))) rfl ?_
  refine .nil (.then ?_)
  refine .seq ?_
  refine .seq (.region [] mixed (by kernel_rfl) ?_)
  refine .cons (.move .none (.s rfl)) rfl ?_
  refine .cons (.move .none (.s rfl)) rfl ?_
  obtain ⟨e1, hv3, h⟩ := bind_some h
  refine .cons (.call .none (layer_Check_ok hv3) (.cons (.s rfl) (.cons (.s rfl) .nil))) rfl ?_
  refine .cons (.assign .none (.s rfl)) rfl ?_
  refine .nil (.then ?_)
  refine .seq (.region [] mixed (by kernel_rfl) ?_)
  refine .cons (.move .none (.s rfl)) rfl ?_
  refine .cons (.neI .none (.s rfl) (.int (by decide))) rfl ?_
  refine .nil (.then ?_)
  refine .cond (t := 45) rfl trivial (fun hb4 => ?_) (fun hb4 => ?_)
  ·
   replace h := bif_t h hb4
   refine .seq (.region [] mixed (by kernel_rfl) ?_)
   refine .cons (.move .none (.s rfl)) rfl ?_
   refine .cons (.assign .none (.const (x := ([] : (List Point))) (fun M w => ⟨_, ⟨none, 0, rfl, Nat.le_refl _, by decide, rfl⟩, rfl⟩))) rfl ?_
   refine .cons (.assign .none (.s rfl)) rfl ?_
   refine .nil (.then ?_)
   refine .ret ?_
   refine .thenRet ?_
   obtain rfl := some_eq h
   exact Ends.ret2 (.inl rfl) Try.results47 (ResOK.tmp rfl trivial Imp.refl) (ResOK.tmp rfl trivial Imp.refl)
  ·
   replace h := bif_f h hb4
   refine .skip ?_
   refine .then ?_
   refine .seq ?_
   refine .seq (.region [] mixed (by kernel_rfl) ?_)
   refine .cons (.move .none (.s rfl)) rfl ?_
   refine .cons (.len .none sl71 (.s rfl)) rfl ?_
   refine .cons (.move .none (.int (by decide))) rfl ?_
   refine .nil (.then ?_)
   obtain ⟨o_5, h, hK5⟩ := bindR_some h
   refine .thenJ (ι := Unit) (fun j_5 => []) (fun j_5 => []) (fun s => o_5 = Res.nx s) (.k 0 rfl (.k 1 rfl (.k 2 rfl (.k 3 rfl (.k 10 rfl .nil))))) SubB.nil ?_ (fun j_5 hj5 => ?_)
   ·
    skip
    refine .block ?_
    refine .rforEL h (fun p6_ => [(49, ⟨True, rep p6_.1⟩)]) (fun p6_ => []) (.k 49 rfl .nil) SubB.nil (.k 0 rfl (.k 1 rfl (.k 2 rfl (.k 3 rfl (.k 10 rfl (.k 47 rfl (.k 48 rfl .nil))))))) SubB.nil (fun p6_ o_6 h hD6 => ?_)
    refine .seq (.region [] mixed (by kernel_rfl) ?_)
    refine .cons (.lt .none (.s rfl) (.s rfl)) rfl ?_
    refine .nil (.then ?_)
    refine .seq ?_
    refine .cond (t := 50) rfl trivial (fun hb7 => ?_) (fun hb7 => ?_)
    ·
     replace h := bif_t h hb7
     refine .skip ?_
     refine .then ?_
     refine .seq ?_
     obtain ⟨o_8, h, hK8⟩ := bindD_some h
     unfold layer_Draw_L1 at h
     refine .thenJ (ι := Unit) (fun j_8 => []) (fun j_8 => []) (fun s => o_8 = Res.nx s) (.k 0 rfl (.k 1 rfl (.k 2 rfl (.k 3 rfl (.k 10 rfl (.k 47 rfl (.k 48 rfl (.k 49 rfl .nil)))))))) SubB.nil ?_ (fun j_8 hj8 => ?_)
     ·
      skip
      refine .block ?_
      refine .seq (.region [([], []), ([], []), ([], [13]), ([13], [13])] mixed (by kernel_rfl) ?_)
      obtain ⟨hn9, h⟩ := need_some h
      refine .consA (.indexAddr .none sl71 ty81 (.s rfl) (.s rfl) (fun _ => hn9)) rfl ?_
      obtain ⟨v1, hv10, h⟩ := bnd_some h
      refine .consA (.re hv10 (.load .none ty81 (.s rfl))) rfl ?_
      refine .consW (.alloc zo81 rfl) rfl rfl ?_
      refine .consN (.store ty81 rfl rfl (.s rfl)) rfl ?_
      refine .nil (.then ?_)
      refine .freeze (t := 13) rfl rfl SubB.nil rfl ?_
      refine .seq (.region [] mixed (by kernel_rfl) ?_)
      refine .cons (.fieldAddr .none fd81_0 hfd81_0 (.s rfl)) rfl ?_
      refine .cons (.load .none ty3 (.s rfl)) rfl ?_
      refine .cons (.lt .none (.s rfl) (.int (by decide))) rfl ?_
      refine .cons (.move .none (.s rfl)) rfl ?_
      refine .cons (.fieldAddr (.at rfl rfl) fd81_0 hfd81_0 (.s rfl)) rfl ?_
      refine .cons (.load (.at rfl rfl) ty3 (.tmp rfl id)) rfl ?_
      refine .cons (.gt (.at rfl rfl) (.tmp rfl id) (.int (by decide))) rfl ?_
      refine .cons (.pickOr .none (.s rfl) (.tmp rfl id)) rfl ?_
      refine .cons (.move .none (.s rfl)) rfl ?_
      refine .cons (.fieldAddr (.at rfl rfl) fd81_1 hfd81_1 (.s rfl)) rfl ?_
      refine .cons (.load (.at rfl rfl) ty3 (.tmp rfl id)) rfl ?_
      refine .cons (.lt (.at rfl rfl) (.tmp rfl id) (.int (by decide))) rfl ?_
      refine .cons (.pickOr .none (.s rfl) (.tmp rfl id)) rfl ?_
      refine .cons (.move .none (.s rfl)) rfl ?_
      refine .cons (.fieldAddr (.at rfl rfl) fd81_1 hfd81_1 (.s rfl)) rfl ?_
      refine .cons (.load (.at rfl rfl) ty3 (.tmp rfl id)) rfl ?_
      refine .cons (.gt (.at rfl rfl) (.tmp rfl id) (.int (by decide))) rfl ?_
      refine .cons (.pickOr .none (.s rfl) (.tmp rfl id)) rfl ?_
      refine .nil (.then ?_)
      refine .cond (t := 70) rfl trivial (fun hb11 => ?_) (fun hb11 => ?_)
      ·
       replace h := bif_t h hb11
       refine .seq (.region [] mixed (by kernel_rfl) ?_)
       refine .cons (.assign .none (.const (x := ([] : (List Point))) (fun M w => ⟨_, ⟨none, 0, rfl, Nat.le_refl _, by decide, rfl⟩, rfl⟩))) rfl ?_
       refine .cons (.assign .none (.int (by decide))) rfl ?_
       refine .nil (.then ?_)
       refine .ret ?_
       refine .blkRet ?_
       refine .thenRet ?_
       refine .thenRet ?_
       refine .blkRet ?_
       refine .thenRet ?_
       replace h := resd_ab hK8 (some_eq h)
       replace h := hD6 _ (some_eq h)
       replace h := resb_ab hK5 (some_eq h)
       obtain rfl := some_eq h
       exact Ends.ret2 (.inl rfl) Try.results47 (ResOK.tmp rfl trivial Imp.refl) (ResOK.tmp rfl trivial Imp.refl)
      ·
       replace h := bif_f h hb11
       refine .skip ?_
       refine .blkNormal ?_
       exact Ends.join _ (some_eq h) (.k 0 rfl (.k 1 rfl (.k 2 rfl (.k 3 rfl (.k 10 rfl (.k 47 rfl (.k 48 rfl (.k 49 rfl .nil)))))))) SubB.nil
     ·
      have h := resd_nx hK8 hj8
      refine .region [] mixed (by kernel_rfl) ?_
      refine .cons (.addW .none (.s rfl) (.int (by decide))) rfl ?_
      refine .cons (.move .none (.s rfl)) rfl ?_
      refine .nil ?_
      exact Ends.againL (some_eq h) (.k 49 rfl (.k 0 rfl (.k 1 rfl (.k 2 rfl (.k 3 rfl (.k 10 rfl (.k 47 rfl (.k 48 rfl .nil)))))))) SubB.nil
    ·
     replace h := bif_f h hb7
     refine .exit ?_
     refine .thenExit ?_
     refine .thenExit ?_
     refine .blkExit ?_
     replace h := hD6 _ (some_eq h)
     exact Ends.join _ (some_eq h) (.k 0 rfl (.k 1 rfl (.k 2 rfl (.k 3 rfl (.k 10 rfl .nil))))) SubB.nil
   ·
    have h := resb_nx hK5 hj5
    refine .seq ?_
    refine .seq (.region [] mixed (by kernel_rfl) ?_)
    refine .cons (.move .none (.s rfl)) rfl ?_
    refine .cons (.lt .none (.s rfl) (.int (by decide))) rfl ?_
    refine .cons (.move .none (.s rfl)) rfl ?_
    refine .cons (.move (.at rfl rfl) (.s rfl)) rfl ?_
    refine .cons (.gt (.at rfl rfl) (.tmp rfl id) (.int (by decide))) rfl ?_
    refine .cons (.pickOr .none (.s rfl) (.tmp rfl id)) rfl ?_
    refine .cons (.move .none (.s rfl)) rfl ?_
    refine .cons (.move (.at rfl rfl) (.s rfl)) rfl ?_
    refine .cons (.lt (.at rfl rfl) (.tmp rfl id) (.int (by decide))) rfl ?_
    refine .cons (.pickOr .none (.s rfl) (.tmp rfl id)) rfl ?_
    refine .cons (.move .none (.s rfl)) rfl ?_
    refine .cons (.move (.at rfl rfl) (.s rfl)) rfl ?_
    refine .cons (.gt (.at rfl rfl) (.tmp rfl id) (.int (by decide))) rfl ?_
    refine .cons (.pickOr .none (.s rfl) (.tmp rfl id)) rfl ?_
    refine .nil (.then ?_)
    refine .cond (t := 85) rfl trivial (fun hb12 => ?_) (fun hb12 => ?_)
    ·
     replace h := bif_t h hb12
     refine .seq (.region [] mixed (by kernel_rfl) ?_)
     refine .cons (.assign .none (.const (x := ([] : (List Point))) (fun M w => ⟨_, ⟨none, 0, rfl, Nat.le_refl _, by decide, rfl⟩, rfl⟩))) rfl ?_
     refine .cons (.assign .none (.int (by decide))) rfl ?_
     refine .nil (.then ?_)
     refine .ret ?_
     refine .thenRet ?_
     obtain rfl := some_eq h
     exact Ends.ret2 (.inl rfl) Try.results47 (ResOK.tmp rfl trivial Imp.refl) (ResOK.tmp rfl trivial Imp.refl)
    ·
     replace h := bif_f h hb12
     refine .skip ?_
     refine .then ?_
     refine .seq (.region [([], []), ([], [87]), ([87], [1, 87])] mixed (by kernel_rfl) ?_)
     refine .consA (.move .none (.s rfl)) rfl ?_
     obtain ⟨l2, hv13, h⟩ := bind_some h
     refine .consW (.callO [] (slices_Clone_Link_ok hv13) (.cons (.s rfl) .nil) .nil rfl (by decide) (by decide) (by intro d h; cases h; decide)) rfl rfl ?_
     refine .consW (.passRow rfl (.tmp rfl)) rfl rfl ?_
     refine .nil (.then ?_)
     refine .nameRow (t := 1) (g := 5001) rfl rfl rfl (fun s5001 => ?_)
     refine .seq ?_
     refine .seq (.region [([], []), ([], []), ([5001], [90]), ([90], []), ([], [])] mixed (by kernel_rfl) ?_)
     refine .consA (.move .none (.s rfl)) rfl ?_
     refine .consA (.move .none (.s rfl)) rfl ?_
     obtain ⟨r1, hv14, h⟩ := bind_some h
     refine .consW (.callOL (kl := [5001]) [] (layer_turned_ok hv14) .any (FlatO.some .row FlatO.nil) (.cons (.s rfl) (.lend (k := 5001) (.told (.s rfl) rfl) .nil)) .nil rfl (by decide) (by decide) (by intro d h; cases h; decide) (by decide) (by intro k hk; simp only [List.mem_cons, List.mem_nil_iff, or_false] at hk; rcases hk with rfl <;> rfl)) rfl rfl ?_
     refine .consA (.lenO (k := 90) sl32 (.tmp rfl)) rfl ?_
     refine .consA (.move .none (.int (by decide))) rfl ?_
     refine .nil (.then ?_)
     refine .freezeRowA (t := 90) rfl rfl (.k 5001 rfl .nil) rfl ?_
     obtain ⟨j_15, h, hK15⟩ := bind_some h
     refine .thenJ (ι := (List Link)) (fun j_15 => []) (fun j_15 => [(5001, some (CPred.at s5001 (rowV 79 j_15)))]) (fun s => j_15 = s) (.k 0 rfl (.k 1 rfl (.k 2 rfl (.k 3 rfl (.k 10 rfl .nil))))) SubB.nil ?_ (fun j_15' hj15 => ?_)
     ·
      skip
      refine .block ?_
      refine .rforL h (fun p16_ => [(92, ⟨True, rep p16_.1⟩)]) (fun p16_ => [(5001, some (CPred.at s5001 (rowV 79 p16_.2)))]) (.k 92 rfl .nil) (.k 5001 rfl .nil) (.k 0 rfl (.k 1 rfl (.k 2 rfl (.k 3 rfl (.k 10 rfl (.k 90 rfl (.k 91 rfl .nil))))))) SubB.nil (fun p16_ o_16 h hD16 => ?_)
      refine .seq (.region [] mixed (by kernel_rfl) ?_)
      refine .cons (.lt .none (.s rfl) (.s rfl)) rfl ?_
      refine .nil (.then ?_)
      refine .seq ?_
      refine .cond (t := 93) rfl trivial (fun hb17 => ?_) (fun hb17 => ?_)
      ·
       replace h := bif_t h hb17
       refine .skip ?_
       refine .then ?_
       refine .seq ?_
       obtain ⟨j_18, h, hK18⟩ := bind_some h
       unfold layer_Draw_L2 at h
       refine .thenJ (ι := (List Link)) (fun j_18 => []) (fun j_18 => [(5001, some (CPred.at s5001 (rowV 79 j_18)))]) (fun s => j_18 = s) (.k 0 rfl (.k 1 rfl (.k 2 rfl (.k 3 rfl (.k 10 rfl (.k 90 rfl (.k 91 rfl (.k 92 rfl .nil)))))))) SubB.nil ?_ (fun j_18' hj18 => ?_)
       ·
        skip
        refine .block ?_
        refine .seq (.region [] mixed (by kernel_rfl) ?_)
        obtain ⟨hn19, h⟩ := need_some h
        refine .cons (.indexAddr .none sl32 ty3 (.s rfl) (.s rfl) (fun _ => hn19)) rfl ?_
        refine .cons (.load .none ty3 (.s rfl)) rfl ?_
        obtain ⟨i1, hv20, h⟩ := bnd_some h
        refine .cons (.re hv20 (.assign .none (.s rfl))) rfl ?_
        refine .nil (.then ?_)
        refine .region [([], []), ([], []), ([], []), ([], []), ([5001], []), ([5001], []), ([5001], []), ([], []), ([], []), ([5001], []), ([5001], []), ([5001], []), ([], []), ([5001], []), ([5001], [5001])] mixed (by kernel_rfl) ?_
        refine .consA (.move .none (.s rfl)) rfl ?_
        refine .consA (.move .none (.s rfl)) rfl ?_
        refine .consA (.move .none (.s rfl)) rfl ?_
        refine .consA (.move .none (.s rfl)) rfl ?_
        obtain ⟨hn21, h⟩ := need_some h
        refine .consA (.indexAddrO (k := 5001) .none sl23 ty79 (.s rfl) rfl (.s rfl) (fun _ => hn21)) rfl ?_
        refine .consA (.fieldElem (k := 5001) .none fd79_1 (.s rfl) rfl (fun _ => hn21)) rfl ?_
        refine .consA (.loadElem (k := 5001) .none ty3 (.s rfl) rfl hfd79_1 (fun _ => hn21)) rfl ?_
        refine .consA (.move .none (.s rfl)) rfl ?_
        refine .consA (.move .none (.s rfl)) rfl ?_
        obtain ⟨hn22, h⟩ := need_some h
        refine .consA (.indexAddrO (k := 5001) .none sl23 ty79 (.s rfl) rfl (.s rfl) (fun _ => hn22)) rfl ?_
        refine .consA (.fieldElem (k := 5001) .none fd79_0 (.s rfl) rfl (fun _ => hn22)) rfl ?_
        refine .consA (.loadElem (k := 5001) .none ty3 (.s rfl) rfl hfd79_0 (fun _ => hn22)) rfl ?_
        obtain ⟨v2, hv23, h⟩ := bnd_some h
        refine .consA (.re hv23 (.buildF (y := (⟨(gx p16_.2 i1).To, (gx p16_.2 i1).From⟩ : Link)) .none bu79 zc79 rfl (.cons (.s rfl) (.cons (.s rfl) .nil)) (.cons rfl sf79_0 (.cons rfl sf79_1 .nil)))) rfl ?_
        obtain ⟨hn24, h⟩ := need_some h
        refine .consA (.indexAddrO (k := 5001) .none sl23 ty79 (.s rfl) rfl (.s rfl) (fun _ => hn24)) rfl ?_
        refine .consN (.storeElem0 (k := 5001) ty79 (.s rfl) rfl (.s rfl) hn24) rfl ?_
        refine .nil ?_
        refine .blkNormal ?_
        exact Ends.join _ (some_eq h) (.k 0 rfl (.k 1 rfl (.k 2 rfl (.k 3 rfl (.k 10 rfl (.k 90 rfl (.k 91 rfl (.k 92 rfl .nil)))))))) (.k 5001 rfl .nil)
       ·
        subst hj18; have h := hK18; clear hK18
        refine .region [] mixed (by kernel_rfl) ?_
        refine .cons (.addW .none (.s rfl) (.int (by decide))) rfl ?_
        refine .cons (.move .none (.s rfl)) rfl ?_
        refine .nil ?_
        exact Ends.againL (some_eq h) (.k 92 rfl (.k 0 rfl (.k 1 rfl (.k 2 rfl (.k 3 rfl (.k 10 rfl (.k 90 rfl (.k 91 rfl .nil)))))))) (.k 5001 rfl .nil)
      ·
       replace h := bif_f h hb17
       refine .exit ?_
       refine .thenExit ?_
       refine .thenExit ?_
       refine .blkExit ?_
       replace h := hD16 _ (some_eq h)
       exact Ends.join _ (some_eq h) (.k 0 rfl (.k 1 rfl (.k 2 rfl (.k 3 rfl (.k 10 rfl .nil))))) (.k 5001 rfl .nil)
     ·
      subst hj15; have h := hK15; clear hK15
      refine .freezeRow (g := 5001) (ts := [1]) rfl (.cons (t := 1) rfl trivial .nil) SubB.nil rfl ?_
      refine .seq (.region [([], []), ([], []), ([], []), ([], [16]), ([16], [16])] mixed (by kernel_rfl) ?_)
      refine .consA (.move .none (.s rfl)) rfl ?_
      refine .consA (.move .none (.s rfl)) rfl ?_
      obtain ⟨r2, hv25, h⟩ := bind_some h
      refine .consA (.call .none (layer_ranks_ok hv25) (.cons (.s rfl) (.cons (.s rfl) .nil))) rfl ?_
      refine .consW (.alloc zo32 rfl) rfl rfl ?_
      refine .consN (.store ty32 rfl rfl (.s rfl)) rfl ?_
      refine .nil (.then ?_)
      refine .freeze (t := 16) rfl rfl SubB.nil rfl ?_
      refine .seq (.region [([], []), ([], []), ([], []), ([], [117]), ([117], [17, 117])] mixed (by kernel_rfl) ?_)
      refine .consA (.load .none ty32 (.s rfl)) rfl ?_
      obtain ⟨r3, hv26, h⟩ := bind_some h
      refine .consA (.call .none (slices_Max_int_ok hv26) (.cons (.s rfl) .nil)) rfl ?_
      obtain ⟨v3, hv27, h⟩ := bnd_some h
      refine .consA (.re hv27 (.addW .none (.s rfl) (.int (by decide)))) rfl ?_
      obtain ⟨hn28, h⟩ := need_some h
      refine .consW (.post1 (.makeSlice rkraw22 zraw32 rfl (.s rfl) (.s rfl) hn28) (fun M D v w h => rowD_nils (E2 := 3) (mk := mkR) (sub := subR) (a := ([] : (List Int))) rfl rfl h)) rfl rfl ?_
      refine .consW (.passRow rfl (.tmp rfl)) rfl rfl ?_
      refine .nil (.then ?_)
      obtain ⟨rows1, hv29, h⟩ := bnd_some h
      refine .reB (t := 17) rfl (congrArg (rowD 32 3 mkR subR []) hv29) ?_
      refine .nameC (t := 17) (g := 5002) oneRowD rfl rfl rfl (fun s5002 => ?_)
      refine .seq ?_
      refine .seq (.region [] mixed (by kernel_rfl) ?_)
      refine .cons (.move .none (.s rfl)) rfl ?_
      refine .cons (.move .none (.int (by decide))) rfl ?_
      refine .nil (.then ?_)
      obtain ⟨j_30, h, hK30⟩ := bind_some h
      refine .thenJ (ι := (List (List Int))) (fun j_30 => []) (fun j_30 => [(5002, some (CPred.at s5002 (rowD 32 3 mkR subR [] j_30)))]) (fun s => j_30 = s) (.k 0 rfl (.k 1 rfl (.k 2 rfl (.k 3 rfl (.k 10 rfl (.k 16 rfl (.k 17 rfl .nil))))))) SubB.nil ?_ (fun j_30' hj30 => ?_)
      ·
       skip
       refine .block ?_
       refine .rforL h (fun p31_ => [(119, ⟨True, rep p31_.1⟩)]) (fun p31_ => [(5002, some (CPred.at s5002 (rowD 32 3 mkR subR [] p31_.2)))]) (.k 119 rfl .nil) (.k 5002 rfl .nil) (.k 0 rfl (.k 1 rfl (.k 2 rfl (.k 3 rfl (.k 10 rfl (.k 16 rfl (.k 17 rfl (.k 118 rfl .nil)))))))) SubB.nil (fun p31_ o_31 h hD31 => ?_)
       refine .seq (.region [] mixed (by kernel_rfl) ?_)
       refine .cons (.lt .none (.s rfl) (.s rfl)) rfl ?_
       refine .nil (.then ?_)
       refine .seq ?_
       refine .cond (t := 120) rfl trivial (fun hb32 => ?_) (fun hb32 => ?_)
       ·
        replace h := bif_t h hb32
        refine .skip ?_
        refine .then ?_
        refine .seq ?_
        obtain ⟨j_33, h, hK33⟩ := bind_some h
        unfold layer_Draw_L3 at h
        refine .thenJ (ι := (List (List Int))) (fun j_33 => []) (fun j_33 => [(5002, some (CPred.at s5002 (rowD 32 3 mkR subR [] j_33)))]) (fun s => j_33 = s) (.k 0 rfl (.k 1 rfl (.k 2 rfl (.k 3 rfl (.k 10 rfl (.k 16 rfl (.k 17 rfl (.k 118 rfl (.k 119 rfl .nil))))))))) SubB.nil ?_ (fun j_33' hj33 => ?_)
        ·
         skip
         refine .block ?_
         refine .seq (.region [] mixed (by kernel_rfl) ?_)
         refine .cons (.move .none (.s rfl)) rfl ?_
         refine .cons (.assign .none (.s rfl)) rfl ?_
         refine .nil (.then ?_)
         obtain ⟨hn34, h⟩ := need_some h
         refine .openD (k := 5002) (g := 5003) (i := gx r2 p31_.1) rfl rfl hn34 noHole (fun s5003 => ?_)
         refine .region [([], []), ([], []), ([], []), ([], []), ([], []), ([], []), ([], []), ([], []), ([], []), ([], []), ([5002], []), ([5002], []), ([], []), ([], []), ([5003], [136, 5003]), ([5002], []), ([5002, 136], [5002, 136])] mixed (by kernel_rfl) ?_
         refine .consA (.move .none (.s rfl)) rfl ?_
         refine .consA (.load .none ty32 (.s rfl)) rfl ?_
         refine .consA (.move .none (.s rfl)) rfl ?_
         obtain ⟨hn35, h⟩ := need_some h
         refine .consA (.indexAddr .none sl32 ty3 (.s rfl) (.s rfl) (fun _ => hn35)) rfl ?_
         refine .consA (.load .none ty3 (.s rfl)) rfl ?_
         refine .consA (.move .none (.s rfl)) rfl ?_
         refine .consA (.load .none ty32 (.s rfl)) rfl ?_
         refine .consA (.move .none (.s rfl)) rfl ?_
         obtain ⟨hn36, h⟩ := need_some h
         refine .consA (.indexAddr .none sl32 ty3 (.s rfl) (.s rfl) (fun _ => hn36)) rfl ?_
         refine .consA (.load .none ty3 (.s rfl)) rfl ?_
         obtain ⟨hn37, h⟩ := need_some h
         refine .consA (.indexAddrD (k := 5002) sl22 tr32 (.s rfl) rfl (.s rfl) hn37) rfl ?_
         refine .consA (.loadElemD (k := 5002) (proj := fun x => x) (y := (⟨s5003⟩ : Raw)) (z := s5003) tr32 (.s rfl) rfl .id hn37 (by simp) rfl) rfl ?_
         refine .consA (.move .none (.s rfl)) rfl ?_
         refine .consA (.buildSlice (xs := [_]) .none sl32 ty3 hz3 (.cons (.s rfl) .nil) rfl (by decide)) rfl ?_
         obtain ⟨hn38, h⟩ := need_some h
         refine .consW (.append (k := 5003) rk32 rfl (.told (.s rfl) rfl) (.s rfl) hn38) rfl rfl ?_
         obtain ⟨hn39, h⟩ := need_some h
         refine .consA (.indexAddrD (k := 5002) sl22 tr32 (.s rfl) rfl (.s rfl) hn39) rfl ?_
         refine .consN (.storeElemD (k := 5002) (t := 136) (set := fun _ z => z) (hs' := []) ((gx p31_.2 (gx r2 p31_.1)) ++ [p31_.1]) ty32 (.s rfl) rfl .self rfl hn39 rfl (by simp) (by simp) (fun _ _ => rfl) rfl) rfl ?_
         refine .nil ?_
         refine .blkNormal ?_
         exact Ends.join _ (some_eq h) (.k 0 rfl (.k 1 rfl (.k 2 rfl (.k 3 rfl (.k 10 rfl (.k 16 rfl (.k 17 rfl (.k 118 rfl (.k 119 rfl .nil))))))))) (.k 5002 rfl .nil)
        ·
         subst hj33; have h := hK33; clear hK33
         refine .region [] mixed (by kernel_rfl) ?_
         refine .cons (.addW .none (.s rfl) (.int (by decide))) rfl ?_
         refine .cons (.move .none (.s rfl)) rfl ?_
         refine .nil ?_
         exact Ends.againL (some_eq h) (.k 119 rfl (.k 0 rfl (.k 1 rfl (.k 2 rfl (.k 3 rfl (.k 10 rfl (.k 16 rfl (.k 17 rfl (.k 118 rfl .nil))))))))) (.k 5002 rfl .nil)
       ·
        replace h := bif_f h hb32
        refine .exit ?_
        refine .thenExit ?_
        refine .thenExit ?_
        refine .blkExit ?_
        replace h := hD31 _ (some_eq h)
        exact Ends.join _ (some_eq h) (.k 0 rfl (.k 1 rfl (.k 2 rfl (.k 3 rfl (.k 10 rfl (.k 16 rfl (.k 17 rfl .nil))))))) (.k 5002 rfl .nil)
      ·
       subst hj30; have h := hK30; clear hK30
       refine .freezeAt (g := 5002) (S := rep j_30) (ts := [17]) rfl (.cons (t := 17) rfl trivial .nil) SubB.nil rfl (fun M D w h hms => rowR_rep h hms) ?_
       refine .seq (.region [([], []), ([], [140]), ([], []), ([140], [140]), ([], [])] mixed (by kernel_rfl) ?_)
       refine .consA (.move .none (.s rfl)) rfl ?_
       obtain ⟨r4, hv40, h⟩ := bind_some h
       refine .consW (.callO [] (slices_Clone_Link_ok hv40) (.cons (.s rfl) .nil) .nil rfl (by decide) (by decide) (by intro d h; cases h; decide)) rfl rfl ?_
       refine .consA (.makeFunc (ι := Link × Bool) (pre := fun i => (fun x0 => layer_Draw_1 x0 r2) i.1 = some i.2) (Ss := fun i => [rep i.1]) (S := fun i => rep i.2) .none fnok90 (fun i h => layer_Draw_1_ok h) (.cons (.s rfl) .nil)) rfl ?_
       obtain ⟨steps1, hv41, h⟩ := bind_some h
       refine .consW (.tell (t := 140) rfl row_one rfl (by decide) (fun _ => StepOK.callO [140] ((slices_DeleteFunc_Link_ok hv41).frzO1) (.cons (.s rfl) (.cons (.s rfl) .nil)) (.cons (k := 140) rfl .nil) rfl (by decide) (by decide) (by intro d h; cases h; decide))) rfl rfl ?_
       refine .consA (.assign .none (.s rfl)) rfl ?_
       refine .nil (.then ?_)
       refine .seq (.region [] mixed (by kernel_rfl) ?_)
       refine .cons (.move .none (.s rfl)) rfl ?_
       refine .cons (.move .none (.s rfl)) rfl ?_
       obtain ⟨r5, hv42, h⟩ := bind_some h
       refine .cons (.call .none (layer_sweep_ok hv42) (.cons (.s rfl) (.cons (.s rfl) (.cons (.int (by decide)) .nil)))) rfl ?_
       refine .cons (.move .none (.s rfl)) rfl ?_
       refine .cons (.extract .none (.s rfl) rfl) rfl ?_
       refine .cons (.extract .none (.s rfl) rfl) rfl ?_
       refine .cons (.assign .none (.s rfl)) rfl ?_
       refine .nil (.then ?_)
       refine .seq (.region [([], []), ([], [150]), ([150], [20, 150])] mixed (by kernel_rfl) ?_)
       refine .consA (.move .none (.s rfl)) rfl ?_
       obtain ⟨hn43, h⟩ := need_some h
       refine .consW (.makeSlice rk71 zo81 rfl (.s rfl) (.s rfl) hn43) rfl rfl ?_
       refine .consW (.passRow rfl (.tmp rfl)) rfl rfl ?_
       refine .nil (.then ?_)
       obtain ⟨out1, hv44, h⟩ := bnd_some h
       refine .reB (t := 20) rfl (congrArg (rowV 81) hv44) ?_
       refine .nameRow (t := 20) (g := 5004) rfl rfl rfl (fun s5004 => ?_)
       refine .seq (.region [] mixed (by kernel_rfl) ?_)
       refine .cons (.assign .none (.int (by decide))) rfl ?_
       refine .nil (.then ?_)
       refine .seq ?_
       refine .seq (.region [] mixed (by kernel_rfl) ?_)
       refine .cons (.move .none (.s rfl)) rfl ?_
       refine .cons (.len .none sl22 (.s rfl)) rfl ?_
       refine .cons (.move .none (.int (by decide))) rfl ?_
       refine .nil (.then ?_)
       obtain ⟨j_45, h, hK45⟩ := bind_some h
       refine .thenJ (ι := (Int × (List Point))) (fun j_45 => [(21, ⟨True, rep j_45.1⟩)]) (fun j_45 => [(5004, some (CPred.at s5004 (rowV 81 j_45.2)))]) (fun s => j_45 = s) (.k 20 rfl .nil) SubB.nil ?_ (fun j_45' hj45 => ?_)
       ·
        skip
        refine .block ?_
        refine .rforL h (fun p46_ => [(153, ⟨True, rep p46_.1⟩), (21, ⟨True, rep p46_.2.1⟩)]) (fun p46_ => [(5004, some (CPred.at s5004 (rowV 81 p46_.2.2)))]) (.k 153 rfl (.k 21 rfl .nil)) (.k 5004 rfl .nil) (.k 0 rfl (.k 1 rfl (.k 2 rfl (.k 3 rfl (.k 16 rfl (.k 20 rfl (.k 151 rfl (.k 152 rfl .nil)))))))) SubB.nil (fun p46_ o_46 h hD46 => ?_)
        refine .seq (.region [] mixed (by kernel_rfl) ?_)
        refine .cons (.lt .none (.s rfl) (.s rfl)) rfl ?_
        refine .nil (.then ?_)
        refine .seq ?_
        refine .cond (t := 154) rfl trivial (fun hb47 => ?_) (fun hb47 => ?_)
        ·
         replace h := bif_t h hb47
         refine .skip ?_
         refine .then ?_
         refine .seq ?_
         obtain ⟨j_48, h, hK48⟩ := bind_some h
         unfold layer_Draw_L4 at h
         refine .thenJ (ι := (Int × (List Point))) (fun j_48 => [(21, ⟨True, rep j_48.1⟩)]) (fun j_48 => [(5004, some (CPred.at s5004 (rowV 81 j_48.2)))]) (fun s => j_48 = s) (.k 0 rfl (.k 1 rfl (.k 2 rfl (.k 3 rfl (.k 16 rfl (.k 20 rfl (.k 151 rfl (.k 152 rfl (.k 153 rfl .nil))))))))) SubB.nil ?_ (fun j_48' hj48 => ?_)
         ·
          skip
          refine .block ?_
          refine .seq (.region [] mixed (by kernel_rfl) ?_)
          refine .cons (.move .none (.s rfl)) rfl ?_
          obtain ⟨hn49, h⟩ := need_some h
          refine .cons (.indexAddr .none sl22 ty32 (.s rfl) (.s rfl) (fun _ => hn49)) rfl ?_
          refine .cons (.load .none ty32 (.s rfl)) rfl ?_
          refine .cons (.assign .none (.s rfl)) rfl ?_
          obtain ⟨row1, hv50, h⟩ := bnd_some h
          refine .cons (.re hv50 (.assign .none (.s rfl))) rfl ?_
          refine .nil (.then ?_)
          refine .seq (.region [([], [24]), ([], [25])] mixed (by kernel_rfl) ?_)
          refine .consW (.nilRow (T := 3) (α := Int) rfl) rfl rfl ?_
          refine .consW (.nilRow (T := 3) (α := Int) rfl) rfl rfl ?_
          refine .nil (.then ?_)
          refine .nameRow (t := 24) (g := 5005) rfl rfl rfl (fun s5005 => ?_)
          refine .nameRow (t := 25) (g := 5006) rfl rfl rfl (fun s5006 => ?_)
          refine .seq (.region [] mixed (by kernel_rfl) ?_)
          refine .cons (.assign .none (.int (by decide))) rfl ?_
          refine .cons (.assign .none (.int (by decide))) rfl ?_
          refine .nil (.then ?_)
          refine .seq ?_
          refine .seq (.region [] mixed (by kernel_rfl) ?_)
          refine .cons (.move .none (.s rfl)) rfl ?_
          refine .cons (.len .none sl32 (.s rfl)) rfl ?_
          refine .cons (.move .none (.int (by decide))) rfl ?_
          refine .nil (.then ?_)
          obtain ⟨j_51, h, hK51⟩ := bind_some h
          refine .thenJ (ι := ((List Int) × (List Int) × Int × Int)) (fun j_51 => [(26, ⟨True, rep j_51.2.2.1⟩), (27, ⟨True, rep j_51.2.2.2⟩)]) (fun j_51 => [(24, some (rowV 3 j_51.1)), (25, some (rowV 3 j_51.2.1))]) (fun s => j_51 = s) (.k 0 rfl (.k 1 rfl (.k 2 rfl (.k 3 rfl (.k 16 rfl (.k 20 rfl (.k 21 rfl (.k 23 rfl (.k 151 rfl (.k 152 rfl (.k 153 rfl .nil))))))))))) (.k 5004 rfl .nil) ?_ (fun j_51' hj51 => ?_)
          ·
           skip
           refine .block ?_
           refine .anon (t := 24) (g := 5005) rfl rfl trivial rfl ?_
           refine .anon (t := 25) (g := 5006) rfl rfl trivial rfl ?_
           refine .rforL h (fun p52_ => [(160, ⟨True, rep p52_.1⟩), (26, ⟨True, rep p52_.2.2.2.1⟩), (27, ⟨True, rep p52_.2.2.2.2⟩)]) (fun p52_ => [(24, some (rowV 3 p52_.2.1)), (25, some (rowV 3 p52_.2.2.1))]) (.k 160 rfl (.k 26 rfl (.k 27 rfl .nil))) (.k 24 rfl (.k 25 rfl .nil)) (.k 0 rfl (.k 1 rfl (.k 2 rfl (.k 3 rfl (.k 16 rfl (.k 20 rfl (.k 21 rfl (.k 22 rfl (.k 23 rfl (.k 151 rfl (.k 152 rfl (.k 153 rfl (.k 158 rfl (.k 159 rfl .nil)))))))))))))) (.k 5004 rfl .nil) (fun p52_ o_52 h hD52 => ?_)
           refine .nameRow (t := 24) (g := 5007) rfl rfl rfl (fun s5007 => ?_)
           refine .nameRow (t := 25) (g := 5008) rfl rfl rfl (fun s5008 => ?_)
           refine .seq (.region [] mixed (by kernel_rfl) ?_)
           refine .cons (.lt .none (.s rfl) (.s rfl)) rfl ?_
           refine .nil (.then ?_)
           refine .seq ?_
           refine .cond (t := 161) rfl trivial (fun hb53 => ?_) (fun hb53 => ?_)
           ·
            replace h := bif_t h hb53
            refine .skip ?_
            refine .then ?_
            refine .seq ?_
            obtain ⟨j_54, h, hK54⟩ := bind_some h
            unfold layer_Draw_L5 at h
            refine .thenJ (ι := ((List Int) × (List Int) × Int × Int)) (fun j_54 => [(26, ⟨True, rep j_54.2.2.1⟩), (27, ⟨True, rep j_54.2.2.2⟩)]) (fun j_54 => [(24, some (rowV 3 j_54.1)), (25, some (rowV 3 j_54.2.1))]) (fun s => j_54 = s) (.k 0 rfl (.k 1 rfl (.k 2 rfl (.k 3 rfl (.k 16 rfl (.k 20 rfl (.k 21 rfl (.k 22 rfl (.k 23 rfl (.k 151 rfl (.k 152 rfl (.k 153 rfl (.k 158 rfl (.k 159 rfl (.k 160 rfl .nil))))))))))))))) (.k 5004 rfl .nil) ?_ (fun j_54' hj54 => ?_)
            ·
             skip
             refine .block ?_
             refine .seq (.region [] mixed (by kernel_rfl) ?_)
             obtain ⟨hn55, h⟩ := need_some h
             refine .cons (.indexAddr .none sl32 ty3 (.s rfl) (.s rfl) (fun _ => hn55)) rfl ?_
             refine .cons (.load .none ty3 (.s rfl)) rfl ?_
             obtain ⟨k1, hv56, h⟩ := bnd_some h
             refine .cons (.re hv56 (.assign .none (.s rfl))) rfl ?_
             refine .nil (.then ?_)
             refine .seq (.region [] mixed (by kernel_rfl) ?_)
             refine .cons (.move .none (.s rfl)) rfl ?_
             refine .cons (.assign .none (.s rfl)) rfl ?_
             refine .nil (.then ?_)
             refine .seq ?_
             refine .seq (.region [] mixed (by kernel_rfl) ?_)
             refine .cons (.move .none (.s rfl)) rfl ?_
             refine .cons (.gt .none (.s rfl) (.int (by decide))) rfl ?_
             refine .nil (.then ?_)
             obtain ⟨j_57, h, hK57⟩ := bind_some h
             refine .thenJ (ι := Int) (fun j_57 => [(30, ⟨True, rep j_57⟩)]) (fun j_57 => []) (fun s => j_57 = s) (.k 0 rfl (.k 1 rfl (.k 2 rfl (.k 3 rfl (.k 16 rfl (.k 20 rfl (.k 21 rfl (.k 22 rfl (.k 23 rfl (.k 24 rfl (.k 25 rfl (.k 26 rfl (.k 27 rfl (.k 29 rfl (.k 151 rfl (.k 152 rfl (.k 153 rfl (.k 158 rfl (.k 159 rfl (.k 160 rfl .nil)))))))))))))))))))) (.k 5004 rfl (.k 5007 rfl (.k 5008 rfl .nil))) ?_ (fun j_57' hj57 => ?_)
             ·
              skip
              refine .cond (t := 166) rfl trivial (fun hb58 => ?_) (fun hb58 => ?_)
              ·
               replace h := bif_t h hb58
               refine .region [([], []), ([], []), ([], []), ([], []), ([], []), ([5004], []), ([], [])] mixed (by kernel_rfl) ?_
               refine .consA (.move .none (.s rfl)) rfl ?_
               refine .consA (.load .none ty32 (.s rfl)) rfl ?_
               refine .consA (.move .none (.s rfl)) rfl ?_
               refine .consA (.move .none (.s rfl)) rfl ?_
               refine .consA (.move .none (.s rfl)) rfl ?_
               obtain ⟨w1, hv59, h⟩ := bind_some h
               refine .consA (.callC .none fnok91 (fun hg => layer_middle_ok  hv59) .rep (.cons (.s rfl) (.cons (.s rfl) (.cons (.s rfl) (.lend (k := 5004) (.told (.s rfl) rfl) (.cons (.s rfl) .nil)))))) rfl ?_
               refine .consA (.assign .none (.s rfl)) rfl ?_
               refine .nil ?_
               exact Ends.join _ (some_eq h) (.k 30 rfl (.k 0 rfl (.k 1 rfl (.k 2 rfl (.k 3 rfl (.k 16 rfl (.k 20 rfl (.k 21 rfl (.k 22 rfl (.k 23 rfl (.k 24 rfl (.k 25 rfl (.k 26 rfl (.k 27 rfl (.k 29 rfl (.k 151 rfl (.k 152 rfl (.k 153 rfl (.k 158 rfl (.k 159 rfl (.k 160 rfl .nil))))))))))))))))))))) (.k 5004 rfl (.k 5007 rfl (.k 5008 rfl .nil)))
              ·
               replace h := bif_f h hb58
               refine .skip ?_
               exact Ends.join _ (some_eq h) (.k 30 rfl (.k 0 rfl (.k 1 rfl (.k 2 rfl (.k 3 rfl (.k 16 rfl (.k 20 rfl (.k 21 rfl (.k 22 rfl (.k 23 rfl (.k 24 rfl (.k 25 rfl (.k 26 rfl (.k 27 rfl (.k 29 rfl (.k 151 rfl (.k 152 rfl (.k 153 rfl (.k 158 rfl (.k 159 rfl (.k 160 rfl .nil))))))))))))))))))))) (.k 5004 rfl (.k 5007 rfl (.k 5008 rfl .nil)))
             ·
              subst hj57; have h := hK57; clear hK57
              refine .seq (.region [([], []), ([], []), ([], []), ([5007], [176, 5007]), ([], []), ([], []), ([], []), ([], []), ([], []), ([], []), ([], []), ([5008], [184, 5008]), ([176], [24, 176]), ([184], [25, 184])] mixed (by kernel_rfl) ?_)
              refine .consA (.move .none (.s rfl)) rfl ?_
              refine .consA (.move .none (.s rfl)) rfl ?_
              refine .consA (.buildSlice (xs := [_]) .none sl32 ty3 hz3 (.cons (.s rfl) .nil) rfl (by decide)) rfl ?_
              obtain ⟨hn60, h⟩ := need_some h
              refine .consW (.append (k := 5007) rk32 rfl (.told (.s rfl) rfl) (.s rfl) hn60) rfl rfl ?_
              refine .consA (.move .none (.s rfl)) rfl ?_
              refine .consA (.move .none (.s rfl)) rfl ?_
              refine .consA (.move .none (.s rfl)) rfl ?_
              obtain ⟨hn61, h⟩ := need_some h
              refine .consA (.indexAddr .none sl71 ty81 (.s rfl) (.s rfl) (fun _ => hn61)) rfl ?_
              refine .consA (.fieldAddr .none fd81_0 hfd81_0 (.s rfl)) rfl ?_
              refine .consA (.load .none ty3 (.s rfl)) rfl ?_
              refine .consA (.buildSlice (xs := [_]) .none sl32 ty3 hz3 (.cons (.s rfl) .nil) rfl (by decide)) rfl ?_
              obtain ⟨hn62, h⟩ := need_some h
              refine .consW (.append (k := 5008) rk32 rfl (.told (.s rfl) rfl) (.s rfl) hn62) rfl rfl ?_
              refine .consW (.passRow rfl (.tmp rfl)) rfl rfl ?_
              refine .consW (.passRow rfl (.tmp rfl)) rfl rfl ?_
              refine .nil (.then ?_)
              obtain ⟨want1, hv63, h⟩ := bnd_some h
              refine .reB (t := 24) rfl (congrArg (rowV 3) hv63) ?_
              obtain ⟨size1, hv64, h⟩ := bnd_some h
              refine .reB (t := 25) rfl (congrArg (rowV 3) hv64) ?_
              refine .nameRow (t := 24) (g := 5009) rfl rfl rfl (fun s5009 => ?_)
              refine .nameRow (t := 25) (g := 5010) rfl rfl rfl (fun s5010 => ?_)
              refine .seq (.region [] mixed (by kernel_rfl) ?_)
              refine .cons (.move .none (.s rfl)) rfl ?_
              refine .cons (.move .none (.s rfl)) rfl ?_
              refine .cons (.move .none (.s rfl)) rfl ?_
              obtain ⟨hn65, h⟩ := need_some h
              refine .cons (.indexAddr .none sl71 ty81 (.s rfl) (.s rfl) (fun _ => hn65)) rfl ?_
              refine .cons (.fieldAddr .none fd81_1 hfd81_1 (.s rfl)) rfl ?_
              refine .cons (.load .none ty3 (.s rfl)) rfl ?_
              refine .cons (.max2 .none (.s rfl) (.s rfl)) rfl ?_
              obtain ⟨high1, hv66, h⟩ := bnd_some h
              refine .cons (.re hv66 (.assign .none (.s rfl))) rfl ?_
              refine .nil (.then ?_)
              refine .region [] mixed (by kernel_rfl) ?_
              refine .cons (.move .none (.s rfl)) rfl ?_
              refine .cons (.move .none (.s rfl)) rfl ?_
              refine .cons (.move .none (.s rfl)) rfl ?_
              obtain ⟨hn67, h⟩ := need_some h
              refine .cons (.indexAddr .none sl71 ty81 (.s rfl) (.s rfl) (fun _ => hn67)) rfl ?_
              refine .cons (.fieldAddr .none fd81_0 hfd81_0 (.s rfl)) rfl ?_
              refine .cons (.load .none ty3 (.s rfl)) rfl ?_
              refine .cons (.move .none (.s rfl)) rfl ?_
              refine .cons (.addW .none (.s rfl) (.s rfl)) rfl ?_
              refine .cons (.addW .none (.s rfl) (.s rfl)) rfl ?_
              obtain ⟨end1, hv68, h⟩ := bnd_some h
              refine .cons (.re hv68 (.assign .none (.s rfl))) rfl ?_
              refine .nil ?_
              refine .blkNormal ?_
              refine .anon (t := 24) (g := 5009) rfl rfl trivial rfl ?_
              refine .anon (t := 25) (g := 5010) rfl rfl trivial rfl ?_
              exact Ends.join _ (some_eq h) (.k 26 rfl (.k 27 rfl (.k 0 rfl (.k 1 rfl (.k 2 rfl (.k 3 rfl (.k 16 rfl (.k 20 rfl (.k 21 rfl (.k 22 rfl (.k 23 rfl (.k 151 rfl (.k 152 rfl (.k 153 rfl (.k 158 rfl (.k 159 rfl (.k 160 rfl .nil))))))))))))))))) (.k 24 rfl (.k 25 rfl (.k 5004 rfl .nil)))
            ·
             subst hj54; have h := hK54; clear hK54
             refine .nameRow (t := 24) (g := 5011) rfl rfl rfl (fun s5011 => ?_)
             refine .nameRow (t := 25) (g := 5012) rfl rfl rfl (fun s5012 => ?_)
             refine .region [] mixed (by kernel_rfl) ?_
             refine .cons (.addW .none (.s rfl) (.int (by decide))) rfl ?_
             refine .cons (.move .none (.s rfl)) rfl ?_
             refine .nil ?_
             refine .anon (t := 24) (g := 5011) rfl rfl trivial rfl ?_
             refine .anon (t := 25) (g := 5012) rfl rfl trivial rfl ?_
             exact Ends.againL (some_eq h) (.k 160 rfl (.k 26 rfl (.k 27 rfl (.k 0 rfl (.k 1 rfl (.k 2 rfl (.k 3 rfl (.k 16 rfl (.k 20 rfl (.k 21 rfl (.k 22 rfl (.k 23 rfl (.k 151 rfl (.k 152 rfl (.k 153 rfl (.k 158 rfl (.k 159 rfl .nil))))))))))))))))) (.k 24 rfl (.k 25 rfl (.k 5004 rfl .nil)))
           ·
            replace h := bif_f h hb53
            refine .exit ?_
            refine .thenExit ?_
            refine .thenExit ?_
            refine .blkExit ?_
            refine .anon (t := 24) (g := 5007) rfl rfl trivial rfl ?_
            refine .anon (t := 25) (g := 5008) rfl rfl trivial rfl ?_
            replace h := hD52 _ (some_eq h)
            exact Ends.join _ (some_eq h) (.k 26 rfl (.k 27 rfl (.k 0 rfl (.k 1 rfl (.k 2 rfl (.k 3 rfl (.k 16 rfl (.k 20 rfl (.k 21 rfl (.k 23 rfl (.k 151 rfl (.k 152 rfl (.k 153 rfl .nil))))))))))))) (.k 24 rfl (.k 25 rfl (.k 5004 rfl .nil)))
          ·
           subst hj51; have h := hK51; clear hK51
           refine .freezeRowA (t := 24) rfl rfl (.k 25 rfl (.k 5004 rfl .nil)) rfl ?_
           refine .freezeRowA (t := 25) rfl rfl (.k 5004 rfl .nil) rfl ?_
           refine .seq ?_
           refine .seq (.region [] mixed (by kernel_rfl) ?_)
           refine .cons (.move .none (.s rfl)) rfl ?_
           refine .cons (.move .none (.s rfl)) rfl ?_
           refine .cons (.move .none (.s rfl)) rfl ?_
           obtain ⟨r6, hv69, h⟩ := bind_some h
           refine .cons (.call .none (layer_near_ok hv69) (.cons (.s rfl) (.cons (.s rfl) (.cons (.s rfl) .nil)))) rfl ?_
           refine .cons (.len .none sl32 (.s rfl)) rfl ?_
           refine .cons (.move .none (.int (by decide))) rfl ?_
           refine .nil (.then ?_)
           obtain ⟨j_70, h, hK70⟩ := bind_some h
           refine .thenJ (ι := (List Point)) (fun j_70 => []) (fun j_70 => [(5004, some (CPred.at s5004 (rowV 81 j_70)))]) (fun s => j_70 = s) (.k 0 rfl (.k 1 rfl (.k 2 rfl (.k 3 rfl (.k 16 rfl (.k 20 rfl (.k 21 rfl (.k 26 rfl (.k 151 rfl (.k 152 rfl (.k 153 rfl .nil))))))))))) SubB.nil ?_ (fun j_70' hj70 => ?_)
           ·
            skip
            refine .block ?_
            refine .rforL h (fun p71_ => [(207, ⟨True, rep p71_.1⟩)]) (fun p71_ => [(5004, some (CPred.at s5004 (rowV 81 p71_.2)))]) (.k 207 rfl .nil) (.k 5004 rfl .nil) (.k 0 rfl (.k 1 rfl (.k 2 rfl (.k 3 rfl (.k 16 rfl (.k 20 rfl (.k 21 rfl (.k 23 rfl (.k 26 rfl (.k 151 rfl (.k 152 rfl (.k 153 rfl (.k 205 rfl (.k 206 rfl .nil)))))))))))))) SubB.nil (fun p71_ o_71 h hD71 => ?_)
            refine .seq (.region [] mixed (by kernel_rfl) ?_)
            refine .cons (.lt .none (.s rfl) (.s rfl)) rfl ?_
            refine .nil (.then ?_)
            refine .seq ?_
            refine .cond (t := 208) rfl trivial (fun hb72 => ?_) (fun hb72 => ?_)
            ·
             replace h := bif_t h hb72
             refine .skip ?_
             refine .then ?_
             refine .seq ?_
             obtain ⟨j_73, h, hK73⟩ := bind_some h
             unfold layer_Draw_L6 at h
             refine .thenJ (ι := (List Point)) (fun j_73 => []) (fun j_73 => [(5004, some (CPred.at s5004 (rowV 81 j_73)))]) (fun s => j_73 = s) (.k 0 rfl (.k 1 rfl (.k 2 rfl (.k 3 rfl (.k 16 rfl (.k 20 rfl (.k 21 rfl (.k 23 rfl (.k 26 rfl (.k 151 rfl (.k 152 rfl (.k 153 rfl (.k 205 rfl (.k 206 rfl (.k 207 rfl .nil))))))))))))))) SubB.nil ?_ (fun j_73' hj73 => ?_)
             ·
              skip
              refine .block ?_
              refine .seq (.region [] mixed (by kernel_rfl) ?_)
              refine .cons (.move .none (.s rfl)) rfl ?_
              obtain ⟨hn74, h⟩ := need_some h
              refine .cons (.indexAddr .none sl32 ty3 (.s rfl) (.s rfl) (fun _ => hn74)) rfl ?_
              refine .cons (.load .none ty3 (.s rfl)) rfl ?_
              refine .cons (.assign .none (.s rfl)) rfl ?_
              refine .cons (.assign .none (.s rfl)) rfl ?_
              refine .nil (.then ?_)
              refine .region [([], []), ([], []), ([], []), ([], []), ([], []), ([], []), ([], []), ([], []), ([5004], []), ([5004], [5004])] mixed (by kernel_rfl) ?_
              refine .consA (.move .none (.s rfl)) rfl ?_
              refine .consA (.move .none (.s rfl)) rfl ?_
              refine .consA (.move .none (.s rfl)) rfl ?_
              obtain ⟨hn75, h⟩ := need_some h
              refine .consA (.indexAddr .none sl32 ty3 (.s rfl) (.s rfl) (fun _ => hn75)) rfl ?_
              refine .consA (.load .none ty3 (.s rfl)) rfl ?_
              refine .consA (.move .none (.s rfl)) rfl ?_
              refine .consA (.move .none (.s rfl)) rfl ?_
              obtain ⟨v4, hv76, h⟩ := bnd_some h
              refine .consA (.re hv76 (.buildF (y := (⟨gx r6 p71_.1, p46_.2.1⟩ : Point)) .none bu81 zc81 rfl (.cons (.s rfl) (.cons (.s rfl) .nil)) (.cons rfl sf81_0 (.cons rfl sf81_1 .nil)))) rfl ?_
              obtain ⟨hn77, h⟩ := need_some h
              refine .consA (.indexAddrO (k := 5004) .none sl71 ty81 (.s rfl) rfl (.s rfl) (fun _ => hn77)) rfl ?_
              refine .consN (.storeElem0 (k := 5004) ty81 (.s rfl) rfl (.s rfl) hn77) rfl ?_
              refine .nil ?_
              refine .blkNormal ?_
              exact Ends.join _ (some_eq h) (.k 0 rfl (.k 1 rfl (.k 2 rfl (.k 3 rfl (.k 16 rfl (.k 20 rfl (.k 21 rfl (.k 23 rfl (.k 26 rfl (.k 151 rfl (.k 152 rfl (.k 153 rfl (.k 205 rfl (.k 206 rfl (.k 207 rfl .nil))))))))))))))) (.k 5004 rfl .nil)
             ·
              subst hj73; have h := hK73; clear hK73
              refine .region [] mixed (by kernel_rfl) ?_
              refine .cons (.addW .none (.s rfl) (.int (by decide))) rfl ?_
              refine .cons (.move .none (.s rfl)) rfl ?_
              refine .nil ?_
              exact Ends.againL (some_eq h) (.k 207 rfl (.k 0 rfl (.k 1 rfl (.k 2 rfl (.k 3 rfl (.k 16 rfl (.k 20 rfl (.k 21 rfl (.k 23 rfl (.k 26 rfl (.k 151 rfl (.k 152 rfl (.k 153 rfl (.k 205 rfl (.k 206 rfl .nil))))))))))))))) (.k 5004 rfl .nil)
            ·
             replace h := bif_f h hb72
             refine .exit ?_
             refine .thenExit ?_
             refine .thenExit ?_
             refine .blkExit ?_
             replace h := hD71 _ (some_eq h)
             exact Ends.join _ (some_eq h) (.k 0 rfl (.k 1 rfl (.k 2 rfl (.k 3 rfl (.k 16 rfl (.k 20 rfl (.k 21 rfl (.k 26 rfl (.k 151 rfl (.k 152 rfl (.k 153 rfl .nil))))))))))) (.k 5004 rfl .nil)
           ·
            subst hj70; have h := hK70; clear hK70
            refine .region [] mixed (by kernel_rfl) ?_
            refine .cons (.move .none (.s rfl)) rfl ?_
            refine .cons (.move .none (.s rfl)) rfl ?_
            refine .cons (.move .none (.s rfl)) rfl ?_
            refine .cons (.addW .none (.s rfl) (.s rfl)) rfl ?_
            refine .cons (.addW .none (.s rfl) (.s rfl)) rfl ?_
            obtain ⟨y1, hv78, h⟩ := bnd_some h
            refine .cons (.re hv78 (.assign .none (.s rfl))) rfl ?_
            refine .nil ?_
            refine .blkNormal ?_
            exact Ends.join _ (some_eq h) (.k 21 rfl (.k 0 rfl (.k 1 rfl (.k 2 rfl (.k 3 rfl (.k 16 rfl (.k 20 rfl (.k 151 rfl (.k 152 rfl (.k 153 rfl .nil)))))))))) (.k 5004 rfl .nil)
         ·
          subst hj48; have h := hK48; clear hK48
          refine .region [] mixed (by kernel_rfl) ?_
          refine .cons (.addW .none (.s rfl) (.int (by decide))) rfl ?_
          refine .cons (.move .none (.s rfl)) rfl ?_
          refine .nil ?_
          exact Ends.againL (some_eq h) (.k 153 rfl (.k 21 rfl (.k 0 rfl (.k 1 rfl (.k 2 rfl (.k 3 rfl (.k 16 rfl (.k 20 rfl (.k 151 rfl (.k 152 rfl .nil)))))))))) (.k 5004 rfl .nil)
        ·
         replace h := bif_f h hb47
         refine .exit ?_
         refine .thenExit ?_
         refine .thenExit ?_
         refine .blkExit ?_
         replace h := hD46 _ (some_eq h)
         exact Ends.join _ (some_eq h) (.k 21 rfl (.k 20 rfl .nil)) (.k 5004 rfl .nil)
       ·
        subst hj45; have h := hK45; clear hK45
        refine .seq (.region [([], []), ([5004], []), ([5004], []), ([5004], []), ([], [])] mixed (by kernel_rfl) ?_)
        refine .consA (.move .none (.s rfl)) rfl ?_
        obtain ⟨hn79, h⟩ := need_some h
        refine .consA (.indexAddrO (k := 5004) .none sl71 ty81 (.s rfl) rfl (.int (by decide)) (fun _ => hn79)) rfl ?_
        refine .consA (.fieldElem (k := 5004) .none fd81_0 (.s rfl) rfl (fun _ => hn79)) rfl ?_
        refine .consA (.loadElem (k := 5004) .none ty3 (.s rfl) rfl hfd81_0 (fun _ => hn79)) rfl ?_
        obtain ⟨left1, hv80, h⟩ := bnd_some h
        refine .consA (.re hv80 (.assign .none (.s rfl))) rfl ?_
        refine .nil (.then ?_)
        refine .seq ?_
        refine .seq (.region [([], []), ([5004], []), ([], [])] mixed (by kernel_rfl) ?_)
        refine .consA (.move .none (.s rfl)) rfl ?_
        refine .consA (.lenO (k := 5004) sl71 (.told (.s rfl) rfl)) rfl ?_
        refine .consA (.move .none (.int (by decide))) rfl ?_
        refine .nil (.then ?_)
        obtain ⟨j_81, h, hK81⟩ := bind_some h
        refine .thenJ (ι := Int) (fun j_81 => [(33, ⟨True, rep j_81⟩)]) (fun j_81 => []) (fun s => j_81 = s) (.k 20 rfl .nil) (.k 5004 rfl .nil) ?_ (fun j_81' hj81 => ?_)
        ·
         skip
         refine .block ?_
         refine .rforL h (fun p82_ => [(234, ⟨True, rep p82_.1⟩), (33, ⟨True, rep p82_.2⟩)]) (fun p82_ => []) (.k 234 rfl (.k 33 rfl .nil)) SubB.nil (.k 20 rfl (.k 233 rfl .nil)) (.k 5004 rfl .nil) (fun p82_ o_82 h hD82 => ?_)
         refine .seq (.region [] mixed (by kernel_rfl) ?_)
         refine .cons (.lt .none (.s rfl) (.s rfl)) rfl ?_
         refine .nil (.then ?_)
         refine .seq ?_
         refine .cond (t := 235) rfl trivial (fun hb83 => ?_) (fun hb83 => ?_)
         ·
          replace h := bif_t h hb83
          refine .skip ?_
          refine .then ?_
          refine .seq ?_
          obtain ⟨j_84, h, hK84⟩ := bind_some h
          unfold layer_Draw_L7 at h
          refine .thenJ (ι := Int) (fun j_84 => [(33, ⟨True, rep j_84⟩)]) (fun j_84 => []) (fun s => j_84 = s) (.k 20 rfl (.k 233 rfl (.k 234 rfl .nil))) (.k 5004 rfl .nil) ?_ (fun j_84' hj84 => ?_)
          ·
           skip
           refine .block ?_
           refine .seq (.region [] mixed (by kernel_rfl) ?_)
           refine .cons (.move .none (.s rfl)) rfl ?_
           refine .cons (.assign .none (.s rfl)) rfl ?_
           refine .nil (.then ?_)
           refine .region [([], []), ([], []), ([], []), ([5004], []), ([5004], []), ([5004], []), ([], []), ([], [])] mixed (by kernel_rfl) ?_
           refine .consA (.move .none (.s rfl)) rfl ?_
           refine .consA (.move .none (.s rfl)) rfl ?_
           refine .consA (.move .none (.s rfl)) rfl ?_
           obtain ⟨hn85, h⟩ := need_some h
           refine .consA (.indexAddrO (k := 5004) .none sl71 ty81 (.s rfl) rfl (.s rfl) (fun _ => hn85)) rfl ?_
           refine .consA (.fieldElem (k := 5004) .none fd81_0 (.s rfl) rfl (fun _ => hn85)) rfl ?_
           refine .consA (.loadElem (k := 5004) .none ty3 (.s rfl) rfl hfd81_0 (fun _ => hn85)) rfl ?_
           refine .consA (.min2 .none (.s rfl) (.s rfl)) rfl ?_
           obtain ⟨left2, hv86, h⟩ := bnd_some h
           refine .consA (.re hv86 (.assign .none (.s rfl))) rfl ?_
           refine .nil ?_
           refine .blkNormal ?_
           exact Ends.join _ (some_eq h) (.k 33 rfl (.k 20 rfl (.k 233 rfl (.k 234 rfl .nil)))) (.k 5004 rfl .nil)
          ·
           subst hj84; have h := hK84; clear hK84
           refine .region [] mixed (by kernel_rfl) ?_
           refine .cons (.addW .none (.s rfl) (.int (by decide))) rfl ?_
           refine .cons (.move .none (.s rfl)) rfl ?_
           refine .nil ?_
           exact Ends.againL (some_eq h) (.k 234 rfl (.k 33 rfl (.k 20 rfl (.k 233 rfl .nil)))) (.k 5004 rfl .nil)
         ·
          replace h := bif_f h hb83
          refine .exit ?_
          refine .thenExit ?_
          refine .thenExit ?_
          refine .blkExit ?_
          replace h := hD82 _ (some_eq h)
          exact Ends.join _ (some_eq h) (.k 33 rfl (.k 20 rfl .nil)) (.k 5004 rfl .nil)
        ·
         subst hj81; have h := hK81; clear hK81
         refine .seq ?_
         refine .seq (.region [([], []), ([5004], []), ([], [])] mixed (by kernel_rfl) ?_)
         refine .consA (.move .none (.s rfl)) rfl ?_
         refine .consA (.lenO (k := 5004) sl71 (.told (.s rfl) rfl)) rfl ?_
         refine .consA (.move .none (.int (by decide))) rfl ?_
         refine .nil (.then ?_)
         obtain ⟨j_87, h, hK87⟩ := bind_some h
         refine .thenJ (ι := (List Point)) (fun j_87 => []) (fun j_87 => [(5004, some (CPred.at s5004 (rowV 81 j_87)))]) (fun s => j_87 = s) (.k 20 rfl .nil) SubB.nil ?_ (fun j_87' hj87 => ?_)
         ·
          skip
          refine .block ?_
          refine .rforL h (fun p88_ => [(247, ⟨True, rep p88_.1⟩)]) (fun p88_ => [(5004, some (CPred.at s5004 (rowV 81 p88_.2)))]) (.k 247 rfl .nil) (.k 5004 rfl .nil) (.k 20 rfl (.k 33 rfl (.k 246 rfl .nil))) SubB.nil (fun p88_ o_88 h hD88 => ?_)
          refine .seq (.region [] mixed (by kernel_rfl) ?_)
          refine .cons (.lt .none (.s rfl) (.s rfl)) rfl ?_
          refine .nil (.then ?_)
          refine .seq ?_
          refine .cond (t := 248) rfl trivial (fun hb89 => ?_) (fun hb89 => ?_)
          ·
           replace h := bif_t h hb89
           refine .skip ?_
           refine .then ?_
           refine .seq ?_
           obtain ⟨j_90, h, hK90⟩ := bind_some h
           unfold layer_Draw_L8 at h
           refine .thenJ (ι := (List Point)) (fun j_90 => []) (fun j_90 => [(5004, some (CPred.at s5004 (rowV 81 j_90)))]) (fun s => j_90 = s) (.k 20 rfl (.k 33 rfl (.k 246 rfl (.k 247 rfl .nil)))) SubB.nil ?_ (fun j_90' hj90 => ?_)
           ·
            skip
            refine .block ?_
            refine .seq (.region [] mixed (by kernel_rfl) ?_)
            refine .cons (.move .none (.s rfl)) rfl ?_
            refine .cons (.assign .none (.s rfl)) rfl ?_
            refine .nil (.then ?_)
            refine .region [([], []), ([], []), ([5004], []), ([5004], []), ([5004], []), ([], []), ([], []), ([5004], []), ([5004], []), ([5004], [5004])] mixed (by kernel_rfl) ?_
            refine .consA (.move .none (.s rfl)) rfl ?_
            refine .consA (.move .none (.s rfl)) rfl ?_
            obtain ⟨hn91, h⟩ := need_some h
            refine .consA (.indexAddrO (k := 5004) .none sl71 ty81 (.s rfl) rfl (.s rfl) (fun _ => hn91)) rfl ?_
            refine .consA (.fieldElem (k := 5004) .none fd81_0 (.s rfl) rfl (fun _ => hn91)) rfl ?_
            refine .consA (.loadElem (k := 5004) .none ty3 (.s rfl) rfl hfd81_0 (fun _ => hn91)) rfl ?_
            refine .consA (.move .none (.s rfl)) rfl ?_
            obtain ⟨v5, hv92, h⟩ := bnd_some h
            refine .consA (.re hv92 (.subW .none (.s rfl) (.s rfl))) rfl ?_
            obtain ⟨hn93, h⟩ := need_some h
            refine .consA (.indexAddrO (k := 5004) .none sl71 ty81 (.s rfl) rfl (.s rfl) (fun _ => hn93)) rfl ?_
            refine .consA (.fieldElem (k := 5004) .none fd81_0 (.s rfl) rfl (fun _ => hn93)) rfl ?_
            refine .consN (.storeElem (k := 5004) ty3 (.s rfl) rfl sf81_0 (.s rfl) hn93) rfl ?_
            refine .nil ?_
            refine .blkNormal ?_
            exact Ends.join _ (some_eq h) (.k 20 rfl (.k 33 rfl (.k 246 rfl (.k 247 rfl .nil)))) (.k 5004 rfl .nil)
           ·
            subst hj90; have h := hK90; clear hK90
            refine .region [] mixed (by kernel_rfl) ?_
            refine .cons (.addW .none (.s rfl) (.int (by decide))) rfl ?_
            refine .cons (.move .none (.s rfl)) rfl ?_
            refine .nil ?_
            exact Ends.againL (some_eq h) (.k 247 rfl (.k 20 rfl (.k 33 rfl (.k 246 rfl .nil)))) (.k 5004 rfl .nil)
          ·
           replace h := bif_f h hb89
           refine .exit ?_
           refine .thenExit ?_
           refine .thenExit ?_
           refine .blkExit ?_
           replace h := hD88 _ (some_eq h)
           exact Ends.join _ (some_eq h) (.k 20 rfl .nil) (.k 5004 rfl .nil)
         ·
          subst hj87; have h := hK87; clear hK87
          refine .freezeRow (g := 5004) (ts := [20]) rfl (.cons (t := 20) rfl trivial .nil) SubB.nil rfl ?_
          refine .seq (.region [] mixed (by kernel_rfl) ?_)
          refine .cons (.move .none (.s rfl)) rfl ?_
          refine .cons (.assign .none (.s rfl)) rfl ?_
          refine .cons (.assign .none (.int (by decide))) rfl ?_
          refine .nil (.then ?_)
          refine .ret ?_
          obtain rfl := some_eq h
          exact Ends.ret2 (.inl rfl) Try.results47 (ResOK.tmp rfl trivial Imp.refl) (ResOK.tmp rfl trivial Imp.refl)

theorem layer_Turned_ok {n1 : Int} {l1 : (List Link)} {r : ((List Int) × Int)}  (h : layer_Turned n1 l1 = some r) : FSpec Try.prog 18 [rep n1, rep l1] (tup [rep r.1, rep r.2]) := by
 unfold layer_Turned at h
 refine FSpec.intro (n := 16) fnok18 Try.func18 rfl Try.ntmps18 rfl (fun F => ?_)
 refine .seq (.region [] mixed (by kernel_rfl) ?_)
 refine .cons (.assign .none (.const (x := ([] : (List Int))) (fun M w => ⟨_, ⟨none, 0, rfl, Nat.le_refl _, by decide, rfl⟩, rfl⟩))) rfl ?_
 refine .cons (.assign .none (.int (by decide))) rfl ?_
 refine .nil (.then ?_)
 refine .seq ?_
 refine .seq (.region [] mixed (by kernel_rfl) ?_)
 refine .cons (.move .none (.s rfl)) rfl ?_
 refine .cons (.move .none (.s rfl)) rfl ?_
 obtain ⟨e1, hv1, h⟩ := bind_some h
 refine .cons (.call .none (layer_Check_ok hv1) (.cons (.s rfl) (.cons (.s rfl) .nil))) rfl ?_
 refine .cons (.assign .none (.s rfl)) rfl ?_
 refine .nil (.then ?_)
 refine .seq (.region [] mixed (by kernel_rfl) ?_)
 refine .cons (.move .none (.s rfl)) rfl ?_
 refine .cons (.neI .none (.s rfl) (.int (by decide))) rfl ?_
 refine .nil (.then ?_)
 refine .cond (t := 11) rfl trivial (fun hb2 => ?_) (fun hb2 => ?_)
 ·
  replace h := bif_t h hb2
  refine .seq (.region [] mixed (by kernel_rfl) ?_)
  refine .cons (.move .none (.s rfl)) rfl ?_
  refine .cons (.assign .none (.const (x := ([] : (List Int))) (fun M w => ⟨_, ⟨none, 0, rfl, Nat.le_refl _, by decide, rfl⟩, rfl⟩))) rfl ?_
  refine .cons (.assign .none (.s rfl)) rfl ?_
  refine .nil (.then ?_)
  refine .ret ?_
  refine .thenRet ?_
  obtain rfl := some_eq h
  exact Ends.ret2 (.inl rfl) Try.results18 (ResOK.tmp rfl trivial Imp.refl) (ResOK.tmp rfl trivial Imp.refl)
 ·
  replace h := bif_f h hb2
  refine .skip ?_
  refine .then ?_
  refine .seq (.region [] mixed (by kernel_rfl) ?_)
  refine .cons (.move .none (.s rfl)) rfl ?_
  refine .cons (.move .none (.s rfl)) rfl ?_
  obtain ⟨r1, hv3, h⟩ := bind_some h
  refine .cons (.call .none (layer_turned_ok hv3).frz (.cons (.s rfl) (.cons (.s rfl) .nil))) rfl ?_
  refine .cons (.assign .none (.s rfl)) rfl ?_
  refine .cons (.assign .none (.int (by decide))) rfl ?_
  refine .nil (.then ?_)
  refine .ret ?_
  obtain rfl := some_eq h
  exact Ends.ret2 (.inl rfl) Try.results18 (ResOK.tmp rfl trivial Imp.refl) (ResOK.tmp rfl trivial Imp.refl)

theorem slices_Index_int_ok {s1 : (List Int)} {v1 : Int} {r : Int}  (h : slices_Index_int s1 v1 = some r) : FSpec Try.prog 31 [rep s1, rep v1] (rep r) := by
 unfold slices_Index_int at h
 refine FSpec.intro (n := 19) fnok31 Try.func31 rfl Try.ntmps31 rfl (fun F => ?_)
 refine .seq (.region [] mixed (by kernel_rfl) ?_)
 refine .cons (.assign .none (.int (by decide))) rfl ?_
 refine .nil (.then ?_)
 refine .seq ?_
 refine .seq (.region [] mixed (by kernel_rfl) ?_)
 refine .cons (.move .none (.s rfl)) rfl ?_
 refine .cons (.len .none sl32 (.s rfl)) rfl ?_
 refine .cons (.move .none (.int (by decide))) rfl ?_
 refine .nil (.then ?_)
 obtain ⟨o_1, h, hK1⟩ := bindR_some h
 refine .thenJ (ι := Unit) (fun j_1 => []) (fun j_1 => []) (fun s => o_1 = Res.nx s) Sub.nil SubB.nil ?_ (fun j_1 hj1 => ?_)
 ·
  skip
  refine .block ?_
  refine .rforEL h (fun p2_ => [(8, ⟨True, rep p2_.1⟩)]) (fun p2_ => []) (.k 8 rfl .nil) SubB.nil (.k 0 rfl (.k 1 rfl (.k 7 rfl .nil))) SubB.nil (fun p2_ o_2 h hD2 => ?_)
  refine .seq (.region [] mixed (by kernel_rfl) ?_)
  refine .cons (.lt .none (.s rfl) (.s rfl)) rfl ?_
  refine .nil (.then ?_)
  refine .seq ?_
  refine .cond (t := 9) rfl trivial (fun hb3 => ?_) (fun hb3 => ?_)
  ·
   replace h := bif_t h hb3
   refine .skip ?_
   refine .then ?_
   refine .seq ?_
   obtain ⟨o_4, h, hK4⟩ := bindD_some h
   unfold slices_Index_int_L1 at h
   refine .thenJ (ι := Unit) (fun j_4 => []) (fun j_4 => []) (fun s => o_4 = Res.nx s) (.k 0 rfl (.k 1 rfl (.k 7 rfl (.k 8 rfl .nil)))) SubB.nil ?_ (fun j_4 hj4 => ?_)
   ·
    skip
    refine .block ?_
    refine .seq (.region [] mixed (by kernel_rfl) ?_)
    refine .cons (.move .none (.s rfl)) rfl ?_
    refine .cons (.assign .none (.s rfl)) rfl ?_
    refine .nil (.then ?_)
    refine .seq (.region [] mixed (by kernel_rfl) ?_)
    refine .cons (.move .none (.s rfl)) rfl ?_
    refine .cons (.move .none (.s rfl)) rfl ?_
    refine .cons (.move .none (.s rfl)) rfl ?_
    obtain ⟨hn5, h⟩ := need_some h
    refine .cons (.indexAddr .none sl32 ty3 (.s rfl) (.s rfl) (fun _ => hn5)) rfl ?_
    refine .cons (.load .none ty3 (.s rfl)) rfl ?_
    refine .cons (.eqI .none (.s rfl) (.s rfl)) rfl ?_
    refine .nil (.then ?_)
    refine .cond (t := 16) rfl trivial (fun hb6 => ?_) (fun hb6 => ?_)
    ·
     replace h := bif_t h hb6
     refine .seq (.region [] mixed (by kernel_rfl) ?_)
     refine .cons (.move .none (.s rfl)) rfl ?_
     refine .cons (.assign .none (.s rfl)) rfl ?_
     refine .nil (.then ?_)
     refine .ret ?_
     refine .blkRet ?_
     refine .thenRet ?_
     refine .thenRet ?_
     refine .blkRet ?_
     refine .thenRet ?_
     replace h := resd_ab hK4 (some_eq h)
     replace h := hD2 _ (some_eq h)
     replace h := resb_ab hK1 (some_eq h)
     obtain rfl := some_eq h
     exact Ends.ret1 (.inl rfl) Try.results31 (ResOK.tmp rfl trivial Imp.refl)
    ·
     replace h := bif_f h hb6
     refine .skip ?_
     refine .blkNormal ?_
     exact Ends.join _ (some_eq h) (.k 0 rfl (.k 1 rfl (.k 7 rfl (.k 8 rfl .nil)))) SubB.nil
   ·
    have h := resd_nx hK4 hj4
    refine .region [] mixed (by kernel_rfl) ?_
    refine .cons (.addW .none (.s rfl) (.int (by decide))) rfl ?_
    refine .cons (.move .none (.s rfl)) rfl ?_
    refine .nil ?_
    exact Ends.againL (some_eq h) (.k 8 rfl (.k 0 rfl (.k 1 rfl (.k 7 rfl .nil)))) SubB.nil
  ·
   replace h := bif_f h hb3
   refine .exit ?_
   refine .thenExit ?_
   refine .thenExit ?_
   refine .blkExit ?_
   replace h := hD2 _ (some_eq h)
   exact Ends.join _ (some_eq h) Sub.nil SubB.nil
 ·
  have h := resb_nx hK1 hj1
  refine .seq (.region [] mixed (by kernel_rfl) ?_)
  refine .cons (.assign .none (.int (by decide))) rfl ?_
  refine .nil (.then ?_)
  refine .ret ?_
  obtain rfl := some_eq h
  exact Ends.ret1 (.inl rfl) Try.results31 (ResOK.tmp rfl trivial Imp.refl)

theorem layer_Total_ok {n1 : Int} {l1 : (List Link)} {ranks1 : (List Int)} {r : (Int × Int)}  (h : layer_Total n1 l1 ranks1 = some r) : FSpec Try.prog 37 [rep n1, rep l1, rep ranks1] (tup [rep r.1, rep r.2]) := by
 unfold layer_Total at h
 refine FSpec.intro (n := 62) fnok37 Try.func37 rfl Try.ntmps37 rfl (fun F => ?_)
 refine .seq (.region [] mixed (by kernel_rfl) ?_)
 refine .cons (.assign .none (.int (by decide))) rfl ?_
 refine .cons (.assign .none (.int (by decide))) rfl ?_
 refine .nil (.then ?_)
 refine .seq ?_
 refine .seq (.region [] mixed (by kernel_rfl) ?_)
 refine .cons (.move .none (.s rfl)) rfl ?_
 refine .cons (.move .none (.s rfl)) rfl ?_
 obtain ⟨e1, hv1, h⟩ := bind_some h
 refine .cons (.call .none (layer_Check_ok hv1) (.cons (.s rfl) (.cons (.s rfl) .nil))) rfl ?_
 refine .cons (.assign .none (.s rfl)) rfl ?_
 refine .nil (.then ?_)
 refine .seq (.region [] mixed (by kernel_rfl) ?_)
 refine .cons (.move .none (.s rfl)) rfl ?_
 refine .cons (.neI .none (.s rfl) (.int (by decide))) rfl ?_
 refine .nil (.then ?_)
 refine .cond (t := 19) rfl trivial (fun hb2 => ?_) (fun hb2 => ?_)
 ·
  replace h := bif_t h hb2
  refine .seq (.region [] mixed (by kernel_rfl) ?_)
  refine .cons (.move .none (.s rfl)) rfl ?_
  refine .cons (.assign .none (.int (by decide))) rfl ?_
  refine .cons (.assign .none (.s rfl)) rfl ?_
  refine .nil (.then ?_)
  refine .ret ?_
  refine .thenRet ?_
  obtain rfl := some_eq h
  exact Ends.ret2 (.inl rfl) Try.results37 (ResOK.tmp rfl trivial Imp.refl) (ResOK.tmp rfl trivial Imp.refl)
 ·
  replace h := bif_f h hb2
  refine .skip ?_
  refine .then ?_
  refine .seq ?_
  refine .seq (.region [] mixed (by kernel_rfl) ?_)
  refine .cons (.move .none (.s rfl)) rfl ?_
  refine .cons (.len .none sl32 (.s rfl)) rfl ?_
  refine .cons (.move .none (.s rfl)) rfl ?_
  refine .cons (.neI .none (.s rfl) (.s rfl)) rfl ?_
  refine .nil (.then ?_)
  refine .cond (t := 24) rfl trivial (fun hb3 => ?_) (fun hb3 => ?_)
  ·
   replace h := bif_t h hb3
   refine .seq (.region [] mixed (by kernel_rfl) ?_)
   refine .cons (.assign .none (.int (by decide))) rfl ?_
   refine .cons (.assign .none (.int (by decide))) rfl ?_
   refine .nil (.then ?_)
   refine .ret ?_
   refine .thenRet ?_
   obtain rfl := some_eq h
   exact Ends.ret2 (.inl rfl) Try.results37 (ResOK.tmp rfl trivial Imp.refl) (ResOK.tmp rfl trivial Imp.refl)
  ·
   replace h := bif_f h hb3
   refine .skip ?_
   refine .then ?_
   refine .seq ?_
   refine .seq (.region [] mixed (by kernel_rfl) ?_)
   refine .cons (.move .none (.s rfl)) rfl ?_
   refine .cons (.len .none sl32 (.s rfl)) rfl ?_
   refine .cons (.move .none (.int (by decide))) rfl ?_
   refine .nil (.then ?_)
   obtain ⟨o_4, h, hK4⟩ := bindR_some h
   refine .thenJ (ι := Unit) (fun j_4 => []) (fun j_4 => []) (fun s => o_4 = Res.nx s) (.k 1 rfl (.k 2 rfl .nil)) SubB.nil ?_ (fun j_4 hj4 => ?_)
   ·
    skip
    refine .block ?_
    refine .rforEL h (fun p5_ => [(27, ⟨True, rep p5_.1⟩)]) (fun p5_ => []) (.k 27 rfl .nil) SubB.nil (.k 1 rfl (.k 2 rfl (.k 25 rfl (.k 26 rfl .nil)))) SubB.nil (fun p5_ o_5 h hD5 => ?_)
    refine .seq (.region [] mixed (by kernel_rfl) ?_)
    refine .cons (.lt .none (.s rfl) (.s rfl)) rfl ?_
    refine .nil (.then ?_)
    refine .seq ?_
    refine .cond (t := 28) rfl trivial (fun hb6 => ?_) (fun hb6 => ?_)
    ·
     replace h := bif_t h hb6
     refine .skip ?_
     refine .then ?_
     refine .seq ?_
     obtain ⟨o_7, h, hK7⟩ := bindD_some h
     unfold layer_Total_L1 at h
     refine .thenJ (ι := Unit) (fun j_7 => []) (fun j_7 => []) (fun s => o_7 = Res.nx s) (.k 1 rfl (.k 2 rfl (.k 25 rfl (.k 26 rfl (.k 27 rfl .nil))))) SubB.nil ?_ (fun j_7 hj7 => ?_)
     ·
      skip
      refine .block ?_
      refine .seq (.region [] mixed (by kernel_rfl) ?_)
      obtain ⟨hn8, h⟩ := need_some h
      refine .cons (.indexAddr .none sl32 ty3 (.s rfl) (.s rfl) (fun _ => hn8)) rfl ?_
      refine .cons (.load .none ty3 (.s rfl)) rfl ?_
      obtain ⟨r1, hv9, h⟩ := bnd_some h
      refine .cons (.re hv9 (.assign .none (.s rfl))) rfl ?_
      refine .nil (.then ?_)
      refine .seq (.region [] mixed (by kernel_rfl) ?_)
      refine .cons (.move .none (.s rfl)) rfl ?_
      refine .cons (.lt .none (.s rfl) (.int (by decide))) rfl ?_
      refine .cons (.move .none (.s rfl)) rfl ?_
      refine .cons (.move (.at rfl rfl) (.s rfl)) rfl ?_
      refine .cons (.gt (.at rfl rfl) (.tmp rfl id) (.int (by decide))) rfl ?_
      refine .cons (.pickOr .none (.s rfl) (.tmp rfl id)) rfl ?_
      refine .nil (.then ?_)
      refine .cond (t := 36) rfl trivial (fun hb10 => ?_) (fun hb10 => ?_)
      ·
       replace h := bif_t h hb10
       refine .seq (.region [] mixed (by kernel_rfl) ?_)
       refine .cons (.assign .none (.int (by decide))) rfl ?_
       refine .cons (.assign .none (.int (by decide))) rfl ?_
       refine .nil (.then ?_)
       refine .ret ?_
       refine .blkRet ?_
       refine .thenRet ?_
       refine .thenRet ?_
       refine .blkRet ?_
       refine .thenRet ?_
       replace h := resd_ab hK7 (some_eq h)
       replace h := hD5 _ (some_eq h)
       replace h := resb_ab hK4 (some_eq h)
       obtain rfl := some_eq h
       exact Ends.ret2 (.inl rfl) Try.results37 (ResOK.tmp rfl trivial Imp.refl) (ResOK.tmp rfl trivial Imp.refl)
      ·
       replace h := bif_f h hb10
       refine .skip ?_
       refine .blkNormal ?_
       exact Ends.join _ (some_eq h) (.k 1 rfl (.k 2 rfl (.k 25 rfl (.k 26 rfl (.k 27 rfl .nil))))) SubB.nil
     ·
      have h := resd_nx hK7 hj7
      refine .region [] mixed (by kernel_rfl) ?_
      refine .cons (.addW .none (.s rfl) (.int (by decide))) rfl ?_
      refine .cons (.move .none (.s rfl)) rfl ?_
      refine .nil ?_
      exact Ends.againL (some_eq h) (.k 27 rfl (.k 1 rfl (.k 2 rfl (.k 25 rfl (.k 26 rfl .nil))))) SubB.nil
    ·
     replace h := bif_f h hb6
     refine .exit ?_
     refine .thenExit ?_
     refine .thenExit ?_
     refine .blkExit ?_
     replace h := hD5 _ (some_eq h)
     exact Ends.join _ (some_eq h) (.k 1 rfl (.k 2 rfl .nil)) SubB.nil
   ·
    have h := resb_nx hK4 hj4
    refine .seq (.region [] mixed (by kernel_rfl) ?_)
    refine .cons (.assign .none (.int (by decide))) rfl ?_
    refine .nil (.then ?_)
    refine .seq ?_
    refine .seq (.region [] mixed (by kernel_rfl) ?_)
    refine .cons (.move .none (.s rfl)) rfl ?_
    refine .cons (.len .none sl23 (.s rfl)) rfl ?_
    refine .cons (.move .none (.int (by decide))) rfl ?_
    refine .nil (.then ?_)
    obtain ⟨o_11, h, hK11⟩ := bindR_some h
    refine .thenJ (ι := Int) (fun j_11 => [(11, ⟨True, rep j_11⟩)]) (fun j_11 => []) (fun s => o_11 = Res.nx s) Sub.nil SubB.nil ?_ (fun j_11 hj11 => ?_)
    ·
     skip
     refine .block ?_
     refine .rforEL h (fun p12_ => [(40, ⟨True, rep p12_.1⟩), (11, ⟨True, rep p12_.2⟩)]) (fun p12_ => []) (.k 40 rfl (.k 11 rfl .nil)) SubB.nil (.k 2 rfl (.k 38 rfl (.k 39 rfl .nil))) SubB.nil (fun p12_ o_12 h hD12 => ?_)
     refine .seq (.region [] mixed (by kernel_rfl) ?_)
     refine .cons (.lt .none (.s rfl) (.s rfl)) rfl ?_
     refine .nil (.then ?_)
     refine .seq ?_
     refine .cond (t := 41) rfl trivial (fun hb13 => ?_) (fun hb13 => ?_)
     ·
      replace h := bif_t h hb13
      refine .skip ?_
      refine .then ?_
      refine .seq ?_
      obtain ⟨o_14, h, hK14⟩ := bindD_some h
      unfold layer_Total_L2 at h
      refine .thenJ (ι := Int) (fun j_14 => [(11, ⟨True, rep j_14⟩)]) (fun j_14 => []) (fun s => o_14 = Res.nx s) (.k 2 rfl (.k 38 rfl (.k 39 rfl (.k 40 rfl .nil)))) SubB.nil ?_ (fun j_14 hj14 => ?_)
      ·
       skip
       refine .block ?_
       refine .seq (.region [([], []), ([], []), ([], [13]), ([13], [13])] mixed (by kernel_rfl) ?_)
       obtain ⟨hn15, h⟩ := need_some h
       refine .consA (.indexAddr .none sl23 ty79 (.s rfl) (.s rfl) (fun _ => hn15)) rfl ?_
       obtain ⟨v1, hv16, h⟩ := bnd_some h
       refine .consA (.re hv16 (.load .none ty79 (.s rfl))) rfl ?_
       refine .consW (.alloc zo79 rfl) rfl rfl ?_
       refine .consN (.store ty79 rfl rfl (.s rfl)) rfl ?_
       refine .nil (.then ?_)
       refine .freeze (t := 13) rfl rfl SubB.nil rfl ?_
       refine .seq (.region [] mixed (by kernel_rfl) ?_)
       refine .cons (.move .none (.s rfl)) rfl ?_
       refine .cons (.fieldAddr .none fd79_1 hfd79_1 (.s rfl)) rfl ?_
       refine .cons (.load .none ty3 (.s rfl)) rfl ?_
       obtain ⟨hn17, h⟩ := need_some h
       refine .cons (.indexAddr .none sl32 ty3 (.s rfl) (.s rfl) (fun _ => hn17)) rfl ?_
       refine .cons (.load .none ty3 (.s rfl)) rfl ?_
       refine .cons (.move .none (.s rfl)) rfl ?_
       refine .cons (.fieldAddr .none fd79_0 hfd79_0 (.s rfl)) rfl ?_
       refine .cons (.load .none ty3 (.s rfl)) rfl ?_
       obtain ⟨hn18, h⟩ := need_some h
       refine .cons (.indexAddr .none sl32 ty3 (.s rfl) (.s rfl) (fun _ => hn18)) rfl ?_
       refine .cons (.load .none ty3 (.s rfl)) rfl ?_
       refine .cons (.subW .none (.s rfl) (.s rfl)) rfl ?_
       obtain ⟨d1, hv19, h⟩ := bnd_some h
       refine .cons (.re hv19 (.assign .none (.s rfl))) rfl ?_
       refine .nil (.then ?_)
       refine .seq ?_
       refine .seq (.region [] mixed (by kernel_rfl) ?_)
       refine .cons (.move .none (.s rfl)) rfl ?_
       refine .cons (.lt .none (.s rfl) (.int (by decide))) rfl ?_
       refine .nil (.then ?_)
       refine .cond (t := 56) rfl trivial (fun hb20 => ?_) (fun hb20 => ?_)
       ·
        replace h := bif_t h hb20
        refine .seq (.region [] mixed (by kernel_rfl) ?_)
        refine .cons (.assign .none (.int (by decide))) rfl ?_
        refine .cons (.assign .none (.int (by decide))) rfl ?_
        refine .nil (.then ?_)
        refine .ret ?_
        refine .thenRet ?_
        refine .blkRet ?_
        refine .thenRet ?_
        refine .thenRet ?_
        refine .blkRet ?_
        refine .thenRet ?_
        replace h := resd_ab hK14 (some_eq h)
        replace h := hD12 _ (some_eq h)
        replace h := resb_ab hK11 (some_eq h)
        obtain rfl := some_eq h
        exact Ends.ret2 (.inl rfl) Try.results37 (ResOK.tmp rfl trivial Imp.refl) (ResOK.tmp rfl trivial Imp.refl)
       ·
        replace h := bif_f h hb20
        refine .skip ?_
        refine .then ?_
        refine .region [] mixed (by kernel_rfl) ?_
        refine .cons (.move .none (.s rfl)) rfl ?_
        refine .cons (.move .none (.s rfl)) rfl ?_
        refine .cons (.addW .none (.s rfl) (.s rfl)) rfl ?_
        obtain ⟨sum1, hv21, h⟩ := bnd_some h
        refine .cons (.re hv21 (.assign .none (.s rfl))) rfl ?_
        refine .nil ?_
        refine .blkNormal ?_
        exact Ends.join _ (some_eq h) (.k 11 rfl (.k 2 rfl (.k 38 rfl (.k 39 rfl (.k 40 rfl .nil))))) SubB.nil
      ·
       have h := resd_nx hK14 hj14
       refine .region [] mixed (by kernel_rfl) ?_
       refine .cons (.addW .none (.s rfl) (.int (by decide))) rfl ?_
       refine .cons (.move .none (.s rfl)) rfl ?_
       refine .nil ?_
       exact Ends.againL (some_eq h) (.k 40 rfl (.k 11 rfl (.k 2 rfl (.k 38 rfl (.k 39 rfl .nil))))) SubB.nil
     ·
      replace h := bif_f h hb13
      refine .exit ?_
      refine .thenExit ?_
      refine .thenExit ?_
      refine .blkExit ?_
      replace h := hD12 _ (some_eq h)
      exact Ends.join _ (some_eq h) (.k 11 rfl .nil) SubB.nil
    ·
     have h := resb_nx hK11 hj11
     refine .seq (.region [] mixed (by kernel_rfl) ?_)
     refine .cons (.move .none (.s rfl)) rfl ?_
     refine .cons (.assign .none (.s rfl)) rfl ?_
     refine .cons (.assign .none (.int (by decide))) rfl ?_
     refine .nil (.then ?_)
     refine .ret ?_
     obtain rfl := some_eq h
     exact Ends.ret2 (.inl rfl) Try.results37 (ResOK.tmp rfl trivial Imp.refl) (ResOK.tmp rfl trivial Imp.refl)

theorem layer_Ranks_ok {n1 : Int} {l1 : (List Link)} {r : ((List Int) × Int)}  (h : layer_Ranks n1 l1 = some r) : FSpec Try.prog 33 [rep n1, rep l1] (tup [rep r.1, rep r.2]) := by
 unfold layer_Ranks at h
 refine FSpec.intro (n := 21) fnok33 Try.func33 rfl Try.ntmps33 rfl (fun F => ?_)
 refine .seq (.region [] mixed (by kernel_rfl) ?_)
 refine .cons (.assign .none (.const (x := ([] : (List Int))) (fun M w => ⟨_, ⟨none, 0, rfl, Nat.le_refl _, by decide, rfl⟩, rfl⟩))) rfl ?_
 refine .cons (.assign .none (.int (by decide))) rfl ?_
 refine .nil (.then ?_)
 refine .seq ?_
 refine .seq (.region [] mixed (by kernel_rfl) ?_)
 refine .cons (.move .none (.s rfl)) rfl ?_
 refine .cons (.move .none (.s rfl)) rfl ?_
 obtain ⟨e1, hv1, h⟩ := bind_some h
 refine .cons (.call .none (layer_Check_ok hv1) (.cons (.s rfl) (.cons (.s rfl) .nil))) rfl ?_
 refine .cons (.assign .none (.s rfl)) rfl ?_
 refine .nil (.then ?_)
 refine .seq (.region [] mixed (by kernel_rfl) ?_)
 refine .cons (.move .none (.s rfl)) rfl ?_
 refine .cons (.neI .none (.s rfl) (.int (by decide))) rfl ?_
 refine .nil (.then ?_)
 refine .cond (t := 11) rfl trivial (fun hb2 => ?_) (fun hb2 => ?_)
 ·
  replace h := bif_t h hb2
  refine .seq (.region [] mixed (by kernel_rfl) ?_)
  refine .cons (.move .none (.s rfl)) rfl ?_
  refine .cons (.assign .none (.const (x := ([] : (List Int))) (fun M w => ⟨_, ⟨none, 0, rfl, Nat.le_refl _, by decide, rfl⟩, rfl⟩))) rfl ?_
  refine .cons (.assign .none (.s rfl)) rfl ?_
  refine .nil (.then ?_)
  refine .ret ?_
  refine .thenRet ?_
  obtain rfl := some_eq h
  exact Ends.ret2 (.inl rfl) Try.results33 (ResOK.tmp rfl trivial Imp.refl) (ResOK.tmp rfl trivial Imp.refl)
 ·
  replace h := bif_f h hb2
  refine .skip ?_
  refine .then ?_
  refine .seq ?_
  refine .seq (.region [] mixed (by kernel_rfl) ?_)
  refine .cons (.move .none (.s rfl)) rfl ?_
  refine .cons (.move .none (.s rfl)) rfl ?_
  obtain ⟨r1, hv3, h⟩ := bind_some h
  refine .cons (.call .none (layer_turned_ok hv3).frz (.cons (.s rfl) (.cons (.s rfl) .nil))) rfl ?_
  refine .cons (.len .none sl32 (.s rfl)) rfl ?_
  refine .cons (.gt .none (.s rfl) (.int (by decide))) rfl ?_
  refine .nil (.then ?_)
  refine .cond (t := 17) rfl trivial (fun hb4 => ?_) (fun hb4 => ?_)
  ·
   replace h := bif_t h hb4
   refine .seq (.region [] mixed (by kernel_rfl) ?_)
   refine .cons (.assign .none (.const (x := ([] : (List Int))) (fun M w => ⟨_, ⟨none, 0, rfl, Nat.le_refl _, by decide, rfl⟩, rfl⟩))) rfl ?_
   refine .cons (.assign .none (.int (by decide))) rfl ?_
   refine .nil (.then ?_)
   refine .ret ?_
   refine .thenRet ?_
   obtain rfl := some_eq h
   exact Ends.ret2 (.inl rfl) Try.results33 (ResOK.tmp rfl trivial Imp.refl) (ResOK.tmp rfl trivial Imp.refl)
  ·
   replace h := bif_f h hb4
   refine .skip ?_
   refine .then ?_
   refine .seq (.region [] mixed (by kernel_rfl) ?_)
   refine .cons (.move .none (.s rfl)) rfl ?_
   refine .cons (.move .none (.s rfl)) rfl ?_
   obtain ⟨r2, hv5, h⟩ := bind_some h
   refine .cons (.call .none (layer_ranks_ok hv5) (.cons (.s rfl) (.cons (.s rfl) .nil))) rfl ?_
   refine .cons (.assign .none (.s rfl)) rfl ?_
   refine .cons (.assign .none (.int (by decide))) rfl ?_
   refine .nil (.then ?_)
   refine .ret ?_
   obtain rfl := some_eq h
   exact Ends.ret2 (.inl rfl) Try.results33 (ResOK.tmp rfl trivial Imp.refl) (ResOK.tmp rfl trivial Imp.refl)

set_option maxHeartbeats 4000000 in
theorem top_TopLayersAreLeast_ok {sizes1 : (List Point)} {l1 : (List Link)} {gapx1 : Int} {gapy1 : Int} {other1 : (List Int)} {r : Bool}  (h : top_TopLayersAreLeast sizes1 l1 gapx1 gapy1 other1 = some r) : FSpec Try.prog 9 [rep sizes1, rep l1, rep gapx1, rep gapy1, rep other1] (rep r) := by
 unfold top_TopLayersAreLeast at h
 refine FSpec.intro (n := 202) fnok9 Try.func9 rfl Try.ntmps9 rfl (fun F => ?_)
 refine .seq (.region [] mixed (by kernel_rfl) ?_)
 refine .cons (.assign .none .bool) rfl ?_
 refine .nil (.then ?_)
 refine .seq (.region [] mixed (by kernel_rfl) ?_)
 refine .cons (.move .none (.s rfl)) rfl ?_
 refine .cons (.len .none sl71 (.s rfl)) rfl ?_
 obtain ⟨n1, hv1, h⟩ := bnd_some h
 refine .cons (.re hv1 (.assign .none (.s rfl))) rfl ?_
 refine .nil (.then ?_)
 refine .seq (.region [] mixed (by kernel_rfl) ?_)
 refine .cons (.move .none (.s rfl)) rfl ?_
 refine .cons (.move .none (.s rfl)) rfl ?_
 refine .cons (.move .none (.s rfl)) rfl ?_
 refine .cons (.move .none (.s rfl)) rfl ?_
 obtain ⟨r1, hv2, h⟩ := bind_some h
 refine .cons (.call .none (layer_Draw_ok hv2) (.cons (.s rfl) (.cons (.s rfl) (.cons (.s rfl) (.cons (.s rfl) .nil))))) rfl ?_
 refine .cons (.move .none (.s rfl)) rfl ?_
 refine .cons (.extract .none (.s rfl) rfl) rfl ?_
 refine .cons (.extract .none (.s rfl) rfl) rfl ?_
 refine .cons (.assign .none (.s rfl)) rfl ?_
 refine .cons (.assign .none (.s rfl)) rfl ?_
 refine .nil (.then ?_)
 refine .seq ?_
 refine .seq (.region [] mixed (by kernel_rfl) ?_)
 refine .cons (.move .none (.s rfl)) rfl ?_
 refine .cons (.neI .none (.s rfl) (.int (by decide))) rfl ?_
 refine .cons (.move .none (.s rfl)) rfl ?_
 refine .cons (.move (.at rfl rfl) (.s rfl)) rfl ?_
 refine .cons (.eqI (.at rfl rfl) (.tmp rfl id) (.int (by decide))) rfl ?_
 refine .cons (.pickOr .none (.s rfl) (.tmp rfl id)) rfl ?_
 refine .nil (.then ?_)
 refine .cond (t := 48) rfl trivial (fun hb3 => ?_) (fun hb3 => ?_)
 ·
  replace h := bif_t h hb3
  refine .seq (.region [] mixed (by kernel_rfl) ?_)
  refine .cons (.move .none (.s rfl)) rfl ?_
  refine .cons (.len .none sl71 (.s rfl)) rfl ?_
  refine .cons (.eqI .none (.s rfl) (.int (by decide))) rfl ?_
  refine .cons (.assign .none (.s rfl)) rfl ?_
  refine .nil (.then ?_)
  refine .ret ?_
  refine .thenRet ?_
  obtain rfl := some_eq h
  exact Ends.ret1 (.inl rfl) Try.results9 (ResOK.tmp rfl trivial Imp.refl)
 ·
  replace h := bif_f h hb3
  refine .skip ?_
  refine .then ?_
  refine .seq (.region [] mixed (by kernel_rfl) ?_)
  refine .cons (.move .none (.s rfl)) rfl ?_
  refine .cons (.move .none (.s rfl)) rfl ?_
  obtain ⟨r2, hv4, h⟩ := bind_some h
  refine .cons (.call .none (layer_Turned_ok hv4) (.cons (.s rfl) (.cons (.s rfl) .nil))) rfl ?_
  refine .cons (.move .none (.s rfl)) rfl ?_
  refine .cons (.extract .none (.s rfl) rfl) rfl ?_
  refine .cons (.extract .none (.s rfl) rfl) rfl ?_
  refine .cons (.assign .none (.s rfl)) rfl ?_
  refine .cons (.assign .none (.s rfl)) rfl ?_
  refine .nil (.then ?_)
  refine .seq ?_
  refine .seq (.region [] mixed (by kernel_rfl) ?_)
  refine .cons (.move .none (.s rfl)) rfl ?_
  refine .cons (.neI .none (.s rfl) (.int (by decide))) rfl ?_
  refine .cons (.move .none (.s rfl)) rfl ?_
  refine .cons (.move (.at rfl rfl) (.s rfl)) rfl ?_
  refine .cons (.len (.at rfl rfl) sl71 (.tmp rfl id)) rfl ?_
  refine .cons (.move (.at rfl rfl) (.s rfl)) rfl ?_
  refine .cons (.neI (.at rfl rfl) (.tmp rfl id) (.tmp rfl id)) rfl ?_
  refine .cons (.pickOr .none (.s rfl) (.tmp rfl id)) rfl ?_
  refine .nil (.then ?_)
  refine .cond (t := 65) rfl trivial (fun hb5 => ?_) (fun hb5 => ?_)
  ·
   replace h := bif_t h hb5
   refine .seq (.region [] mixed (by kernel_rfl) ?_)
   refine .cons (.assign .none .bool) rfl ?_
   refine .nil (.then ?_)
   refine .ret ?_
   refine .thenRet ?_
   obtain rfl := some_eq h
   exact Ends.ret1 (.inl rfl) Try.results9 (ResOK.tmp rfl trivial Imp.refl)
  ·
   replace h := bif_f h hb5
   refine .skip ?_
   refine .then ?_
   refine .seq (.region [([], []), ([], [67]), ([67], [15, 67])] mixed (by kernel_rfl) ?_)
   refine .consA (.move .none (.s rfl)) rfl ?_
   obtain ⟨s1, hv6, h⟩ := bind_some h
   refine .consW (.callO [] (slices_Clone_Link_ok hv6) (.cons (.s rfl) .nil) .nil rfl (by decide) (by decide) (by intro d h; cases h; decide)) rfl rfl ?_
   refine .consW (.passRow rfl (.tmp rfl)) rfl rfl ?_
   refine .nil (.then ?_)
   refine .nameRow (t := 15) (g := 5001) rfl rfl rfl (fun s5001 => ?_)
   refine .seq ?_
   refine .seq (.region [] mixed (by kernel_rfl) ?_)
   refine .cons (.move .none (.s rfl)) rfl ?_
   refine .cons (.len .none sl32 (.s rfl)) rfl ?_
   refine .cons (.move .none (.int (by decide))) rfl ?_
   refine .nil (.then ?_)
   obtain ⟨j_7, h, hK7⟩ := bind_some h
   refine .thenJ (ι := (List Link)) (fun j_7 => []) (fun j_7 => [(5001, some (CPred.at s5001 (rowV 79 j_7)))]) (fun s => j_7 = s) (.k 0 rfl (.k 3 rfl (.k 4 rfl (.k 11 rfl (.k 12 rfl (.k 15 rfl .nil)))))) SubB.nil ?_ (fun j_7' hj7 => ?_)
   ·
    skip
    refine .block ?_
    refine .rforL h (fun p8_ => [(70, ⟨True, rep p8_.1⟩)]) (fun p8_ => [(5001, some (CPred.at s5001 (rowV 79 p8_.2)))]) (.k 70 rfl .nil) (.k 5001 rfl .nil) (.k 0 rfl (.k 1 rfl (.k 3 rfl (.k 4 rfl (.k 11 rfl (.k 12 rfl (.k 15 rfl (.k 68 rfl (.k 69 rfl .nil))))))))) SubB.nil (fun p8_ o_8 h hD8 => ?_)
    refine .seq (.region [] mixed (by kernel_rfl) ?_)
    refine .cons (.lt .none (.s rfl) (.s rfl)) rfl ?_
    refine .nil (.then ?_)
    refine .seq ?_
    refine .cond (t := 71) rfl trivial (fun hb9 => ?_) (fun hb9 => ?_)
    ·
     replace h := bif_t h hb9
     refine .skip ?_
     refine .then ?_
     refine .seq ?_
     obtain ⟨j_10, h, hK10⟩ := bind_some h
     unfold top_TopLayersAreLeast_L1 at h
     refine .thenJ (ι := (List Link)) (fun j_10 => []) (fun j_10 => [(5001, some (CPred.at s5001 (rowV 79 j_10)))]) (fun s => j_10 = s) (.k 0 rfl (.k 1 rfl (.k 3 rfl (.k 4 rfl (.k 11 rfl (.k 12 rfl (.k 15 rfl (.k 68 rfl (.k 69 rfl (.k 70 rfl .nil)))))))))) SubB.nil ?_ (fun j_10' hj10 => ?_)
     ·
      skip
      refine .block ?_
      refine .seq (.region [] mixed (by kernel_rfl) ?_)
      obtain ⟨hn11, h⟩ := need_some h
      refine .cons (.indexAddr .none sl32 ty3 (.s rfl) (.s rfl) (fun _ => hn11)) rfl ?_
      refine .cons (.load .none ty3 (.s rfl)) rfl ?_
      obtain ⟨i1, hv12, h⟩ := bnd_some h
      refine .cons (.re hv12 (.assign .none (.s rfl))) rfl ?_
      refine .nil (.then ?_)
      refine .region [([], []), ([], []), ([], []), ([], []), ([], []), ([], []), ([], []), ([], []), ([], []), ([], []), ([], []), ([], []), ([], []), ([5001], []), ([5001], [5001])] mixed (by kernel_rfl) ?_
      refine .consA (.move .none (.s rfl)) rfl ?_
      refine .consA (.move .none (.s rfl)) rfl ?_
      refine .consA (.move .none (.s rfl)) rfl ?_
      refine .consA (.move .none (.s rfl)) rfl ?_
      obtain ⟨hn13, h⟩ := need_some h
      refine .consA (.indexAddr .none sl23 ty79 (.s rfl) (.s rfl) (fun _ => hn13)) rfl ?_
      refine .consA (.fieldAddr .none fd79_1 hfd79_1 (.s rfl)) rfl ?_
      refine .consA (.load .none ty3 (.s rfl)) rfl ?_
      refine .consA (.move .none (.s rfl)) rfl ?_
      refine .consA (.move .none (.s rfl)) rfl ?_
      obtain ⟨hn14, h⟩ := need_some h
      refine .consA (.indexAddr .none sl23 ty79 (.s rfl) (.s rfl) (fun _ => hn14)) rfl ?_
      refine .consA (.fieldAddr .none fd79_0 hfd79_0 (.s rfl)) rfl ?_
      refine .consA (.load .none ty3 (.s rfl)) rfl ?_
      obtain ⟨v1, hv15, h⟩ := bnd_some h
      refine .consA (.re hv15 (.buildF (y := (⟨(gx l1 i1).To, (gx l1 i1).From⟩ : Link)) .none bu79 zc79 rfl (.cons (.s rfl) (.cons (.s rfl) .nil)) (.cons rfl sf79_0 (.cons rfl sf79_1 .nil)))) rfl ?_
      obtain ⟨hn16, h⟩ := need_some h
      refine .consA (.indexAddrO (k := 5001) .none sl23 ty79 (.s rfl) rfl (.s rfl) (fun _ => hn16)) rfl ?_
      refine .consN (.storeElem0 (k := 5001) ty79 (.s rfl) rfl (.s rfl) hn16) rfl ?_
      refine .nil ?_
      refine .blkNormal ?_
      exact Ends.join _ (some_eq h) (.k 0 rfl (.k 1 rfl (.k 3 rfl (.k 4 rfl (.k 11 rfl (.k 12 rfl (.k 15 rfl (.k 68 rfl (.k 69 rfl (.k 70 rfl .nil)))))))))) (.k 5001 rfl .nil)
     ·
      subst hj10; have h := hK10; clear hK10
      refine .region [] mixed (by kernel_rfl) ?_
      refine .cons (.addW .none (.s rfl) (.int (by decide))) rfl ?_
      refine .cons (.move .none (.s rfl)) rfl ?_
      refine .nil ?_
      exact Ends.againL (some_eq h) (.k 70 rfl (.k 0 rfl (.k 1 rfl (.k 3 rfl (.k 4 rfl (.k 11 rfl (.k 12 rfl (.k 15 rfl (.k 68 rfl (.k 69 rfl .nil)))))))))) (.k 5001 rfl .nil)
    ·
     replace h := bif_f h hb9
     refine .exit ?_
     refine .thenExit ?_
     refine .thenExit ?_
     refine .blkExit ?_
     replace h := hD8 _ (some_eq h)
     exact Ends.join _ (some_eq h) (.k 0 rfl (.k 3 rfl (.k 4 rfl (.k 11 rfl (.k 12 rfl (.k 15 rfl .nil)))))) (.k 5001 rfl .nil)
   ·
    subst hj7; have h := hK7; clear hK7
    refine .freezeRow (g := 5001) (ts := [15]) rfl (.cons (t := 15) rfl trivial .nil) SubB.nil rfl ?_
    refine .seq (.region [([], [18])] mixed (by kernel_rfl) ?_)
    refine .consW (.nilRow (T := 3) (α := Int) rfl) rfl rfl ?_
    refine .nil (.then ?_)
    refine .nameRow (t := 18) (g := 5002) rfl rfl rfl (fun s5002 => ?_)
    refine .seq ?_
    refine .seq (.region [] mixed (by kernel_rfl) ?_)
    refine .cons (.move .none (.s rfl)) rfl ?_
    refine .cons (.len .none sl71 (.s rfl)) rfl ?_
    refine .cons (.move .none (.int (by decide))) rfl ?_
    refine .nil (.then ?_)
    obtain ⟨j_17, h, hK17⟩ := bind_some h
    refine .thenJ (ι := (List Int)) (fun j_17 => []) (fun j_17 => [(18, some (rowV 3 j_17))]) (fun s => j_17 = s) (.k 0 rfl (.k 3 rfl (.k 4 rfl (.k 11 rfl (.k 12 rfl (.k 15 rfl .nil)))))) SubB.nil ?_ (fun j_17' hj17 => ?_)
    ·
     skip
     refine .block ?_
     refine .anon (t := 18) (g := 5002) rfl rfl trivial rfl ?_
     refine .rforL h (fun p18_ => [(91, ⟨True, rep p18_.1⟩)]) (fun p18_ => [(18, some (rowV 3 p18_.2))]) (.k 91 rfl .nil) (.k 18 rfl .nil) (.k 0 rfl (.k 3 rfl (.k 4 rfl (.k 11 rfl (.k 12 rfl (.k 15 rfl (.k 89 rfl (.k 90 rfl .nil)))))))) SubB.nil (fun p18_ o_18 h hD18 => ?_)
     refine .nameRow (t := 18) (g := 5003) rfl rfl rfl (fun s5003 => ?_)
     refine .seq (.region [] mixed (by kernel_rfl) ?_)
     refine .cons (.lt .none (.s rfl) (.s rfl)) rfl ?_
     refine .nil (.then ?_)
     refine .seq ?_
     refine .cond (t := 92) rfl trivial (fun hb19 => ?_) (fun hb19 => ?_)
     ·
      replace h := bif_t h hb19
      refine .skip ?_
      refine .then ?_
      refine .seq ?_
      obtain ⟨j_20, h, hK20⟩ := bind_some h
      unfold top_TopLayersAreLeast_L2 at h
      refine .thenJ (ι := (List Int)) (fun j_20 => []) (fun j_20 => [(18, some (rowV 3 j_20))]) (fun s => j_20 = s) (.k 0 rfl (.k 3 rfl (.k 4 rfl (.k 11 rfl (.k 12 rfl (.k 15 rfl (.k 89 rfl (.k 90 rfl (.k 91 rfl .nil))))))))) SubB.nil ?_ (fun j_20' hj20 => ?_)
      ·
       skip
       refine .block ?_
       refine .seq (.region [([], []), ([], []), ([], [20]), ([20], [20])] mixed (by kernel_rfl) ?_)
       obtain ⟨hn21, h⟩ := need_some h
       refine .consA (.indexAddr .none sl71 ty81 (.s rfl) (.s rfl) (fun _ => hn21)) rfl ?_
       obtain ⟨v2, hv22, h⟩ := bnd_some h
       refine .consA (.re hv22 (.load .none ty81 (.s rfl))) rfl ?_
       refine .consW (.alloc zo81 rfl) rfl rfl ?_
       refine .consN (.store ty81 rfl rfl (.s rfl)) rfl ?_
       refine .nil (.then ?_)
       refine .freeze (t := 20) rfl rfl (.k 5003 rfl .nil) rfl ?_
       refine .region [([], []), ([], []), ([], []), ([], []), ([5003], [99, 5003]), ([99], [18, 99])] mixed (by kernel_rfl) ?_
       refine .consA (.move .none (.s rfl)) rfl ?_
       refine .consA (.fieldAddr .none fd81_1 hfd81_1 (.s rfl)) rfl ?_
       refine .consA (.load .none ty3 (.s rfl)) rfl ?_
       refine .consA (.buildSlice (xs := [_]) .none sl32 ty3 hz3 (.cons (.s rfl) .nil) rfl (by decide)) rfl ?_
       obtain ⟨hn23, h⟩ := need_some h
       refine .consW (.append (k := 5003) rk32 rfl (.told (.s rfl) rfl) (.s rfl) hn23) rfl rfl ?_
       refine .consW (.passRow rfl (.tmp rfl)) rfl rfl ?_
       refine .nil ?_
       refine .blkNormal ?_
       exact Ends.join _ (some_eq h) (.k 0 rfl (.k 3 rfl (.k 4 rfl (.k 11 rfl (.k 12 rfl (.k 15 rfl (.k 89 rfl (.k 90 rfl (.k 91 rfl .nil))))))))) (.k 18 rfl .nil)
      ·
       subst hj20; have h := hK20; clear hK20
       refine .nameRow (t := 18) (g := 5004) rfl rfl rfl (fun s5004 => ?_)
       refine .region [] mixed (by kernel_rfl) ?_
       refine .cons (.addW .none (.s rfl) (.int (by decide))) rfl ?_
       refine .cons (.move .none (.s rfl)) rfl ?_
       refine .nil ?_
       refine .anon (t := 18) (g := 5004) rfl rfl trivial rfl ?_
       exact Ends.againL (some_eq h) (.k 91 rfl (.k 0 rfl (.k 3 rfl (.k 4 rfl (.k 11 rfl (.k 12 rfl (.k 15 rfl (.k 89 rfl (.k 90 rfl .nil))))))))) (.k 18 rfl .nil)
     ·
      replace h := bif_f h hb19
      refine .exit ?_
      refine .thenExit ?_
      refine .thenExit ?_
      refine .blkExit ?_
      refine .anon (t := 18) (g := 5003) rfl rfl trivial rfl ?_
      replace h := hD18 _ (some_eq h)
      exact Ends.join _ (some_eq h) (.k 0 rfl (.k 3 rfl (.k 4 rfl (.k 11 rfl (.k 12 rfl (.k 15 rfl .nil)))))) (.k 18 rfl .nil)
    ·
     subst hj17; have h := hK17; clear hK17
     refine .freezeRowA (t := 18) rfl rfl SubB.nil rfl ?_
     refine .seq (.region [([], []), ([], []), ([], [103]), ([103], [103]), ([], [])] mixed (by kernel_rfl) ?_)
     refine .consA (.move .none (.s rfl)) rfl ?_
     obtain ⟨r3, hv24, h⟩ := bind_some h
     refine .consA (.call .none (slices_Values_int_ok hv24) (.cons (.s rfl) .nil)) rfl ?_
     obtain ⟨r4, hv25, h⟩ := bind_some h
     refine .consW (.callO [] (slices_Sorted_int_ok hv25) (.cons (.s rfl) .nil) .nil rfl (by decide) (by decide) (by intro d h; cases h; decide)) rfl rfl ?_
     obtain ⟨ys1, hv26, h⟩ := bind_some h
     refine .consW (.tell (t := 103) rfl row_one rfl (by decide) (fun _ => StepOK.callO [103] ((slices_Compact_int_ok hv26).frzO1) (.cons (.s rfl) .nil) (.cons (k := 103) rfl .nil) rfl (by decide) (by decide) (by intro d h; cases h; decide))) rfl rfl ?_
     refine .consA (.assign .none (.s rfl)) rfl ?_
     refine .nil (.then ?_)
     refine .seq (.region [([], []), ([], [106]), ([106], [21, 106])] mixed (by kernel_rfl) ?_)
     refine .consA (.move .none (.s rfl)) rfl ?_
     obtain ⟨hn27, h⟩ := need_some h
     refine .consW (.makeSlice rk32 zo3 rfl (.s rfl) (.s rfl) hn27) rfl rfl ?_
     refine .consW (.passRow rfl (.tmp rfl)) rfl rfl ?_
     refine .nil (.then ?_)
     obtain ⟨ranks1, hv28, h⟩ := bnd_some h
     refine .reB (t := 21) rfl (congrArg (rowV 3) hv28) ?_
     refine .nameRow (t := 21) (g := 5005) rfl rfl rfl (fun s5005 => ?_)
     refine .seq ?_
     refine .seq (.region [] mixed (by kernel_rfl) ?_)
     refine .cons (.move .none (.s rfl)) rfl ?_
     refine .cons (.len .none sl71 (.s rfl)) rfl ?_
     refine .cons (.move .none (.int (by decide))) rfl ?_
     refine .nil (.then ?_)
     obtain ⟨j_29, h, hK29⟩ := bind_some h
     refine .thenJ (ι := (List Int)) (fun j_29 => []) (fun j_29 => [(5005, some (CPred.at s5005 (rowV 3 j_29)))]) (fun s => j_29 = s) (.k 0 rfl (.k 3 rfl (.k 4 rfl (.k 11 rfl (.k 12 rfl (.k 15 rfl (.k 21 rfl .nil))))))) SubB.nil ?_ (fun j_29' hj29 => ?_)
     ·
      skip
      refine .block ?_
      refine .rforL h (fun p30_ => [(109, ⟨True, rep p30_.1⟩)]) (fun p30_ => [(5005, some (CPred.at s5005 (rowV 3 p30_.2)))]) (.k 109 rfl .nil) (.k 5005 rfl .nil) (.k 0 rfl (.k 3 rfl (.k 4 rfl (.k 11 rfl (.k 12 rfl (.k 15 rfl (.k 18 rfl (.k 21 rfl (.k 107 rfl (.k 108 rfl .nil)))))))))) SubB.nil (fun p30_ o_30 h hD30 => ?_)
      refine .seq (.region [] mixed (by kernel_rfl) ?_)
      refine .cons (.lt .none (.s rfl) (.s rfl)) rfl ?_
      refine .nil (.then ?_)
      refine .seq ?_
      refine .cond (t := 110) rfl trivial (fun hb31 => ?_) (fun hb31 => ?_)
      ·
       replace h := bif_t h hb31
       refine .skip ?_
       refine .then ?_
       refine .seq ?_
       obtain ⟨j_32, h, hK32⟩ := bind_some h
       unfold top_TopLayersAreLeast_L3 at h
       refine .thenJ (ι := (List Int)) (fun j_32 => []) (fun j_32 => [(5005, some (CPred.at s5005 (rowV 3 j_32)))]) (fun s => j_32 = s) (.k 0 rfl (.k 3 rfl (.k 4 rfl (.k 11 rfl (.k 12 rfl (.k 15 rfl (.k 18 rfl (.k 21 rfl (.k 107 rfl (.k 108 rfl (.k 109 rfl .nil))))))))))) SubB.nil ?_ (fun j_32' hj32 => ?_)
       ·
        skip
        refine .block ?_
        refine .seq (.region [([], []), ([], []), ([], []), ([], [23]), ([], []), ([23], [23])] mixed (by kernel_rfl) ?_)
        refine .consA (.move .none (.s rfl)) rfl ?_
        obtain ⟨hn33, h⟩ := need_some h
        refine .consA (.indexAddr .none sl71 ty81 (.s rfl) (.s rfl) (fun _ => hn33)) rfl ?_
        obtain ⟨v3, hv34, h⟩ := bnd_some h
        refine .consA (.re hv34 (.load .none ty81 (.s rfl))) rfl ?_
        refine .consW (.alloc zo81 rfl) rfl rfl ?_
        refine .consA (.assign .none (.s rfl)) rfl ?_
        refine .consN (.store ty81 rfl rfl (.s rfl)) rfl ?_
        refine .nil (.then ?_)
        refine .freeze (t := 23) rfl rfl (.k 5005 rfl .nil) rfl ?_
        refine .region [([], []), ([], []), ([], []), ([], []), ([], []), ([], []), ([5005], []), ([5005], [5005])] mixed (by kernel_rfl) ?_
        refine .consA (.move .none (.s rfl)) rfl ?_
        refine .consA (.move .none (.s rfl)) rfl ?_
        refine .consA (.move .none (.s rfl)) rfl ?_
        refine .consA (.fieldAddr .none fd81_1 hfd81_1 (.s rfl)) rfl ?_
        refine .consA (.load .none ty3 (.s rfl)) rfl ?_
        obtain ⟨r5, hv35, h⟩ := bind_some h
        refine .consA (.call .none (slices_Index_int_ok hv35) (.cons (.s rfl) (.cons (.s rfl) .nil))) rfl ?_
        obtain ⟨hn36, h⟩ := need_some h
        refine .consA (.indexAddrO (k := 5005) .none sl32 ty3 (.s rfl) rfl (.s rfl) (fun _ => hn36)) rfl ?_
        refine .consN (.storeElem0 (k := 5005) ty3 (.s rfl) rfl (.s rfl) hn36) rfl ?_
        refine .nil ?_
        refine .blkNormal ?_
        exact Ends.join _ (some_eq h) (.k 0 rfl (.k 3 rfl (.k 4 rfl (.k 11 rfl (.k 12 rfl (.k 15 rfl (.k 18 rfl (.k 21 rfl (.k 107 rfl (.k 108 rfl (.k 109 rfl .nil))))))))))) (.k 5005 rfl .nil)
       ·
        subst hj32; have h := hK32; clear hK32
        refine .region [] mixed (by kernel_rfl) ?_
        refine .cons (.addW .none (.s rfl) (.int (by decide))) rfl ?_
        refine .cons (.move .none (.s rfl)) rfl ?_
        refine .nil ?_
        exact Ends.againL (some_eq h) (.k 109 rfl (.k 0 rfl (.k 3 rfl (.k 4 rfl (.k 11 rfl (.k 12 rfl (.k 15 rfl (.k 18 rfl (.k 21 rfl (.k 107 rfl (.k 108 rfl .nil))))))))))) (.k 5005 rfl .nil)
      ·
       replace h := bif_f h hb31
       refine .exit ?_
       refine .thenExit ?_
       refine .thenExit ?_
       refine .blkExit ?_
       replace h := hD30 _ (some_eq h)
       exact Ends.join _ (some_eq h) (.k 0 rfl (.k 3 rfl (.k 4 rfl (.k 11 rfl (.k 12 rfl (.k 15 rfl (.k 21 rfl .nil))))))) (.k 5005 rfl .nil)
     ·
      subst hj29; have h := hK29; clear hK29
      refine .freezeRow (g := 5005) (ts := [21]) rfl (.cons (t := 21) rfl trivial .nil) SubB.nil rfl ?_
      refine .seq ?_
      refine .seq (.region [] mixed (by kernel_rfl) ?_)
      refine .cons (.move .none (.s rfl)) rfl ?_
      refine .cons (.len .none sl23 (.s rfl)) rfl ?_
      refine .cons (.move .none (.int (by decide))) rfl ?_
      refine .nil (.then ?_)
      obtain ⟨o_37, h, hK37⟩ := bindR_some h
      refine .thenJ (ι := Unit) (fun j_37 => []) (fun j_37 => []) (fun s => o_37 = Res.nx s) (.k 4 rfl (.k 11 rfl (.k 15 rfl (.k 21 rfl .nil)))) SubB.nil ?_ (fun j_37 hj37 => ?_)
      ·
       skip
       refine .block ?_
       refine .rforEL h (fun p38_ => [(124, ⟨True, rep p38_.1⟩)]) (fun p38_ => []) (.k 124 rfl .nil) SubB.nil (.k 0 rfl (.k 3 rfl (.k 4 rfl (.k 11 rfl (.k 12 rfl (.k 15 rfl (.k 21 rfl (.k 122 rfl (.k 123 rfl .nil))))))))) SubB.nil (fun p38_ o_38 h hD38 => ?_)
       refine .seq (.region [] mixed (by kernel_rfl) ?_)
       refine .cons (.lt .none (.s rfl) (.s rfl)) rfl ?_
       refine .nil (.then ?_)
       refine .seq ?_
       refine .cond (t := 125) rfl trivial (fun hb39 => ?_) (fun hb39 => ?_)
       ·
        replace h := bif_t h hb39
        refine .skip ?_
        refine .then ?_
        refine .seq ?_
        obtain ⟨o_40, h, hK40⟩ := bindD_some h
        unfold top_TopLayersAreLeast_L4 at h
        refine .thenJ (ι := Unit) (fun j_40 => []) (fun j_40 => []) (fun s => o_40 = Res.nx s) (.k 0 rfl (.k 3 rfl (.k 4 rfl (.k 11 rfl (.k 12 rfl (.k 15 rfl (.k 21 rfl (.k 122 rfl (.k 123 rfl (.k 124 rfl .nil)))))))))) SubB.nil ?_ (fun j_40 hj40 => ?_)
        ·
         skip
         refine .block ?_
         refine .seq (.region [([], []), ([], []), ([], [25]), ([25], [25])] mixed (by kernel_rfl) ?_)
         obtain ⟨hn41, h⟩ := need_some h
         refine .consA (.indexAddr .none sl23 ty79 (.s rfl) (.s rfl) (fun _ => hn41)) rfl ?_
         obtain ⟨v4, hv42, h⟩ := bnd_some h
         refine .consA (.re hv42 (.load .none ty79 (.s rfl))) rfl ?_
         refine .consW (.alloc zo79 rfl) rfl rfl ?_
         refine .consN (.store ty79 rfl rfl (.s rfl)) rfl ?_
         refine .nil (.then ?_)
         refine .freeze (t := 25) rfl rfl SubB.nil rfl ?_
         refine .seq (.region [] mixed (by kernel_rfl) ?_)
         refine .cons (.move .none (.s rfl)) rfl ?_
         refine .cons (.fieldAddr .none fd79_1 hfd79_1 (.s rfl)) rfl ?_
         refine .cons (.load .none ty3 (.s rfl)) rfl ?_
         obtain ⟨hn43, h⟩ := need_some h
         refine .cons (.indexAddr .none sl71 ty81 (.s rfl) (.s rfl) (fun _ => hn43)) rfl ?_
         refine .cons (.fieldAddr .none fd81_1 hfd81_1 (.s rfl)) rfl ?_
         refine .cons (.load .none ty3 (.s rfl)) rfl ?_
         refine .cons (.move .none (.s rfl)) rfl ?_
         refine .cons (.fieldAddr .none fd79_0 hfd79_0 (.s rfl)) rfl ?_
         refine .cons (.load .none ty3 (.s rfl)) rfl ?_
         obtain ⟨hn44, h⟩ := need_some h
         refine .cons (.indexAddr .none sl71 ty81 (.s rfl) (.s rfl) (fun _ => hn44)) rfl ?_
         refine .cons (.fieldAddr .none fd81_1 hfd81_1 (.s rfl)) rfl ?_
         refine .cons (.load .none ty3 (.s rfl)) rfl ?_
         refine .cons (.move .none (.s rfl)) rfl ?_
         refine .cons (.fieldAddr .none fd79_0 hfd79_0 (.s rfl)) rfl ?_
         refine .cons (.load .none ty3 (.s rfl)) rfl ?_
         obtain ⟨hn45, h⟩ := need_some h
         refine .cons (.indexAddr .none sl71 ty81 (.s rfl) (.s rfl) (fun _ => hn45)) rfl ?_
         refine .cons (.fieldAddr .none fd81_1 hfd81_1 (.s rfl)) rfl ?_
         refine .cons (.load .none ty3 (.s rfl)) rfl ?_
         refine .cons (.addW .none (.s rfl) (.s rfl)) rfl ?_
         refine .cons (.move .none (.s rfl)) rfl ?_
         refine .cons (.addW .none (.s rfl) (.s rfl)) rfl ?_
         refine .cons (.lt .none (.s rfl) (.s rfl)) rfl ?_
         refine .nil (.then ?_)
         refine .cond (t := 149) rfl trivial (fun hb46 => ?_) (fun hb46 => ?_)
         ·
          replace h := bif_t h hb46
          refine .seq (.region [] mixed (by kernel_rfl) ?_)
          refine .cons (.assign .none .bool) rfl ?_
          refine .nil (.then ?_)
          refine .ret ?_
          refine .blkRet ?_
          refine .thenRet ?_
          refine .thenRet ?_
          refine .blkRet ?_
          refine .thenRet ?_
          replace h := resd_ab hK40 (some_eq h)
          replace h := hD38 _ (some_eq h)
          replace h := resb_ab hK37 (some_eq h)
          obtain rfl := some_eq h
          exact Ends.ret1 (.inl rfl) Try.results9 (ResOK.tmp rfl trivial Imp.refl)
         ·
          replace h := bif_f h hb46
          refine .skip ?_
          refine .blkNormal ?_
          exact Ends.join _ (some_eq h) (.k 0 rfl (.k 3 rfl (.k 4 rfl (.k 11 rfl (.k 12 rfl (.k 15 rfl (.k 21 rfl (.k 122 rfl (.k 123 rfl (.k 124 rfl .nil)))))))))) SubB.nil
        ·
         have h := resd_nx hK40 hj40
         refine .region [] mixed (by kernel_rfl) ?_
         refine .cons (.addW .none (.s rfl) (.int (by decide))) rfl ?_
         refine .cons (.move .none (.s rfl)) rfl ?_
         refine .nil ?_
         exact Ends.againL (some_eq h) (.k 124 rfl (.k 0 rfl (.k 3 rfl (.k 4 rfl (.k 11 rfl (.k 12 rfl (.k 15 rfl (.k 21 rfl (.k 122 rfl (.k 123 rfl .nil)))))))))) SubB.nil
       ·
        replace h := bif_f h hb39
        refine .exit ?_
        refine .thenExit ?_
        refine .thenExit ?_
        refine .blkExit ?_
        replace h := hD38 _ (some_eq h)
        exact Ends.join _ (some_eq h) (.k 4 rfl (.k 11 rfl (.k 15 rfl (.k 21 rfl .nil)))) SubB.nil
      ·
       have h := resb_nx hK37 hj37
       refine .seq (.region [] mixed (by kernel_rfl) ?_)
       refine .cons (.move .none (.s rfl)) rfl ?_
       refine .cons (.move .none (.s rfl)) rfl ?_
       refine .cons (.move .none (.s rfl)) rfl ?_
       obtain ⟨r6, hv47, h⟩ := bind_some h
       refine .cons (.call .none (layer_Total_ok hv47) (.cons (.s rfl) (.cons (.s rfl) (.cons (.s rfl) .nil)))) rfl ?_
       refine .cons (.move .none (.s rfl)) rfl ?_
       refine .cons (.extract .none (.s rfl) rfl) rfl ?_
       refine .cons (.extract .none (.s rfl) rfl) rfl ?_
       refine .cons (.assign .none (.s rfl)) rfl ?_
       refine .cons (.assign .none (.s rfl)) rfl ?_
       refine .nil (.then ?_)
       refine .seq (.region [] mixed (by kernel_rfl) ?_)
       refine .cons (.move .none (.s rfl)) rfl ?_
       refine .cons (.move .none (.s rfl)) rfl ?_
       refine .cons (.move .none (.s rfl)) rfl ?_
       obtain ⟨r7, hv48, h⟩ := bind_some h
       refine .cons (.call .none (layer_Total_ok hv48) (.cons (.s rfl) (.cons (.s rfl) (.cons (.s rfl) .nil)))) rfl ?_
       refine .cons (.move .none (.s rfl)) rfl ?_
       refine .cons (.extract .none (.s rfl) rfl) rfl ?_
       refine .cons (.extract .none (.s rfl) rfl) rfl ?_
       refine .cons (.assign .none (.s rfl)) rfl ?_
       refine .cons (.assign .none (.s rfl)) rfl ?_
       refine .nil (.then ?_)
       refine .seq (.region [] mixed (by kernel_rfl) ?_)
       refine .cons (.move .none (.s rfl)) rfl ?_
       refine .cons (.move .none (.s rfl)) rfl ?_
       obtain ⟨r8, hv49, h⟩ := bind_some h
       refine .cons (.call .none (layer_Ranks_ok hv49) (.cons (.s rfl) (.cons (.s rfl) .nil))) rfl ?_
       refine .cons (.move .none (.s rfl)) rfl ?_
       refine .cons (.extract .none (.s rfl) rfl) rfl ?_
       refine .cons (.extract .none (.s rfl) rfl) rfl ?_
       refine .cons (.assign .none (.s rfl)) rfl ?_
       refine .cons (.assign .none (.s rfl)) rfl ?_
       refine .nil (.then ?_)
       refine .seq (.region [] mixed (by kernel_rfl) ?_)
       refine .cons (.move .none (.s rfl)) rfl ?_
       refine .cons (.move .none (.s rfl)) rfl ?_
       refine .cons (.move .none (.s rfl)) rfl ?_
       obtain ⟨r9, hv50, h⟩ := bind_some h
       refine .cons (.call .none (layer_Total_ok hv50) (.cons (.s rfl) (.cons (.s rfl) (.cons (.s rfl) .nil)))) rfl ?_
       refine .cons (.move .none (.s rfl)) rfl ?_
       refine .cons (.extract .none (.s rfl) rfl) rfl ?_
       refine .cons (.extract .none (.s rfl) rfl) rfl ?_
       refine .cons (.assign .none (.s rfl)) rfl ?_
       refine .cons (.assign .none (.s rfl)) rfl ?_
       refine .nil (.then ?_)
       refine .seq (.region [] mixed (by kernel_rfl) ?_)
       refine .cons (.move .none (.s rfl)) rfl ?_
       refine .cons (.eqI .none (.s rfl) (.int (by decide))) rfl ?_
       refine .cons (.move .none (.s rfl)) rfl ?_
       refine .cons (.move (.at rfl rfl) (.s rfl)) rfl ?_
       refine .cons (.eqI (.at rfl rfl) (.tmp rfl id) (.int (by decide))) rfl ?_
       refine .cons (.pickAnd .none (.s rfl) (.tmp rfl id)) rfl ?_
       refine .cons (.move .none (.s rfl)) rfl ?_
       refine .cons (.move (.at rfl rfl) (.s rfl)) rfl ?_
       refine .cons (.eqI (.at rfl rfl) (.tmp rfl id) (.int (by decide))) rfl ?_
       refine .cons (.pickAnd .none (.s rfl) (.tmp rfl id)) rfl ?_
       refine .cons (.move .none (.s rfl)) rfl ?_
       refine .cons (.move (.at rfl rfl) (.s rfl)) rfl ?_
       refine .cons (.move (.at rfl rfl) (.s rfl)) rfl ?_
       refine .cons (.eqI (.at rfl rfl) (.tmp rfl id) (.tmp rfl id)) rfl ?_
       refine .cons (.pickAnd .none (.s rfl) (.tmp rfl id)) rfl ?_
       refine .cons (.move .none (.s rfl)) rfl ?_
       refine .cons (.move (.at rfl rfl) (.s rfl)) rfl ?_
       refine .cons (.neI (.at rfl rfl) (.tmp rfl id) (.int (by decide))) rfl ?_
       refine .cons (.move (.at rfl rfl) (.tmp rfl id)) rfl ?_
       refine .cons (.move (.at rfl rfl) (.s rfl)) rfl ?_
       refine .cons (.move (.at rfl rfl) (.s rfl)) rfl ?_
       refine .cons (.ge (.at rfl rfl) (.tmp rfl id) (.tmp rfl id)) rfl ?_
       refine .cons (.pickOr (.at rfl rfl) (.tmp rfl id) (.tmp rfl id)) rfl ?_
       refine .cons (.pickAnd .none (.s rfl) (.tmp rfl id)) rfl ?_
       refine .cons (.assign .none (.s rfl)) rfl ?_
       refine .nil (.then ?_)
       refine .ret ?_
       obtain rfl := some_eq h
       exact Ends.ret1 (.inl rfl) Try.results9 (ResOK.tmp rfl trivial Imp.refl)


end Go.Proofs.Ytbahnfkccdlpnaa
