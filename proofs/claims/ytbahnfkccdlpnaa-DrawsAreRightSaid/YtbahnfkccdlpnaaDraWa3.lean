/-
  The walks: what a function computes is what its plain function says (printed by a program of one's own).
-/
import Derived.Test.YtbahnfkccdlpnaaDraWa2
set_option maxRecDepth 100000
set_option linter.unusedSimpArgs false
set_option linter.unusedVariables false
namespace Go.Proofs.Ytbahnfkccdlpnaa
open Go Go.DB Go.RowKit

set_option maxHeartbeats 4000000 in
theorem layer_Draw_ok {sizes1 : (List Point)} {l1 : (List Link)} {gapx1 : Int} {gapy1 : Int} {r : ((List Point) × Int)}  (h : layer_Draw sizes1 l1 gapx1 gapy1 = some r) : FSpec Try.prog 47 [rep sizes1, rep l1, rep gapx1, rep gapy1] (tup [rep r.1, rep r.2]) := by
 unfold layer_Draw at h
 refine FSpec.intro (n := 261) fnok47 Try.func47 rfl Try.ntmps47 rfl (fun F => ?_)
 refine .seq (.region [] mixed (by kernel_rfl) ?_)
 refine .cons (.assign .none (.const (x := ([] : (List Point))) (fun M w => ⟨_, ⟨none, 0, rfl, Nat.le_refl _, by decide, rfl⟩, rfl⟩))) rfl ?_
 refine .cons (.assign .none (.int (by decide))) rfl ?_
 refine .nil (.then ?_)
 refine .seq ?_
 refine .seq (.region [] mixed (by kernel_rfl) ?_)
 refine .cons (.move .none (.s rfl)) rfl ?_
 refine .cons (.len .none sl71 (.s rfl)) rfl ?_
 refine .cons (.eqI .none (.s rfl) (.int (by decide))) rfl ?_
 refine .nil (.then ?_)
 refine .cond (t := 38) rfl trivial (fun hb1 => ?_) (fun hb1 => ?_)
 ·
  replace h := bif_t h hb1
  refine .seq (.region [] mixed (by kernel_rfl) ?_)
  refine .cons (.assign .none (.const (x := ([] : (List Point))) (fun M w => ⟨_, ⟨none, 0, rfl, Nat.le_refl _, by decide, rfl⟩, rfl⟩))) rfl ?_
  refine .cons (.assign .none (.int (by decide))) rfl ?_
  refine .nil (.then ?_)
  refine .ret ?_
  refine .thenRet ?_
  obtain rfl := some_eq h
  exact Ends.ret2 (.inl rfl) Try.results47 (ResOK.tmp rfl trivial Imp.refl) (ResOK.tmp rfl trivial Imp.refl)
 ·
  replace h := bif_f h hb1
  refine .skip ?_
  refine .then ?_
  refine .seq (.region [] mixed (by kernel_rfl) ?_)
  refine .cons (.move .none (.s rfl)) rfl ?_
  refine .cons (.len .none sl71 (.s rfl)) rfl ?_
  obtain ⟨n1, hv2, h⟩ := bnd_some h
  refine .cons (.re hv2 (.assign .none (.s rfl))) rfl ?_
  refine .nil (.then ?_)
  refine .seq ?_
  refine .seq (.region [] mixed (by kernel_rfl) ?_)
  refine .cons (.move .none (.s rfl)) rfl ?_
  refine .cons (.move .none (.s rfl)) rfl ?_
  obtain ⟨e1, hv3, h⟩ := bind_some h
  refine .cons (.call .none (layer_Check_ok hv3) (.cons (.s rfl) (.cons (.s rfl) .nil))) rfl ?_
  refine .cons (.assign .none (.s rfl)) rfl ?_
  refine .nil (.then ?_)
  refine .seq (.region [] mixed (by kernel_rfl) ?_)
  refine .cons (.move .none (.s rfl)) rfl ?_
  refine .cons (.neI .none (.s rfl) (.int (by decide))) rfl ?_
  refine .nil (.then ?_)
  refine .cond (t := 45) rfl trivial (fun hb4 => ?_) (fun hb4 => ?_)
  ·
   replace h := bif_t h hb4
   refine .seq (.region [] mixed (by kernel_rfl) ?_)
   refine .cons (.move .none (.s rfl)) rfl ?_
   refine .cons (.assign .none (.const (x := ([] : (List Point))) (fun M w => ⟨_, ⟨none, 0, rfl, Nat.le_refl _, by decide, rfl⟩, rfl⟩))) rfl ?_
   refine .cons (.assign .none (.s rfl)) rfl ?_
   refine .nil (.then ?_)
   refine .ret ?_
   refine .thenRet ?_
   obtain rfl := some_eq h
   exact Ends.ret2 (.inl rfl) Try.results47 (ResOK.tmp rfl trivial Imp.refl) (ResOK.tmp rfl trivial Imp.refl)
  ·
   replace h := bif_f h hb4
   refine .skip ?_
   refine .then ?_
   refine .seq ?_
   refine .seq (.region [] mixed (by kernel_rfl) ?_)
   refine .cons (.move .none (.s rfl)) rfl ?_
   refine .cons (.len .none sl71 (.s rfl)) rfl ?_
   refine .cons (.move .none (.int (by decide))) rfl ?_
   refine .nil (.then ?_)
   obtain ⟨o_5, h, hK5⟩ := bindR_some h
   refine .thenJ (ι := Unit) (fun j_5 => []) (fun j_5 => []) (fun s => o_5 = Res.nx s) (.k 0 rfl (.k 1 rfl (.k 2 rfl (.k 3 rfl (.k 10 rfl .nil))))) SubB.nil ?_ (fun j_5 hj5 => ?_)
   ·
    skip
    refine .block ?_
    refine .rforEL h (fun p6_ => [(49, ⟨True, rep p6_.1⟩)]) (fun p6_ => []) (.k 49 rfl .nil) SubB.nil (.k 0 rfl (.k 1 rfl (.k 2 rfl (.k 3 rfl (.k 10 rfl (.k 47 rfl (.k 48 rfl .nil))))))) SubB.nil (fun p6_ o_6 h hD6 => ?_)
    refine .seq (.region [] mixed (by kernel_rfl) ?_)
    refine .cons (.lt .none (.s rfl) (.s rfl)) rfl ?_
    refine .nil (.then ?_)
    refine .seq ?_
    refine .cond (t := 50) rfl trivial (fun hb7 => ?_) (fun hb7 => ?_)
    ·
     replace h := bif_t h hb7
     refine .skip ?_
     refine .then ?_
     refine .seq ?_
     obtain ⟨o_8, h, hK8⟩ := bindD_some h
     unfold layer_Draw_L1 at h
     refine .thenJ (ι := Unit) (fun j_8 => []) (fun j_8 => []) (fun s => o_8 = Res.nx s) (.k 0 rfl (.k 1 rfl (.k 2 rfl (.k 3 rfl (.k 10 rfl (.k 47 rfl (.k 48 rfl (.k 49 rfl .nil)))))))) SubB.nil ?_ (fun j_8 hj8 => ?_)
     ·
      skip
      refine .block ?_
      refine .seq (.region [([], []), ([], []), ([], [13]), ([13], [13])] mixed (by kernel_rfl) ?_)
      obtain ⟨hn9, h⟩ := need_some h
      refine .consA (.indexAddr .none sl71 ty81 (.s rfl) (.s rfl) (fun _ => hn9)) rfl ?_
      obtain ⟨v1, hv10, h⟩ := bnd_some h
      refine .consA (.re hv10 (.load .none ty81 (.s rfl))) rfl ?_
      refine .consW (.alloc zo81 rfl) rfl rfl ?_
      refine .consN (.store ty81 rfl rfl (.s rfl)) rfl ?_
      refine .nil (.then ?_)
      refine .freeze (t := 13) rfl rfl SubB.nil rfl ?_
      refine .seq (.region [] mixed (by kernel_rfl) ?_)
      refine .cons (.fieldAddr .none fd81_0 hfd81_0 (.s rfl)) rfl ?_
      refine .cons (.load .none ty3 (.s rfl)) rfl ?_
      refine .cons (.lt .none (.s rfl) (.int (by decide))) rfl ?_
      refine .cons (.move .none (.s rfl)) rfl ?_
      refine .cons (.fieldAddr (.at rfl rfl) fd81_0 hfd81_0 (.s rfl)) rfl ?_
      refine .cons (.load (.at rfl rfl) ty3 (.tmp rfl id)) rfl ?_
      refine .cons (.gt (.at rfl rfl) (.tmp rfl id) (.int (by decide))) rfl ?_
      refine .cons (.pickOr .none (.s rfl) (.tmp rfl id)) rfl ?_
      refine .cons (.move .none (.s rfl)) rfl ?_
      refine .cons (.fieldAddr (.at rfl rfl) fd81_1 hfd81_1 (.s rfl)) rfl ?_
      refine .cons (.load (.at rfl rfl) ty3 (.tmp rfl id)) rfl ?_
      refine .cons (.lt (.at rfl rfl) (.tmp rfl id) (.int (by decide))) rfl ?_
      refine .cons (.pickOr .none (.s rfl) (.tmp rfl id)) rfl ?_
      refine .cons (.move .none (.s rfl)) rfl ?_
      refine .cons (.fieldAddr (.at rfl rfl) fd81_1 hfd81_1 (.s rfl)) rfl ?_
      refine .cons (.load (.at rfl rfl) ty3 (.tmp rfl id)) rfl ?_
      refine .cons (.gt (.at rfl rfl) (.tmp rfl id) (.int (by decide))) rfl ?_
      refine .cons (.pickOr .none (.s rfl) (.tmp rfl id)) rfl ?_
      refine .nil (.then ?_)
      refine .cond (t := 70) rfl trivial (fun hb11 => ?_) (fun hb11 => ?_)
      ·
       replace h := bif_t h hb11
       refine .seq (.region [] mixed (by kernel_rfl) ?_)
       refine .cons (.assign .none (.const (x := ([] : (List Point))) (fun M w => ⟨_, ⟨none, 0, rfl, Nat.le_refl _, by decide, rfl⟩, rfl⟩))) rfl ?_
       refine .cons (.assign .none (.int (by decide))) rfl ?_
       refine .nil (.then ?_)
       refine .ret ?_
       refine .blkRet ?_
       refine .thenRet ?_
       refine .thenRet ?_
       refine .blkRet ?_
       refine .thenRet ?_
       replace h := resd_ab hK8 (some_eq h)
       replace h := hD6 _ (some_eq h)
       replace h := resb_ab hK5 (some_eq h)
       obtain rfl := some_eq h
       exact Ends.ret2 (.inl rfl) Try.results47 (ResOK.tmp rfl trivial Imp.refl) (ResOK.tmp rfl trivial Imp.refl)
      ·
       replace h := bif_f h hb11
       refine .skip ?_
       refine .blkNormal ?_
       exact Ends.join _ (some_eq h) (.k 0 rfl (.k 1 rfl (.k 2 rfl (.k 3 rfl (.k 10 rfl (.k 47 rfl (.k 48 rfl (.k 49 rfl .nil)))))))) SubB.nil
     ·
      have h := resd_nx hK8 hj8
      refine .region [] mixed (by kernel_rfl) ?_
      refine .cons (.addW .none (.s rfl) (.int (by decide))) rfl ?_
      refine .cons (.move .none (.s rfl)) rfl ?_
      refine .nil ?_
      exact Ends.againL (some_eq h) (.k 49 rfl (.k 0 rfl (.k 1 rfl (.k 2 rfl (.k 3 rfl (.k 10 rfl (.k 47 rfl (.k 48 rfl .nil)))))))) SubB.nil
    ·
     replace h := bif_f h hb7
     refine .exit ?_
     refine .thenExit ?_
     refine .thenExit ?_
     refine .blkExit ?_
     replace h := hD6 _ (some_eq h)
     exact Ends.join _ (some_eq h) (.k 0 rfl (.k 1 rfl (.k 2 rfl (.k 3 rfl (.k 10 rfl .nil))))) SubB.nil
   ·
    have h := resb_nx hK5 hj5
    refine .seq ?_
    refine .seq (.region [] mixed (by kernel_rfl) ?_)
    refine .cons (.move .none (.s rfl)) rfl ?_
    refine .cons (.lt .none (.s rfl) (.int (by decide))) rfl ?_
    refine .cons (.move .none (.s rfl)) rfl ?_
    refine .cons (.move (.at rfl rfl) (.s rfl)) rfl ?_
    refine .cons (.gt (.at rfl rfl) (.tmp rfl id) (.int (by decide))) rfl ?_
    refine .cons (.pickOr .none (.s rfl) (.tmp rfl id)) rfl ?_
    refine .cons (.move .none (.s rfl)) rfl ?_
    refine .cons (.move (.at rfl rfl) (.s rfl)) rfl ?_
    refine .cons (.lt (.at rfl rfl) (.tmp rfl id) (.int (by decide))) rfl ?_
    refine .cons (.pickOr .none (.s rfl) (.tmp rfl id)) rfl ?_
    refine .cons (.move .none (.s rfl)) rfl ?_
    refine .cons (.move (.at rfl rfl) (.s rfl)) rfl ?_
    refine .cons (.gt (.at rfl rfl) (.tmp rfl id) (.int (by decide))) rfl ?_
    refine .cons (.pickOr .none (.s rfl) (.tmp rfl id)) rfl ?_
    refine .nil (.then ?_)
    refine .cond (t := 85) rfl trivial (fun hb12 => ?_) (fun hb12 => ?_)
    ·
     replace h := bif_t h hb12
     refine .seq (.region [] mixed (by kernel_rfl) ?_)
     refine .cons (.assign .none (.const (x := ([] : (List Point))) (fun M w => ⟨_, ⟨none, 0, rfl, Nat.le_refl _, by decide, rfl⟩, rfl⟩))) rfl ?_
     refine .cons (.assign .none (.int (by decide))) rfl ?_
     refine .nil (.then ?_)
     refine .ret ?_
     refine .thenRet ?_
     obtain rfl := some_eq h
     exact Ends.ret2 (.inl rfl) Try.results47 (ResOK.tmp rfl trivial Imp.refl) (ResOK.tmp rfl trivial Imp.refl)
    ·
     replace h := bif_f h hb12
     refine .skip ?_
     refine .then ?_
     refine .seq (.region [([], []), ([], [87]), ([87], [1, 87])] mixed (by kernel_rfl) ?_)
     refine .consA (.move .none (.s rfl)) rfl ?_
     obtain ⟨l2, hv13, h⟩ := bind_some h
     refine .consW (.callO [] (slices_Clone_Link_ok hv13) (.cons (.s rfl) .nil) .nil rfl (by decide) (by decide) (by intro d h; cases h; decide)) rfl rfl ?_
     refine .consW (.passRow rfl (.tmp rfl)) rfl rfl ?_
     refine .nil (.then ?_)
     refine .nameRow (t := 1) (g := 5001) rfl rfl rfl (fun s5001 => ?_)
     refine .seq ?_
     refine .seq (.region [([], []), ([], []), ([5001], [90]), ([90], []), ([], [])] mixed (by kernel_rfl) ?_)
     refine .consA (.move .none (.s rfl)) rfl ?_
     refine .consA (.move .none (.s rfl)) rfl ?_
     obtain ⟨r1, hv14, h⟩ := bind_some h
     refine .consW (.callOL (kl := [5001]) [] (layer_turned_ok hv14) .any (FlatO.some .row FlatO.nil) (.cons (.s rfl) (.lend (k := 5001) (.told (.s rfl) rfl) .nil)) .nil rfl (by decide) (by decide) (by intro d h; cases h; decide) (by decide) (by intro k hk; simp only [List.mem_cons, List.mem_nil_iff, or_false] at hk; rcases hk with rfl <;> rfl)) rfl rfl ?_
     refine .consA (.lenO (k := 90) sl32 (.tmp rfl)) rfl ?_
     refine .consA (.move .none (.int (by decide))) rfl ?_
     refine .nil (.then ?_)
     refine .freezeRowA (t := 90) rfl rfl (.k 5001 rfl .nil) rfl ?_
     obtain ⟨j_15, h, hK15⟩ := bind_some h
     refine .thenJ (ι := (List Link)) (fun j_15 => []) (fun j_15 => [(5001, some (CPred.at s5001 (rowV 79 j_15)))]) (fun s => j_15 = s) (.k 0 rfl (.k 1 rfl (.k 2 rfl (.k 3 rfl (.k 10 rfl .nil))))) SubB.nil ?_ (fun j_15' hj15 => ?_)
     ·
      skip
      refine .block ?_
      refine .rforL h (fun p16_ => [(92, ⟨True, rep p16_.1⟩)]) (fun p16_ => [(5001, some (CPred.at s5001 (rowV 79 p16_.2)))]) (.k 92 rfl .nil) (.k 5001 rfl .nil) (.k 0 rfl (.k 1 rfl (.k 2 rfl (.k 3 rfl (.k 10 rfl (.k 90 rfl (.k 91 rfl .nil))))))) SubB.nil (fun p16_ o_16 h hD16 => ?_)
      refine .seq (.region [] mixed (by kernel_rfl) ?_)
      refine .cons (.lt .none (.s rfl) (.s rfl)) rfl ?_
      refine .nil (.then ?_)
      refine .seq ?_
      refine .cond (t := 93) rfl trivial (fun hb17 => ?_) (fun hb17 => ?_)
      ·
       replace h := bif_t h hb17
       refine .skip ?_
       refine .then ?_
       refine .seq ?_
       obtain ⟨j_18, h, hK18⟩ := bind_some h
       unfold layer_Draw_L2 at h
       refine .thenJ (ι := (List Link)) (fun j_18 => []) (fun j_18 => [(5001, some (CPred.at s5001 (rowV 79 j_18)))]) (fun s => j_18 = s) (.k 0 rfl (.k 1 rfl (.k 2 rfl (.k 3 rfl (.k 10 rfl (.k 90 rfl (.k 91 rfl (.k 92 rfl .nil)))))))) SubB.nil ?_ (fun j_18' hj18 => ?_)
       ·
        skip
        refine .block ?_
        refine .seq (.region [] mixed (by kernel_rfl) ?_)
        obtain ⟨hn19, h⟩ := need_some h
        refine .cons (.indexAddr .none sl32 ty3 (.s rfl) (.s rfl) (fun _ => hn19)) rfl ?_
        refine .cons (.load .none ty3 (.s rfl)) rfl ?_
        obtain ⟨i1, hv20, h⟩ := bnd_some h
        refine .cons (.re hv20 (.assign .none (.s rfl))) rfl ?_
        refine .nil (.then ?_)
        refine .region [([], []), ([], []), ([], []), ([], []), ([5001], []), ([5001], []), ([5001], []), ([], []), ([], []), ([5001], []), ([5001], []), ([5001], []), ([], []), ([5001], []), ([5001], [5001])] mixed (by kernel_rfl) ?_
        refine .consA (.move .none (.s rfl)) rfl ?_
        refine .consA (.move .none (.s rfl)) rfl ?_
        refine .consA (.move .none (.s rfl)) rfl ?_
        refine .consA (.move .none (.s rfl)) rfl ?_
        obtain ⟨hn21, h⟩ := need_some h
        refine .consA (.indexAddrO (k := 5001) .none sl23 ty79 (.s rfl) rfl (.s rfl) (fun _ => hn21)) rfl ?_
        refine .consA (.fieldElem (k := 5001) .none fd79_1 (.s rfl) rfl (fun _ => hn21)) rfl ?_
        refine .consA (.loadElem (k := 5001) .none ty3 (.s rfl) rfl hfd79_1 (fun _ => hn21)) rfl ?_
        refine .consA (.move .none (.s rfl)) rfl ?_
        refine .consA (.move .none (.s rfl)) rfl ?_
        obtain ⟨hn22, h⟩ := need_some h
        refine .consA (.indexAddrO (k := 5001) .none sl23 ty79 (.s rfl) rfl (.s rfl) (fun _ => hn22)) rfl ?_
        refine .consA (.fieldElem (k := 5001) .none fd79_0 (.s rfl) rfl (fun _ => hn22)) rfl ?_
        refine .consA (.loadElem (k := 5001) .none ty3 (.s rfl) rfl hfd79_0 (fun _ => hn22)) rfl ?_
        obtain ⟨v2, hv23, h⟩ := bnd_some h
        refine .consA (.re hv23 (.buildF (y := (⟨(gx p16_.2 i1).To, (gx p16_.2 i1).From⟩ : Link)) .none bu79 zc79 rfl (.cons (.s rfl) (.cons (.s rfl) .nil)) (.cons rfl sf79_0 (.cons rfl sf79_1 .nil)))) rfl ?_
        obtain ⟨hn24, h⟩ := need_some h
        refine .consA (.indexAddrO (k := 5001) .none sl23 ty79 (.s rfl) rfl (.s rfl) (fun _ => hn24)) rfl ?_
        refine .consN (.storeElem0 (k := 5001) ty79 (.s rfl) rfl (.s rfl) hn24) rfl ?_
        refine .nil ?_
        refine .blkNormal ?_
        exact Ends.join _ (some_eq h) (.k 0 rfl (.k 1 rfl (.k 2 rfl (.k 3 rfl (.k 10 rfl (.k 90 rfl (.k 91 rfl (.k 92 rfl .nil)))))))) (.k 5001 rfl .nil)
       ·
        subst hj18; have h := hK18; clear hK18
        refine .region [] mixed (by kernel_rfl) ?_
        refine .cons (.addW .none (.s rfl) (.int (by decide))) rfl ?_
        refine .cons (.move .none (.s rfl)) rfl ?_
        refine .nil ?_
        exact Ends.againL (some_eq h) (.k 92 rfl (.k 0 rfl (.k 1 rfl (.k 2 rfl (.k 3 rfl (.k 10 rfl (.k 90 rfl (.k 91 rfl .nil)))))))) (.k 5001 rfl .nil)
      ·
       replace h := bif_f h hb17
       refine .exit ?_
       refine .thenExit ?_
       refine .thenExit ?_
       refine .blkExit ?_
       replace h := hD16 _ (some_eq h)
       exact Ends.join _ (some_eq h) (.k 0 rfl (.k 1 rfl (.k 2 rfl (.k 3 rfl (.k 10 rfl .nil))))) (.k 5001 rfl .nil)
     ·
      subst hj15; have h := hK15; clear hK15
      refine .freezeRow (g := 5001) (ts := [1]) rfl (.cons (t := 1) rfl trivial .nil) SubB.nil rfl ?_
      refine .seq (.region [([], []), ([], []), ([], []), ([], [16]), ([16], [16])] mixed (by kernel_rfl) ?_)
      refine .consA (.move .none (.s rfl)) rfl ?_
      refine .consA (.move .none (.s rfl)) rfl ?_
      obtain ⟨r2, hv25, h⟩ := bind_some h
      refine .consA (.call .none (layer_ranks_ok hv25) (.cons (.s rfl) (.cons (.s rfl) .nil))) rfl ?_
      refine .consW (.alloc zo32 rfl) rfl rfl ?_
      refine .consN (.store ty32 rfl rfl (.s rfl)) rfl ?_
      refine .nil (.then ?_)
      refine .freeze (t := 16) rfl rfl SubB.nil rfl ?_
      refine .seq (.region [([], []), ([], []), ([], []), ([], [117]), ([117], [17, 117])] mixed (by kernel_rfl) ?_)
      refine .consA (.load .none ty32 (.s rfl)) rfl ?_
      obtain ⟨r3, hv26, h⟩ := bind_some h
      refine .consA (.call .none (slices_Max_int_ok hv26) (.cons (.s rfl) .nil)) rfl ?_
      obtain ⟨v3, hv27, h⟩ := bnd_some h
      refine .consA (.re hv27 (.addW .none (.s rfl) (.int (by decide)))) rfl ?_
      obtain ⟨hn28, h⟩ := need_some h
      refine .consW (.post1 (.makeSlice rkraw22 zraw32 rfl (.s rfl) (.s rfl) hn28) (fun M D v w h => rowD_nils (E2 := 3) (mk := mkR) (sub := subR) (a := ([] : (List Int))) rfl rfl h)) rfl rfl ?_
      refine .consW (.passRow rfl (.tmp rfl)) rfl rfl ?_
      refine .nil (.then ?_)
      obtain ⟨rows1, hv29, h⟩ := bnd_some h
      refine .reB (t := 17) rfl (congrArg (rowD 32 3 mkR subR []) hv29) ?_
      refine .nameC (t := 17) (g := 5002) oneRowD rfl rfl rfl (fun s5002 => ?_)
      refine .seq ?_
      refine .seq (.region [] mixed (by kernel_rfl) ?_)
      refine .cons (.move .none (.s rfl)) rfl ?_
      refine .cons (.move .none (.int (by decide))) rfl ?_
      refine .nil (.then ?_)
      obtain ⟨j_30, h, hK30⟩ := bind_some h
      refine .thenJ (ι := (List (List Int))) (fun j_30 => []) (fun j_30 => [(5002, some (CPred.at s5002 (rowD 32 3 mkR subR [] j_30)))]) (fun s => j_30 = s) (.k 0 rfl (.k 1 rfl (.k 2 rfl (.k 3 rfl (.k 10 rfl (.k 16 rfl (.k 17 rfl .nil))))))) SubB.nil ?_ (fun j_30' hj30 => ?_)
      ·
       skip
       refine .block ?_
       refine .rforL h (fun p31_ => [(119, ⟨True, rep p31_.1⟩)]) (fun p31_ => [(5002, some (CPred.at s5002 (rowD 32 3 mkR subR [] p31_.2)))]) (.k 119 rfl .nil) (.k 5002 rfl .nil) (.k 0 rfl (.k 1 rfl (.k 2 rfl (.k 3 rfl (.k 10 rfl (.k 16 rfl (.k 17 rfl (.k 118 rfl .nil)))))))) SubB.nil (fun p31_ o_31 h hD31 => ?_)
       refine .seq (.region [] mixed (by kernel_rfl) ?_)
       refine .cons (.lt .none (.s rfl) (.s rfl)) rfl ?_
       refine .nil (.then ?_)
       refine .seq ?_
       refine .cond (t := 120) rfl trivial (fun hb32 => ?_) (fun hb32 => ?_)
       ·
        replace h := bif_t h hb32
        refine .skip ?_
        refine .then ?_
        refine .seq ?_
        obtain ⟨j_33, h, hK33⟩ := bind_some h
        unfold layer_Draw_L3 at h
        refine .thenJ (ι := (List (List Int))) (fun j_33 => []) (fun j_33 => [(5002, some (CPred.at s5002 (rowD 32 3 mkR subR [] j_33)))]) (fun s => j_33 = s) (.k 0 rfl (.k 1 rfl (.k 2 rfl (.k 3 rfl (.k 10 rfl (.k 16 rfl (.k 17 rfl (.k 118 rfl (.k 119 rfl .nil))))))))) SubB.nil ?_ (fun j_33' hj33 => ?_)
        ·
         skip
         refine .block ?_
         refine .seq (.region [] mixed (by kernel_rfl) ?_)
         refine .cons (.move .none (.s rfl)) rfl ?_
         refine .cons (.assign .none (.s rfl)) rfl ?_
         refine .nil (.then ?_)
         obtain ⟨hn34, h⟩ := need_some h
         refine .openD (k := 5002) (g := 5003) (i := gx r2 p31_.1) rfl rfl hn34 noHole (fun s5003 => ?_)
         refine .region [([], []), ([], []), ([], []), ([], []), ([], []), ([], []), ([], []), ([], []), ([], []), ([], []), ([5002], []), ([5002], []), ([], []), ([], []), ([5003], [136, 5003]), ([5002], []), ([5002, 136], [5002, 136])] mixed (by kernel_rfl) ?_
         refine .consA (.move .none (.s rfl)) rfl ?_
         refine .consA (.load .none ty32 (.s rfl)) rfl ?_
         refine .consA (.move .none (.s rfl)) rfl ?_
         obtain ⟨hn35, h⟩ := need_some h
         refine .consA (.indexAddr .none sl32 ty3 (.s rfl) (.s rfl) (fun _ => hn35)) rfl ?_
         refine .consA (.load .none ty3 (.s rfl)) rfl ?_
         refine .consA (.move .none (.s rfl)) rfl ?_
         refine .consA (.load .none ty32 (.s rfl)) rfl ?_
         refine .consA (.move .none (.s rfl)) rfl ?_
         obtain ⟨hn36, h⟩ := need_some h
         refine .consA (.indexAddr .none sl32 ty3 (.s rfl) (.s rfl) (fun _ => hn36)) rfl ?_
         refine .consA (.load .none ty3 (.s rfl)) rfl ?_
         obtain ⟨hn37, h⟩ := need_some h
         refine .consA (.indexAddrD (k := 5002) sl22 tr32 (.s rfl) rfl (.s rfl) hn37) rfl ?_
         refine .consA (.loadElemD (k := 5002) (proj := fun x => x) (y := (⟨s5003⟩ : Raw)) (z := s5003) tr32 (.s rfl) rfl .id hn37 (by simp) rfl) rfl ?_
         refine .consA (.move .none (.s rfl)) rfl ?_
         refine .consA (.buildSlice (xs := [_]) .none sl32 ty3 hz3 (.cons (.s rfl) .nil) rfl (by decide)) rfl ?_
         obtain ⟨hn38, h⟩ := need_some h
         refine .consW (.append (k := 5003) rk32 rfl (.told (.s rfl) rfl) (.s rfl) hn38) rfl rfl ?_
         obtain ⟨hn39, h⟩ := need_some h
         refine .consA (.indexAddrD (k := 5002) sl22 tr32 (.s rfl) rfl (.s rfl) hn39) rfl ?_
         refine .consN (.storeElemD (k := 5002) (t := 136) (set := fun _ z => z) (hs' := []) ((gx p31_.2 (gx r2 p31_.1)) ++ [p31_.1]) ty32 (.s rfl) rfl .self rfl hn39 rfl (by simp) (by simp) (fun _ _ => rfl) rfl) rfl ?_
         refine .nil ?_
         refine .blkNormal ?_
         exact Ends.join _ (some_eq h) (.k 0 rfl (.k 1 rfl (.k 2 rfl (.k 3 rfl (.k 10 rfl (.k 16 rfl (.k 17 rfl (.k 118 rfl (.k 119 rfl .nil))))))))) (.k 5002 rfl .nil)
        ·
         subst hj33; have h := hK33; clear hK33
         refine .region [] mixed (by kernel_rfl) ?_
         refine .cons (.addW .none (.s rfl) (.int (by decide))) rfl ?_
         refine .cons (.move .none (.s rfl)) rfl ?_
         refine .nil ?_
         exact Ends.againL (some_eq h) (.k 119 rfl (.k 0 rfl (.k 1 rfl (.k 2 rfl (.k 3 rfl (.k 10 rfl (.k 16 rfl (.k 17 rfl (.k 118 rfl .nil))))))))) (.k 5002 rfl .nil)
       ·
        replace h := bif_f h hb32
        refine .exit ?_
        refine .thenExit ?_
        refine .thenExit ?_
        refine .blkExit ?_
        replace h := hD31 _ (some_eq h)
        exact Ends.join _ (some_eq h) (.k 0 rfl (.k 1 rfl (.k 2 rfl (.k 3 rfl (.k 10 rfl (.k 16 rfl (.k 17 rfl .nil))))))) (.k 5002 rfl .nil)
      ·
       subst hj30; have h := hK30; clear hK30
       refine .freezeAt (g := 5002) (S := rep j_30) (ts := [17]) rfl (.cons (t := 17) rfl trivial .nil) SubB.nil rfl (fun M D w h hms => rowR_rep h hms) ?_
       refine .seq (.region [([], []), ([], [140]), ([], []), ([140], [140]), ([], [])] mixed (by kernel_rfl) ?_)
       refine .consA (.move .none (.s rfl)) rfl ?_
       obtain ⟨r4, hv40, h⟩ := bind_some h
       refine .consW (.callO [] (slices_Clone_Link_ok hv40) (.cons (.s rfl) .nil) .nil rfl (by decide) (by decide) (by intro d h; cases h; decide)) rfl rfl ?_
       refine .consA (.makeFunc (ι := Link × Bool) (pre := fun i => (fun x0 => layer_Draw_1 x0 r2) i.1 = some i.2) (Ss := fun i => [rep i.1]) (S := fun i => rep i.2) .none fnok90 (fun i h => layer_Draw_1_ok h) (.cons (.s rfl) .nil)) rfl ?_
       obtain ⟨steps1, hv41, h⟩ := bind_some h
       refine .consW (.tell (t := 140) rfl row_one rfl (by decide) (fun _ => StepOK.callO [140] ((slices_DeleteFunc_Link_ok hv41).frzO1) (.cons (.s rfl) (.cons (.s rfl) .nil)) (.cons (k := 140) rfl .nil) rfl (by decide) (by decide) (by intro d h; cases h; decide))) rfl rfl ?_
       refine .consA (.assign .none (.s rfl)) rfl ?_
       refine .nil (.then ?_)
       refine .seq (.region [] mixed (by kernel_rfl) ?_)
       refine .cons (.move .none (.s rfl)) rfl ?_
       refine .cons (.move .none (.s rfl)) rfl ?_
       obtain ⟨r5, hv42, h⟩ := bind_some h
       refine .cons (.call .none (layer_sweep_ok hv42) (.cons (.s rfl) (.cons (.s rfl) (.cons (.int (by decide)) .nil)))) rfl ?_
       refine .cons (.move .none (.s rfl)) rfl ?_
       refine .cons (.extract .none (.s rfl) rfl) rfl ?_
       refine .cons (.extract .none (.s rfl) rfl) rfl ?_
       refine .cons (.assign .none (.s rfl)) rfl ?_
       refine .nil (.then ?_)
       refine .seq (.region [([], []), ([], [150]), ([150], [20, 150])] mixed (by kernel_rfl) ?_)
       refine .consA (.move .none (.s rfl)) rfl ?_
       obtain ⟨hn43, h⟩ := need_some h
       refine .consW (.makeSlice rk71 zo81 rfl (.s rfl) (.s rfl) hn43) rfl rfl ?_
       refine .consW (.passRow rfl (.tmp rfl)) rfl rfl ?_
       refine .nil (.then ?_)
       obtain ⟨out1, hv44, h⟩ := bnd_some h
       refine .reB (t := 20) rfl (congrArg (rowV 81) hv44) ?_
       refine .nameRow (t := 20) (g := 5004) rfl rfl rfl (fun s5004 => ?_)
       refine .seq (.region [] mixed (by kernel_rfl) ?_)
       refine .cons (.assign .none (.int (by decide))) rfl ?_
       refine .nil (.then ?_)
       refine .seq ?_
       refine .seq (.region [] mixed (by kernel_rfl) ?_)
       refine .cons (.move .none (.s rfl)) rfl ?_
       refine .cons (.len .none sl22 (.s rfl)) rfl ?_
       refine .cons (.move .none (.int (by decide))) rfl ?_
       refine .nil (.then ?_)
       obtain ⟨j_45, h, hK45⟩ := bind_some h
       refine .thenJ (ι := (Int × (List Point))) (fun j_45 => [(21, ⟨True, rep j_45.1⟩)]) (fun j_45 => [(5004, some (CPred.at s5004 (rowV 81 j_45.2)))]) (fun s => j_45 = s) (.k 20 rfl .nil) SubB.nil ?_ (fun j_45' hj45 => ?_)
       ·
        skip
        refine .block ?_
        refine .rforL h (fun p46_ => [(153, ⟨True, rep p46_.1⟩), (21, ⟨True, rep p46_.2.1⟩)]) (fun p46_ => [(5004, some (CPred.at s5004 (rowV 81 p46_.2.2)))]) (.k 153 rfl (.k 21 rfl .nil)) (.k 5004 rfl .nil) (.k 0 rfl (.k 1 rfl (.k 2 rfl (.k 3 rfl (.k 16 rfl (.k 20 rfl (.k 151 rfl (.k 152 rfl .nil)))))))) SubB.nil (fun p46_ o_46 h hD46 => ?_)
        refine .seq (.region [] mixed (by kernel_rfl) ?_)
        refine .cons (.lt .none (.s rfl) (.s rfl)) rfl ?_
        refine .nil (.then ?_)
        refine .seq ?_
        refine .cond (t := 154) rfl trivial (fun hb47 => ?_) (fun hb47 => ?_)
        ·
         replace h := bif_t h hb47
         refine .skip ?_
         refine .then ?_
         refine .seq ?_
         obtain ⟨j_48, h, hK48⟩ := bind_some h
         unfold layer_Draw_L4 at h
         refine .thenJ (ι := (Int × (List Point))) (fun j_48 => [(21, ⟨True, rep j_48.1⟩)]) (fun j_48 => [(5004, some (CPred.at s5004 (rowV 81 j_48.2)))]) (fun s => j_48 = s) (.k 0 rfl (.k 1 rfl (.k 2 rfl (.k 3 rfl (.k 16 rfl (.k 20 rfl (.k 151 rfl (.k 152 rfl (.k 153 rfl .nil))))))))) SubB.nil ?_ (fun j_48' hj48 => ?_)
         ·
          skip
          refine .block ?_
          refine .seq (.region [] mixed (by kernel_rfl) ?_)
          refine .cons (.move .none (.s rfl)) rfl ?_
          obtain ⟨hn49, h⟩ := need_some h
          refine .cons (.indexAddr .none sl22 ty32 (.s rfl) (.s rfl) (fun _ => hn49)) rfl ?_
          refine .cons (.load .none ty32 (.s rfl)) rfl ?_
          refine .cons (.assign .none (.s rfl)) rfl ?_
          obtain ⟨row1, hv50, h⟩ := bnd_some h
          refine .cons (.re hv50 (.assign .none (.s rfl))) rfl ?_
          refine .nil (.then ?_)
          refine .seq (.region [([], [24]), ([], [25])] mixed (by kernel_rfl) ?_)
          refine .consW (.nilRow (T := 3) (α := Int) rfl) rfl rfl ?_
          refine .consW (.nilRow (T := 3) (α := Int) rfl) rfl rfl ?_
          refine .nil (.then ?_)
          refine .nameRow (t := 24) (g := 5005) rfl rfl rfl (fun s5005 => ?_)
          refine .nameRow (t := 25) (g := 5006) rfl rfl rfl (fun s5006 => ?_)
          refine .seq (.region [] mixed (by kernel_rfl) ?_)
          refine .cons (.assign .none (.int (by decide))) rfl ?_
          refine .cons (.assign .none (.int (by decide))) rfl ?_
          refine .nil (.then ?_)
          refine .seq ?_
          refine .seq (.region [] mixed (by kernel_rfl) ?_)
          refine .cons (.move .none (.s rfl)) rfl ?_
          refine .cons (.len .none sl32 (.s rfl)) rfl ?_
          refine .cons (.move .none (.int (by decide))) rfl ?_
          refine .nil (.then ?_)
          obtain ⟨j_51, h, hK51⟩ := bind_some h
          refine .thenJ (ι := ((List Int) × (List Int) × Int × Int)) (fun j_51 => [(26, ⟨True, rep j_51.2.2.1⟩), (27, ⟨True, rep j_51.2.2.2⟩)]) (fun j_51 => [(24, some (rowV 3 j_51.1)), (25, some (rowV 3 j_51.2.1))]) (fun s => j_51 = s) (.k 0 rfl (.k 1 rfl (.k 2 rfl (.k 3 rfl (.k 16 rfl (.k 20 rfl (.k 21 rfl (.k 23 rfl (.k 151 rfl (.k 152 rfl (.k 153 rfl .nil))))))))))) (.k 5004 rfl .nil) ?_ (fun j_51' hj51 => ?_)
          ·
           skip
           refine .block ?_
           refine .anon (t := 24) (g := 5005) rfl rfl trivial rfl ?_
           refine .anon (t := 25) (g := 5006) rfl rfl trivial rfl ?_
           refine .rforL h (fun p52_ => [(160, ⟨True, rep p52_.1⟩), (26, ⟨True, rep p52_.2.2.2.1⟩), (27, ⟨True, rep p52_.2.2.2.2⟩)]) (fun p52_ => [(24, some (rowV 3 p52_.2.1)), (25, some (rowV 3 p52_.2.2.1))]) (.k 160 rfl (.k 26 rfl (.k 27 rfl .nil))) (.k 24 rfl (.k 25 rfl .nil)) (.k 0 rfl (.k 1 rfl (.k 2 rfl (.k 3 rfl (.k 16 rfl (.k 20 rfl (.k 21 rfl (.k 22 rfl (.k 23 rfl (.k 151 rfl (.k 152 rfl (.k 153 rfl (.k 158 rfl (.k 159 rfl .nil)))))))))))))) (.k 5004 rfl .nil) (fun p52_ o_52 h hD52 => ?_)
           refine .nameRow (t := 24) (g := 5007) rfl rfl rfl (fun s5007 => ?_)
           refine .nameRow (t := 25) (g := 5008) rfl rfl rfl (fun s5008 => ?_)
           refine .seq (.region [] mixed (by kernel_rfl) ?_)
           refine .cons (.lt .none (.s rfl) (.s rfl)) rfl ?_
           refine .nil (.then ?_)
           refine .seq ?_
           refine .cond (t := 161) rfl trivial (fun hb53 => ?_) (fun hb53 => ?_)
           ·
            replace h := bif_t h hb53
            refine .skip ?_
            refine .then ?_
            refine .seq ?_
            obtain ⟨j_54, h, hK54⟩ := bind_some h
            unfold layer_Draw_L5 at h
            refine .thenJ (ι := ((List Int) × (List Int) × Int × Int)) (fun j_54 => [(26, ⟨True, rep j_54.2.2.1⟩), (27, ⟨True, rep j_54.2.2.2⟩)]) (fun j_54 => [(24, some (rowV 3 j_54.1)), (25, some (rowV 3 j_54.2.1))]) (fun s => j_54 = s) (.k 0 rfl (.k 1 rfl (.k 2 rfl (.k 3 rfl (.k 16 rfl (.k 20 rfl (.k 21 rfl (.k 22 rfl (.k 23 rfl (.k 151 rfl (.k 152 rfl (.k 153 rfl (.k 158 rfl (.k 159 rfl (.k 160 rfl .nil))))))))))))))) (.k 5004 rfl .nil) ?_ (fun j_54' hj54 => ?_)
            ·
             skip
             refine .block ?_
             refine .seq (.region [] mixed (by kernel_rfl) ?_)
             obtain ⟨hn55, h⟩ := need_some h
             refine .cons (.indexAddr .none sl32 ty3 (.s rfl) (.s rfl) (fun _ => hn55)) rfl ?_
             refine .cons (.load .none ty3 (.s rfl)) rfl ?_
             obtain ⟨k1, hv56, h⟩ := bnd_some h
             refine .cons (.re hv56 (.assign .none (.s rfl))) rfl ?_
             refine .nil (.then ?_)
             refine .seq (.region [] mixed (by kernel_rfl) ?_)
             refine .cons (.move .none (.s rfl)) rfl ?_
             refine .cons (.assign .none (.s rfl)) rfl ?_
             refine .nil (.then ?_)
             refine .seq ?_
             refine .seq (.region [] mixed (by kernel_rfl) ?_)
             refine .cons (.move .none (.s rfl)) rfl ?_
             refine .cons (.gt .none (.s rfl) (.int (by decide))) rfl ?_
             refine .nil (.then ?_)
             obtain ⟨j_57, h, hK57⟩ := bind_some h
             refine .thenJ (ι := Int) (fun j_57 => [(30, ⟨True, rep j_57⟩)]) (fun j_57 => []) (fun s => j_57 = s) (.k 0 rfl (.k 1 rfl (.k 2 rfl (.k 3 rfl (.k 16 rfl (.k 20 rfl (.k 21 rfl (.k 22 rfl (.k 23 rfl (.k 24 rfl (.k 25 rfl (.k 26 rfl (.k 27 rfl (.k 29 rfl (.k 151 rfl (.k 152 rfl (.k 153 rfl (.k 158 rfl (.k 159 rfl (.k 160 rfl .nil)))))))))))))))))))) (.k 5004 rfl (.k 5007 rfl (.k 5008 rfl .nil))) ?_ (fun j_57' hj57 => ?_)
             ·
              skip
              refine .cond (t := 166) rfl trivial (fun hb58 => ?_) (fun hb58 => ?_)
              ·
               replace h := bif_t h hb58
               refine .region [([], []), ([], []), ([], []), ([], []), ([], []), ([5004], []), ([], [])] mixed (by kernel_rfl) ?_
               refine .consA (.move .none (.s rfl)) rfl ?_
               refine .consA (.load .none ty32 (.s rfl)) rfl ?_
               refine .consA (.move .none (.s rfl)) rfl ?_
               refine .consA (.move .none (.s rfl)) rfl ?_
               refine .consA (.move .none (.s rfl)) rfl ?_
               obtain ⟨w1, hv59, h⟩ := bind_some h
               refine .consA (.callC .none fnok91 (fun hg => layer_middle_ok  hv59) .rep (.cons (.s rfl) (.cons (.s rfl) (.cons (.s rfl) (.lend (k := 5004) (.told (.s rfl) rfl) (.cons (.s rfl) .nil)))))) rfl ?_
               refine .consA (.assign .none (.s rfl)) rfl ?_
               refine .nil ?_
               exact Ends.join _ (some_eq h) (.k 30 rfl (.k 0 rfl (.k 1 rfl (.k 2 rfl (.k 3 rfl (.k 16 rfl (.k 20 rfl (.k 21 rfl (.k 22 rfl (.k 23 rfl (.k 24 rfl (.k 25 rfl (.k 26 rfl (.k 27 rfl (.k 29 rfl (.k 151 rfl (.k 152 rfl (.k 153 rfl (.k 158 rfl (.k 159 rfl (.k 160 rfl .nil))))))))))))))))))))) (.k 5004 rfl (.k 5007 rfl (.k 5008 rfl .nil)))
              ·
               replace h := bif_f h hb58
               refine .skip ?_
               exact Ends.join _ (some_eq h) (.k 30 rfl (.k 0 rfl (.k 1 rfl (.k 2 rfl (.k 3 rfl (.k 16 rfl (.k 20 rfl (.k 21 rfl (.k 22 rfl (.k 23 rfl (.k 24 rfl (.k 25 rfl (.k 26 rfl (.k 27 rfl (.k 29 rfl (.k 151 rfl (.k 152 rfl (.k 153 rfl (.k 158 rfl (.k 159 rfl (.k 160 rfl .nil))))))))))))))))))))) (.k 5004 rfl (.k 5007 rfl (.k 5008 rfl .nil)))
             ·
              subst hj57; have h := hK57; clear hK57
              refine .seq (.region [([], []), ([], []), ([], []), ([5007], [176, 5007]), ([], []), ([], []), ([], []), ([], []), ([], []), ([], []), ([], []), ([5008], [184, 5008]), ([176], [24, 176]), ([184], [25, 184])] mixed (by kernel_rfl) ?_)
              refine .consA (.move .none (.s rfl)) rfl ?_
              refine .consA (.move .none (.s rfl)) rfl ?_
              refine .consA (.buildSlice (xs := [_]) .none sl32 ty3 hz3 (.cons (.s rfl) .nil) rfl (by decide)) rfl ?_
              obtain ⟨hn60, h⟩ := need_some h
              refine .consW (.append (k := 5007) rk32 rfl (.told (.s rfl) rfl) (.s rfl) hn60) rfl rfl ?_
              refine .consA (.move .none (.s rfl)) rfl ?_
              refine .consA (.move .none (.s rfl)) rfl ?_
              refine .consA (.move .none (.s rfl)) rfl ?_
              obtain ⟨hn61, h⟩ := need_some h
              refine .consA (.indexAddr .none sl71 ty81 (.s rfl) (.s rfl) (fun _ => hn61)) rfl ?_
              refine .consA (.fieldAddr .none fd81_0 hfd81_0 (.s rfl)) rfl ?_
              refine .consA (.load .none ty3 (.s rfl)) rfl ?_
              refine .consA (.buildSlice (xs := [_]) .none sl32 ty3 hz3 (.cons (.s rfl) .nil) rfl (by decide)) rfl ?_
              obtain ⟨hn62, h⟩ := need_some h
              refine .consW (.append (k := 5008) rk32 rfl (.told (.s rfl) rfl) (.s rfl) hn62) rfl rfl ?_
              refine .consW (.passRow rfl (.tmp rfl)) rfl rfl ?_
              refine .consW (.passRow rfl (.tmp rfl)) rfl rfl ?_
              refine .nil (.then ?_)
              obtain ⟨want1, hv63, h⟩ := bnd_some h
              refine .reB (t := 24) rfl (congrArg (rowV 3) hv63) ?_
              obtain ⟨size1, hv64, h⟩ := bnd_some h
              refine .reB (t := 25) rfl (congrArg (rowV 3) hv64) ?_
              refine .nameRow (t := 24) (g := 5009) rfl rfl rfl (fun s5009 => ?_)
              refine .nameRow (t := 25) (g := 5010) rfl rfl rfl (fun s5010 => ?_)
              refine .seq (.region [] mixed (by kernel_rfl) ?_)
              refine .cons (.move .none (.s rfl)) rfl ?_
              refine .cons (.move .none (.s rfl)) rfl ?_
              refine .cons (.move .none (.s rfl)) rfl ?_
              obtain ⟨hn65, h⟩ := need_some h
              refine .cons (.indexAddr .none sl71 ty81 (.s rfl) (.s rfl) (fun _ => hn65)) rfl ?_
              refine .cons (.fieldAddr .none fd81_1 hfd81_1 (.s rfl)) rfl ?_
              refine .cons (.load .none ty3 (.s rfl)) rfl ?_
              refine .cons (.max2 .none (.s rfl) (.s rfl)) rfl ?_
              obtain ⟨high1, hv66, h⟩ := bnd_some h
              refine .cons (.re hv66 (.assign .none (.s rfl))) rfl ?_
              refine .nil (.then ?_)
              refine .region [] mixed (by kernel_rfl) ?_
              refine .cons (.move .none (.s rfl)) rfl ?_
              refine .cons (.move .none (.s rfl)) rfl ?_
              refine .cons (.move .none (.s rfl)) rfl ?_
              obtain ⟨hn67, h⟩ := need_some h
              refine .cons (.indexAddr .none sl71 ty81 (.s rfl) (.s rfl) (fun _ => hn67)) rfl ?_
              refine .cons (.fieldAddr .none fd81_0 hfd81_0 (.s rfl)) rfl ?_
              refine .cons (.load .none ty3 (.s rfl)) rfl ?_
              refine .cons (.move .none (.s rfl)) rfl ?_
              refine .cons (.addW .none (.s rfl) (.s rfl)) rfl ?_
              refine .cons (.addW .none (.s rfl) (.s rfl)) rfl ?_
              obtain ⟨end1, hv68, h⟩ := bnd_some h
              refine .cons (.re hv68 (.assign .none (.s rfl))) rfl ?_
              refine .nil ?_
              refine .blkNormal ?_
              refine .anon (t := 24) (g := 5009) rfl rfl trivial rfl ?_
              refine .anon (t := 25) (g := 5010) rfl rfl trivial rfl ?_
              exact Ends.join _ (some_eq h) (.k 26 rfl (.k 27 rfl (.k 0 rfl (.k 1 rfl (.k 2 rfl (.k 3 rfl (.k 16 rfl (.k 20 rfl (.k 21 rfl (.k 22 rfl (.k 23 rfl (.k 151 rfl (.k 152 rfl (.k 153 rfl (.k 158 rfl (.k 159 rfl (.k 160 rfl .nil))))))))))))))))) (.k 24 rfl (.k 25 rfl (.k 5004 rfl .nil)))
            ·
             subst hj54; have h := hK54; clear hK54
             refine .nameRow (t := 24) (g := 5011) rfl rfl rfl (fun s5011 => ?_)
             refine .nameRow (t := 25) (g := 5012) rfl rfl rfl (fun s5012 => ?_)
             refine .region [] mixed (by kernel_rfl) ?_
             refine .cons (.addW .none (.s rfl) (.int (by decide))) rfl ?_
             refine .cons (.move .none (.s rfl)) rfl ?_
             refine .nil ?_
             refine .anon (t := 24) (g := 5011) rfl rfl trivial rfl ?_
             refine .anon (t := 25) (g := 5012) rfl rfl trivial rfl ?_
             exact Ends.againL (some_eq h) (.k 160 rfl (.k 26 rfl (.k 27 rfl (.k 0 rfl (.k 1 rfl (.k 2 rfl (.k 3 rfl (.k 16 rfl (.k 20 rfl (.k 21 rfl (.k 22 rfl (.k 23 rfl (.k 151 rfl (.k 152 rfl (.k 153 rfl (.k 158 rfl (.k 159 rfl .nil))))))))))))))))) (.k 24 rfl (.k 25 rfl (.k 5004 rfl .nil)))
           ·
            replace h := bif_f h hb53
            refine .exit ?_
            refine .thenExit ?_
            refine .thenExit ?_
            refine .blkExit ?_
            refine .anon (t := 24) (g := 5007) rfl rfl trivial rfl ?_
            refine .anon (t := 25) (g := 5008) rfl rfl trivial rfl ?_
            replace h := hD52 _ (some_eq h)
            exact Ends.join _ (some_eq h) (.k 26 rfl (.k 27 rfl (.k 0 rfl (.k 1 rfl (.k 2 rfl (.k 3 rfl (.k 16 rfl (.k 20 rfl (.k 21 rfl (.k 23 rfl (.k 151 rfl (.k 152 rfl (.k 153 rfl .nil))))))))))))) (.k 24 rfl (.k 25 rfl (.k 5004 rfl .nil)))
          ·
           subst hj51; have h := hK51; clear hK51
           refine .freezeRowA (t := 24) rfl rfl (.k 25 rfl (.k 5004 rfl .nil)) rfl ?_
           refine .freezeRowA (t := 25) rfl rfl (.k 5004 rfl .nil) rfl ?_
           refine .seq ?_
           refine .seq (.region [] mixed (by kernel_rfl) ?_)
           refine .cons (.move .none (.s rfl)) rfl ?_
           refine .cons (.move .none (.s rfl)) rfl ?_
           refine .cons (.move .none (.s rfl)) rfl ?_
           obtain ⟨r6, hv69, h⟩ := bind_some h
           refine .cons (.call .none (layer_near_ok hv69) (.cons (.s rfl) (.cons (.s rfl) (.cons (.s rfl) .nil)))) rfl ?_
           refine .cons (.len .none sl32 (.s rfl)) rfl ?_
           refine .cons (.move .none (.int (by decide))) rfl ?_
           refine .nil (.then ?_)
           obtain ⟨j_70, h, hK70⟩ := bind_some h
           refine .thenJ (ι := (List Point)) (fun j_70 => []) (fun j_70 => [(5004, some (CPred.at s5004 (rowV 81 j_70)))]) (fun s => j_70 = s) (.k 0 rfl (.k 1 rfl (.k 2 rfl (.k 3 rfl (.k 16 rfl (.k 20 rfl (.k 21 rfl (.k 26 rfl (.k 151 rfl (.k 152 rfl (.k 153 rfl .nil))))))))))) SubB.nil ?_ (fun j_70' hj70 => ?_)
           ·
            skip
            refine .block ?_
            refine .rforL h (fun p71_ => [(207, ⟨True, rep p71_.1⟩)]) (fun p71_ => [(5004, some (CPred.at s5004 (rowV 81 p71_.2)))]) (.k 207 rfl .nil) (.k 5004 rfl .nil) (.k 0 rfl (.k 1 rfl (.k 2 rfl (.k 3 rfl (.k 16 rfl (.k 20 rfl (.k 21 rfl (.k 23 rfl (.k 26 rfl (.k 151 rfl (.k 152 rfl (.k 153 rfl (.k 205 rfl (.k 206 rfl .nil)))))))))))))) SubB.nil (fun p71_ o_71 h hD71 => ?_)
            refine .seq (.region [] mixed (by kernel_rfl) ?_)
            refine .cons (.lt .none (.s rfl) (.s rfl)) rfl ?_
            refine .nil (.then ?_)
            refine .seq ?_
            refine .cond (t := 208) rfl trivial (fun hb72 => ?_) (fun hb72 => ?_)
            ·
             replace h := bif_t h hb72
             refine .skip ?_
             refine .then ?_
             refine .seq ?_
             obtain ⟨j_73, h, hK73⟩ := bind_some h
             unfold layer_Draw_L6 at h
             refine .thenJ (ι := (List Point)) (fun j_73 => []) (fun j_73 => [(5004, some (CPred.at s5004 (rowV 81 j_73)))]) (fun s => j_73 = s) (.k 0 rfl (.k 1 rfl (.k 2 rfl (.k 3 rfl (.k 16 rfl (.k 20 rfl (.k 21 rfl (.k 23 rfl (.k 26 rfl (.k 151 rfl (.k 152 rfl (.k 153 rfl (.k 205 rfl (.k 206 rfl (.k 207 rfl .nil))))))))))))))) SubB.nil ?_ (fun j_73' hj73 => ?_)
             ·
              skip
              refine .block ?_
              refine .seq (.region [] mixed (by kernel_rfl) ?_)
              refine .cons (.move .none (.s rfl)) rfl ?_
              obtain ⟨hn74, h⟩ := need_some h
              refine .cons (.indexAddr .none sl32 ty3 (.s rfl) (.s rfl) (fun _ => hn74)) rfl ?_
              refine .cons (.load .none ty3 (.s rfl)) rfl ?_
              refine .cons (.assign .none (.s rfl)) rfl ?_
              refine .cons (.assign .none (.s rfl)) rfl ?_
              refine .nil (.then ?_)
              refine .region [([], []), ([], []), ([], []), ([], []), ([], []), ([], []), ([], []), ([], []), ([5004], []), ([5004], [5004])] mixed (by kernel_rfl) ?_
              refine .consA (.move .none (.s rfl)) rfl ?_
              refine .consA (.move .none (.s rfl)) rfl ?_
              refine .consA (.move .none (.s rfl)) rfl ?_
              obtain ⟨hn75, h⟩ := need_some h
              refine .consA (.indexAddr .none sl32 ty3 (.s rfl) (.s rfl) (fun _ => hn75)) rfl ?_
              refine .consA (.load .none ty3 (.s rfl)) rfl ?_
              refine .consA (.move .none (.s rfl)) rfl ?_
              refine .consA (.move .none (.s rfl)) rfl ?_
              obtain ⟨v4, hv76, h⟩ := bnd_some h
              refine .consA (.re hv76 (.buildF (y := (⟨gx r6 p71_.1, p46_.2.1⟩ : Point)) .none bu81 zc81 rfl (.cons (.s rfl) (.cons (.s rfl) .nil)) (.cons rfl sf81_0 (.cons rfl sf81_1 .nil)))) rfl ?_
              obtain ⟨hn77, h⟩ := need_some h
              refine .consA (.indexAddrO (k := 5004) .none sl71 ty81 (.s rfl) rfl (.s rfl) (fun _ => hn77)) rfl ?_
              refine .consN (.storeElem0 (k := 5004) ty81 (.s rfl) rfl (.s rfl) hn77) rfl ?_
              refine .nil ?_
              refine .blkNormal ?_
              exact Ends.join _ (some_eq h) (.k 0 rfl (.k 1 rfl (.k 2 rfl (.k 3 rfl (.k 16 rfl (.k 20 rfl (.k 21 rfl (.k 23 rfl (.k 26 rfl (.k 151 rfl (.k 152 rfl (.k 153 rfl (.k 205 rfl (.k 206 rfl (.k 207 rfl .nil))))))))))))))) (.k 5004 rfl .nil)
             ·
              subst hj73; have h := hK73; clear hK73
              refine .region [] mixed (by kernel_rfl) ?_
              refine .cons (.addW .none (.s rfl) (.int (by decide))) rfl ?_
              refine .cons (.move .none (.s rfl)) rfl ?_
              refine .nil ?_
              exact Ends.againL (some_eq h) (.k 207 rfl (.k 0 rfl (.k 1 rfl (.k 2 rfl (.k 3 rfl (.k 16 rfl (.k 20 rfl (.k 21 rfl (.k 23 rfl (.k 26 rfl (.k 151 rfl (.k 152 rfl (.k 153 rfl (.k 205 rfl (.k 206 rfl .nil))))))))))))))) (.k 5004 rfl .nil)
            ·
             replace h := bif_f h hb72
             refine .exit ?_
             refine .thenExit ?_
             refine .thenExit ?_
             refine .blkExit ?_
             replace h := hD71 _ (some_eq h)
             exact Ends.join _ (some_eq h) (.k 0 rfl (.k 1 rfl (.k 2 rfl (.k 3 rfl (.k 16 rfl (.k 20 rfl (.k 21 rfl (.k 26 rfl (.k 151 rfl (.k 152 rfl (.k 153 rfl .nil))))))))))) (.k 5004 rfl .nil)
           ·
            subst hj70; have h := hK70; clear hK70
            refine .region [] mixed (by kernel_rfl) ?_
            refine .cons (.move .none (.s rfl)) rfl ?_
            refine .cons (.move .none (.s rfl)) rfl ?_
            refine .cons (.move .none (.s rfl)) rfl ?_
            refine .cons (.addW .none (.s rfl) (.s rfl)) rfl ?_
            refine .cons (.addW .none (.s rfl) (.s rfl)) rfl ?_
            obtain ⟨y1, hv78, h⟩ := bnd_some h
            refine .cons (.re hv78 (.assign .none (.s rfl))) rfl ?_
            refine .nil ?_
            refine .blkNormal ?_
            exact Ends.join _ (some_eq h) (.k 21 rfl (.k 0 rfl (.k 1 rfl (.k 2 rfl (.k 3 rfl (.k 16 rfl (.k 20 rfl (.k 151 rfl (.k 152 rfl (.k 153 rfl .nil)))))))))) (.k 5004 rfl .nil)
         ·
          subst hj48; have h := hK48; clear hK48
          refine .region [] mixed (by kernel_rfl) ?_
          refine .cons (.addW .none (.s rfl) (.int (by decide))) rfl ?_
          refine .cons (.move .none (.s rfl)) rfl ?_
          refine .nil ?_
          exact Ends.againL (some_eq h) (.k 153 rfl (.k 21 rfl (.k 0 rfl (.k 1 rfl (.k 2 rfl (.k 3 rfl (.k 16 rfl (.k 20 rfl (.k 151 rfl (.k 152 rfl .nil)))))))))) (.k 5004 rfl .nil)
        ·
         replace h := bif_f h hb47
         refine .exit ?_
         refine .thenExit ?_
         refine .thenExit ?_
         refine .blkExit ?_
         replace h := hD46 _ (some_eq h)
         exact Ends.join _ (some_eq h) (.k 21 rfl (.k 20 rfl .nil)) (.k 5004 rfl .nil)
       ·
        subst hj45; have h := hK45; clear hK45
        refine .seq (.region [([], []), ([5004], []), ([5004], []), ([5004], []), ([], [])] mixed (by kernel_rfl) ?_)
        refine .consA (.move .none (.s rfl)) rfl ?_
        obtain ⟨hn79, h⟩ := need_some h
        refine .consA (.indexAddrO (k := 5004) .none sl71 ty81 (.s rfl) rfl (.int (by decide)) (fun _ => hn79)) rfl ?_
        refine .consA (.fieldElem (k := 5004) .none fd81_0 (.s rfl) rfl (fun _ => hn79)) rfl ?_
        refine .consA (.loadElem (k := 5004) .none ty3 (.s rfl) rfl hfd81_0 (fun _ => hn79)) rfl ?_
        obtain ⟨left1, hv80, h⟩ := bnd_some h
        refine .consA (.re hv80 (.assign .none (.s rfl))) rfl ?_
        refine .nil (.then ?_)
        refine .seq ?_
        refine .seq (.region [([], []), ([5004], []), ([], [])] mixed (by kernel_rfl) ?_)
        refine .consA (.move .none (.s rfl)) rfl ?_
        refine .consA (.lenO (k := 5004) sl71 (.told (.s rfl) rfl)) rfl ?_
        refine .consA (.move .none (.int (by decide))) rfl ?_
        refine .nil (.then ?_)
        obtain ⟨j_81, h, hK81⟩ := bind_some h
        refine .thenJ (ι := Int) (fun j_81 => [(33, ⟨True, rep j_81⟩)]) (fun j_81 => []) (fun s => j_81 = s) (.k 20 rfl .nil) (.k 5004 rfl .nil) ?_ (fun j_81' hj81 => ?_)
        ·
         skip
         refine .block ?_
         refine .rforL h (fun p82_ => [(234, ⟨True, rep p82_.1⟩), (33, ⟨True, rep p82_.2⟩)]) (fun p82_ => []) (.k 234 rfl (.k 33 rfl .nil)) SubB.nil (.k 20 rfl (.k 233 rfl .nil)) (.k 5004 rfl .nil) (fun p82_ o_82 h hD82 => ?_)
         refine .seq (.region [] mixed (by kernel_rfl) ?_)
         refine .cons (.lt .none (.s rfl) (.s rfl)) rfl ?_
         refine .nil (.then ?_)
         refine .seq ?_
         refine .cond (t := 235) rfl trivial (fun hb83 => ?_) (fun hb83 => ?_)
         ·
          replace h := bif_t h hb83
          refine .skip ?_
          refine .then ?_
          refine .seq ?_
          obtain ⟨j_84, h, hK84⟩ := bind_some h
          unfold layer_Draw_L7 at h
          refine .thenJ (ι := Int) (fun j_84 => [(33, ⟨True, rep j_84⟩)]) (fun j_84 => []) (fun s => j_84 = s) (.k 20 rfl (.k 233 rfl (.k 234 rfl .nil))) (.k 5004 rfl .nil) ?_ (fun j_84' hj84 => ?_)
          ·
           skip
           refine .block ?_
           refine .seq (.region [] mixed (by kernel_rfl) ?_)
           refine .cons (.move .none (.s rfl)) rfl ?_
           refine .cons (.assign .none (.s rfl)) rfl ?_
           refine .nil (.then ?_)
           refine .region [([], []), ([], []), ([], []), ([5004], []), ([5004], []), ([5004], []), ([], []), ([], [])] mixed (by kernel_rfl) ?_
           refine .consA (.move .none (.s rfl)) rfl ?_
           refine .consA (.move .none (.s rfl)) rfl ?_
           refine .consA (.move .none (.s rfl)) rfl ?_
           obtain ⟨hn85, h⟩ := need_some h
           refine .consA (.indexAddrO (k := 5004) .none sl71 ty81 (.s rfl) rfl (.s rfl) (fun _ => hn85)) rfl ?_
           refine .consA (.fieldElem (k := 5004) .none fd81_0 (.s rfl) rfl (fun _ => hn85)) rfl ?_
           refine .consA (.loadElem (k := 5004) .none ty3 (.s rfl) rfl hfd81_0 (fun _ => hn85)) rfl ?_
           refine .consA (.min2 .none (.s rfl) (.s rfl)) rfl ?_
           obtain ⟨left2, hv86, h⟩ := bnd_some h
           refine .consA (.re hv86 (.assign .none (.s rfl))) rfl ?_
           refine .nil ?_
           refine .blkNormal ?_
           exact Ends.join _ (some_eq h) (.k 33 rfl (.k 20 rfl (.k 233 rfl (.k 234 rfl .nil)))) (.k 5004 rfl .nil)
          ·
           subst hj84; have h := hK84; clear hK84
           refine .region [] mixed (by kernel_rfl) ?_
           refine .cons (.addW .none (.s rfl) (.int (by decide))) rfl ?_
           refine .cons (.move .none (.s rfl)) rfl ?_
           refine .nil ?_
           exact Ends.againL (some_eq h) (.k 234 rfl (.k 33 rfl (.k 20 rfl (.k 233 rfl .nil)))) (.k 5004 rfl .nil)
         ·
          replace h := bif_f h hb83
          refine .exit ?_
          refine .thenExit ?_
          refine .thenExit ?_
          refine .blkExit ?_
          replace h := hD82 _ (some_eq h)
          exact Ends.join _ (some_eq h) (.k 33 rfl (.k 20 rfl .nil)) (.k 5004 rfl .nil)
        ·
         subst hj81; have h := hK81; clear hK81
         refine .seq ?_
         refine .seq (.region [([], []), ([5004], []), ([], [])] mixed (by kernel_rfl) ?_)
         refine .consA (.move .none (.s rfl)) rfl ?_
         refine .consA (.lenO (k := 5004) sl71 (.told (.s rfl) rfl)) rfl ?_
         refine .consA (.move .none (.int (by decide))) rfl ?_
         refine .nil (.then ?_)
         obtain ⟨j_87, h, hK87⟩ := bind_some h
         refine .thenJ (ι := (List Point)) (fun j_87 => []) (fun j_87 => [(5004, some (CPred.at s5004 (rowV 81 j_87)))]) (fun s => j_87 = s) (.k 20 rfl .nil) SubB.nil ?_ (fun j_87' hj87 => ?_)
         ·
          skip
          refine .block ?_
          refine .rforL h (fun p88_ => [(247, ⟨True, rep p88_.1⟩)]) (fun p88_ => [(5004, some (CPred.at s5004 (rowV 81 p88_.2)))]) (.k 247 rfl .nil) (.k 5004 rfl .nil) (.k 20 rfl (.k 33 rfl (.k 246 rfl .nil))) SubB.nil (fun p88_ o_88 h hD88 => ?_)
          refine .seq (.region [] mixed (by kernel_rfl) ?_)
          refine .cons (.lt .none (.s rfl) (.s rfl)) rfl ?_
          refine .nil (.then ?_)
          refine .seq ?_
          refine .cond (t := 248) rfl trivial (fun hb89 => ?_) (fun hb89 => ?_)
          ·
           replace h := bif_t h hb89
           refine .skip ?_
           refine .then ?_
           refine .seq ?_
           obtain ⟨j_90, h, hK90⟩ := bind_some h
           unfold layer_Draw_L8 at h
           refine .thenJ (ι := (List Point)) (fun j_90 => []) (fun j_90 => [(5004, some (CPred.at s5004 (rowV 81 j_90)))]) (fun s => j_90 = s) (.k 20 rfl (.k 33 rfl (.k 246 rfl (.k 247 rfl .nil)))) SubB.nil ?_ (fun j_90' hj90 => ?_)
           ·
            skip
            refine .block ?_
            refine .seq (.region [] mixed (by kernel_rfl) ?_)
            refine .cons (.move .none (.s rfl)) rfl ?_
            refine .cons (.assign .none (.s rfl)) rfl ?_
            refine .nil (.then ?_)
            refine .region [([], []), ([], []), ([5004], []), ([5004], []), ([5004], []), ([], []), ([], []), ([5004], []), ([5004], []), ([5004], [5004])] mixed (by kernel_rfl) ?_
            refine .consA (.move .none (.s rfl)) rfl ?_
            refine .consA (.move .none (.s rfl)) rfl ?_
            obtain ⟨hn91, h⟩ := need_some h
            refine .consA (.indexAddrO (k := 5004) .none sl71 ty81 (.s rfl) rfl (.s rfl) (fun _ => hn91)) rfl ?_
            refine .consA (.fieldElem (k := 5004) .none fd81_0 (.s rfl) rfl (fun _ => hn91)) rfl ?_
            refine .consA (.loadElem (k := 5004) .none ty3 (.s rfl) rfl hfd81_0 (fun _ => hn91)) rfl ?_
            refine .consA (.move .none (.s rfl)) rfl ?_
            obtain ⟨v5, hv92, h⟩ := bnd_some h
            refine .consA (.re hv92 (.subW .none (.s rfl) (.s rfl))) rfl ?_
            obtain ⟨hn93, h⟩ := need_some h
            refine .consA (.indexAddrO (k := 5004) .none sl71 ty81 (.s rfl) rfl (.s rfl) (fun _ => hn93)) rfl ?_
            refine .consA (.fieldElem (k := 5004) .none fd81_0 (.s rfl) rfl (fun _ => hn93)) rfl ?_
            refine .consN (.storeElem (k := 5004) ty3 (.s rfl) rfl sf81_0 (.s rfl) hn93) rfl ?_
            refine .nil ?_
            refine .blkNormal ?_
            exact Ends.join _ (some_eq h) (.k 20 rfl (.k 33 rfl (.k 246 rfl (.k 247 rfl .nil)))) (.k 5004 rfl .nil)
           ·
            subst hj90; have h := hK90; clear hK90
            refine .region [] mixed (by kernel_rfl) ?_
            refine .cons (.addW .none (.s rfl) (.int (by decide))) rfl ?_
            refine .cons (.move .none (.s rfl)) rfl ?_
            refine .nil ?_
            exact Ends.againL (some_eq h) (.k 247 rfl (.k 20 rfl (.k 33 rfl (.k 246 rfl .nil)))) (.k 5004 rfl .nil)
          ·
           replace h := bif_f h hb89
           refine .exit ?_
           refine .thenExit ?_
           refine .thenExit ?_
           refine .blkExit ?_
           replace h := hD88 _ (some_eq h)
           exact Ends.join _ (some_eq h) (.k 20 rfl .nil) (.k 5004 rfl .nil)
         ·
          subst hj87; have h := hK87; clear hK87
          refine .freezeRow (g := 5004) (ts := [20]) rfl (.cons (t := 20) rfl trivial .nil) SubB.nil rfl ?_
          refine .seq (.region [] mixed (by kernel_rfl) ?_)
          refine .cons (.move .none (.s rfl)) rfl ?_
          refine .cons (.assign .none (.s rfl)) rfl ?_
          refine .cons (.assign .none (.int (by decide))) rfl ?_
          refine .nil (.then ?_)
          refine .ret ?_
          obtain rfl := some_eq h
          exact Ends.ret2 (.inl rfl) Try.results47 (ResOK.tmp rfl trivial Imp.refl) (ResOK.tmp rfl trivial Imp.refl)

theorem ref_In_ok {n1 : Int} {low1 : Int} {high1 : Int} {r : Bool}  (h : ref_In n1 low1 high1 = some r) : FSpec Try.prog 28 [rep n1, rep low1, rep high1] (rep r) := by
 unfold ref_In at h
 refine FSpec.intro (n := 15) fnok28 Try.func28 rfl Try.ntmps28 rfl (fun F => ?_)
 refine .seq (.region [] mixed (by kernel_rfl) ?_)
 refine .cons (.assign .none .bool) rfl ?_
 refine .nil (.then ?_)
 refine .seq (.region [] mixed (by kernel_rfl) ?_)
 refine .cons (.move .none (.s rfl)) rfl ?_
 refine .cons (.move .none (.s rfl)) rfl ?_
 refine .cons (.ge .none (.s rfl) (.s rfl)) rfl ?_
 refine .cons (.move .none (.s rfl)) rfl ?_
 refine .cons (.move (.at rfl rfl) (.s rfl)) rfl ?_
 refine .cons (.move (.at rfl rfl) (.s rfl)) rfl ?_
 refine .cons (.le (.at rfl rfl) (.tmp rfl id) (.tmp rfl id)) rfl ?_
 refine .cons (.pickAnd .none (.s rfl) (.tmp rfl id)) rfl ?_
 refine .cons (.assign .none (.s rfl)) rfl ?_
 refine .nil (.then ?_)
 refine .ret ?_
 obtain rfl := some_eq h
 exact Ends.ret1 (.inl rfl) Try.results28 (ResOK.tmp rfl trivial Imp.refl)

theorem ref_When_ok {is1 : Bool} {e1 : Int} {r : Int}  (h : ref_When is1 e1 = some r) : FSpec Try.prog 45 [rep is1, rep e1] (rep r) := by
 unfold ref_When at h
 refine FSpec.intro (n := 7) fnok45 Try.func45 rfl Try.ntmps45 rfl (fun F => ?_)
 refine .seq (.region [] mixed (by kernel_rfl) ?_)
 refine .cons (.assign .none (.int (by decide))) rfl ?_
 refine .nil (.then ?_)
 refine .seq ?_
 refine .seq (.region [] mixed (by kernel_rfl) ?_)
 refine .cons (.move .none (.s rfl)) rfl ?_
 refine .nil (.then ?_)
 refine .cond (t := 5) rfl trivial (fun hb1 => ?_) (fun hb1 => ?_)
 ·
  replace h := bif_t h hb1
  refine .seq (.region [] mixed (by kernel_rfl) ?_)
  refine .cons (.move .none (.s rfl)) rfl ?_
  refine .cons (.assign .none (.s rfl)) rfl ?_
  refine .nil (.then ?_)
  refine .ret ?_
  refine .thenRet ?_
  obtain rfl := some_eq h
  exact Ends.ret1 (.inl rfl) Try.results45 (ResOK.tmp rfl trivial Imp.refl)
 ·
  replace h := bif_f h hb1
  refine .skip ?_
  refine .then ?_
  refine .seq (.region [] mixed (by kernel_rfl) ?_)
  refine .cons (.assign .none (.int (by decide))) rfl ?_
  refine .nil (.then ?_)
  refine .ret ?_
  obtain rfl := some_eq h
  exact Ends.ret1 (.inl rfl) Try.results45 (ResOK.tmp rfl trivial Imp.refl)

theorem ref_First_ok {l1 : (List Int)} {r : Int}  (h : ref_First l1 = some r) : FSpec Try.prog 44 [rep l1] (rep r) := by
 unfold ref_First at h
 refine FSpec.intro (n := 15) fnok44 Try.func44 rfl Try.ntmps44 rfl (fun F => ?_)
 refine .seq (.region [] mixed (by kernel_rfl) ?_)
 refine .cons (.assign .none (.int (by decide))) rfl ?_
 refine .nil (.then ?_)
 refine .seq ?_
 refine .seq (.region [] mixed (by kernel_rfl) ?_)
 refine .cons (.move .none (.s rfl)) rfl ?_
 refine .cons (.len .none sl109 (.s rfl)) rfl ?_
 refine .cons (.move .none (.int (by decide))) rfl ?_
 refine .nil (.then ?_)
 obtain ⟨o_1, h, hK1⟩ := bindR_some h
 refine .thenJ (ι := Unit) (fun j_1 => []) (fun j_1 => []) (fun s => o_1 = Res.nx s) Sub.nil SubB.nil ?_ (fun j_1 hj1 => ?_)
 ·
  skip
  refine .block ?_
  refine .rforEL h (fun p2_ => [(7, ⟨True, rep p2_.1⟩)]) (fun p2_ => []) (.k 7 rfl .nil) SubB.nil (.k 5 rfl (.k 6 rfl .nil)) SubB.nil (fun p2_ o_2 h hD2 => ?_)
  refine .seq (.region [] mixed (by kernel_rfl) ?_)
  refine .cons (.lt .none (.s rfl) (.s rfl)) rfl ?_
  refine .nil (.then ?_)
  refine .seq ?_
  refine .cond (t := 8) rfl trivial (fun hb3 => ?_) (fun hb3 => ?_)
  ·
   replace h := bif_t h hb3
   refine .skip ?_
   refine .then ?_
   refine .seq ?_
   obtain ⟨o_4, h, hK4⟩ := bindD_some h
   unfold ref_First_L1 at h
   refine .thenJ (ι := Unit) (fun j_4 => []) (fun j_4 => []) (fun s => o_4 = Res.nx s) (.k 5 rfl (.k 6 rfl (.k 7 rfl .nil))) SubB.nil ?_ (fun j_4 hj4 => ?_)
   ·
    skip
    refine .block ?_
    refine .seq (.region [] mixed (by kernel_rfl) ?_)
    obtain ⟨hn5, h⟩ := need_some h
    refine .cons (.indexAddr .none sl109 ty24 (.s rfl) (.s rfl) (fun _ => hn5)) rfl ?_
    refine .cons (.load .none ty24 (.s rfl)) rfl ?_
    obtain ⟨e1, hv6, h⟩ := bnd_some h
    refine .cons (.re hv6 (.assign .none (.s rfl))) rfl ?_
    refine .nil (.then ?_)
    refine .seq (.region [] mixed (by kernel_rfl) ?_)
    refine .cons (.move .none (.s rfl)) rfl ?_
    refine .cons (.neI .none (.s rfl) (.int (by decide))) rfl ?_
    refine .nil (.then ?_)
    refine .cond (t := 12) rfl trivial (fun hb7 => ?_) (fun hb7 => ?_)
    ·
     replace h := bif_t h hb7
     refine .seq (.region [] mixed (by kernel_rfl) ?_)
     refine .cons (.move .none (.s rfl)) rfl ?_
     refine .cons (.assign .none (.s rfl)) rfl ?_
     refine .nil (.then ?_)
     refine .ret ?_
     refine .blkRet ?_
     refine .thenRet ?_
     refine .thenRet ?_
     refine .blkRet ?_
     refine .thenRet ?_
     replace h := resd_ab hK4 (some_eq h)
     replace h := hD2 _ (some_eq h)
     replace h := resb_ab hK1 (some_eq h)
     obtain rfl := some_eq h
     exact Ends.ret1 (.inl rfl) Try.results44 (ResOK.tmp rfl trivial Imp.refl)
    ·
     replace h := bif_f h hb7
     refine .skip ?_
     refine .blkNormal ?_
     exact Ends.join _ (some_eq h) (.k 5 rfl (.k 6 rfl (.k 7 rfl .nil))) SubB.nil
   ·
    have h := resd_nx hK4 hj4
    refine .region [] mixed (by kernel_rfl) ?_
    refine .cons (.addW .none (.s rfl) (.int (by decide))) rfl ?_
    refine .cons (.move .none (.s rfl)) rfl ?_
    refine .nil ?_
    exact Ends.againL (some_eq h) (.k 7 rfl (.k 5 rfl (.k 6 rfl .nil))) SubB.nil
  ·
   replace h := bif_f h hb3
   refine .exit ?_
   refine .thenExit ?_
   refine .thenExit ?_
   refine .blkExit ?_
   replace h := hD2 _ (some_eq h)
   exact Ends.join _ (some_eq h) Sub.nil SubB.nil
 ·
  have h := resb_nx hK1 hj1
  refine .seq (.region [] mixed (by kernel_rfl) ?_)
  refine .cons (.assign .none (.int (by decide))) rfl ?_
  refine .nil (.then ?_)
  refine .ret ?_
  obtain rfl := some_eq h
  exact Ends.ret1 (.inl rfl) Try.results44 (ResOK.tmp rfl trivial Imp.refl)

theorem ref_GraphError_ok {n1 : Int} {l1 : (List Link)} {r : Int}  (h : ref_GraphError n1 l1 = some r) : FSpec Try.prog 17 [rep n1, rep l1] (rep r) := by
 unfold ref_GraphError at h
 refine FSpec.intro (n := 55) fnok17 Try.func17 rfl Try.ntmps17 rfl (fun F => ?_)
 refine .seq (.region [] mixed (by kernel_rfl) ?_)
 refine .cons (.assign .none (.int (by decide))) rfl ?_
 refine .nil (.then ?_)
 refine .seq ?_
 refine .seq (.region [] mixed (by kernel_rfl) ?_)
 refine .cons (.move .none (.s rfl)) rfl ?_
 obtain ⟨r1, hv1, h⟩ := bind_some h
 refine .cons (.call .none (ref_In_ok hv1) (.cons (.s rfl) (.cons (.int (by decide)) (.cons (.int (by decide)) .nil)))) rfl ?_
 refine .cons (.not .none (.s rfl)) rfl ?_
 obtain ⟨r2, hv2, h⟩ := bind_some h
 refine .cons (.call .none (ref_When_ok hv2) (.cons (.s rfl) (.cons (.int (by decide)) .nil))) rfl ?_
 refine .cons (.move .none (.s rfl)) rfl ?_
 refine .cons (.len .none sl23 (.s rfl)) rfl ?_
 refine .cons (.gt .none (.s rfl) (.int (by decide))) rfl ?_
 obtain ⟨r3, hv3, h⟩ := bind_some h
 refine .cons (.call .none (ref_When_ok hv3) (.cons (.s rfl) (.cons (.int (by decide)) .nil))) rfl ?_
 refine .cons (.buildSlice (xs := [_, _]) .none sl109 ty24 hz24 (.cons (.s rfl) (.cons (.s rfl) .nil)) rfl (by decide)) rfl ?_
 obtain ⟨e1, hv4, h⟩ := bind_some h
 refine .cons (.call .none (ref_First_ok hv4) (.cons (.s rfl) .nil)) rfl ?_
 refine .cons (.assign .none (.s rfl)) rfl ?_
 refine .nil (.then ?_)
 refine .seq (.region [] mixed (by kernel_rfl) ?_)
 refine .cons (.move .none (.s rfl)) rfl ?_
 refine .cons (.neI .none (.s rfl) (.int (by decide))) rfl ?_
 refine .nil (.then ?_)
 refine .cond (t := 20) rfl trivial (fun hb5 => ?_) (fun hb5 => ?_)
 ·
  replace h := bif_t h hb5
  refine .seq (.region [] mixed (by kernel_rfl) ?_)
  refine .cons (.move .none (.s rfl)) rfl ?_
  refine .cons (.assign .none (.s rfl)) rfl ?_
  refine .nil (.then ?_)
  refine .ret ?_
  refine .thenRet ?_
  obtain rfl := some_eq h
  exact Ends.ret1 (.inl rfl) Try.results17 (ResOK.tmp rfl trivial Imp.refl)
 ·
  replace h := bif_f h hb5
  refine .skip ?_
  refine .then ?_
  refine .seq ?_
  refine .seq (.region [] mixed (by kernel_rfl) ?_)
  refine .cons (.move .none (.s rfl)) rfl ?_
  refine .cons (.len .none sl23 (.s rfl)) rfl ?_
  refine .cons (.move .none (.int (by decide))) rfl ?_
  refine .nil (.then ?_)
  obtain ⟨o_6, h, hK6⟩ := bindR_some h
  refine .thenJ (ι := Unit) (fun j_6 => []) (fun j_6 => []) (fun s => o_6 = Res.nx s) Sub.nil SubB.nil ?_ (fun j_6 hj6 => ?_)
  ·
   skip
   refine .block ?_
   refine .rforEL h (fun p7_ => [(24, ⟨True, rep p7_.1⟩)]) (fun p7_ => []) (.k 24 rfl .nil) SubB.nil (.k 0 rfl (.k 22 rfl (.k 23 rfl .nil))) SubB.nil (fun p7_ o_7 h hD7 => ?_)
   refine .seq (.region [] mixed (by kernel_rfl) ?_)
   refine .cons (.lt .none (.s rfl) (.s rfl)) rfl ?_
   refine .nil (.then ?_)
   refine .seq ?_
   refine .cond (t := 25) rfl trivial (fun hb8 => ?_) (fun hb8 => ?_)
   ·
    replace h := bif_t h hb8
    refine .skip ?_
    refine .then ?_
    refine .seq ?_
    obtain ⟨o_9, h, hK9⟩ := bindD_some h
    unfold ref_GraphError_L1 at h
    refine .thenJ (ι := Unit) (fun j_9 => []) (fun j_9 => []) (fun s => o_9 = Res.nx s) (.k 0 rfl (.k 22 rfl (.k 23 rfl (.k 24 rfl .nil)))) SubB.nil ?_ (fun j_9 hj9 => ?_)
    ·
     skip
     refine .block ?_
     refine .seq (.region [([], []), ([], []), ([], [7]), ([7], [7])] mixed (by kernel_rfl) ?_)
     obtain ⟨hn10, h⟩ := need_some h
     refine .consA (.indexAddr .none sl23 ty79 (.s rfl) (.s rfl) (fun _ => hn10)) rfl ?_
     obtain ⟨v1, hv11, h⟩ := bnd_some h
     refine .consA (.re hv11 (.load .none ty79 (.s rfl))) rfl ?_
     refine .consW (.alloc zo79 rfl) rfl rfl ?_
     refine .consN (.store ty79 rfl rfl (.s rfl)) rfl ?_
     refine .nil (.then ?_)
     refine .freeze (t := 7) rfl rfl SubB.nil rfl ?_
     refine .seq (.region [] mixed (by kernel_rfl) ?_)
     refine .cons (.fieldAddr .none fd79_0 hfd79_0 (.s rfl)) rfl ?_
     refine .cons (.load .none ty3 (.s rfl)) rfl ?_
     refine .cons (.move .none (.s rfl)) rfl ?_
     refine .cons (.subW .none (.s rfl) (.int (by decide))) rfl ?_
     obtain ⟨r4, hv12, h⟩ := bind_some h
     refine .cons (.call .none (ref_In_ok hv12) (.cons (.s rfl) (.cons (.int (by decide)) (.cons (.s rfl) .nil)))) rfl ?_
     refine .cons (.not .none (.s rfl)) rfl ?_
     refine .cons (.move .none (.s rfl)) rfl ?_
     refine .cons (.fieldAddr (.at rfl rfl) fd79_1 hfd79_1 (.s rfl)) rfl ?_
     refine .cons (.load (.at rfl rfl) ty3 (.tmp rfl id)) rfl ?_
     refine .cons (.move (.at rfl rfl) (.s rfl)) rfl ?_
     refine .cons (.subW (.at rfl rfl) (.tmp rfl id) (.int (by decide))) rfl ?_
     obtain ⟨r5, hv13, h⟩ := bind_some h
     refine .cons (.callIf (.at rfl rfl) fnok28 (fun hg => ref_In_ok ((fun hg => gd_some hv13 ((notT hg.2))) hg)) (.cons (.tmp rfl id) (.cons (.int (by decide)) (.cons (.tmp rfl id) .nil))) (fun h => h)) rfl ?_
     refine .cons (.not (.at rfl rfl) (.tmp rfl id)) rfl ?_
     refine .cons (.pickOr .none (.s rfl) (.tmp rfl id)) rfl ?_
     obtain ⟨r6, hv14, h⟩ := bind_some h
     refine .cons (.call .none (ref_When_ok hv14) (.cons (.s rfl) (.cons (.int (by decide)) .nil))) rfl ?_
     refine .cons (.fieldAddr .none fd79_0 hfd79_0 (.s rfl)) rfl ?_
     refine .cons (.load .none ty3 (.s rfl)) rfl ?_
     refine .cons (.fieldAddr .none fd79_1 hfd79_1 (.s rfl)) rfl ?_
     refine .cons (.load .none ty3 (.s rfl)) rfl ?_
     refine .cons (.eqI .none (.s rfl) (.s rfl)) rfl ?_
     obtain ⟨r7, hv15, h⟩ := bind_some h
     refine .cons (.call .none (ref_When_ok hv15) (.cons (.s rfl) (.cons (.int (by decide)) .nil))) rfl ?_
     refine .cons (.buildSlice (xs := [_, _]) .none sl109 ty24 hz24 (.cons (.s rfl) (.cons (.s rfl) .nil)) rfl (by decide)) rfl ?_
     obtain ⟨e2, hv16, h⟩ := bind_some h
     refine .cons (.call .none (ref_First_ok hv16) (.cons (.s rfl) .nil)) rfl ?_
     refine .cons (.assign .none (.s rfl)) rfl ?_
     refine .nil (.then ?_)
     refine .seq (.region [] mixed (by kernel_rfl) ?_)
     refine .cons (.move .none (.s rfl)) rfl ?_
     refine .cons (.neI .none (.s rfl) (.int (by decide))) rfl ?_
     refine .nil (.then ?_)
     refine .cond (t := 52) rfl trivial (fun hb17 => ?_) (fun hb17 => ?_)
     ·
      replace h := bif_t h hb17
      refine .seq (.region [] mixed (by kernel_rfl) ?_)
      refine .cons (.move .none (.s rfl)) rfl ?_
      refine .cons (.assign .none (.s rfl)) rfl ?_
      refine .nil (.then ?_)
      refine .ret ?_
      refine .blkRet ?_
      refine .thenRet ?_
      refine .thenRet ?_
      refine .blkRet ?_
      refine .thenRet ?_
      replace h := resd_ab hK9 (some_eq h)
      replace h := hD7 _ (some_eq h)
      replace h := resb_ab hK6 (some_eq h)
      obtain rfl := some_eq h
      exact Ends.ret1 (.inl rfl) Try.results17 (ResOK.tmp rfl trivial Imp.refl)
     ·
      replace h := bif_f h hb17
      refine .skip ?_
      refine .blkNormal ?_
      exact Ends.join _ (some_eq h) (.k 0 rfl (.k 22 rfl (.k 23 rfl (.k 24 rfl .nil)))) SubB.nil
    ·
     have h := resd_nx hK9 hj9
     refine .region [] mixed (by kernel_rfl) ?_
     refine .cons (.addW .none (.s rfl) (.int (by decide))) rfl ?_
     refine .cons (.move .none (.s rfl)) rfl ?_
     refine .nil ?_
     exact Ends.againL (some_eq h) (.k 24 rfl (.k 0 rfl (.k 22 rfl (.k 23 rfl .nil)))) SubB.nil
   ·
    replace h := bif_f h hb8
    refine .exit ?_
    refine .thenExit ?_
    refine .thenExit ?_
    refine .blkExit ?_
    replace h := hD7 _ (some_eq h)
    exact Ends.join _ (some_eq h) Sub.nil SubB.nil
  ·
   have h := resb_nx hK6 hj6
   refine .seq (.region [] mixed (by kernel_rfl) ?_)
   refine .cons (.assign .none (.int (by decide))) rfl ?_
   refine .nil (.then ?_)
   refine .ret ?_
   obtain rfl := some_eq h
   exact Ends.ret1 (.inl rfl) Try.results17 (ResOK.tmp rfl trivial Imp.refl)

theorem slices_IndexFunc_Point_ok {s1 : (List Point)} {f1 : (Point → Option Bool)} {r : Int}  (h : slices_IndexFunc_Point s1 f1 = some r) : FSpec Try.prog 113 [rep s1, fn1 Try.prog (rep (α := Bool)) f1] (rep r) := by
 unfold slices_IndexFunc_Point at h
 refine FSpec.intro (n := 19) fnok113 Try.func113 rfl Try.ntmps113 rfl (fun F => ?_)
 refine .seq (.region [] mixed (by kernel_rfl) ?_)
 refine .cons (.assign .none (.int (by decide))) rfl ?_
 refine .nil (.then ?_)
 refine .seq ?_
 refine .seq (.region [] mixed (by kernel_rfl) ?_)
 refine .cons (.move .none (.s rfl)) rfl ?_
 refine .cons (.len .none sl71 (.s rfl)) rfl ?_
 refine .cons (.move .none (.int (by decide))) rfl ?_
 refine .nil (.then ?_)
 obtain ⟨o_1, h, hK1⟩ := bindR_some h
 refine .thenJ (ι := Unit) (fun j_1 => []) (fun j_1 => []) (fun s => o_1 = Res.nx s) Sub.nil SubB.nil ?_ (fun j_1 hj1 => ?_)
 ·
  skip
  refine .block ?_
  refine .rforEL h (fun p2_ => [(8, ⟨True, rep p2_.1⟩)]) (fun p2_ => []) (.k 8 rfl .nil) SubB.nil (.k 0 rfl (.k 1 rfl (.k 7 rfl .nil))) SubB.nil (fun p2_ o_2 h hD2 => ?_)
  refine .seq (.region [] mixed (by kernel_rfl) ?_)
  refine .cons (.lt .none (.s rfl) (.s rfl)) rfl ?_
  refine .nil (.then ?_)
  refine .seq ?_
  refine .cond (t := 9) rfl trivial (fun hb3 => ?_) (fun hb3 => ?_)
  ·
   replace h := bif_t h hb3
   refine .skip ?_
   refine .then ?_
   refine .seq ?_
   obtain ⟨o_4, h, hK4⟩ := bindD_some h
   unfold slices_IndexFunc_Point_L1 at h
   refine .thenJ (ι := Unit) (fun j_4 => []) (fun j_4 => []) (fun s => o_4 = Res.nx s) (.k 0 rfl (.k 1 rfl (.k 7 rfl (.k 8 rfl .nil)))) SubB.nil ?_ (fun j_4 hj4 => ?_)
   ·
    skip
    refine .block ?_
    refine .seq (.region [] mixed (by kernel_rfl) ?_)
    refine .cons (.move .none (.s rfl)) rfl ?_
    refine .cons (.assign .none (.s rfl)) rfl ?_
    refine .nil (.then ?_)
    refine .seq (.region [] mixed (by kernel_rfl) ?_)
    refine .cons (.move .none (.s rfl)) rfl ?_
    refine .cons (.move .none (.s rfl)) rfl ?_
    refine .cons (.move .none (.s rfl)) rfl ?_
    obtain ⟨hn5, h⟩ := need_some h
    refine .cons (.indexAddr .none sl71 ty81 (.s rfl) (.s rfl) (fun _ => hn5)) rfl ?_
    refine .cons (.load .none ty81 (.s rfl)) rfl ?_
    obtain ⟨r1, hv6, h⟩ := bind_some h
    refine .cons (.callV (gx s1 p2_.1, r1) .none (.s rfl) (fun _ => hv6) (.cons (.s rfl) .nil)) rfl ?_
    refine .nil (.then ?_)
    refine .cond (t := 16) rfl trivial (fun hb7 => ?_) (fun hb7 => ?_)
    ·
     replace h := bif_t h hb7
     refine .seq (.region [] mixed (by kernel_rfl) ?_)
     refine .cons (.move .none (.s rfl)) rfl ?_
     refine .cons (.assign .none (.s rfl)) rfl ?_
     refine .nil (.then ?_)
     refine .ret ?_
     refine .blkRet ?_
     refine .thenRet ?_
     refine .thenRet ?_
     refine .blkRet ?_
     refine .thenRet ?_
     replace h := resd_ab hK4 (some_eq h)
     replace h := hD2 _ (some_eq h)
     replace h := resb_ab hK1 (some_eq h)
     obtain rfl := some_eq h
     exact Ends.ret1 (.inl rfl) Try.results113 (ResOK.tmp rfl trivial Imp.refl)
    ·
     replace h := bif_f h hb7
     refine .skip ?_
     refine .blkNormal ?_
     exact Ends.join _ (some_eq h) (.k 0 rfl (.k 1 rfl (.k 7 rfl (.k 8 rfl .nil)))) SubB.nil
   ·
    have h := resd_nx hK4 hj4
    refine .region [] mixed (by kernel_rfl) ?_
    refine .cons (.addW .none (.s rfl) (.int (by decide))) rfl ?_
    refine .cons (.move .none (.s rfl)) rfl ?_
    refine .nil ?_
    exact Ends.againL (some_eq h) (.k 8 rfl (.k 0 rfl (.k 1 rfl (.k 7 rfl .nil)))) SubB.nil
  ·
   replace h := bif_f h hb3
   refine .exit ?_
   refine .thenExit ?_
   refine .thenExit ?_
   refine .blkExit ?_
   replace h := hD2 _ (some_eq h)
   exact Ends.join _ (some_eq h) Sub.nil SubB.nil
 ·
  have h := resb_nx hK1 hj1
  refine .seq (.region [] mixed (by kernel_rfl) ?_)
  refine .cons (.assign .none (.int (by decide))) rfl ?_
  refine .nil (.then ?_)
  refine .ret ?_
  obtain rfl := some_eq h
  exact Ends.ret1 (.inl rfl) Try.results113 (ResOK.tmp rfl trivial Imp.refl)

theorem slices_ContainsFunc_Point_ok {s1 : (List Point)} {f1 : (Point → Option Bool)} {r : Bool}  (h : slices_ContainsFunc_Point s1 f1 = some r) : FSpec Try.prog 92 [rep s1, fn1 Try.prog (rep (α := Bool)) f1] (rep r) := by
 unfold slices_ContainsFunc_Point at h
 refine FSpec.intro (n := 9) fnok92 Try.func92 rfl Try.ntmps92 rfl (fun F => ?_)
 refine .seq (.region [] mixed (by kernel_rfl) ?_)
 refine .cons (.assign .none .bool) rfl ?_
 refine .nil (.then ?_)
 refine .seq (.region [] mixed (by kernel_rfl) ?_)
 refine .cons (.move .none (.s rfl)) rfl ?_
 refine .cons (.move .none (.s rfl)) rfl ?_
 obtain ⟨r1, hv1, h⟩ := bind_some h
 refine .cons (.call .none (slices_IndexFunc_Point_ok hv1) (.cons (.s rfl) (.cons (.s rfl) .nil))) rfl ?_
 refine .cons (.ge .none (.s rfl) (.int (by decide))) rfl ?_
 refine .cons (.assign .none (.s rfl)) rfl ?_
 refine .nil (.then ?_)
 refine .ret ?_
 obtain rfl := some_eq h
 exact Ends.ret1 (.inl rfl) Try.results92 (ResOK.tmp rfl trivial Imp.refl)

theorem ref_DrawError_1_ok {p1 : Point} {r : Bool}  (h : ref_DrawError_1 p1 = some r) : FSpec Try.prog 93 [rep p1] (rep r) := by
 unfold ref_DrawError_1 at h
 refine FSpec.intro (n := 13) fnok93 Try.func93 rfl Try.ntmps93 rfl (fun F => ?_)
 refine .seq (.region [] mixed (by kernel_rfl) ?_)
 refine .cons (.box .none (.s rfl)) rfl ?_
 refine .cons (.assign .none .bool) rfl ?_
 refine .nil (.then ?_)
 refine .seq (.region [] mixed (by kernel_rfl) ?_)
 refine .cons (.fieldAddr .none fd81_0 hfd81_0 (.s rfl)) rfl ?_
 refine .cons (.load .none ty3 (.s rfl)) rfl ?_
 obtain ⟨r1, hv1, h⟩ := bind_some h
 refine .cons (.call .none (ref_In_ok hv1) (.cons (.s rfl) (.cons (.int (by decide)) (.cons (.int (by decide)) .nil)))) rfl ?_
 refine .cons (.not .none (.s rfl)) rfl ?_
 refine .cons (.move .none (.s rfl)) rfl ?_
 refine .cons (.fieldAddr (.at rfl rfl) fd81_1 hfd81_1 (.s rfl)) rfl ?_
 refine .cons (.load (.at rfl rfl) ty3 (.tmp rfl id)) rfl ?_
 obtain ⟨r2, hv2, h⟩ := bind_some h
 refine .cons (.callIf (.at rfl rfl) fnok28 (fun hg => ref_In_ok ((fun hg => gd_some hv2 ((notT hg.2))) hg)) (.cons (.tmp rfl id) (.cons (.int (by decide)) (.cons (.int (by decide)) .nil))) (fun h => h)) rfl ?_
 refine .cons (.not (.at rfl rfl) (.tmp rfl id)) rfl ?_
 refine .cons (.pickOr .none (.s rfl) (.tmp rfl id)) rfl ?_
 refine .cons (.assign .none (.s rfl)) rfl ?_
 refine .nil (.then ?_)
 refine .ret ?_
 obtain rfl := some_eq h
 exact Ends.ret1 (.inl rfl) Try.results93 (ResOK.tmp rfl trivial Imp.refl)

theorem ref_DrawError_ok {sizes1 : (List Point)} {l1 : (List Link)} {gapx1 : Int} {gapy1 : Int} {r : Int}  (h : ref_DrawError sizes1 l1 gapx1 gapy1 = some r) : FSpec Try.prog 48 [rep sizes1, rep l1, rep gapx1, rep gapy1] (rep r) := by
 unfold ref_DrawError at h
 refine FSpec.intro (n := 35) fnok48 Try.func48 rfl Try.ntmps48 rfl (fun F => ?_)
 refine .seq (.region [] mixed (by kernel_rfl) ?_)
 refine .cons (.assign .none (.int (by decide))) rfl ?_
 refine .nil (.then ?_)
 refine .seq ?_
 refine .seq (.region [] mixed (by kernel_rfl) ?_)
 refine .cons (.move .none (.s rfl)) rfl ?_
 refine .cons (.len .none sl71 (.s rfl)) rfl ?_
 refine .cons (.eqI .none (.s rfl) (.int (by decide))) rfl ?_
 refine .nil (.then ?_)
 refine .cond (t := 13) rfl trivial (fun hb1 => ?_) (fun hb1 => ?_)
 ·
  replace h := bif_t h hb1
  refine .seq (.region [] mixed (by kernel_rfl) ?_)
  refine .cons (.assign .none (.int (by decide))) rfl ?_
  refine .nil (.then ?_)
  refine .ret ?_
  refine .thenRet ?_
  obtain rfl := some_eq h
  exact Ends.ret1 (.inl rfl) Try.results48 (ResOK.tmp rfl trivial Imp.refl)
 ·
  replace h := bif_f h hb1
  refine .skip ?_
  refine .then ?_
  refine .seq ?_
  refine .seq (.region [] mixed (by kernel_rfl) ?_)
  refine .cons (.move .none (.s rfl)) rfl ?_
  refine .cons (.len .none sl71 (.s rfl)) rfl ?_
  refine .cons (.move .none (.s rfl)) rfl ?_
  obtain ⟨e1, hv2, h⟩ := bind_some h
  refine .cons (.call .none (ref_GraphError_ok hv2) (.cons (.s rfl) (.cons (.s rfl) .nil))) rfl ?_
  refine .cons (.assign .none (.s rfl)) rfl ?_
  refine .nil (.then ?_)
  refine .seq (.region [] mixed (by kernel_rfl) ?_)
  refine .cons (.move .none (.s rfl)) rfl ?_
  refine .cons (.neI .none (.s rfl) (.int (by decide))) rfl ?_
  refine .nil (.then ?_)
  refine .cond (t := 19) rfl trivial (fun hb3 => ?_) (fun hb3 => ?_)
  ·
   replace h := bif_t h hb3
   refine .seq (.region [] mixed (by kernel_rfl) ?_)
   refine .cons (.move .none (.s rfl)) rfl ?_
   refine .cons (.assign .none (.s rfl)) rfl ?_
   refine .nil (.then ?_)
   refine .ret ?_
   refine .thenRet ?_
   obtain rfl := some_eq h
   exact Ends.ret1 (.inl rfl) Try.results48 (ResOK.tmp rfl trivial Imp.refl)
  ·
   replace h := bif_f h hb3
   refine .skip ?_
   refine .then ?_
   refine .seq (.region [] mixed (by kernel_rfl) ?_)
   refine .cons (.move .none (.s rfl)) rfl ?_
   obtain ⟨bad1, hv4, h⟩ := bind_some h
   refine .cons (.call .none (slices_ContainsFunc_Point_ok hv4) (.cons (.s rfl) (.cons (Opd.func (ι := Point × Bool) (pre := fun i => ref_DrawError_1 i.1 = some i.2) (Ss := fun i => [rep i.1]) (S := fun i => rep i.2) fnok93 (fun i h => ref_DrawError_1_ok h)) .nil))) rfl ?_
   refine .cons (.assign .none (.s rfl)) rfl ?_
   refine .nil (.then ?_)
   refine .seq (.region [] mixed (by kernel_rfl) ?_)
   refine .cons (.move .none (.s rfl)) rfl ?_
   refine .cons (.move .none (.s rfl)) rfl ?_
   refine .cons (.move (.at rfl rfl) (.s rfl)) rfl ?_
   obtain ⟨r1, hv5, h⟩ := bind_some h
   refine .cons (.callIf (.at rfl rfl) fnok28 (fun hg => ref_In_ok ((fun hg => gd_some hv5 ((notT hg.2))) hg)) (.cons (.tmp rfl id) (.cons (.int (by decide)) (.cons (.int (by decide)) .nil))) (fun h => h)) rfl ?_
   refine .cons (.not (.at rfl rfl) (.tmp rfl id)) rfl ?_
   refine .cons (.pickOr .none (.s rfl) (.tmp rfl id)) rfl ?_
   refine .cons (.move .none (.s rfl)) rfl ?_
   refine .cons (.move (.at rfl rfl) (.s rfl)) rfl ?_
   obtain ⟨r2, hv6, h⟩ := bind_some h
   refine .cons (.callIf (.at rfl rfl) fnok28 (fun hg => ref_In_ok ((fun hg => gd_some hv6 ((notT hg.2))) hg)) (.cons (.tmp rfl id) (.cons (.int (by decide)) (.cons (.int (by decide)) .nil))) (fun h => h)) rfl ?_
   refine .cons (.not (.at rfl rfl) (.tmp rfl id)) rfl ?_
   refine .cons (.pickOr .none (.s rfl) (.tmp rfl id)) rfl ?_
   obtain ⟨r3, hv7, h⟩ := bind_some h
   refine .cons (.call .none (ref_When_ok hv7) (.cons (.s rfl) (.cons (.int (by decide)) .nil))) rfl ?_
   refine .cons (.assign .none (.s rfl)) rfl ?_
   refine .nil (.then ?_)
   refine .ret ?_
   obtain rfl := some_eq h
   exact Ends.ret1 (.inl rfl) Try.results48 (ResOK.tmp rfl trivial Imp.refl)

theorem law_layers_ok  {r : Bool}  (h : law_layers  = some r) : FSpec Try.prog 12 [] (rep r) := by
 unfold law_layers at h
 refine FSpec.intro (n := 7) fnok12 Try.func12 rfl Try.ntmps12 rfl (fun F => ?_)
 refine .seq (.region [] mixed (by kernel_rfl) ?_)
 refine .cons (.assign .none .bool) rfl ?_
 refine .nil (.then ?_)
 refine .seq (.region [] mixed (by kernel_rfl) ?_)
 obtain ⟨r1, hv1, h⟩ := bind_some h
 refine .cons (.call .none (layer_Check_ok hv1) (.cons (.int (by decide)) (.cons (.const (x := ([] : (List Link))) (fun M w => ⟨_, ⟨none, 0, rfl, Nat.le_refl _, by decide, rfl⟩, rfl⟩)) .nil))) rfl ?_
 refine .cons (.eqI .none (.s rfl) (.int (by decide))) rfl ?_
 refine .cons (.move .none (.s rfl)) rfl ?_
 obtain ⟨r2, hv2, h⟩ := bind_some h
 refine .cons (.callIf (.at rfl rfl) fnok19 (fun hg => layer_Check_ok ((fun hg => gd_some hv2 (hg.2)) hg)) (.cons (.int (by decide)) (.cons (.const (x := ([] : (List Link))) (fun M w => ⟨_, ⟨none, 0, rfl, Nat.le_refl _, by decide, rfl⟩, rfl⟩)) .nil)) (fun h => h)) rfl ?_
 refine .cons (.eqI (.at rfl rfl) (.tmp rfl id) (.int (by decide))) rfl ?_
 refine .cons (.pickAnd .none (.s rfl) (.tmp rfl id)) rfl ?_
 refine .cons (.assign .none (.s rfl)) rfl ?_
 refine .nil (.then ?_)
 refine .ret ?_
 obtain rfl := some_eq h
 exact Ends.ret1 (.inl rfl) Try.results12 (ResOK.tmp rfl trivial Imp.refl)

theorem slices_Index_int_ok {s1 : (List Int)} {v1 : Int} {r : Int}  (h : slices_Index_int s1 v1 = some r) : FSpec Try.prog 31 [rep s1, rep v1] (rep r) := by
 unfold slices_Index_int at h
 refine FSpec.intro (n := 19) fnok31 Try.func31 rfl Try.ntmps31 rfl (fun F => ?_)
 refine .seq (.region [] mixed (by kernel_rfl) ?_)
 refine .cons (.assign .none (.int (by decide))) rfl ?_
 refine .nil (.then ?_)
 refine .seq ?_
 refine .seq (.region [] mixed (by kernel_rfl) ?_)
 refine .cons (.move .none (.s rfl)) rfl ?_
 refine .cons (.len .none sl32 (.s rfl)) rfl ?_
 refine .cons (.move .none (.int (by decide))) rfl ?_
 refine .nil (.then ?_)
 obtain ⟨o_1, h, hK1⟩ := bindR_some h
 refine .thenJ (ι := Unit) (fun j_1 => []) (fun j_1 => []) (fun s => o_1 = Res.nx s) Sub.nil SubB.nil ?_ (fun j_1 hj1 => ?_)
 ·
  skip
  refine .block ?_
  refine .rforEL h (fun p2_ => [(8, ⟨True, rep p2_.1⟩)]) (fun p2_ => []) (.k 8 rfl .nil) SubB.nil (.k 0 rfl (.k 1 rfl (.k 7 rfl .nil))) SubB.nil (fun p2_ o_2 h hD2 => ?_)
  refine .seq (.region [] mixed (by kernel_rfl) ?_)
  refine .cons (.lt .none (.s rfl) (.s rfl)) rfl ?_
  refine .nil (.then ?_)
  refine .seq ?_
  refine .cond (t := 9) rfl trivial (fun hb3 => ?_) (fun hb3 => ?_)
  ·
   replace h := bif_t h hb3
   refine .skip ?_
   refine .then ?_
   refine .seq ?_
   obtain ⟨o_4, h, hK4⟩ := bindD_some h
   unfold slices_Index_int_L1 at h
   refine .thenJ (ι := Unit) (fun j_4 => []) (fun j_4 => []) (fun s => o_4 = Res.nx s) (.k 0 rfl (.k 1 rfl (.k 7 rfl (.k 8 rfl .nil)))) SubB.nil ?_ (fun j_4 hj4 => ?_)
   ·
    skip
    refine .block ?_
    refine .seq (.region [] mixed (by kernel_rfl) ?_)
    refine .cons (.move .none (.s rfl)) rfl ?_
    refine .cons (.assign .none (.s rfl)) rfl ?_
    refine .nil (.then ?_)
    refine .seq (.region [] mixed (by kernel_rfl) ?_)
    refine .cons (.move .none (.s rfl)) rfl ?_
    refine .cons (.move .none (.s rfl)) rfl ?_
    refine .cons (.move .none (.s rfl)) rfl ?_
    obtain ⟨hn5, h⟩ := need_some h
    refine .cons (.indexAddr .none sl32 ty3 (.s rfl) (.s rfl) (fun _ => hn5)) rfl ?_
    refine .cons (.load .none ty3 (.s rfl)) rfl ?_
    refine .cons (.eqI .none (.s rfl) (.s rfl)) rfl ?_
    refine .nil (.then ?_)
    refine .cond (t := 16) rfl trivial (fun hb6 => ?_) (fun hb6 => ?_)
    ·
     replace h := bif_t h hb6
     refine .seq (.region [] mixed (by kernel_rfl) ?_)
     refine .cons (.move .none (.s rfl)) rfl ?_
     refine .cons (.assign .none (.s rfl)) rfl ?_
     refine .nil (.then ?_)
     refine .ret ?_
     refine .blkRet ?_
     refine .thenRet ?_
     refine .thenRet ?_
     refine .blkRet ?_
     refine .thenRet ?_
     replace h := resd_ab hK4 (some_eq h)
     replace h := hD2 _ (some_eq h)
     replace h := resb_ab hK1 (some_eq h)
     obtain rfl := some_eq h
     exact Ends.ret1 (.inl rfl) Try.results31 (ResOK.tmp rfl trivial Imp.refl)
    ·
     replace h := bif_f h hb6
     refine .skip ?_
     refine .blkNormal ?_
     exact Ends.join _ (some_eq h) (.k 0 rfl (.k 1 rfl (.k 7 rfl (.k 8 rfl .nil)))) SubB.nil
   ·
    have h := resd_nx hK4 hj4
    refine .region [] mixed (by kernel_rfl) ?_
    refine .cons (.addW .none (.s rfl) (.int (by decide))) rfl ?_
    refine .cons (.move .none (.s rfl)) rfl ?_
    refine .nil ?_
    exact Ends.againL (some_eq h) (.k 8 rfl (.k 0 rfl (.k 1 rfl (.k 7 rfl .nil)))) SubB.nil
  ·
   replace h := bif_f h hb3
   refine .exit ?_
   refine .thenExit ?_
   refine .thenExit ?_
   refine .blkExit ?_
   replace h := hD2 _ (some_eq h)
   exact Ends.join _ (some_eq h) Sub.nil SubB.nil
 ·
  have h := resb_nx hK1 hj1
  refine .seq (.region [] mixed (by kernel_rfl) ?_)
  refine .cons (.assign .none (.int (by decide))) rfl ?_
  refine .nil (.then ?_)
  refine .ret ?_
  obtain rfl := some_eq h
  exact Ends.ret1 (.inl rfl) Try.results31 (ResOK.tmp rfl trivial Imp.refl)

theorem ref_TurnedOf_1_okS {self : (Int × (List Int) × (List Link) × (List Int)) → Option ((List Int) × (List Int))} (hself : ∀ {m43 : Nat} {s44 : Value} {m45 : Nat} {m46 : Nat} {s47 : Value} (x : (Int × (List Int) × (List Link) × (List Int))) (r : ((List Int) × (List Int))), self x = some r → FSpecO Try.prog 66 [rep x.1, isV (ptr m43 0), ref x.2.2.1, isV (ptr m45 0), isV (ptr m46 0)] [(ptr m43 0, cont 32 (⟨s44⟩ : Raw)), (s44, rowV 3 x.2.1), (ptr m45 0, contS 100 (cloV 66 [isV (ptr m43 0), ref x.2.2.1, isV (ptr m45 0), isV (ptr m46 0)])), (ptr m46 0, cont 32 (⟨s47⟩ : Raw)), (s47, rowV 3 x.2.2.2)] (anyV) [some (deep (fun z0 => cont 32 (⟨z0⟩ : Raw)) (rowV 3 r.1)), none, some (contS 100 (cloV 66 [isV (ptr m43 0), ref x.2.2.1, isV (ptr m45 0), isV (ptr m46 0)])), some (deep (fun z0 => cont 32 (⟨z0⟩ : Raw)) (rowV 3 r.2)), none]) {m43 : Nat} {s44 : Value} {m45 : Nat} {m46 : Nat} {s47 : Value} {x : (Int × (List Int) × (List Link) × (List Int))} {r : ((List Int) × (List Int))} (h : ref_TurnedOf_1_body self x = some r) : FSpecO Try.prog 66 [rep x.1, isV (ptr m43 0), ref x.2.2.1, isV (ptr m45 0), isV (ptr m46 0)] [(ptr m43 0, cont 32 (⟨s44⟩ : Raw)), (s44, rowV 3 x.2.1), (ptr m45 0, contS 100 (cloV 66 [isV (ptr m43 0), ref x.2.2.1, isV (ptr m45 0), isV (ptr m46 0)])), (ptr m46 0, cont 32 (⟨s47⟩ : Raw)), (s47, rowV 3 x.2.2.2)] (anyV) [some (deep (fun z0 => cont 32 (⟨z0⟩ : Raw)) (rowV 3 r.1)), none, some (contS 100 (cloV 66 [isV (ptr m43 0), ref x.2.2.1, isV (ptr m45 0), isV (ptr m46 0)])), some (deep (fun z0 => cont 32 (⟨z0⟩ : Raw)) (rowV 3 r.2)), none] := by
 unfold ref_TurnedOf_1_body at h
 refine FSpecO.intro (n := 43) fnok66 Try.func66 rfl Try.ntmps66 rfl (fun F => ?_)
 refine .seq (.region [([43], []), ([], []), ([44], []), ([44], [44])] mixed (by kernel_rfl) ?_)
 refine .consA (.loadAt0 (k := 43) .none tr32 rfl (.s rfl)) rfl ?_
 refine .consA (.move .none (.s rfl)) rfl ?_
 obtain ⟨hn1, h⟩ := need_some h
 refine .consA (.indexAddrO (k := 44) .none sl32 ty3 (.s rfl) rfl (.s rfl) (fun _ => hn1)) rfl ?_
 refine .consN (.storeElem0 (k := 44) ty3 (.s rfl) rfl (.int (by decide)) hn1) rfl ?_
 refine .nil (.then ?_)
 obtain ⟨c1, hv2, h⟩ := bnd_some h
 refine .reB (t := 44) rfl (congrArg (fun y => CPred.at s44 (rowV 3 y)) hv2) ?_
 refine .seq ?_
 refine .seq (.region [] mixed (by kernel_rfl) ?_)
 refine .cons (.load .none ty23 (.s rfl)) rfl ?_
 refine .cons (.len .none sl23 (.s rfl)) rfl ?_
 refine .cons (.move .none (.int (by decide))) rfl ?_
 refine .nil (.then ?_)
 obtain ⟨j_3, h, hK3⟩ := bind_some h
 refine .thenJ (ι := ((List Int) × (List Int))) (fun j_3 => []) (fun j_3 => [(43, some (CPred.at (ptr m43 0) (deep (fun z0 => cont 32 (⟨z0⟩ : Raw)) (rowV 3 j_3.1)))), (46, some (CPred.at (ptr m46 0) (deep (fun z0 => cont 32 (⟨z0⟩ : Raw)) (rowV 3 j_3.2))))]) (fun s => j_3 = s) (.k 0 rfl (.k 1 rfl (.k 3 rfl (.k 4 rfl .nil)))) (.k 45 rfl .nil) ?_ (fun j_3' hj3 => ?_)
 ·
  skip
  refine .block ?_
  refine .close (k := 43) (g := 44) (fun z => cont 32 (⟨z⟩ : Raw)) rfl rfl rfl ?_
  refine .close (k := 46) (g := 47) (fun z => cont 32 (⟨z⟩ : Raw)) rfl rfl rfl ?_
  refine .rforL h (fun p4_ => [(13, ⟨True, rep p4_.1⟩)]) (fun p4_ => [(43, some (CPred.at (ptr m43 0) (deep (fun z0 => cont 32 (⟨z0⟩ : Raw)) (rowV 3 p4_.2.1)))), (46, some (CPred.at (ptr m46 0) (deep (fun z0 => cont 32 (⟨z0⟩ : Raw)) (rowV 3 p4_.2.2))))]) (.k 13 rfl .nil) (.k 43 rfl (.k 46 rfl .nil)) (.k 0 rfl (.k 1 rfl (.k 2 rfl (.k 3 rfl (.k 4 rfl (.k 11 rfl (.k 12 rfl .nil))))))) (.k 45 rfl .nil) (fun p4_ o_4 h hD4 => ?_)
  refine .open (k := 43) (g := 5001) rfl rfl (fun s5001 => ?_)
  refine .open (k := 46) (g := 5002) rfl rfl (fun s5002 => ?_)
  refine .seq (.region [] mixed (by kernel_rfl) ?_)
  refine .cons (.lt .none (.s rfl) (.s rfl)) rfl ?_
  refine .nil (.then ?_)
  refine .seq ?_
  refine .cond (t := 14) rfl trivial (fun hb5 => ?_) (fun hb5 => ?_)
  ·
   replace h := bif_t h hb5
   refine .skip ?_
   refine .then ?_
   refine .seq ?_
   obtain ⟨j_6, h, hK6⟩ := bind_some h
   unfold ref_TurnedOf_1_L1 at h
   refine .thenJ (ι := ((List Int) × (List Int))) (fun j_6 => []) (fun j_6 => [(43, some (CPred.at (ptr m43 0) (deep (fun z0 => cont 32 (⟨z0⟩ : Raw)) (rowV 3 j_6.1)))), (46, some (CPred.at (ptr m46 0) (deep (fun z0 => cont 32 (⟨z0⟩ : Raw)) (rowV 3 j_6.2))))]) (fun s => j_6 = s) (.k 0 rfl (.k 1 rfl (.k 2 rfl (.k 3 rfl (.k 4 rfl (.k 11 rfl (.k 12 rfl (.k 13 rfl .nil)))))))) (.k 45 rfl .nil) ?_ (fun j_6' hj6 => ?_)
   ·
    skip
    refine .block ?_
    refine .seq (.region [([], []), ([], []), ([], []), ([], [7]), ([], []), ([7], [7])] mixed (by kernel_rfl) ?_)
    refine .consA (.move .none (.s rfl)) rfl ?_
    obtain ⟨hn7, h⟩ := need_some h
    refine .consA (.indexAddr .none sl23 ty79 (.s rfl) (.s rfl) (fun _ => hn7)) rfl ?_
    obtain ⟨v2, hv8, h⟩ := bnd_some h
    refine .consA (.re hv8 (.load .none ty79 (.s rfl))) rfl ?_
    refine .consW (.alloc zo79 rfl) rfl rfl ?_
    refine .consA (.assign .none (.s rfl)) rfl ?_
    refine .consN (.store ty79 rfl rfl (.s rfl)) rfl ?_
    refine .nil (.then ?_)
    refine .freeze (t := 7) rfl rfl (.k 43 rfl (.k 45 rfl (.k 46 rfl (.k 5001 rfl (.k 5002 rfl .nil))))) rfl ?_
    refine .seq ?_
    refine .seq (.region [] mixed (by kernel_rfl) ?_)
    refine .cons (.fieldAddr .none fd79_0 hfd79_0 (.s rfl)) rfl ?_
    refine .cons (.load .none ty3 (.s rfl)) rfl ?_
    refine .cons (.move .none (.s rfl)) rfl ?_
    refine .cons (.neI .none (.s rfl) (.s rfl)) rfl ?_
    refine .nil (.then ?_)
    refine .cond (t := 21) rfl trivial (fun hb9 => ?_) (fun hb9 => ?_)
    ·
     replace h := bif_t h hb9
     refine .exit ?_
     refine .thenExit ?_
     refine .blkExit ?_
     refine .close (k := 43) (g := 5001) (fun z => cont 32 (⟨z⟩ : Raw)) rfl rfl rfl ?_
     refine .close (k := 46) (g := 5002) (fun z => cont 32 (⟨z⟩ : Raw)) rfl rfl rfl ?_
     exact Ends.join _ (some_eq h) (.k 0 rfl (.k 1 rfl (.k 2 rfl (.k 3 rfl (.k 4 rfl (.k 11 rfl (.k 12 rfl (.k 13 rfl .nil)))))))) (.k 43 rfl (.k 46 rfl (.k 45 rfl .nil)))
    ·
     replace h := bif_f h hb9
     refine .skip ?_
     refine .then ?_
     refine .seq (.region [([43], []), ([], []), ([], []), ([5001], []), ([5001], [])] mixed (by kernel_rfl) ?_)
     refine .consA (.loadAt0 (k := 43) .none tr32 rfl (.s rfl)) rfl ?_
     refine .consA (.fieldAddr .none fd79_1 hfd79_1 (.s rfl)) rfl ?_
     refine .consA (.load .none ty3 (.s rfl)) rfl ?_
     obtain ⟨hn10, h⟩ := need_some h
     refine .consA (.indexAddrO (k := 5001) .none sl32 ty3 (.s rfl) rfl (.s rfl) (fun _ => hn10)) rfl ?_
     obtain ⟨v3, hv11, h⟩ := bnd_some h
     refine .consA (.re hv11 (.loadElem0 (k := 5001) .none ty3 (.s rfl) rfl (fun _ => hn10))) rfl ?_
     refine .nil (.then ?_)
     refine .block ?_
     refine .seq (.region [] mixed (by kernel_rfl) ?_)
     refine .cons (.eqI .none (.s rfl) (.int (by decide))) rfl ?_
     refine .cons (.assign .none (.s rfl)) rfl ?_
     refine .nil (.then ?_)
     refine .cond (t := 27) rfl trivial (fun hb12 => ?_) (fun hb12 => ?_)
     ·
      replace h := bif_t h hb12
      refine .region [([45], []), ([], []), ([], []), ([43, 5001, 45, 46, 5002], [43, 5001, 45, 46, 5002])] mixed (by kernel_rfl) ?_
      refine .consA (.loadS (k := 45) .none tr100 rfl (.s rfl) cloV_one) rfl ?_
      refine .consA (.fieldAddr .none fd79_1 hfd79_1 (.s rfl)) rfl ?_
      refine .consA (.load .none ty3 (.s rfl)) rfl ?_
      obtain ⟨r1, hv13, h⟩ := bind_some h
      refine .consW (.callClo [43, 5001, 45, 46, 5002] (Ss := [rep v2.To]) (Cs := [isV (ptr m43 0), ref x.2.2.1, isV (ptr m45 0), isV (ptr m46 0)]) (.s rfl) (hself _ _ hv13) (.cons (.s rfl) .nil) (.cons (k := 43) rfl (.cons (k := 5001) rfl (.cons (k := 45) rfl (.cons (k := 46) rfl (.cons (k := 5002) rfl .nil))))) rfl (by decide) (by decide) (by intro d h; cases h; decide)) rfl rfl ?_
      refine .nil ?_
      refine .blkNormal ?_
      refine .blkNormal ?_
      exact Ends.join _ (some_eq h) (.k 0 rfl (.k 1 rfl (.k 2 rfl (.k 3 rfl (.k 4 rfl (.k 11 rfl (.k 12 rfl (.k 13 rfl .nil)))))))) (.k 43 rfl (.k 46 rfl (.k 45 rfl .nil)))
     ·
      replace h := bif_f h hb12
      refine .seq (.region [] mixed (by kernel_rfl) ?_)
      refine .cons (.eqI .none (.s rfl) (.int (by decide))) rfl ?_
      refine .cons (.assign .none (.s rfl)) rfl ?_
      refine .nil (.then ?_)
      refine .cond (t := 33) rfl trivial (fun hb14 => ?_) (fun hb14 => ?_)
      ·
       replace h := bif_t h hb14
       refine .region [([46], []), ([], []), ([], []), ([5002], [38, 5002]), ([46, 38], [46, 38])] mixed (by kernel_rfl) ?_
       refine .consA (.loadAt0 (k := 46) .none tr32 rfl (.s rfl)) rfl ?_
       refine .consA (.move .none (.s rfl)) rfl ?_
       refine .consA (.buildSlice (xs := [_]) .none sl32 ty3 hz3 (.cons (.s rfl) .nil) rfl (by decide)) rfl ?_
       obtain ⟨hn15, h⟩ := need_some h
       refine .consW (.append (k := 5002) rk32 rfl (.told (.s rfl) rfl) (.s rfl) hn15) rfl rfl ?_
       refine .consN (.storeRow (k := 46) (t := 38) (set := fun _ z => z) ty32 rfl (.s rfl) .self rfl rfl) rfl ?_
       refine .nil ?_
       refine .blkNormal ?_
       refine .blkNormal ?_
       refine .close (k := 43) (g := 5001) (fun z => cont 32 (⟨z⟩ : Raw)) rfl rfl rfl ?_
       exact Ends.join _ (some_eq h) (.k 0 rfl (.k 1 rfl (.k 2 rfl (.k 3 rfl (.k 4 rfl (.k 11 rfl (.k 12 rfl (.k 13 rfl .nil)))))))) (.k 43 rfl (.k 46 rfl (.k 45 rfl .nil)))
      ·
       replace h := bif_f h hb14
       refine .skip ?_
       refine .blkNormal ?_
       refine .blkNormal ?_
       refine .close (k := 43) (g := 5001) (fun z => cont 32 (⟨z⟩ : Raw)) rfl rfl rfl ?_
       refine .close (k := 46) (g := 5002) (fun z => cont 32 (⟨z⟩ : Raw)) rfl rfl rfl ?_
       exact Ends.join _ (some_eq h) (.k 0 rfl (.k 1 rfl (.k 2 rfl (.k 3 rfl (.k 4 rfl (.k 11 rfl (.k 12 rfl (.k 13 rfl .nil)))))))) (.k 43 rfl (.k 46 rfl (.k 45 rfl .nil)))
   ·
    subst hj6; have h := hK6; clear hK6
    refine .open (k := 43) (g := 5003) rfl rfl (fun s5003 => ?_)
    refine .open (k := 46) (g := 5004) rfl rfl (fun s5004 => ?_)
    refine .region [] mixed (by kernel_rfl) ?_
    refine .cons (.addW .none (.s rfl) (.int (by decide))) rfl ?_
    refine .cons (.move .none (.s rfl)) rfl ?_
    refine .nil ?_
    refine .close (k := 43) (g := 5003) (fun z => cont 32 (⟨z⟩ : Raw)) rfl rfl rfl ?_
    refine .close (k := 46) (g := 5004) (fun z => cont 32 (⟨z⟩ : Raw)) rfl rfl rfl ?_
    exact Ends.againL (some_eq h) (.k 13 rfl (.k 0 rfl (.k 1 rfl (.k 2 rfl (.k 3 rfl (.k 4 rfl (.k 11 rfl (.k 12 rfl .nil)))))))) (.k 43 rfl (.k 46 rfl (.k 45 rfl .nil)))
  ·
   replace h := bif_f h hb5
   refine .exit ?_
   refine .thenExit ?_
   refine .thenExit ?_
   refine .blkExit ?_
   refine .close (k := 43) (g := 5001) (fun z => cont 32 (⟨z⟩ : Raw)) rfl rfl rfl ?_
   refine .close (k := 46) (g := 5002) (fun z => cont 32 (⟨z⟩ : Raw)) rfl rfl rfl ?_
   replace h := hD4 _ (some_eq h)
   exact Ends.join _ (some_eq h) (.k 0 rfl (.k 1 rfl (.k 3 rfl (.k 4 rfl .nil)))) (.k 43 rfl (.k 46 rfl (.k 45 rfl .nil)))
 ·
  subst hj3; have h := hK3; clear hK3
  refine .open (k := 43) (g := 5005) rfl rfl (fun s5005 => ?_)
  refine .open (k := 46) (g := 5006) rfl rfl (fun s5006 => ?_)
  refine .region [([43], []), ([], []), ([5005], []), ([5005], [5005])] mixed (by kernel_rfl) ?_
  refine .consA (.loadAt0 (k := 43) .none tr32 rfl (.s rfl)) rfl ?_
  refine .consA (.move .none (.s rfl)) rfl ?_
  obtain ⟨hn16, h⟩ := need_some h
  refine .consA (.indexAddrO (k := 5005) .none sl32 ty3 (.s rfl) rfl (.s rfl) (fun _ => hn16)) rfl ?_
  refine .consN (.storeElem0 (k := 5005) ty3 (.s rfl) rfl (.int (by decide)) hn16) rfl ?_
  refine .nil ?_
  refine .close (k := 43) (g := 5005) (fun z => cont 32 (⟨z⟩ : Raw)) rfl rfl rfl ?_
  refine .close (k := 46) (g := 5006) (fun z => cont 32 (⟨z⟩ : Raw)) rfl rfl rfl ?_
  obtain rfl := some_eq h
  exact Ends.ret0O (.inr rfl) [43, 44, 45, 46, 47] Try.results66 (by decide) (.held rfl (.skip (.held rfl (.held rfl (.skip .nil))))) 
theorem ref_TurnedOf_1_okN : ∀ (k : Nat) {m43 : Nat} {s44 : Value} {m45 : Nat} {m46 : Nat} {s47 : Value} (x : (Int × (List Int) × (List Link) × (List Int))) (r : ((List Int) × (List Int))) (h : fixN ref_TurnedOf_1_body k x = some r), FSpecO Try.prog 66 [rep x.1, isV (ptr m43 0), ref x.2.2.1, isV (ptr m45 0), isV (ptr m46 0)] [(ptr m43 0, cont 32 (⟨s44⟩ : Raw)), (s44, rowV 3 x.2.1), (ptr m45 0, contS 100 (cloV 66 [isV (ptr m43 0), ref x.2.2.1, isV (ptr m45 0), isV (ptr m46 0)])), (ptr m46 0, cont 32 (⟨s47⟩ : Raw)), (s47, rowV 3 x.2.2.2)] (anyV) [some (deep (fun z0 => cont 32 (⟨z0⟩ : Raw)) (rowV 3 r.1)), none, some (contS 100 (cloV 66 [isV (ptr m43 0), ref x.2.2.1, isV (ptr m45 0), isV (ptr m46 0)])), some (deep (fun z0 => cont 32 (⟨z0⟩ : Raw)) (rowV 3 r.2)), none]
 | 0, _, _, _, _, _, x, r, h => by simp [fixN] at h
 | k + 1, _, _, _, _, _, x, r, h => ref_TurnedOf_1_okS (ref_TurnedOf_1_okN k) h
theorem ref_TurnedOf_1_ok {v1 : Int} {c0_1 : (List Int)} {c1_1 : (List Link)} {c3_1 : (List Int)} {r : ((List Int) × (List Int))} {m43 : Nat} {s44 : Value} {m45 : Nat} {m46 : Nat} {s47 : Value} (h : ref_TurnedOf_1 v1 c0_1 c1_1 c3_1 = some r) : FSpecO Try.prog 66 [rep v1, isV (ptr m43 0), ref c1_1, isV (ptr m45 0), isV (ptr m46 0)] [(ptr m43 0, cont 32 (⟨s44⟩ : Raw)), (s44, rowV 3 c0_1), (ptr m45 0, contS 100 (cloV 66 [isV (ptr m43 0), ref c1_1, isV (ptr m45 0), isV (ptr m46 0)])), (ptr m46 0, cont 32 (⟨s47⟩ : Raw)), (s47, rowV 3 c3_1)] (anyV) [some (deep (fun z0 => cont 32 (⟨z0⟩ : Raw)) (rowV 3 r.1)), none, some (contS 100 (cloV 66 [isV (ptr m43 0), ref c1_1, isV (ptr m45 0), isV (ptr m46 0)])), some (deep (fun z0 => cont 32 (⟨z0⟩ : Raw)) (rowV 3 r.2)), none] :=
 let ⟨k, hk⟩ := fixp_some h
 ref_TurnedOf_1_okN k (v1, c0_1, c1_1, c3_1) r hk

theorem ref_TurnedOf_ok {n1 : Int} {l1 : (List Link)} {r : (List Int)}  (h : ref_TurnedOf n1 l1 = some r) : FSpec Try.prog 22 [rep n1, rep l1] (rep r) := by
 unfold ref_TurnedOf at h
 refine FSpec.intro (n := 28) fnok22 Try.func22 rfl Try.ntmps22 rfl (fun F => ?_)
 refine .seq (.region [] mixed (by kernel_rfl) ?_)
 refine .cons (.box .none (.s rfl)) rfl ?_
 refine .cons (.assign .none (.const (x := ([] : (List Int))) (fun M w => ⟨_, ⟨none, 0, rfl, Nat.le_refl _, by decide, rfl⟩, rfl⟩))) rfl ?_
 refine .nil (.then ?_)
 refine .seq (.region [([], []), ([], [10]), ([], [5]), ([5, 10], [5, 10])] mixed (by kernel_rfl) ?_)
 refine .consA (.move .none (.s rfl)) rfl ?_
 obtain ⟨hn1, h⟩ := need_some h
 refine .consW (.makeSlice rk32 zo3 rfl (.s rfl) (.s rfl) hn1) rfl rfl ?_
 refine .consW (.alloc zr32 rfl) rfl rfl ?_
 refine .consN (.storeRow0 (k := 5) (t := 10) ty32 rfl rfl rfl rfl) rfl ?_
 refine .nil (.then ?_)
 refine .nameAt (t := 5) (g := 5001) rfl rfl (isBox_deep fun _ => isBox_cont) rfl (fun m5001 => ?_)
 refine .open (k := 5001) (g := 5002) rfl rfl (fun s5002 => ?_)
 refine .seq (.region [([], [6])] mixed (by kernel_rfl) ?_)
 refine .consW (.alloc zr32 rfl) rfl rfl ?_
 refine .nil (.then ?_)
 obtain ⟨c1, hv2, h⟩ := bnd_some h
 refine .reB (t := 5002) rfl (congrArg (fun y => CPred.at s5002 (rowV 3 y)) hv2) ?_
 refine .nameAt (t := 6) (g := 5003) rfl rfl isBox_cont rfl (fun m5003 => ?_)
 refine .nilKey (g := 5004) (T := 3) (α := Int) rfl ?_
 refine .seq (.region [([], [7])] mixed (by kernel_rfl) ?_)
 refine .consW (.alloc zr100 rfl) rfl rfl ?_
 refine .nil (.then ?_)
 refine .nameAt (t := 7) (g := 5005) rfl rfl isBox_cont rfl (fun m5005 => ?_)
 refine .seq (.region [([], []), ([5005], [5005])] mixed (by kernel_rfl) ?_)
 refine .consA (.makeFuncC (Cs := [isV (ptr m5001 0), ref l1, isV (ptr m5005 0), isV (ptr m5003 0)]) .none (.cons (.s rfl) (.cons (.s rfl) (.cons (.s rfl) (.cons (.s rfl) .nil))))) rfl ?_
 refine .consN (.storeS (k := 5005) (S := cloV 66 [isV (ptr m5001 0), ref l1, isV (ptr m5005 0), isV (ptr m5003 0)]) tr100 rfl cont_cells (.s rfl) (.s rfl) cloV_one) rfl ?_
 refine .nil (.then ?_)
 refine .seq ?_
 refine .seq (.region [] mixed (by kernel_rfl) ?_)
 refine .cons (.move .none (.s rfl)) rfl ?_
 refine .cons (.move .none (.int (by decide))) rfl ?_
 refine .nil (.then ?_)
 obtain ⟨j_3, h, hK3⟩ := bind_some h
 refine .thenJ (ι := ((List Int) × (List Int))) (fun j_3 => []) (fun j_3 => [(5001, some (CPred.at (ptr m5001 0) (deep (fun z0 => cont 32 (⟨z0⟩ : Raw)) (rowV 3 j_3.1)))), (5003, some (CPred.at (ptr m5003 0) (deep (fun z0 => cont 32 (⟨z0⟩ : Raw)) (rowV 3 j_3.2))))]) (fun s => j_3 = s) (.k 5 rfl (.k 6 rfl (.k 7 rfl .nil))) (.k 5005 rfl .nil) ?_ (fun j_3' hj3 => ?_)
 ·
  skip
  refine .block ?_
  refine .close (k := 5001) (g := 5002) (fun z => cont 32 (⟨z⟩ : Raw)) rfl rfl rfl ?_
  refine .close (k := 5003) (g := 5004) (fun z => cont 32 (⟨z⟩ : Raw)) rfl rfl rfl ?_
  refine .rforL h (fun p4_ => [(13, ⟨True, rep p4_.1⟩)]) (fun p4_ => [(5001, some (CPred.at (ptr m5001 0) (deep (fun z0 => cont 32 (⟨z0⟩ : Raw)) (rowV 3 p4_.2.1)))), (5003, some (CPred.at (ptr m5003 0) (deep (fun z0 => cont 32 (⟨z0⟩ : Raw)) (rowV 3 p4_.2.2))))]) (.k 13 rfl .nil) (.k 5001 rfl (.k 5003 rfl .nil)) (.k 3 rfl (.k 5 rfl (.k 6 rfl (.k 7 rfl (.k 12 rfl .nil))))) (.k 5005 rfl .nil) (fun p4_ o_4 h hD4 => ?_)
  refine .open (k := 5001) (g := 5006) rfl rfl (fun s5006 => ?_)
  refine .open (k := 5003) (g := 5007) rfl rfl (fun s5007 => ?_)
  refine .seq (.region [] mixed (by kernel_rfl) ?_)
  refine .cons (.lt .none (.s rfl) (.s rfl)) rfl ?_
  refine .nil (.then ?_)
  refine .seq ?_
  refine .cond (t := 14) rfl trivial (fun hb5 => ?_) (fun hb5 => ?_)
  ·
   replace h := bif_t h hb5
   refine .skip ?_
   refine .then ?_
   refine .seq ?_
   obtain ⟨j_6, h, hK6⟩ := bind_some h
   unfold ref_TurnedOf_L1 at h
   refine .thenJ (ι := ((List Int) × (List Int))) (fun j_6 => []) (fun j_6 => [(5001, some (CPred.at (ptr m5001 0) (deep (fun z0 => cont 32 (⟨z0⟩ : Raw)) (rowV 3 j_6.1)))), (5003, some (CPred.at (ptr m5003 0) (deep (fun z0 => cont 32 (⟨z0⟩ : Raw)) (rowV 3 j_6.2))))]) (fun s => j_6 = s) (.k 3 rfl (.k 5 rfl (.k 6 rfl (.k 7 rfl (.k 12 rfl (.k 13 rfl .nil)))))) (.k 5005 rfl .nil) ?_ (fun j_6' hj6 => ?_)
   ·
    skip
    refine .block ?_
    refine .seq (.region [] mixed (by kernel_rfl) ?_)
    refine .cons (.move .none (.s rfl)) rfl ?_
    refine .cons (.assign .none (.s rfl)) rfl ?_
    refine .nil (.then ?_)
    refine .seq (.region [([5001], []), ([], []), ([5006], []), ([5006], []), ([], [])] mixed (by kernel_rfl) ?_)
    refine .consA (.loadAt0 (k := 5001) .none tr32 rfl (.s rfl)) rfl ?_
    refine .consA (.move .none (.s rfl)) rfl ?_
    obtain ⟨hn7, h⟩ := need_some h
    refine .consA (.indexAddrO (k := 5006) .none sl32 ty3 (.s rfl) rfl (.s rfl) (fun _ => hn7)) rfl ?_
    refine .consA (.loadElem0 (k := 5006) .none ty3 (.s rfl) rfl (fun _ => hn7)) rfl ?_
    refine .consA (.eqI .none (.s rfl) (.int (by decide))) rfl ?_
    refine .nil (.then ?_)
    refine .cond (t := 20) rfl trivial (fun hb8 => ?_) (fun hb8 => ?_)
    ·
     replace h := bif_t h hb8
     refine .region [([5005], []), ([], []), ([5001, 5006, 5005, 5003, 5007], [5001, 5006, 5005, 5003, 5007])] mixed (by kernel_rfl) ?_
     refine .consA (.loadS (k := 5005) .none tr100 rfl (.s rfl) cloV_one) rfl ?_
     refine .consA (.move .none (.s rfl)) rfl ?_
     obtain ⟨r1, hv9, h⟩ := bind_some h
     refine .consW (.callClo [5001, 5006, 5005, 5003, 5007] (Ss := [rep p4_.1]) (Cs := [isV (ptr m5001 0), ref l1, isV (ptr m5005 0), isV (ptr m5003 0)]) (.s rfl) (ref_TurnedOf_1_ok hv9) (.cons (.s rfl) .nil) (.cons (k := 5001) rfl (.cons (k := 5006) rfl (.cons (k := 5005) rfl (.cons (k := 5003) rfl (.cons (k := 5007) rfl .nil))))) rfl (by decide) (by decide) (by intro d h; cases h; decide)) rfl rfl ?_
     refine .nil ?_
     refine .blkNormal ?_
     exact Ends.join _ (some_eq h) (.k 3 rfl (.k 5 rfl (.k 6 rfl (.k 7 rfl (.k 12 rfl (.k 13 rfl .nil)))))) (.k 5001 rfl (.k 5003 rfl (.k 5005 rfl .nil)))
    ·
     replace h := bif_f h hb8
     refine .skip ?_
     refine .blkNormal ?_
     refine .close (k := 5001) (g := 5006) (fun z => cont 32 (⟨z⟩ : Raw)) rfl rfl rfl ?_
     refine .close (k := 5003) (g := 5007) (fun z => cont 32 (⟨z⟩ : Raw)) rfl rfl rfl ?_
     exact Ends.join _ (some_eq h) (.k 3 rfl (.k 5 rfl (.k 6 rfl (.k 7 rfl (.k 12 rfl (.k 13 rfl .nil)))))) (.k 5001 rfl (.k 5003 rfl (.k 5005 rfl .nil)))
   ·
    subst hj6; have h := hK6; clear hK6
    refine .open (k := 5001) (g := 5008) rfl rfl (fun s5008 => ?_)
    refine .open (k := 5003) (g := 5009) rfl rfl (fun s5009 => ?_)
    refine .region [] mixed (by kernel_rfl) ?_
    refine .cons (.addW .none (.s rfl) (.int (by decide))) rfl ?_
    refine .cons (.move .none (.s rfl)) rfl ?_
    refine .nil ?_
    refine .close (k := 5001) (g := 5008) (fun z => cont 32 (⟨z⟩ : Raw)) rfl rfl rfl ?_
    refine .close (k := 5003) (g := 5009) (fun z => cont 32 (⟨z⟩ : Raw)) rfl rfl rfl ?_
    exact Ends.againL (some_eq h) (.k 13 rfl (.k 3 rfl (.k 5 rfl (.k 6 rfl (.k 7 rfl (.k 12 rfl .nil)))))) (.k 5001 rfl (.k 5003 rfl (.k 5005 rfl .nil)))
  ·
   replace h := bif_f h hb5
   refine .exit ?_
   refine .thenExit ?_
   refine .thenExit ?_
   refine .blkExit ?_
   refine .close (k := 5001) (g := 5006) (fun z => cont 32 (⟨z⟩ : Raw)) rfl rfl rfl ?_
   refine .close (k := 5003) (g := 5007) (fun z => cont 32 (⟨z⟩ : Raw)) rfl rfl rfl ?_
   replace h := hD4 _ (some_eq h)
   exact Ends.join _ (some_eq h) (.k 5 rfl (.k 6 rfl (.k 7 rfl .nil))) (.k 5001 rfl (.k 5003 rfl (.k 5005 rfl .nil)))
 ·
  subst hj3; have h := hK3; clear hK3
  refine .open (k := 5003) (g := 5010) rfl rfl (fun s5010 => ?_)
  refine .seq (.region [([5003], []), ([5010], [5010])] mixed (by kernel_rfl) ?_)
  refine .consA (.loadAt0 (k := 5003) .none tr32 rfl (.s rfl)) rfl ?_
  obtain ⟨r2, hv10, h⟩ := bind_some h
  refine .consW (.callO [5010] (slices_Sort_int_ok hv10) (.cons (.s rfl) .nil) (.cons (k := 5010) rfl .nil) rfl (by decide) (by decide) (by intro d h; cases h; decide)) rfl rfl ?_
  refine .nil (.then ?_)
  refine .seq (.region [([5003], []), ([], [])] mixed (by kernel_rfl) ?_)
  refine .consA (.loadAt0 (k := 5003) .none tr32 rfl (.s rfl)) rfl ?_
  refine .consA (.assign .none (.s rfl)) rfl ?_
  refine .nil (.then ?_)
  refine .freezeRow (g := 5010) (ts := [4]) rfl (.cons (t := 4) rfl trivial .nil) SubB.nil rfl ?_
  refine .ret ?_
  obtain rfl := some_eq h
  exact Ends.ret1 (.inl rfl) Try.results22 (ResOK.tmp rfl trivial Imp.refl)

theorem ref_Straight_ok {l1 : (List Link)} {turned1 : (List Int)} {r : (List Link)}  (h : ref_Straight l1 turned1 = some r) : FSpec Try.prog 23 [rep l1, rep turned1] (rep r) := by
 unfold ref_Straight at h
 refine FSpec.intro (n := 32) fnok23 Try.func23 rfl Try.ntmps23 rfl (fun F => ?_)
 refine .seq (.region [] mixed (by kernel_rfl) ?_)
 refine .cons (.assign .none (.const (x := ([] : (List Link))) (fun M w => ⟨_, ⟨none, 0, rfl, Nat.le_refl _, by decide, rfl⟩, rfl⟩))) rfl ?_
 refine .nil (.then ?_)
 refine .seq (.region [([], []), ([], [9]), ([9], [5, 9])] mixed (by kernel_rfl) ?_)
 refine .consA (.move .none (.s rfl)) rfl ?_
 obtain ⟨out1, hv1, h⟩ := bind_some h
 refine .consW (.callO [] (slices_Clone_Link_ok hv1) (.cons (.s rfl) .nil) .nil rfl (by decide) (by decide) (by intro d h; cases h; decide)) rfl rfl ?_
 refine .consW (.passRow rfl (.tmp rfl)) rfl rfl ?_
 refine .nil (.then ?_)
 refine .nameRow (t := 5) (g := 5001) rfl rfl rfl (fun s5001 => ?_)
 refine .seq ?_
 refine .seq (.region [] mixed (by kernel_rfl) ?_)
 refine .cons (.move .none (.s rfl)) rfl ?_
 refine .cons (.len .none sl32 (.s rfl)) rfl ?_
 refine .cons (.move .none (.int (by decide))) rfl ?_
 refine .nil (.then ?_)
 obtain ⟨j_2, h, hK2⟩ := bind_some h
 refine .thenJ (ι := (List Link)) (fun j_2 => []) (fun j_2 => [(5001, some (CPred.at s5001 (rowV 79 j_2)))]) (fun s => j_2 = s) (.k 5 rfl .nil) SubB.nil ?_ (fun j_2' hj2 => ?_)
 ·
  skip
  refine .block ?_
  refine .rforL h (fun p3_ => [(12, ⟨True, rep p3_.1⟩)]) (fun p3_ => [(5001, some (CPred.at s5001 (rowV 79 p3_.2)))]) (.k 12 rfl .nil) (.k 5001 rfl .nil) (.k 0 rfl (.k 5 rfl (.k 10 rfl (.k 11 rfl .nil)))) SubB.nil (fun p3_ o_3 h hD3 => ?_)
  refine .seq (.region [] mixed (by kernel_rfl) ?_)
  refine .cons (.lt .none (.s rfl) (.s rfl)) rfl ?_
  refine .nil (.then ?_)
  refine .seq ?_
  refine .cond (t := 13) rfl trivial (fun hb4 => ?_) (fun hb4 => ?_)
  ·
   replace h := bif_t h hb4
   refine .skip ?_
   refine .then ?_
   refine .seq ?_
   obtain ⟨j_5, h, hK5⟩ := bind_some h
   unfold ref_Straight_L1 at h
   refine .thenJ (ι := (List Link)) (fun j_5 => []) (fun j_5 => [(5001, some (CPred.at s5001 (rowV 79 j_5)))]) (fun s => j_5 = s) (.k 0 rfl (.k 5 rfl (.k 10 rfl (.k 11 rfl (.k 12 rfl .nil))))) SubB.nil ?_ (fun j_5' hj5 => ?_)
   ·
    skip
    refine .block ?_
    refine .seq (.region [] mixed (by kernel_rfl) ?_)
    obtain ⟨hn6, h⟩ := need_some h
    refine .cons (.indexAddr .none sl32 ty3 (.s rfl) (.s rfl) (fun _ => hn6)) rfl ?_
    refine .cons (.load .none ty3 (.s rfl)) rfl ?_
    obtain ⟨i1, hv7, h⟩ := bnd_some h
    refine .cons (.re hv7 (.assign .none (.s rfl))) rfl ?_
    refine .nil (.then ?_)
    refine .region [([], []), ([], []), ([], []), ([], []), ([], []), ([], []), ([], []), ([], []), ([], []), ([], []), ([], []), ([], []), ([], []), ([5001], []), ([5001], [5001])] mixed (by kernel_rfl) ?_
    refine .consA (.move .none (.s rfl)) rfl ?_
    refine .consA (.move .none (.s rfl)) rfl ?_
    refine .consA (.move .none (.s rfl)) rfl ?_
    refine .consA (.move .none (.s rfl)) rfl ?_
    obtain ⟨hn8, h⟩ := need_some h
    refine .consA (.indexAddr .none sl23 ty79 (.s rfl) (.s rfl) (fun _ => hn8)) rfl ?_
    refine .consA (.fieldAddr .none fd79_1 hfd79_1 (.s rfl)) rfl ?_
    refine .consA (.load .none ty3 (.s rfl)) rfl ?_
    refine .consA (.move .none (.s rfl)) rfl ?_
    refine .consA (.move .none (.s rfl)) rfl ?_
    obtain ⟨hn9, h⟩ := need_some h
    refine .consA (.indexAddr .none sl23 ty79 (.s rfl) (.s rfl) (fun _ => hn9)) rfl ?_
    refine .consA (.fieldAddr .none fd79_0 hfd79_0 (.s rfl)) rfl ?_
    refine .consA (.load .none ty3 (.s rfl)) rfl ?_
    obtain ⟨v1, hv10, h⟩ := bnd_some h
    refine .consA (.re hv10 (.buildF (y := (⟨(gx l1 i1).To, (gx l1 i1).From⟩ : Link)) .none bu79 zc79 rfl (.cons (.s rfl) (.cons (.s rfl) .nil)) (.cons rfl sf79_0 (.cons rfl sf79_1 .nil)))) rfl ?_
    obtain ⟨hn11, h⟩ := need_some h
    refine .consA (.indexAddrO (k := 5001) .none sl23 ty79 (.s rfl) rfl (.s rfl) (fun _ => hn11)) rfl ?_
    refine .consN (.storeElem0 (k := 5001) ty79 (.s rfl) rfl (.s rfl) hn11) rfl ?_
    refine .nil ?_
    refine .blkNormal ?_
    exact Ends.join _ (some_eq h) (.k 0 rfl (.k 5 rfl (.k 10 rfl (.k 11 rfl (.k 12 rfl .nil))))) (.k 5001 rfl .nil)
   ·
    subst hj5; have h := hK5; clear hK5
    refine .region [] mixed (by kernel_rfl) ?_
    refine .cons (.addW .none (.s rfl) (.int (by decide))) rfl ?_
    refine .cons (.move .none (.s rfl)) rfl ?_
    refine .nil ?_
    exact Ends.againL (some_eq h) (.k 12 rfl (.k 0 rfl (.k 5 rfl (.k 10 rfl (.k 11 rfl .nil))))) (.k 5001 rfl .nil)
  ·
   replace h := bif_f h hb4
   refine .exit ?_
   refine .thenExit ?_
   refine .thenExit ?_
   refine .blkExit ?_
   replace h := hD3 _ (some_eq h)
   exact Ends.join _ (some_eq h) (.k 5 rfl .nil) (.k 5001 rfl .nil)
 ·
  subst hj2; have h := hK2; clear hK2
  refine .freezeRow (g := 5001) (ts := [5]) rfl (.cons (t := 5) rfl trivial .nil) SubB.nil rfl ?_
  refine .seq (.region [] mixed (by kernel_rfl) ?_)
  refine .cons (.move .none (.s rfl)) rfl ?_
  refine .cons (.assign .none (.s rfl)) rfl ?_
  refine .nil (.then ?_)
  refine .ret ?_
  obtain rfl := some_eq h
  exact Ends.ret1 (.inl rfl) Try.results23 (ResOK.tmp rfl trivial Imp.refl)

theorem ref_AreRanks_1_ok {x1 : Link} {c0_1 : (List Int)} {r : Bool}  (h : ref_AreRanks_1 x1 c0_1 = some r) : FSpec Try.prog 75 [rep x1, ref c0_1] (rep r) := by
 unfold ref_AreRanks_1 at h
 refine FSpec.intro (n := 15) fnok75 Try.func75 rfl Try.ntmps75 rfl (fun F => ?_)
 refine .seq (.region [] mixed (by kernel_rfl) ?_)
 refine .cons (.box .none (.s rfl)) rfl ?_
 refine .cons (.assign .none .bool) rfl ?_
 refine .nil (.then ?_)
 refine .seq (.region [] mixed (by kernel_rfl) ?_)
 refine .cons (.load .none ty32 (.s rfl)) rfl ?_
 refine .cons (.fieldAddr .none fd79_1 hfd79_1 (.s rfl)) rfl ?_
 refine .cons (.load .none ty3 (.s rfl)) rfl ?_
 obtain ⟨hn1, h⟩ := need_some h
 refine .cons (.indexAddr .none sl32 ty3 (.s rfl) (.s rfl) (fun _ => hn1)) rfl ?_
 refine .cons (.load .none ty3 (.s rfl)) rfl ?_
 refine .cons (.load .none ty32 (.s rfl)) rfl ?_
 refine .cons (.fieldAddr .none fd79_0 hfd79_0 (.s rfl)) rfl ?_
 refine .cons (.load .none ty3 (.s rfl)) rfl ?_
 obtain ⟨hn2, h⟩ := need_some h
 refine .cons (.indexAddr .none sl32 ty3 (.s rfl) (.s rfl) (fun _ => hn2)) rfl ?_
 refine .cons (.load .none ty3 (.s rfl)) rfl ?_
 refine .cons (.le .none (.s rfl) (.s rfl)) rfl ?_
 refine .cons (.assign .none (.s rfl)) rfl ?_
 refine .nil (.then ?_)
 refine .ret ?_
 obtain rfl := some_eq h
 exact Ends.ret1 (.inl rfl) Try.results75 (ResOK.tmp rfl trivial Imp.refl)

theorem slices_ContainsFunc_Link_ok {s1 : (List Link)} {f1 : (Link → Option Bool)} {r : Bool}  (h : slices_ContainsFunc_Link s1 f1 = some r) : FSpec Try.prog 74 [rep s1, fn1 Try.prog (rep (α := Bool)) f1] (rep r) := by
 unfold slices_ContainsFunc_Link at h
 refine FSpec.intro (n := 9) fnok74 Try.func74 rfl Try.ntmps74 rfl (fun F => ?_)
 refine .seq (.region [] mixed (by kernel_rfl) ?_)
 refine .cons (.assign .none .bool) rfl ?_
 refine .nil (.then ?_)
 refine .seq (.region [] mixed (by kernel_rfl) ?_)
 refine .cons (.move .none (.s rfl)) rfl ?_
 refine .cons (.move .none (.s rfl)) rfl ?_
 obtain ⟨r1, hv1, h⟩ := bind_some h
 refine .cons (.call .none (slices_IndexFunc_Link_ok hv1) (.cons (.s rfl) (.cons (.s rfl) .nil))) rfl ?_
 refine .cons (.ge .none (.s rfl) (.int (by decide))) rfl ?_
 refine .cons (.assign .none (.s rfl)) rfl ?_
 refine .nil (.then ?_)
 refine .ret ?_
 obtain rfl := some_eq h
 exact Ends.ret1 (.inl rfl) Try.results74 (ResOK.tmp rfl trivial Imp.refl)

theorem ref_pieces_ok {n1 : Int} {l1 : (List Link)} {r : (List Int)}  (h : ref_pieces n1 l1 = some r) : FSpec Try.prog 76 [rep n1, rep l1] (rep r) := by
 unfold ref_pieces at h
 refine FSpec.intro (n := 69) fnok76 Try.func76 rfl Try.ntmps76 rfl (fun F => ?_)
 refine .seq (.region [] mixed (by kernel_rfl) ?_)
 refine .cons (.assign .none (.const (x := ([] : (List Int))) (fun M w => ⟨_, ⟨none, 0, rfl, Nat.le_refl _, by decide, rfl⟩, rfl⟩))) rfl ?_
 refine .nil (.then ?_)
 refine .seq (.region [([], []), ([], [12]), ([12], [5, 12])] mixed (by kernel_rfl) ?_)
 refine .consA (.move .none (.s rfl)) rfl ?_
 obtain ⟨hn1, h⟩ := need_some h
 refine .consW (.makeSlice rk32 zo3 rfl (.s rfl) (.s rfl) hn1) rfl rfl ?_
 refine .consW (.passRow rfl (.tmp rfl)) rfl rfl ?_
 refine .nil (.then ?_)
 obtain ⟨p1, hv2, h⟩ := bnd_some h
 refine .reB (t := 5) rfl (congrArg (rowV 3) hv2) ?_
 refine .nameRow (t := 5) (g := 5001) rfl rfl rfl (fun s5001 => ?_)
 refine .seq ?_
 refine .seq (.region [([], []), ([5001], []), ([], [])] mixed (by kernel_rfl) ?_)
 refine .consA (.move .none (.s rfl)) rfl ?_
 refine .consA (.lenO (k := 5001) sl32 (.told (.s rfl) rfl)) rfl ?_
 refine .consA (.move .none (.int (by decide))) rfl ?_
 refine .nil (.then ?_)
 obtain ⟨j_3, h, hK3⟩ := bind_some h
 refine .thenJ (ι := (List Int)) (fun j_3 => []) (fun j_3 => [(5001, some (CPred.at s5001 (rowV 3 j_3)))]) (fun s => j_3 = s) (.k 1 rfl (.k 5 rfl .nil)) SubB.nil ?_ (fun j_3' hj3 => ?_)
 ·
  skip
  refine .block ?_
  refine .rforL h (fun p4_ => [(15, ⟨True, rep p4_.1⟩)]) (fun p4_ => [(5001, some (CPred.at s5001 (rowV 3 p4_.2)))]) (.k 15 rfl .nil) (.k 5001 rfl .nil) (.k 1 rfl (.k 5 rfl (.k 14 rfl .nil))) SubB.nil (fun p4_ o_4 h hD4 => ?_)
  refine .seq (.region [] mixed (by kernel_rfl) ?_)
  refine .cons (.lt .none (.s rfl) (.s rfl)) rfl ?_
  refine .nil (.then ?_)
  refine .seq ?_
  refine .cond (t := 16) rfl trivial (fun hb5 => ?_) (fun hb5 => ?_)
  ·
   replace h := bif_t h hb5
   refine .skip ?_
   refine .then ?_
   refine .seq ?_
   obtain ⟨j_6, h, hK6⟩ := bind_some h
   unfold ref_pieces_L1 at h
   refine .thenJ (ι := (List Int)) (fun j_6 => []) (fun j_6 => [(5001, some (CPred.at s5001 (rowV 3 j_6)))]) (fun s => j_6 = s) (.k 1 rfl (.k 5 rfl (.k 14 rfl (.k 15 rfl .nil)))) SubB.nil ?_ (fun j_6' hj6 => ?_)
   ·
    skip
    refine .block ?_
    refine .seq (.region [] mixed (by kernel_rfl) ?_)
    refine .cons (.move .none (.s rfl)) rfl ?_
    refine .cons (.assign .none (.s rfl)) rfl ?_
    refine .nil (.then ?_)
    refine .region [([], []), ([], []), ([], []), ([5001], []), ([5001], [5001])] mixed (by kernel_rfl) ?_
    refine .consA (.move .none (.s rfl)) rfl ?_
    refine .consA (.move .none (.s rfl)) rfl ?_
    refine .consA (.move .none (.s rfl)) rfl ?_
    obtain ⟨hn7, h⟩ := need_some h
    refine .consA (.indexAddrO (k := 5001) .none sl32 ty3 (.s rfl) rfl (.s rfl) (fun _ => hn7)) rfl ?_
    refine .consN (.storeElem0 (k := 5001) ty3 (.s rfl) rfl (.s rfl) hn7) rfl ?_
    refine .nil ?_
    refine .blkNormal ?_
    exact Ends.join _ (some_eq h) (.k 1 rfl (.k 5 rfl (.k 14 rfl (.k 15 rfl .nil)))) (.k 5001 rfl .nil)
   ·
    subst hj6; have h := hK6; clear hK6
    refine .region [] mixed (by kernel_rfl) ?_
    refine .cons (.addW .none (.s rfl) (.int (by decide))) rfl ?_
    refine .cons (.move .none (.s rfl)) rfl ?_
    refine .nil ?_
    exact Ends.againL (some_eq h) (.k 15 rfl (.k 1 rfl (.k 5 rfl (.k 14 rfl .nil)))) (.k 5001 rfl .nil)
  ·
   replace h := bif_f h hb5
   refine .exit ?_
   refine .thenExit ?_
   refine .thenExit ?_
   refine .blkExit ?_
   replace h := hD4 _ (some_eq h)
   exact Ends.join _ (some_eq h) (.k 1 rfl (.k 5 rfl .nil)) (.k 5001 rfl .nil)
 ·
  subst hj3; have h := hK3; clear hK3
  refine .seq ?_
  refine .seq (.region [] mixed (by kernel_rfl) ?_)
  refine .cons (.assign .none .bool) rfl ?_
  refine .nil (.then ?_)
  obtain ⟨j_8, h, hK8⟩ := bind_some h
  refine .thenJ (ι := (List Int)) (fun j_8 => []) (fun j_8 => [(5001, some (CPred.at s5001 (rowV 3 j_8)))]) (fun s => j_8 = s) (.k 5 rfl .nil) SubB.nil ?_ (fun j_8' hj8 => ?_)
  ·
   skip
   refine .block ?_
   refine .loopL h (fun s9_ => [(7, ⟨True, rep s9_.1⟩)]) (fun s9_ => [(5001, some (CPred.at s5001 (rowV 3 s9_.2)))]) (.k 7 rfl .nil) (.k 5001 rfl .nil) (.k 1 rfl (.k 5 rfl .nil)) SubB.nil (fun s9_ o_9 h hD9 => ?_)
   unfold ref_pieces_L2 at h
   refine .seq ?_
   refine .seq (.region [] mixed (by kernel_rfl) ?_)
   refine .cons (.move .none (.s rfl)) rfl ?_
   refine .nil (.then ?_)
   refine .cond (t := 23) rfl trivial (fun hb10 => ?_) (fun hb10 => ?_)
   ·
    replace h := bif_t h hb10
    refine .skip ?_
    refine .then ?_
    refine .block ?_
    refine .seq (.region [] mixed (by kernel_rfl) ?_)
    refine .cons (.assign .none .bool) rfl ?_
    refine .nil (.then ?_)
    refine .seq (.region [] mixed (by kernel_rfl) ?_)
    refine .cons (.move .none (.s rfl)) rfl ?_
    refine .cons (.len .none sl23 (.s rfl)) rfl ?_
    refine .cons (.move .none (.int (by decide))) rfl ?_
    refine .nil (.then ?_)
    obtain ⟨j_11, h, hK11⟩ := bind_some h
    refine .tailJ (ι := (Bool × (List Int))) (fun j_11 => [(7, ⟨True, rep j_11.1⟩)]) (fun j_11 => [(5001, some (CPred.at s5001 (rowV 3 j_11.2)))]) (fun s => j_11 = s) (.k 1 rfl (.k 5 rfl .nil)) SubB.nil ?_ (fun j_11' hj11 => ?_)
    ·
     skip
     refine .block ?_
     refine .rforL h (fun p12_ => [(26, ⟨True, rep p12_.1⟩), (7, ⟨True, rep p12_.2.1⟩)]) (fun p12_ => [(5001, some (CPred.at s5001 (rowV 3 p12_.2.2)))]) (.k 26 rfl (.k 7 rfl .nil)) (.k 5001 rfl .nil) (.k 1 rfl (.k 5 rfl (.k 24 rfl (.k 25 rfl .nil)))) SubB.nil (fun p12_ o_12 h hD12 => ?_)
     refine .seq (.region [] mixed (by kernel_rfl) ?_)
     refine .cons (.lt .none (.s rfl) (.s rfl)) rfl ?_
     refine .nil (.then ?_)
     refine .seq ?_
     refine .cond (t := 27) rfl trivial (fun hb13 => ?_) (fun hb13 => ?_)
     ·
      replace h := bif_t h hb13
      refine .skip ?_
      refine .then ?_
      refine .seq ?_
      obtain ⟨j_14, h, hK14⟩ := bind_some h
      unfold ref_pieces_L3 at h
      refine .thenJ (ι := (Bool × (List Int))) (fun j_14 => [(7, ⟨True, rep j_14.1⟩)]) (fun j_14 => [(5001, some (CPred.at s5001 (rowV 3 j_14.2)))]) (fun s => j_14 = s) (.k 1 rfl (.k 5 rfl (.k 24 rfl (.k 25 rfl (.k 26 rfl .nil))))) SubB.nil ?_ (fun j_14' hj14 => ?_)
      ·
       skip
       refine .block ?_
       refine .seq (.region [([], []), ([], []), ([], [9]), ([9], [9])] mixed (by kernel_rfl) ?_)
       obtain ⟨hn15, h⟩ := need_some h
       refine .consA (.indexAddr .none sl23 ty79 (.s rfl) (.s rfl) (fun _ => hn15)) rfl ?_
       obtain ⟨v1, hv16, h⟩ := bnd_some h
       refine .consA (.re hv16 (.load .none ty79 (.s rfl))) rfl ?_
       refine .consW (.alloc zo79 rfl) rfl rfl ?_
       refine .consN (.store ty79 rfl rfl (.s rfl)) rfl ?_
       refine .nil (.then ?_)
       refine .freeze (t := 9) rfl rfl (.k 5001 rfl .nil) rfl ?_
       refine .seq (.region [([], []), ([], []), ([], []), ([5001], []), ([5001], []), ([], []), ([], []), ([], []), ([5001], []), ([5001], []), ([], []), ([], [])] mixed (by kernel_rfl) ?_)
       refine .consA (.move .none (.s rfl)) rfl ?_
       refine .consA (.fieldAddr .none fd79_0 hfd79_0 (.s rfl)) rfl ?_
       refine .consA (.load .none ty3 (.s rfl)) rfl ?_
       obtain ⟨hn17, h⟩ := need_some h
       refine .consA (.indexAddrO (k := 5001) .none sl32 ty3 (.s rfl) rfl (.s rfl) (fun _ => hn17)) rfl ?_
       refine .consA (.loadElem0 (k := 5001) .none ty3 (.s rfl) rfl (fun _ => hn17)) rfl ?_
       refine .consA (.move .none (.s rfl)) rfl ?_
       refine .consA (.fieldAddr .none fd79_1 hfd79_1 (.s rfl)) rfl ?_
       refine .consA (.load .none ty3 (.s rfl)) rfl ?_
       obtain ⟨hn18, h⟩ := need_some h
       refine .consA (.indexAddrO (k := 5001) .none sl32 ty3 (.s rfl) rfl (.s rfl) (fun _ => hn18)) rfl ?_
       refine .consA (.loadElem0 (k := 5001) .none ty3 (.s rfl) rfl (fun _ => hn18)) rfl ?_
       refine .consA (.min2 .none (.s rfl) (.s rfl)) rfl ?_
       obtain ⟨k1, hv19, h⟩ := bnd_some h
       refine .consA (.re hv19 (.assign .none (.s rfl))) rfl ?_
       refine .nil (.then ?_)
       refine .seq (.region [([], []), ([], []), ([], []), ([5001], []), ([5001], []), ([], []), ([], []), ([], []), ([], []), ([], []), ([], []), ([5001], []), ([5001], []), ([], []), ([], []), ([], [])] mixed (by kernel_rfl) ?_)
       refine .consA (.move .none (.s rfl)) rfl ?_
       refine .consA (.fieldAddr .none fd79_0 hfd79_0 (.s rfl)) rfl ?_
       refine .consA (.load .none ty3 (.s rfl)) rfl ?_
       obtain ⟨hn20, h⟩ := need_some h
       refine .consA (.indexAddrO (k := 5001) .none sl32 ty3 (.s rfl) rfl (.s rfl) (fun _ => hn20)) rfl ?_
       refine .consA (.loadElem0 (k := 5001) .none ty3 (.s rfl) rfl (fun _ => hn20)) rfl ?_
       refine .consA (.move .none (.s rfl)) rfl ?_
       refine .consA (.neI .none (.s rfl) (.s rfl)) rfl ?_
       refine .consA (.move .none (.s rfl)) rfl ?_
       refine .consA (.move (.at rfl rfl) (.s rfl)) rfl ?_
       refine .consA (.fieldAddr (.at rfl rfl) fd79_1 hfd79_1 (.s rfl)) rfl ?_
       refine .consA (.load (.at rfl rfl) ty3 (.tmp rfl id)) rfl ?_
       obtain ⟨hn21, h⟩ := need_some h
       refine .consA (.indexAddrO (k := 5001) (.at rfl rfl) sl32 ty3 (.tmp rfl id) rfl (.tmp rfl id) (fun hg => hn21 hg.2)) rfl ?_
       refine .consA (.loadElem0 (k := 5001) (.at rfl rfl) ty3 (.tmp rfl id) rfl (fun hg => hn21 hg.2)) rfl ?_
       refine .consA (.move (.at rfl rfl) (.s rfl)) rfl ?_
       refine .consA (.neI (.at rfl rfl) (.tmp rfl id) (.tmp rfl id)) rfl ?_
       refine .consA (.pickOr .none (.s rfl) (.tmp rfl id)) rfl ?_
       refine .nil (.then ?_)
       refine .cond (t := 56) rfl trivial (fun hb22 => ?_) (fun hb22 => ?_)
       ·
        replace h := bif_t h hb22
        refine .region [([], []), ([], []), ([], []), ([], []), ([], []), ([], []), ([], []), ([], []), ([5001], []), ([5001], [5001]), ([5001], []), ([5001], [5001]), ([], [])] mixed (by kernel_rfl) ?_
        refine .consA (.move .none (.s rfl)) rfl ?_
        refine .consA (.fieldAddr .none fd79_0 hfd79_0 (.s rfl)) rfl ?_
        refine .consA (.load .none ty3 (.s rfl)) rfl ?_
        refine .consA (.move .none (.s rfl)) rfl ?_
        refine .consA (.fieldAddr .none fd79_1 hfd79_1 (.s rfl)) rfl ?_
        refine .consA (.load .none ty3 (.s rfl)) rfl ?_
        refine .consA (.move .none (.s rfl)) rfl ?_
        refine .consA (.move .none (.s rfl)) rfl ?_
        obtain ⟨hn23, h⟩ := need_some h
        refine .consA (.indexAddrO (k := 5001) .none sl32 ty3 (.s rfl) rfl (.s rfl) (fun _ => hn23)) rfl ?_
        refine .consN (.storeElem0 (k := 5001) ty3 (.s rfl) rfl (.s rfl) hn23) rfl ?_
        obtain ⟨hn24, h⟩ := need_some h
        refine .consA (.indexAddrO (k := 5001) .none sl32 ty3 (.s rfl) rfl (.s rfl) (fun _ => hn24)) rfl ?_
        refine .consN (.storeElem0 (k := 5001) ty3 (.s rfl) rfl (.s rfl) hn24) rfl ?_
        refine .consA (.assign .none .bool) rfl ?_
        refine .nil ?_
        refine .blkNormal ?_
        exact Ends.join _ (some_eq h) (.k 7 rfl (.k 1 rfl (.k 5 rfl (.k 24 rfl (.k 25 rfl (.k 26 rfl .nil)))))) (.k 5001 rfl .nil)
       ·
        replace h := bif_f h hb22
        refine .skip ?_
        refine .blkNormal ?_
        exact Ends.join _ (some_eq h) (.k 7 rfl (.k 1 rfl (.k 5 rfl (.k 24 rfl (.k 25 rfl (.k 26 rfl .nil)))))) (.k 5001 rfl .nil)
      ·
       subst hj14; have h := hK14; clear hK14
       refine .region [] mixed (by kernel_rfl) ?_
       refine .cons (.addW .none (.s rfl) (.int (by decide))) rfl ?_
       refine .cons (.move .none (.s rfl)) rfl ?_
       refine .nil ?_
       exact Ends.againL (some_eq h) (.k 26 rfl (.k 7 rfl (.k 1 rfl (.k 5 rfl (.k 24 rfl (.k 25 rfl .nil)))))) (.k 5001 rfl .nil)
     ·
      replace h := bif_f h hb13
      refine .exit ?_
      refine .thenExit ?_
      refine .thenExit ?_
      refine .blkExit ?_
      replace h := hD12 _ (some_eq h)
      exact Ends.join _ (some_eq h) (.k 7 rfl (.k 1 rfl (.k 5 rfl .nil))) (.k 5001 rfl .nil)
    ·
     subst hj11; have h := hK11; clear hK11
     refine .blkNormal ?_
     exact Ends.againL (some_eq h) (.k 7 rfl (.k 1 rfl (.k 5 rfl .nil))) (.k 5001 rfl .nil)
   ·
    replace h := bif_f h hb10
    refine .exit ?_
    refine .thenExit ?_
    refine .thenExit ?_
    refine .blkExit ?_
    replace h := hD9 _ (some_eq h)
    exact Ends.join _ (some_eq h) (.k 5 rfl .nil) (.k 5001 rfl .nil)
  ·
   subst hj8; have h := hK8; clear hK8
   refine .freezeRow (g := 5001) (ts := [5]) rfl (.cons (t := 5) rfl trivial .nil) SubB.nil rfl ?_
   refine .seq (.region [] mixed (by kernel_rfl) ?_)
   refine .cons (.move .none (.s rfl)) rfl ?_
   refine .cons (.assign .none (.s rfl)) rfl ?_
   refine .nil (.then ?_)
   refine .ret ?_
   obtain rfl := some_eq h
   exact Ends.ret1 (.inl rfl) Try.results76 (ResOK.tmp rfl trivial Imp.refl)

theorem ref_AreRanks_ok {n1 : Int} {l1 : (List Link)} {ranks1 : (List Int)} {r : Bool}  (h : ref_AreRanks n1 l1 ranks1 = some r) : FSpec Try.prog 35 [rep n1, rep l1, rep ranks1] (rep r) := by
 unfold ref_AreRanks at h
 refine FSpec.intro (n := 54) fnok35 Try.func35 rfl Try.ntmps35 rfl (fun F => ?_)
 refine .seq (.region [] mixed (by kernel_rfl) ?_)
 refine .cons (.box .none (.s rfl)) rfl ?_
 refine .cons (.assign .none .bool) rfl ?_
 refine .nil (.then ?_)
 refine .seq ?_
 refine .seq (.region [] mixed (by kernel_rfl) ?_)
 refine .cons (.load .none ty32 (.s rfl)) rfl ?_
 refine .cons (.len .none sl32 (.s rfl)) rfl ?_
 refine .cons (.move .none (.s rfl)) rfl ?_
 refine .cons (.neI .none (.s rfl) (.s rfl)) rfl ?_
 refine .cons (.move .none (.s rfl)) rfl ?_
 refine .cons (.move (.at rfl rfl) (.s rfl)) rfl ?_
 refine .cons (.makeFunc (ι := Link × Bool) (pre := fun i => (fun x0 => ref_AreRanks_1 x0 ranks1) i.1 = some i.2) (Ss := fun i => [rep i.1]) (S := fun i => rep i.2) (.at rfl rfl) fnok75 (fun i h => ref_AreRanks_1_ok h) (.cons (.s rfl) .nil)) rfl ?_
 obtain ⟨r1, hv1, h⟩ := bind_some h
 refine .cons (.callIf (.at rfl rfl) fnok74 (fun hg => slices_ContainsFunc_Link_ok ((fun hg => gd_some hv1 ((notT hg.2))) hg)) (.cons (.tmp rfl id) (.cons (.tmp rfl id) .nil)) (fun h => h)) rfl ?_
 refine .cons (.pickOr .none (.s rfl) (.tmp rfl id)) rfl ?_
 refine .nil (.then ?_)
 refine .cond (t := 19) rfl trivial (fun hb2 => ?_) (fun hb2 => ?_)
 ·
  replace h := bif_t h hb2
  refine .seq (.region [] mixed (by kernel_rfl) ?_)
  refine .cons (.assign .none .bool) rfl ?_
  refine .nil (.then ?_)
  refine .ret ?_
  refine .thenRet ?_
  obtain rfl := some_eq h
  exact Ends.ret1 (.inl rfl) Try.results35 (ResOK.tmp rfl trivial Imp.refl)
 ·
  replace h := bif_f h hb2
  refine .skip ?_
  refine .then ?_
  refine .seq (.region [] mixed (by kernel_rfl) ?_)
  refine .cons (.move .none (.s rfl)) rfl ?_
  refine .cons (.move .none (.s rfl)) rfl ?_
  obtain ⟨p1, hv3, h⟩ := bind_some h
  refine .cons (.call .none (ref_pieces_ok hv3) (.cons (.s rfl) (.cons (.s rfl) .nil))) rfl ?_
  refine .cons (.assign .none (.s rfl)) rfl ?_
  refine .nil (.then ?_)
  refine .seq ?_
  refine .seq (.region [] mixed (by kernel_rfl) ?_)
  refine .cons (.move .none (.s rfl)) rfl ?_
  refine .cons (.move .none (.int (by decide))) rfl ?_
  refine .nil (.then ?_)
  obtain ⟨o_4, h, hK4⟩ := bindR_some h
  refine .thenJ (ι := Unit) (fun j_4 => []) (fun j_4 => []) (fun s => o_4 = Res.nx s) Sub.nil SubB.nil ?_ (fun j_4 hj4 => ?_)
  ·
   skip
   refine .block ?_
   refine .rforEL h (fun p5_ => [(24, ⟨True, rep p5_.1⟩)]) (fun p5_ => []) (.k 24 rfl .nil) SubB.nil (.k 0 rfl (.k 5 rfl (.k 7 rfl (.k 23 rfl .nil)))) SubB.nil (fun p5_ o_5 h hD5 => ?_)
   refine .seq (.region [] mixed (by kernel_rfl) ?_)
   refine .cons (.lt .none (.s rfl) (.s rfl)) rfl ?_
   refine .nil (.then ?_)
   refine .seq ?_
   refine .cond (t := 25) rfl trivial (fun hb6 => ?_) (fun hb6 => ?_)
   ·
    replace h := bif_t h hb6
    refine .skip ?_
    refine .then ?_
    refine .seq ?_
    obtain ⟨o_7, h, hK7⟩ := bindD_some h
    unfold ref_AreRanks_L1 at h
    refine .thenJ (ι := Unit) (fun j_7 => []) (fun j_7 => []) (fun s => o_7 = Res.nx s) (.k 0 rfl (.k 5 rfl (.k 7 rfl (.k 23 rfl (.k 24 rfl .nil))))) SubB.nil ?_ (fun j_7 hj7 => ?_)
    ·
     skip
     refine .block ?_
     refine .seq (.region [] mixed (by kernel_rfl) ?_)
     refine .cons (.move .none (.s rfl)) rfl ?_
     refine .cons (.assign .none (.s rfl)) rfl ?_
     refine .nil (.then ?_)
     refine .seq (.region [] mixed (by kernel_rfl) ?_)
     refine .cons (.load .none ty32 (.s rfl)) rfl ?_
     refine .cons (.move .none (.s rfl)) rfl ?_
     obtain ⟨hn8, h⟩ := need_some h
     refine .cons (.indexAddr .none sl32 ty3 (.s rfl) (.s rfl) (fun _ => hn8)) rfl ?_
     refine .cons (.load .none ty3 (.s rfl)) rfl ?_
     obtain ⟨low1, hv9, h⟩ := bnd_some h
     refine .cons (.re hv9 (.assign .none (.s rfl))) rfl ?_
     refine .nil (.then ?_)
     refine .seq ?_
     refine .seq (.region [] mixed (by kernel_rfl) ?_)
     refine .cons (.move .none (.s rfl)) rfl ?_
     refine .cons (.move .none (.int (by decide))) rfl ?_
     refine .nil (.then ?_)
     obtain ⟨j_10, h, hK10⟩ := bind_some h
     refine .thenJ (ι := Int) (fun j_10 => [(9, ⟨True, rep j_10⟩)]) (fun j_10 => []) (fun s => j_10 = s) (.k 0 rfl (.k 5 rfl (.k 7 rfl (.k 23 rfl (.k 24 rfl .nil))))) SubB.nil ?_ (fun j_10' hj10 => ?_)
     ·
      skip
      refine .block ?_
      refine .rforL h (fun p11_ => [(32, ⟨True, rep p11_.1⟩), (9, ⟨True, rep p11_.2⟩)]) (fun p11_ => []) (.k 32 rfl (.k 9 rfl .nil)) SubB.nil (.k 0 rfl (.k 5 rfl (.k 7 rfl (.k 8 rfl (.k 23 rfl (.k 24 rfl (.k 31 rfl .nil))))))) SubB.nil (fun p11_ o_11 h hD11 => ?_)
      refine .seq (.region [] mixed (by kernel_rfl) ?_)
      refine .cons (.lt .none (.s rfl) (.s rfl)) rfl ?_
      refine .nil (.then ?_)
      refine .seq ?_
      refine .cond (t := 33) rfl trivial (fun hb12 => ?_) (fun hb12 => ?_)
      ·
       replace h := bif_t h hb12
       refine .skip ?_
       refine .then ?_
       refine .seq ?_
       obtain ⟨j_13, h, hK13⟩ := bind_some h
       unfold ref_AreRanks_L2 at h
       refine .thenJ (ι := Int) (fun j_13 => [(9, ⟨True, rep j_13⟩)]) (fun j_13 => []) (fun s => j_13 = s) (.k 0 rfl (.k 5 rfl (.k 7 rfl (.k 8 rfl (.k 23 rfl (.k 24 rfl (.k 31 rfl (.k 32 rfl .nil)))))))) SubB.nil ?_ (fun j_13' hj13 => ?_)
       ·
        skip
        refine .block ?_
        refine .seq (.region [] mixed (by kernel_rfl) ?_)
        refine .cons (.move .none (.s rfl)) rfl ?_
        refine .cons (.assign .none (.s rfl)) rfl ?_
        refine .nil (.then ?_)
        refine .seq (.region [] mixed (by kernel_rfl) ?_)
        refine .cons (.move .none (.s rfl)) rfl ?_
        refine .cons (.move .none (.s rfl)) rfl ?_
        obtain ⟨hn14, h⟩ := need_some h
        refine .cons (.indexAddr .none sl32 ty3 (.s rfl) (.s rfl) (fun _ => hn14)) rfl ?_
        refine .cons (.load .none ty3 (.s rfl)) rfl ?_
        refine .cons (.move .none (.s rfl)) rfl ?_
        refine .cons (.move .none (.s rfl)) rfl ?_
        obtain ⟨hn15, h⟩ := need_some h
        refine .cons (.indexAddr .none sl32 ty3 (.s rfl) (.s rfl) (fun _ => hn15)) rfl ?_
        refine .cons (.load .none ty3 (.s rfl)) rfl ?_
        refine .cons (.eqI .none (.s rfl) (.s rfl)) rfl ?_
        refine .nil (.then ?_)
        refine .cond (t := 43) rfl trivial (fun hb16 => ?_) (fun hb16 => ?_)
        ·
         replace h := bif_t h hb16
         refine .region [] mixed (by kernel_rfl) ?_
         refine .cons (.move .none (.s rfl)) rfl ?_
         refine .cons (.load .none ty32 (.s rfl)) rfl ?_
         refine .cons (.move .none (.s rfl)) rfl ?_
         obtain ⟨hn17, h⟩ := need_some h
         refine .cons (.indexAddr .none sl32 ty3 (.s rfl) (.s rfl) (fun _ => hn17)) rfl ?_
         refine .cons (.load .none ty3 (.s rfl)) rfl ?_
         refine .cons (.min2 .none (.s rfl) (.s rfl)) rfl ?_
         obtain ⟨low2, hv18, h⟩ := bnd_some h
         refine .cons (.re hv18 (.assign .none (.s rfl))) rfl ?_
         refine .nil ?_
         refine .blkNormal ?_
         exact Ends.join _ (some_eq h) (.k 9 rfl (.k 0 rfl (.k 5 rfl (.k 7 rfl (.k 8 rfl (.k 23 rfl (.k 24 rfl (.k 31 rfl (.k 32 rfl .nil))))))))) SubB.nil
        ·
         replace h := bif_f h hb16
         refine .skip ?_
         refine .blkNormal ?_
         exact Ends.join _ (some_eq h) (.k 9 rfl (.k 0 rfl (.k 5 rfl (.k 7 rfl (.k 8 rfl (.k 23 rfl (.k 24 rfl (.k 31 rfl (.k 32 rfl .nil))))))))) SubB.nil
       ·
        subst hj13; have h := hK13; clear hK13
        refine .region [] mixed (by kernel_rfl) ?_
        refine .cons (.addW .none (.s rfl) (.int (by decide))) rfl ?_
        refine .cons (.move .none (.s rfl)) rfl ?_
        refine .nil ?_
        exact Ends.againL (some_eq h) (.k 32 rfl (.k 9 rfl (.k 0 rfl (.k 5 rfl (.k 7 rfl (.k 8 rfl (.k 23 rfl (.k 24 rfl (.k 31 rfl .nil))))))))) SubB.nil
      ·
       replace h := bif_f h hb12
       refine .exit ?_
       refine .thenExit ?_
       refine .thenExit ?_
       refine .blkExit ?_
       replace h := hD11 _ (some_eq h)
       exact Ends.join _ (some_eq h) (.k 9 rfl (.k 0 rfl (.k 5 rfl (.k 7 rfl (.k 23 rfl (.k 24 rfl .nil)))))) SubB.nil
     ·
      subst hj10; have h := hK10; clear hK10
      refine .seq (.region [] mixed (by kernel_rfl) ?_)
      refine .cons (.move .none (.s rfl)) rfl ?_
      refine .cons (.neI .none (.s rfl) (.int (by decide))) rfl ?_
      refine .nil (.then ?_)
      refine .cond (t := 52) rfl trivial (fun hb19 => ?_) (fun hb19 => ?_)
      ·
       replace h := bif_t h hb19
       refine .seq (.region [] mixed (by kernel_rfl) ?_)
       refine .cons (.assign .none .bool) rfl ?_
       refine .nil (.then ?_)
       refine .ret ?_
       refine .blkRet ?_
       refine .thenRet ?_
       refine .thenRet ?_
       refine .blkRet ?_
       refine .thenRet ?_
       replace h := resd_ab hK7 (some_eq h)
       replace h := hD5 _ (some_eq h)
       replace h := resb_ab hK4 (some_eq h)
       obtain rfl := some_eq h
       exact Ends.ret1 (.inl rfl) Try.results35 (ResOK.tmp rfl trivial Imp.refl)
      ·
       replace h := bif_f h hb19
       refine .skip ?_
       refine .blkNormal ?_
       exact Ends.join _ (some_eq h) (.k 0 rfl (.k 5 rfl (.k 7 rfl (.k 23 rfl (.k 24 rfl .nil))))) SubB.nil
    ·
     have h := resd_nx hK7 hj7
     refine .region [] mixed (by kernel_rfl) ?_
     refine .cons (.addW .none (.s rfl) (.int (by decide))) rfl ?_
     refine .cons (.move .none (.s rfl)) rfl ?_
     refine .nil ?_
     exact Ends.againL (some_eq h) (.k 24 rfl (.k 0 rfl (.k 5 rfl (.k 7 rfl (.k 23 rfl .nil))))) SubB.nil
   ·
    replace h := bif_f h hb6
    refine .exit ?_
    refine .thenExit ?_
    refine .thenExit ?_
    refine .blkExit ?_
    replace h := hD5 _ (some_eq h)
    exact Ends.join _ (some_eq h) Sub.nil SubB.nil
  ·
   have h := resb_nx hK4 hj4
   refine .seq (.region [] mixed (by kernel_rfl) ?_)
   refine .cons (.assign .none .bool) rfl ?_
   refine .nil (.then ?_)
   refine .ret ?_
   obtain rfl := some_eq h
   exact Ends.ret1 (.inl rfl) Try.results35 (ResOK.tmp rfl trivial Imp.refl)

theorem ref_bring_ok {to1 : Int} {l1 : (List Link)} {ranks1 : (List Int)} {need1 : (List Int)} {flow1 : (List Int)} {r : (Bool × (List Int) × (List Int))} {s143 : Value} {s144 : Value} (h : ref_bring to1 l1 ranks1 need1 flow1 = some r) : FSpecO Try.prog 77 [rep to1, rep l1, rep ranks1, isV s143, isV s144] [(s143, rowV 3 need1), (s144, rowV 3 flow1)] (rep r.1) [some (rowV 3 r.2.1), some (rowV 3 r.2.2)] := by
 unfold ref_bring at h
 refine FSpecO.intro (n := 143) fnok77 Try.func77 rfl Try.ntmps77 rfl (fun F => ?_)
 refine .seq (.region [] mixed (by kernel_rfl) ?_)
 refine .cons (.assign .none .bool) rfl ?_
 refine .nil (.then ?_)
 refine .seq (.region [([], [20]), ([], []), ([20], [20]), ([20], [22, 20]), ([22], [11, 22])] mixed (by kernel_rfl) ?_)
 refine .consW (.makeMap (K := Int) (V := Int) rfl) rfl rfl ?_
 refine .consA (.move .none (.s rfl)) rfl ?_
 refine .consN (.mapInsert (q := 20) mo88 rfl (.s rfl) (.int (by decide))) rfl ?_
 refine .consW (.passRowM rfl (.tmp rfl)) rfl rfl ?_
 refine .consW (.passRow rfl (.tmp rfl)) rfl rfl ?_
 refine .nil (.then ?_)
 obtain ⟨came1, hv1, h⟩ := bnd_some h
 refine .reB (t := 11) rfl (congrArg mapV hv1) ?_
 refine .nameMap (t := 11) (g := 5001) rfl rfl rfl (fun s5001 => ?_)
 refine .seq ?_
 refine .seq (.region [([], []), ([], [24]), ([24], [12, 24])] mixed (by kernel_rfl) ?_)
 refine .consA (.move .none (.s rfl)) rfl ?_
 refine .consW (.buildSliceO (xs := [_]) rfl sl32 ty3 hz3 (.cons (.s rfl) .nil) rfl (by decide)) rfl rfl ?_
 refine .consW (.passRow rfl (.tmp rfl)) rfl rfl ?_
 refine .nil (.then ?_)
 obtain ⟨queue1, hv2, h⟩ := bnd_some h
 refine .reB (t := 12) rfl (congrArg (rowV 3) hv2) ?_
 refine .nameRow (t := 12) (g := 5002) rfl rfl rfl (fun s5002 => ?_)
 obtain ⟨o_3, h, hK3⟩ := bindR_some h
 refine .thenJ (ι := Unit) (fun j_3 => []) (fun j_3 => []) (fun s => o_3 = Res.nx s) Sub.nil (.k 143 rfl (.k 144 rfl .nil)) ?_ (fun j_3 hj3 => ?_)
 ·
  skip
  refine .block ?_
  refine .anon (t := 12) (g := 5002) rfl rfl trivial rfl ?_
  refine .loopL h (fun s4_ => []) (fun s4_ => [(12, some (rowV 3 s4_.1)), (5001, some (CPred.at s5001 (mapV s4_.2)))]) Sub.nil (.k 12 rfl (.k 5001 rfl .nil)) (.k 0 rfl (.k 1 rfl (.k 2 rfl (.k 3 rfl (.k 4 rfl (.k 11 rfl .nil)))))) (.k 143 rfl (.k 144 rfl .nil)) (fun s4_ o_4 h hD4 => ?_)
  unfold ref_bring_L1 at h
  refine .nameRow (t := 12) (g := 5003) rfl rfl rfl (fun s5003 => ?_)
  refine .seq ?_
  refine .seq (.region [([], []), ([5003], []), ([], [])] mixed (by kernel_rfl) ?_)
  refine .consA (.move .none (.s rfl)) rfl ?_
  refine .consA (.lenO (k := 5003) sl32 (.told (.s rfl) rfl)) rfl ?_
  refine .consA (.gt .none (.s rfl) (.int (by decide))) rfl ?_
  refine .nil (.then ?_)
  refine .cond (t := 27) rfl trivial (fun hb5 => ?_) (fun hb5 => ?_)
  ·
   replace h := bif_t h hb5
   refine .skip ?_
   refine .then ?_
   refine .seq ?_
   obtain ⟨o_6, h, hK6⟩ := bindR_some h
   refine .thenJ (ι := ((List Int) × (GMap Int Int))) (fun j_6 => []) (fun j_6 => [(12, some (rowV 3 j_6.1)), (5001, some (CPred.at s5001 (mapV j_6.2)))]) (fun s => o_6 = Res.nx s) (.k 0 rfl (.k 1 rfl (.k 2 rfl (.k 3 rfl (.k 4 rfl (.k 11 rfl .nil)))))) (.k 143 rfl (.k 144 rfl .nil)) ?_ (fun j_6 hj6 => ?_)
   ·
    skip
    refine .block ?_
    refine .seq (.region [([], []), ([5003], []), ([5003], []), ([], [])] mixed (by kernel_rfl) ?_)
    refine .consA (.move .none (.s rfl)) rfl ?_
    obtain ⟨hn7, h⟩ := need_some h
    refine .consA (.indexAddrO (k := 5003) .none sl32 ty3 (.s rfl) rfl (.int (by decide)) (fun _ => hn7)) rfl ?_
    refine .consA (.loadElem0 (k := 5003) .none ty3 (.s rfl) rfl (fun _ => hn7)) rfl ?_
    obtain ⟨v1, hv8, h⟩ := bnd_some h
    refine .consA (.re hv8 (.assign .none (.s rfl))) rfl ?_
    refine .nil (.then ?_)
    refine .seq ?_
    refine .seq (.region [([], []), ([], []), ([143], []), ([143], []), ([], [])] mixed (by kernel_rfl) ?_)
    refine .consA (.move .none (.s rfl)) rfl ?_
    refine .consA (.move .none (.s rfl)) rfl ?_
    obtain ⟨hn9, h⟩ := need_some h
    refine .consA (.indexAddrO (k := 143) .none sl32 ty3 (.s rfl) rfl (.s rfl) (fun _ => hn9)) rfl ?_
    refine .consA (.loadElem0 (k := 143) .none ty3 (.s rfl) rfl (fun _ => hn9)) rfl ?_
    refine .consA (.lt .none (.s rfl) (.int (by decide))) rfl ?_
    refine .nil (.then ?_)
    obtain ⟨o_10, h, hK10⟩ := bindR_some h
    refine .thenJ (ι := Unit) (fun j_10 => []) (fun j_10 => []) (fun s => o_10 = Res.nx s) (.k 0 rfl (.k 1 rfl (.k 2 rfl (.k 3 rfl (.k 4 rfl (.k 11 rfl (.k 12 rfl (.k 13 rfl .nil)))))))) (.k 143 rfl (.k 144 rfl (.k 5001 rfl (.k 5003 rfl .nil)))) ?_ (fun j_10 hj10 => ?_)
    ·
     skip
     refine .cond (t := 37) rfl trivial (fun hb11 => ?_) (fun hb11 => ?_)
     ·
      replace h := bif_t h hb11
      refine .seq (.region [([], []), ([], []), ([143], []), ([143], []), ([], []), ([143], []), ([143], [143])] mixed (by kernel_rfl) ?_)
      refine .consA (.move .none (.s rfl)) rfl ?_
      refine .consA (.move .none (.s rfl)) rfl ?_
      obtain ⟨hn12, h⟩ := need_some h
      refine .consA (.indexAddrO (k := 143) .none sl32 ty3 (.s rfl) rfl (.s rfl) (fun _ => hn12)) rfl ?_
      refine .consA (.loadElem0 (k := 143) .none ty3 (.s rfl) rfl (fun _ => hn12)) rfl ?_
      obtain ⟨v2, hv13, h⟩ := bnd_some h
      refine .consA (.re hv13 (.addW .none (.s rfl) (.int (by decide)))) rfl ?_
      obtain ⟨hn14, h⟩ := need_some h
      refine .consA (.indexAddrO (k := 143) .none sl32 ty3 (.s rfl) rfl (.s rfl) (fun _ => hn14)) rfl ?_
      refine .consN (.storeElem0 (k := 143) ty3 (.s rfl) rfl (.s rfl) hn14) rfl ?_
      refine .nil (.then ?_)
      refine .freezeAt (g := 5001) (S := rep s4_.2) (ts := [11]) rfl (.cons (t := 11) rfl trivial .nil) (.k 143 rfl (.k 144 rfl .nil)) rfl (fun M D w h hms => mapV_rep h hms) ?_
      obtain ⟨need2, hv15, h⟩ := bnd_some h
      refine .reB (t := 143) rfl (congrArg (fun y => CPred.at s143 (rowV 3 y)) hv15) ?_
      refine .seq (.region [([], []), ([], []), ([143], []), ([143], []), ([], []), ([143], []), ([143], [143])] mixed (by kernel_rfl) ?_)
      refine .consA (.move .none (.s rfl)) rfl ?_
      refine .consA (.move .none (.s rfl)) rfl ?_
      obtain ⟨hn16, h⟩ := need_some h
      refine .consA (.indexAddrO (k := 143) .none sl32 ty3 (.s rfl) rfl (.s rfl) (fun _ => hn16)) rfl ?_
      refine .consA (.loadElem0 (k := 143) .none ty3 (.s rfl) rfl (fun _ => hn16)) rfl ?_
      obtain ⟨v3, hv17, h⟩ := bnd_some h
      refine .consA (.re hv17 (.subW .none (.s rfl) (.int (by decide)))) rfl ?_
      obtain ⟨hn18, h⟩ := need_some h
      refine .consA (.indexAddrO (k := 143) .none sl32 ty3 (.s rfl) rfl (.s rfl) (fun _ => hn18)) rfl ?_
      refine .consN (.storeElem0 (k := 143) ty3 (.s rfl) rfl (.s rfl) hn18) rfl ?_
      refine .nil (.then ?_)
      obtain ⟨c1, hv19, h⟩ := bnd_some h
      refine .reB (t := 143) rfl (congrArg (fun y => CPred.at s143 (rowV 3 y)) hv19) ?_
      refine .seq ?_
      obtain ⟨j_20, h, hK20⟩ := bind_some h
      refine .thenJ (ι := (List Int)) (fun j_20 => []) (fun j_20 => [(144, some (CPred.at s144 (rowV 3 j_20)))]) (fun s => j_20 = s) Sub.nil (.k 143 rfl .nil) ?_ (fun j_20' hj20 => ?_)
      ·
       skip
       refine .block ?_
       refine .loopL h (fun s21_ => [(13, ⟨True, rep s21_.1⟩)]) (fun s21_ => [(144, some (CPred.at s144 (rowV 3 s21_.2)))]) (.k 13 rfl .nil) (.k 144 rfl .nil) (.k 0 rfl (.k 1 rfl (.k 4 rfl (.k 11 rfl .nil)))) (.k 143 rfl .nil) (fun s21_ o_21 h hD21 => ?_)
       unfold ref_bring_L2 at h
       refine .seq ?_
       refine .seq (.region [] mixed (by kernel_rfl) ?_)
       refine .cons (.move .none (.s rfl)) rfl ?_
       refine .cons (.move .none (.s rfl)) rfl ?_
       refine .cons (.neI .none (.s rfl) (.s rfl)) rfl ?_
       refine .nil (.then ?_)
       refine .cond (t := 52) rfl trivial (fun hb22 => ?_) (fun hb22 => ?_)
       ·
        replace h := bif_t h hb22
        refine .skip ?_
        refine .then ?_
        refine .block ?_
        refine .seq (.region [] mixed (by kernel_rfl) ?_)
        refine .cons (.move .none (.s rfl)) rfl ?_
        refine .cons (.move .none (.s rfl)) rfl ?_
        refine .cons (.lookup .none mo88 zo3 (.s rfl) (.s rfl)) rfl ?_
        obtain ⟨i1, hv23, h⟩ := bnd_some h
        refine .cons (.re hv23 (.assign .none (.s rfl))) rfl ?_
        refine .nil (.then ?_)
        refine .seq (.region [] mixed (by kernel_rfl) ?_)
        refine .cons (.move .none (.s rfl)) rfl ?_
        refine .cons (.move .none (.s rfl)) rfl ?_
        obtain ⟨hn24, h⟩ := need_some h
        refine .cons (.indexAddr .none sl23 ty79 (.s rfl) (.s rfl) (fun _ => hn24)) rfl ?_
        refine .cons (.fieldAddr .none fd79_0 hfd79_0 (.s rfl)) rfl ?_
        refine .cons (.load .none ty3 (.s rfl)) rfl ?_
        refine .cons (.move .none (.s rfl)) rfl ?_
        refine .cons (.eqI .none (.s rfl) (.s rfl)) rfl ?_
        refine .nil (.then ?_)
        refine .cond (t := 62) rfl trivial (fun hb25 => ?_) (fun hb25 => ?_)
        ·
         replace h := bif_t h hb25
         refine .seq (.region [([], []), ([], []), ([144], []), ([144], []), ([], []), ([144], []), ([144], [144])] mixed (by kernel_rfl) ?_)
         refine .consA (.move .none (.s rfl)) rfl ?_
         refine .consA (.move .none (.s rfl)) rfl ?_
         obtain ⟨hn26, h⟩ := need_some h
         refine .consA (.indexAddrO (k := 144) .none sl32 ty3 (.s rfl) rfl (.s rfl) (fun _ => hn26)) rfl ?_
         refine .consA (.loadElem0 (k := 144) .none ty3 (.s rfl) rfl (fun _ => hn26)) rfl ?_
         obtain ⟨v4, hv27, h⟩ := bnd_some h
         refine .consA (.re hv27 (.addW .none (.s rfl) (.int (by decide)))) rfl ?_
         obtain ⟨hn28, h⟩ := need_some h
         refine .consA (.indexAddrO (k := 144) .none sl32 ty3 (.s rfl) rfl (.s rfl) (fun _ => hn28)) rfl ?_
         refine .consN (.storeElem0 (k := 144) ty3 (.s rfl) rfl (.s rfl) hn28) rfl ?_
         refine .nil (.then ?_)
         obtain ⟨flow2, hv29, h⟩ := bnd_some h
         refine .reB (t := 144) rfl (congrArg (fun y => CPred.at s144 (rowV 3 y)) hv29) ?_
         refine .region [] mixed (by kernel_rfl) ?_
         refine .cons (.move .none (.s rfl)) rfl ?_
         refine .cons (.move .none (.s rfl)) rfl ?_
         obtain ⟨hn30, h⟩ := need_some h
         refine .cons (.indexAddr .none sl23 ty79 (.s rfl) (.s rfl) (fun _ => hn30)) rfl ?_
         refine .cons (.fieldAddr .none fd79_1 hfd79_1 (.s rfl)) rfl ?_
         refine .cons (.load .none ty3 (.s rfl)) rfl ?_
         obtain ⟨v5, hv31, h⟩ := bnd_some h
         refine .cons (.re hv31 (.assign .none (.s rfl))) rfl ?_
         refine .nil ?_
         refine .blkNormal ?_
         exact Ends.againL (some_eq h) (.k 13 rfl (.k 0 rfl (.k 1 rfl (.k 4 rfl (.k 11 rfl .nil))))) (.k 144 rfl (.k 143 rfl .nil))
        ·
         replace h := bif_f h hb25
         refine .seq (.region [([], []), ([], []), ([144], []), ([144], []), ([], []), ([144], []), ([144], [144])] mixed (by kernel_rfl) ?_)
         refine .consA (.move .none (.s rfl)) rfl ?_
         refine .consA (.move .none (.s rfl)) rfl ?_
         obtain ⟨hn32, h⟩ := need_some h
         refine .consA (.indexAddrO (k := 144) .none sl32 ty3 (.s rfl) rfl (.s rfl) (fun _ => hn32)) rfl ?_
         refine .consA (.loadElem0 (k := 144) .none ty3 (.s rfl) rfl (fun _ => hn32)) rfl ?_
         obtain ⟨v6, hv33, h⟩ := bnd_some h
         refine .consA (.re hv33 (.subW .none (.s rfl) (.int (by decide)))) rfl ?_
         obtain ⟨hn34, h⟩ := need_some h
         refine .consA (.indexAddrO (k := 144) .none sl32 ty3 (.s rfl) rfl (.s rfl) (fun _ => hn34)) rfl ?_
         refine .consN (.storeElem0 (k := 144) ty3 (.s rfl) rfl (.s rfl) hn34) rfl ?_
         refine .nil (.then ?_)
         obtain ⟨flow3, hv35, h⟩ := bnd_some h
         refine .reB (t := 144) rfl (congrArg (fun y => CPred.at s144 (rowV 3 y)) hv35) ?_
         refine .region [] mixed (by kernel_rfl) ?_
         refine .cons (.move .none (.s rfl)) rfl ?_
         refine .cons (.move .none (.s rfl)) rfl ?_
         obtain ⟨hn36, h⟩ := need_some h
         refine .cons (.indexAddr .none sl23 ty79 (.s rfl) (.s rfl) (fun _ => hn36)) rfl ?_
         refine .cons (.fieldAddr .none fd79_0 hfd79_0 (.s rfl)) rfl ?_
         refine .cons (.load .none ty3 (.s rfl)) rfl ?_
         obtain ⟨v7, hv37, h⟩ := bnd_some h
         refine .cons (.re hv37 (.assign .none (.s rfl))) rfl ?_
         refine .nil ?_
         refine .blkNormal ?_
         exact Ends.againL (some_eq h) (.k 13 rfl (.k 0 rfl (.k 1 rfl (.k 4 rfl (.k 11 rfl .nil))))) (.k 144 rfl (.k 143 rfl .nil))
       ·
        replace h := bif_f h hb22
        refine .exit ?_
        refine .thenExit ?_
        refine .thenExit ?_
        refine .blkExit ?_
        replace h := hD21 _ (some_eq h)
        exact Ends.join _ (some_eq h) Sub.nil (.k 144 rfl (.k 143 rfl .nil))
      ·
       subst hj20; have h := hK20; clear hK20
       refine .seq (.region [] mixed (by kernel_rfl) ?_)
       refine .cons (.assign .none .bool) rfl ?_
       refine .nil (.then ?_)
       refine .ret ?_
       refine .thenRet ?_
       refine .blkRet ?_
       refine .thenRet ?_
       refine .thenRet ?_
       refine .blkRet ?_
       refine .thenRet ?_
       replace h := resb_ab hK10 (some_eq h)
       replace h := resb_ab hK6 (some_eq h)
       replace h := hD4 _ (some_eq h)
       replace h := resb_ab hK3 (some_eq h)
       obtain rfl := some_eq h
       exact Ends.ret1O (.inl rfl) [143, 144] Try.results77 (by decide) (.held rfl (.held rfl .nil)) (ResOK.tmp rfl trivial Imp.refl)
     ·
      replace h := bif_f h hb11
      refine .skip ?_
      exact Ends.join _ (some_eq h) (.k 0 rfl (.k 1 rfl (.k 2 rfl (.k 3 rfl (.k 4 rfl (.k 11 rfl (.k 12 rfl (.k 13 rfl .nil)))))))) (.k 143 rfl (.k 144 rfl (.k 5001 rfl (.k 5003 rfl .nil))))
    ·
     have h := resb_nx hK10 hj10
     refine .seq (.region [] mixed (by kernel_rfl) ?_)
     refine .cons (.move .none (.s rfl)) rfl ?_
     refine .cons (.len .none sl23 (.s rfl)) rfl ?_
     refine .cons (.move .none (.int (by decide))) rfl ?_
     refine .nil (.then ?_)
     obtain ⟨j_38, h, hK38⟩ := bind_some h
     refine .tailJ (ι := ((List Int) × (GMap Int Int))) (fun j_38 => []) (fun j_38 => [(12, some (rowV 3 j_38.1)), (5001, some (CPred.at s5001 (mapV j_38.2)))]) (fun s => j_38 = s) (.k 0 rfl (.k 1 rfl (.k 2 rfl (.k 3 rfl (.k 4 rfl (.k 11 rfl .nil)))))) (.k 143 rfl (.k 144 rfl .nil)) ?_ (fun j_38' hj38 => ?_)
     ·
      skip
      refine .block ?_
      refine .anon (t := 12) (g := 5003) rfl rfl trivial rfl ?_
      refine .rforL h (fun p39_ => [(87, ⟨True, rep p39_.1⟩)]) (fun p39_ => [(12, some (rowV 3 p39_.2.1)), (5001, some (CPred.at s5001 (mapV p39_.2.2)))]) (.k 87 rfl .nil) (.k 12 rfl (.k 5001 rfl .nil)) (.k 0 rfl (.k 1 rfl (.k 2 rfl (.k 3 rfl (.k 4 rfl (.k 11 rfl (.k 13 rfl (.k 85 rfl (.k 86 rfl .nil))))))))) (.k 143 rfl (.k 144 rfl .nil)) (fun p39_ o_39 h hD39 => ?_)
      refine .nameRow (t := 12) (g := 5004) rfl rfl rfl (fun s5004 => ?_)
      refine .seq (.region [] mixed (by kernel_rfl) ?_)
      refine .cons (.lt .none (.s rfl) (.s rfl)) rfl ?_
      refine .nil (.then ?_)
      refine .seq ?_
      refine .cond (t := 88) rfl trivial (fun hb40 => ?_) (fun hb40 => ?_)
      ·
       replace h := bif_t h hb40
       refine .skip ?_
       refine .then ?_
       refine .seq ?_
       obtain ⟨j_41, h, hK41⟩ := bind_some h
       unfold ref_bring_L3 at h
       refine .thenJ (ι := ((List Int) × (GMap Int Int))) (fun j_41 => []) (fun j_41 => [(12, some (rowV 3 j_41.1)), (5001, some (CPred.at s5001 (mapV j_41.2)))]) (fun s => j_41 = s) (.k 0 rfl (.k 1 rfl (.k 2 rfl (.k 3 rfl (.k 4 rfl (.k 11 rfl (.k 13 rfl (.k 85 rfl (.k 86 rfl (.k 87 rfl .nil)))))))))) (.k 143 rfl (.k 144 rfl .nil)) ?_ (fun j_41' hj41 => ?_)
       ·
        skip
        refine .block ?_
        refine .seq (.region [([], []), ([], []), ([], []), ([], [16]), ([], []), ([16], [16])] mixed (by kernel_rfl) ?_)
        refine .consA (.move .none (.s rfl)) rfl ?_
        obtain ⟨hn42, h⟩ := need_some h
        refine .consA (.indexAddr .none sl23 ty79 (.s rfl) (.s rfl) (fun _ => hn42)) rfl ?_
        obtain ⟨v8, hv43, h⟩ := bnd_some h
        refine .consA (.re hv43 (.load .none ty79 (.s rfl))) rfl ?_
        refine .consW (.alloc zo79 rfl) rfl rfl ?_
        refine .consA (.assign .none (.s rfl)) rfl ?_
        refine .consN (.store ty79 rfl rfl (.s rfl)) rfl ?_
        refine .nil (.then ?_)
        refine .freeze (t := 16) rfl rfl (.k 143 rfl (.k 144 rfl (.k 5001 rfl (.k 5004 rfl .nil)))) rfl ?_
        refine .seq (.region [] mixed (by kernel_rfl) ?_)
        refine .cons (.assign .none (.int (by decide))) rfl ?_
        refine .nil (.then ?_)
        refine .seq ?_
        refine .seq (.region [] mixed (by kernel_rfl) ?_)
        refine .cons (.fieldAddr .none fd79_1 hfd79_1 (.s rfl)) rfl ?_
        refine .cons (.load .none ty3 (.s rfl)) rfl ?_
        refine .cons (.move .none (.s rfl)) rfl ?_
        refine .cons (.eqI .none (.s rfl) (.s rfl)) rfl ?_
        refine .cons (.move .none (.s rfl)) rfl ?_
        refine .cons (.move (.at rfl rfl) (.s rfl)) rfl ?_
        refine .cons (.fieldAddr (.at rfl rfl) fd79_1 hfd79_1 (.s rfl)) rfl ?_
        refine .cons (.load (.at rfl rfl) ty3 (.tmp rfl id)) rfl ?_
        obtain ⟨hn44, h⟩ := need_some h
        refine .cons (.indexAddr (.at rfl rfl) sl32 ty3 (.tmp rfl id) (.tmp rfl id) (fun hg => hn44 hg.2)) rfl ?_
        refine .cons (.load (.at rfl rfl) ty3 (.tmp rfl id)) rfl ?_
        refine .cons (.move (.at rfl rfl) (.s rfl)) rfl ?_
        refine .cons (.fieldAddr (.at rfl rfl) fd79_0 hfd79_0 (.s rfl)) rfl ?_
        refine .cons (.load (.at rfl rfl) ty3 (.tmp rfl id)) rfl ?_
        obtain ⟨hn45, h⟩ := need_some h
        refine .cons (.indexAddr (.at rfl rfl) sl32 ty3 (.tmp rfl id) (.tmp rfl id) (fun hg => hn45 hg.2)) rfl ?_
        refine .cons (.load (.at rfl rfl) ty3 (.tmp rfl id)) rfl ?_
        refine .cons (.addW (.at rfl rfl) (.tmp rfl id) (.int (by decide))) rfl ?_
        refine .cons (.eqI (.at rfl rfl) (.tmp rfl id) (.tmp rfl id)) rfl ?_
        refine .cons (.pickAnd .none (.s rfl) (.tmp rfl id)) rfl ?_
        refine .nil (.then ?_)
        obtain ⟨j_46, h, hK46⟩ := bind_some h
        refine .thenJ (ι := Int) (fun j_46 => [(17, ⟨True, rep j_46⟩)]) (fun j_46 => []) (fun s => j_46 = s) (.k 0 rfl (.k 1 rfl (.k 2 rfl (.k 3 rfl (.k 4 rfl (.k 11 rfl (.k 12 rfl (.k 13 rfl (.k 15 rfl (.k 85 rfl (.k 86 rfl (.k 87 rfl .nil)))))))))))) (.k 143 rfl (.k 144 rfl (.k 5001 rfl (.k 5004 rfl .nil)))) ?_ (fun j_46' hj46 => ?_)
        ·
         skip
         refine .cond (t := 109) rfl trivial (fun hb47 => ?_) (fun hb47 => ?_)
         ·
          replace h := bif_t h hb47
          refine .region [] mixed (by kernel_rfl) ?_
          refine .cons (.fieldAddr .none fd79_0 hfd79_0 (.s rfl)) rfl ?_
          refine .cons (.load .none ty3 (.s rfl)) rfl ?_
          refine .cons (.assign .none (.s rfl)) rfl ?_
          refine .nil ?_
          exact Ends.join _ (some_eq h) (.k 17 rfl (.k 0 rfl (.k 1 rfl (.k 2 rfl (.k 3 rfl (.k 4 rfl (.k 11 rfl (.k 12 rfl (.k 13 rfl (.k 15 rfl (.k 85 rfl (.k 86 rfl (.k 87 rfl .nil))))))))))))) (.k 143 rfl (.k 144 rfl (.k 5001 rfl (.k 5004 rfl .nil))))
         ·
          replace h := bif_f h hb47
          refine .seq (.region [([], []), ([], []), ([], []), ([], []), ([], []), ([], []), ([], []), ([144], []), ([144], []), ([], []), ([], [])] mixed (by kernel_rfl) ?_)
          refine .consA (.fieldAddr .none fd79_0 hfd79_0 (.s rfl)) rfl ?_
          refine .consA (.load .none ty3 (.s rfl)) rfl ?_
          refine .consA (.move .none (.s rfl)) rfl ?_
          refine .consA (.eqI .none (.s rfl) (.s rfl)) rfl ?_
          refine .consA (.move .none (.s rfl)) rfl ?_
          refine .consA (.move (.at rfl rfl) (.s rfl)) rfl ?_
          refine .consA (.move (.at rfl rfl) (.s rfl)) rfl ?_
          obtain ⟨hn48, h⟩ := need_some h
          refine .consA (.indexAddrO (k := 144) (.at rfl rfl) sl32 ty3 (.tmp rfl id) rfl (.tmp rfl id) (fun hg => hn48 hg.2)) rfl ?_
          refine .consA (.loadElem0 (k := 144) (.at rfl rfl) ty3 (.tmp rfl id) rfl (fun hg => hn48 hg.2)) rfl ?_
          refine .consA (.gt (.at rfl rfl) (.tmp rfl id) (.int (by decide))) rfl ?_
          refine .consA (.pickAnd .none (.s rfl) (.tmp rfl id)) rfl ?_
          refine .nil (.then ?_)
          refine .cond (t := 122) rfl trivial (fun hb49 => ?_) (fun hb49 => ?_)
          ·
           replace h := bif_t h hb49
           refine .region [] mixed (by kernel_rfl) ?_
           refine .cons (.fieldAddr .none fd79_1 hfd79_1 (.s rfl)) rfl ?_
           refine .cons (.load .none ty3 (.s rfl)) rfl ?_
           refine .cons (.assign .none (.s rfl)) rfl ?_
           refine .nil ?_
           exact Ends.join _ (some_eq h) (.k 17 rfl (.k 0 rfl (.k 1 rfl (.k 2 rfl (.k 3 rfl (.k 4 rfl (.k 11 rfl (.k 12 rfl (.k 13 rfl (.k 15 rfl (.k 85 rfl (.k 86 rfl (.k 87 rfl .nil))))))))))))) (.k 143 rfl (.k 144 rfl (.k 5001 rfl (.k 5004 rfl .nil))))
          ·
           replace h := bif_f h hb49
           refine .skip ?_
           exact Ends.join _ (some_eq h) (.k 17 rfl (.k 0 rfl (.k 1 rfl (.k 2 rfl (.k 3 rfl (.k 4 rfl (.k 11 rfl (.k 12 rfl (.k 13 rfl (.k 15 rfl (.k 85 rfl (.k 86 rfl (.k 87 rfl .nil))))))))))))) (.k 143 rfl (.k 144 rfl (.k 5001 rfl (.k 5004 rfl .nil))))
        ·
         subst hj46; have h := hK46; clear hK46
         refine .seq (.region [] mixed (by kernel_rfl) ?_)
         refine .cons (.move .none (.s rfl)) rfl ?_
         refine .cons (.ge .none (.s rfl) (.int (by decide))) rfl ?_
         refine .nil (.then ?_)
         refine .cond (t := 126) rfl trivial (fun hb50 => ?_) (fun hb50 => ?_)
         ·
          replace h := bif_t h hb50
          refine .seq (.region [([], []), ([], []), ([5001], []), ([], []), ([], []), ([], []), ([], []), ([], [])] mixed (by kernel_rfl) ?_)
          refine .consA (.move .none (.s rfl)) rfl ?_
          refine .consA (.move .none (.s rfl)) rfl ?_
          refine .consA (.lookupOkO (q := 5001) .none mo88 zo3 ownMap_self (.told (.s rfl) rfl) (.s rfl)) rfl ?_
          refine .consA (.move .none (.s rfl)) rfl ?_
          refine .consA (.extract .none (.s rfl) rfl) rfl ?_
          refine .consA (.extract .none (.s rfl) rfl) rfl ?_
          refine .consA (.assign .none (.s rfl)) rfl ?_
          refine .consA (.assign .none (.s rfl)) rfl ?_
          refine .nil (.then ?_)
          refine .seq (.region [] mixed (by kernel_rfl) ?_)
          refine .cons (.move .none (.s rfl)) rfl ?_
          refine .cons (.not .none (.s rfl)) rfl ?_
          refine .nil (.then ?_)
          refine .cond (t := 134) rfl trivial (fun hb51 => ?_) (fun hb51 => ?_)
          ·
           replace h := bif_t h hb51
           refine .seq (.region [([], []), ([], []), ([], []), ([5001], [5001])] mixed (by kernel_rfl) ?_)
           refine .consA (.move .none (.s rfl)) rfl ?_
           refine .consA (.move .none (.s rfl)) rfl ?_
           refine .consA (.move .none (.s rfl)) rfl ?_
           refine .consN (.mapUpdate (q := 5001) mo88 (.s rfl) rfl (.s rfl) (.s rfl)) rfl ?_
           refine .nil (.then ?_)
           obtain ⟨came2, hv52, h⟩ := bnd_some h
           refine .reB (t := 5001) rfl (congrArg (fun y => CPred.at s5001 (mapV y)) hv52) ?_
           refine .region [([], []), ([], []), ([], []), ([5004], [141, 5004]), ([141], [12, 141])] mixed (by kernel_rfl) ?_
           refine .consA (.move .none (.s rfl)) rfl ?_
           refine .consA (.move .none (.s rfl)) rfl ?_
           refine .consA (.buildSlice (xs := [_]) .none sl32 ty3 hz3 (.cons (.s rfl) .nil) rfl (by decide)) rfl ?_
           obtain ⟨hn53, h⟩ := need_some h
           refine .consW (.append (k := 5004) rk32 rfl (.told (.s rfl) rfl) (.s rfl) hn53) rfl rfl ?_
           refine .consW (.passRow rfl (.tmp rfl)) rfl rfl ?_
           refine .nil ?_
           refine .blkNormal ?_
           exact Ends.join _ (some_eq h) (.k 0 rfl (.k 1 rfl (.k 2 rfl (.k 3 rfl (.k 4 rfl (.k 11 rfl (.k 13 rfl (.k 85 rfl (.k 86 rfl (.k 87 rfl .nil)))))))))) (.k 12 rfl (.k 5001 rfl (.k 143 rfl (.k 144 rfl .nil))))
          ·
           replace h := bif_f h hb51
           refine .skip ?_
           refine .blkNormal ?_
           refine .anon (t := 12) (g := 5004) rfl rfl trivial rfl ?_
           exact Ends.join _ (some_eq h) (.k 0 rfl (.k 1 rfl (.k 2 rfl (.k 3 rfl (.k 4 rfl (.k 11 rfl (.k 13 rfl (.k 85 rfl (.k 86 rfl (.k 87 rfl .nil)))))))))) (.k 12 rfl (.k 5001 rfl (.k 143 rfl (.k 144 rfl .nil))))
         ·
          replace h := bif_f h hb50
          refine .skip ?_
          refine .blkNormal ?_
          refine .anon (t := 12) (g := 5004) rfl rfl trivial rfl ?_
          exact Ends.join _ (some_eq h) (.k 0 rfl (.k 1 rfl (.k 2 rfl (.k 3 rfl (.k 4 rfl (.k 11 rfl (.k 13 rfl (.k 85 rfl (.k 86 rfl (.k 87 rfl .nil)))))))))) (.k 12 rfl (.k 5001 rfl (.k 143 rfl (.k 144 rfl .nil))))
       ·
        subst hj41; have h := hK41; clear hK41
        refine .nameRow (t := 12) (g := 5005) rfl rfl rfl (fun s5005 => ?_)
        refine .region [] mixed (by kernel_rfl) ?_
        refine .cons (.addW .none (.s rfl) (.int (by decide))) rfl ?_
        refine .cons (.move .none (.s rfl)) rfl ?_
        refine .nil ?_
        refine .anon (t := 12) (g := 5005) rfl rfl trivial rfl ?_
        exact Ends.againL (some_eq h) (.k 87 rfl (.k 0 rfl (.k 1 rfl (.k 2 rfl (.k 3 rfl (.k 4 rfl (.k 11 rfl (.k 13 rfl (.k 85 rfl (.k 86 rfl .nil)))))))))) (.k 12 rfl (.k 5001 rfl (.k 143 rfl (.k 144 rfl .nil))))
      ·
       replace h := bif_f h hb40
       refine .exit ?_
       refine .thenExit ?_
       refine .thenExit ?_
       refine .blkExit ?_
       refine .anon (t := 12) (g := 5004) rfl rfl trivial rfl ?_
       replace h := hD39 _ (some_eq h)
       exact Ends.join _ (some_eq h) (.k 0 rfl (.k 1 rfl (.k 2 rfl (.k 3 rfl (.k 4 rfl (.k 11 rfl .nil)))))) (.k 12 rfl (.k 5001 rfl (.k 143 rfl (.k 144 rfl .nil))))
     ·
      subst hj38; have h := hK38; clear hK38
      refine .blkNormal ?_
      exact Ends.join _ (some_eq h) (.k 0 rfl (.k 1 rfl (.k 2 rfl (.k 3 rfl (.k 4 rfl (.k 11 rfl .nil)))))) (.k 12 rfl (.k 5001 rfl (.k 143 rfl (.k 144 rfl .nil))))
   ·
    have h := resb_nx hK6 hj6
    refine .nameRow (t := 12) (g := 5006) rfl rfl rfl (fun s5006 => ?_)
    refine .region [([], []), ([5006], [29, 5006]), ([29], [12, 29])] mixed (by kernel_rfl) ?_
    refine .consA (.move .none (.s rfl)) rfl ?_
    obtain ⟨hn54, h⟩ := need_some h
    refine .consW (.sliceRow (k := 5006) sl32 ty3 rfl (.s rfl) rfl (.int (by decide)) rfl hn54) rfl rfl ?_
    refine .consWD (.passRow rfl (.tmp rfl)) rfl rfl ?_
    refine .nil ?_
    exact Ends.againL (some_eq h) (.k 0 rfl (.k 1 rfl (.k 2 rfl (.k 3 rfl (.k 4 rfl (.k 11 rfl .nil)))))) (.k 12 rfl (.k 5001 rfl (.k 143 rfl (.k 144 rfl .nil))))
  ·
   replace h := bif_f h hb5
   refine .exit ?_
   refine .thenExit ?_
   refine .thenExit ?_
   refine .blkExit ?_
   replace h := hD4 _ (some_eq h)
   exact Ends.join _ (some_eq h) Sub.nil (.k 143 rfl (.k 144 rfl .nil))
 ·
  have h := resb_nx hK3 hj3
  refine .seq (.region [] mixed (by kernel_rfl) ?_)
  refine .cons (.assign .none .bool) rfl ?_
  refine .nil (.then ?_)
  refine .ret ?_
  obtain rfl := some_eq h
  exact Ends.ret1O (.inl rfl) [143, 144] Try.results77 (by decide) (.held rfl (.held rfl .nil)) (ResOK.tmp rfl trivial Imp.refl)

theorem ref_AreLeast_ok {n1 : Int} {l1 : (List Link)} {ranks1 : (List Int)} {r : Bool}  (h : ref_AreLeast n1 l1 ranks1 = some r) : FSpec Try.prog 36 [rep n1, rep l1, rep ranks1] (rep r) := by
 unfold ref_AreLeast at h
 refine FSpec.intro (n := 55) fnok36 Try.func36 rfl Try.ntmps36 rfl (fun F => ?_)
 refine .seq (.region [] mixed (by kernel_rfl) ?_)
 refine .cons (.assign .none .bool) rfl ?_
 refine .nil (.then ?_)
 refine .seq (.region [([], []), ([], [13]), ([13], [7, 13])] mixed (by kernel_rfl) ?_)
 refine .consA (.move .none (.s rfl)) rfl ?_
 obtain ⟨hn1, h⟩ := need_some h
 refine .consW (.makeSlice rk32 zo3 rfl (.s rfl) (.s rfl) hn1) rfl rfl ?_
 refine .consW (.passRow rfl (.tmp rfl)) rfl rfl ?_
 refine .nil (.then ?_)
 obtain ⟨need1, hv2, h⟩ := bnd_some h
 refine .reB (t := 7) rfl (congrArg (rowV 3) hv2) ?_
 refine .nameRow (t := 7) (g := 5001) rfl rfl rfl (fun s5001 => ?_)
 refine .seq ?_
 refine .seq (.region [] mixed (by kernel_rfl) ?_)
 refine .cons (.move .none (.s rfl)) rfl ?_
 refine .cons (.len .none sl23 (.s rfl)) rfl ?_
 refine .cons (.move .none (.int (by decide))) rfl ?_
 refine .nil (.then ?_)
 obtain ⟨j_3, h, hK3⟩ := bind_some h
 refine .thenJ (ι := (List Int)) (fun j_3 => []) (fun j_3 => [(5001, some (CPred.at s5001 (rowV 3 j_3)))]) (fun s => j_3 = s) (.k 0 rfl (.k 1 rfl (.k 2 rfl (.k 7 rfl .nil)))) SubB.nil ?_ (fun j_3' hj3 => ?_)
 ·
  skip
  refine .block ?_
  refine .rforL h (fun p4_ => [(16, ⟨True, rep p4_.1⟩)]) (fun p4_ => [(5001, some (CPred.at s5001 (rowV 3 p4_.2)))]) (.k 16 rfl .nil) (.k 5001 rfl .nil) (.k 0 rfl (.k 1 rfl (.k 2 rfl (.k 7 rfl (.k 14 rfl (.k 15 rfl .nil)))))) SubB.nil (fun p4_ o_4 h hD4 => ?_)
  refine .seq (.region [] mixed (by kernel_rfl) ?_)
  refine .cons (.lt .none (.s rfl) (.s rfl)) rfl ?_
  refine .nil (.then ?_)
  refine .seq ?_
  refine .cond (t := 17) rfl trivial (fun hb5 => ?_) (fun hb5 => ?_)
  ·
   replace h := bif_t h hb5
   refine .skip ?_
   refine .then ?_
   refine .seq ?_
   obtain ⟨j_6, h, hK6⟩ := bind_some h
   unfold ref_AreLeast_L1 at h
   refine .thenJ (ι := (List Int)) (fun j_6 => []) (fun j_6 => [(5001, some (CPred.at s5001 (rowV 3 j_6)))]) (fun s => j_6 = s) (.k 0 rfl (.k 1 rfl (.k 2 rfl (.k 7 rfl (.k 14 rfl (.k 15 rfl (.k 16 rfl .nil))))))) SubB.nil ?_ (fun j_6' hj6 => ?_)
   ·
    skip
    refine .block ?_
    refine .seq (.region [([], []), ([], []), ([], [9]), ([9], [9])] mixed (by kernel_rfl) ?_)
    obtain ⟨hn7, h⟩ := need_some h
    refine .consA (.indexAddr .none sl23 ty79 (.s rfl) (.s rfl) (fun _ => hn7)) rfl ?_
    obtain ⟨v1, hv8, h⟩ := bnd_some h
    refine .consA (.re hv8 (.load .none ty79 (.s rfl))) rfl ?_
    refine .consW (.alloc zo79 rfl) rfl rfl ?_
    refine .consN (.store ty79 rfl rfl (.s rfl)) rfl ?_
    refine .nil (.then ?_)
    refine .freeze (t := 9) rfl rfl (.k 5001 rfl .nil) rfl ?_
    refine .seq (.region [([], []), ([], []), ([], []), ([5001], []), ([5001], []), ([], []), ([5001], []), ([5001], [5001])] mixed (by kernel_rfl) ?_)
    refine .consA (.move .none (.s rfl)) rfl ?_
    refine .consA (.fieldAddr .none fd79_1 hfd79_1 (.s rfl)) rfl ?_
    refine .consA (.load .none ty3 (.s rfl)) rfl ?_
    obtain ⟨hn9, h⟩ := need_some h
    refine .consA (.indexAddrO (k := 5001) .none sl32 ty3 (.s rfl) rfl (.s rfl) (fun _ => hn9)) rfl ?_
    refine .consA (.loadElem0 (k := 5001) .none ty3 (.s rfl) rfl (fun _ => hn9)) rfl ?_
    obtain ⟨v2, hv10, h⟩ := bnd_some h
    refine .consA (.re hv10 (.addW .none (.s rfl) (.int (by decide)))) rfl ?_
    obtain ⟨hn11, h⟩ := need_some h
    refine .consA (.indexAddrO (k := 5001) .none sl32 ty3 (.s rfl) rfl (.s rfl) (fun _ => hn11)) rfl ?_
    refine .consN (.storeElem0 (k := 5001) ty3 (.s rfl) rfl (.s rfl) hn11) rfl ?_
    refine .nil (.then ?_)
    obtain ⟨need2, hv12, h⟩ := bnd_some h
    refine .reB (t := 5001) rfl (congrArg (fun y => CPred.at s5001 (rowV 3 y)) hv12) ?_
    refine .region [([], []), ([], []), ([], []), ([5001], []), ([5001], []), ([], []), ([5001], []), ([5001], [5001])] mixed (by kernel_rfl) ?_
    refine .consA (.move .none (.s rfl)) rfl ?_
    refine .consA (.fieldAddr .none fd79_0 hfd79_0 (.s rfl)) rfl ?_
    refine .consA (.load .none ty3 (.s rfl)) rfl ?_
    obtain ⟨hn13, h⟩ := need_some h
    refine .consA (.indexAddrO (k := 5001) .none sl32 ty3 (.s rfl) rfl (.s rfl) (fun _ => hn13)) rfl ?_
    refine .consA (.loadElem0 (k := 5001) .none ty3 (.s rfl) rfl (fun _ => hn13)) rfl ?_
    obtain ⟨v3, hv14, h⟩ := bnd_some h
    refine .consA (.re hv14 (.subW .none (.s rfl) (.int (by decide)))) rfl ?_
    obtain ⟨hn15, h⟩ := need_some h
    refine .consA (.indexAddrO (k := 5001) .none sl32 ty3 (.s rfl) rfl (.s rfl) (fun _ => hn15)) rfl ?_
    refine .consN (.storeElem0 (k := 5001) ty3 (.s rfl) rfl (.s rfl) hn15) rfl ?_
    refine .nil ?_
    refine .blkNormal ?_
    exact Ends.join _ (some_eq h) (.k 0 rfl (.k 1 rfl (.k 2 rfl (.k 7 rfl (.k 14 rfl (.k 15 rfl (.k 16 rfl .nil))))))) (.k 5001 rfl .nil)
   ·
    subst hj6; have h := hK6; clear hK6
    refine .region [] mixed (by kernel_rfl) ?_
    refine .cons (.addW .none (.s rfl) (.int (by decide))) rfl ?_
    refine .cons (.move .none (.s rfl)) rfl ?_
    refine .nil ?_
    exact Ends.againL (some_eq h) (.k 16 rfl (.k 0 rfl (.k 1 rfl (.k 2 rfl (.k 7 rfl (.k 14 rfl (.k 15 rfl .nil))))))) (.k 5001 rfl .nil)
  ·
   replace h := bif_f h hb5
   refine .exit ?_
   refine .thenExit ?_
   refine .thenExit ?_
   refine .blkExit ?_
   replace h := hD4 _ (some_eq h)
   exact Ends.join _ (some_eq h) (.k 0 rfl (.k 1 rfl (.k 2 rfl (.k 7 rfl .nil)))) (.k 5001 rfl .nil)
 ·
  subst hj3; have h := hK3; clear hK3
  refine .seq (.region [([], []), ([], []), ([], [37]), ([37], [10, 37])] mixed (by kernel_rfl) ?_)
  refine .consA (.move .none (.s rfl)) rfl ?_
  obtain ⟨v4, hv16, h⟩ := bnd_some h
  refine .consA (.re hv16 (.len .none sl23 (.s rfl))) rfl ?_
  obtain ⟨hn17, h⟩ := need_some h
  refine .consW (.makeSlice rk32 zo3 rfl (.s rfl) (.s rfl) hn17) rfl rfl ?_
  refine .consW (.passRow rfl (.tmp rfl)) rfl rfl ?_
  refine .nil (.then ?_)
  obtain ⟨flow1, hv18, h⟩ := bnd_some h
  refine .reB (t := 10) rfl (congrArg (rowV 3) hv18) ?_
  refine .nameRow (t := 10) (g := 5002) rfl rfl rfl (fun s5002 => ?_)
  refine .seq ?_
  refine .seq (.region [] mixed (by kernel_rfl) ?_)
  refine .cons (.move .none (.s rfl)) rfl ?_
  refine .cons (.move .none (.int (by decide))) rfl ?_
  refine .nil (.then ?_)
  obtain ⟨o_19, h, hK19⟩ := bindR_some h
  refine .thenJ (ι := ((List Int) × (List Int))) (fun j_19 => []) (fun j_19 => [(5001, some (CPred.at s5001 (rowV 3 j_19.1))), (5002, some (CPred.at s5002 (rowV 3 j_19.2)))]) (fun s => o_19 = Res.nx s) (.k 7 rfl (.k 10 rfl .nil)) SubB.nil ?_ (fun j_19 hj19 => ?_)
  ·
   skip
   refine .block ?_
   refine .rforEL h (fun p20_ => [(39, ⟨True, rep p20_.1⟩)]) (fun p20_ => [(5001, some (CPred.at s5001 (rowV 3 p20_.2.1))), (5002, some (CPred.at s5002 (rowV 3 p20_.2.2)))]) (.k 39 rfl .nil) (.k 5001 rfl (.k 5002 rfl .nil)) (.k 1 rfl (.k 2 rfl (.k 7 rfl (.k 10 rfl (.k 38 rfl .nil))))) SubB.nil (fun p20_ o_20 h hD20 => ?_)
   refine .seq (.region [] mixed (by kernel_rfl) ?_)
   refine .cons (.lt .none (.s rfl) (.s rfl)) rfl ?_
   refine .nil (.then ?_)
   refine .seq ?_
   refine .cond (t := 40) rfl trivial (fun hb21 => ?_) (fun hb21 => ?_)
   ·
    replace h := bif_t h hb21
    refine .skip ?_
    refine .then ?_
    refine .seq ?_
    obtain ⟨o_22, h, hK22⟩ := bindD_some h
    unfold ref_AreLeast_L2 at h
    refine .thenJ (ι := ((List Int) × (List Int))) (fun j_22 => []) (fun j_22 => [(5001, some (CPred.at s5001 (rowV 3 j_22.1))), (5002, some (CPred.at s5002 (rowV 3 j_22.2)))]) (fun s => o_22 = Res.nx s) (.k 1 rfl (.k 2 rfl (.k 7 rfl (.k 10 rfl (.k 38 rfl (.k 39 rfl .nil)))))) SubB.nil ?_ (fun j_22 hj22 => ?_)
    ·
     skip
     refine .block ?_
     refine .seq (.region [] mixed (by kernel_rfl) ?_)
     refine .cons (.move .none (.s rfl)) rfl ?_
     refine .cons (.assign .none (.s rfl)) rfl ?_
     refine .nil (.then ?_)
     refine .block ?_
     refine .loopL h (fun s23_ => []) (fun s23_ => [(5001, some (CPred.at s5001 (rowV 3 s23_.1))), (5002, some (CPred.at s5002 (rowV 3 s23_.2)))]) Sub.nil (.k 5001 rfl (.k 5002 rfl .nil)) (.k 1 rfl (.k 2 rfl (.k 7 rfl (.k 10 rfl (.k 11 rfl (.k 38 rfl (.k 39 rfl .nil))))))) SubB.nil (fun s23_ o_23 h hD23 => ?_)
     unfold ref_AreLeast_L3 at h
     refine .seq ?_
     refine .seq (.region [([], []), ([], []), ([5001], []), ([5001], []), ([], [])] mixed (by kernel_rfl) ?_)
     refine .consA (.move .none (.s rfl)) rfl ?_
     refine .consA (.move .none (.s rfl)) rfl ?_
     obtain ⟨hn24, h⟩ := need_some h
     refine .consA (.indexAddrO (k := 5001) .none sl32 ty3 (.s rfl) rfl (.s rfl) (fun _ => hn24)) rfl ?_
     refine .consA (.loadElem0 (k := 5001) .none ty3 (.s rfl) rfl (fun _ => hn24)) rfl ?_
     refine .consA (.gt .none (.s rfl) (.int (by decide))) rfl ?_
     refine .nil (.then ?_)
     refine .cond (t := 46) rfl trivial (fun hb25 => ?_) (fun hb25 => ?_)
     ·
      replace h := bif_t h hb25
      refine .skip ?_
      refine .then ?_
      refine .block ?_
      refine .seq (.region [([], []), ([], []), ([], []), ([], []), ([], []), ([5001, 5002], [5001, 5002]), ([], [])] mixed (by kernel_rfl) ?_)
      refine .consA (.move .none (.s rfl)) rfl ?_
      refine .consA (.move .none (.s rfl)) rfl ?_
      refine .consA (.move .none (.s rfl)) rfl ?_
      refine .consA (.move .none (.s rfl)) rfl ?_
      refine .consA (.move .none (.s rfl)) rfl ?_
      obtain ⟨r1, hv26, h⟩ := bind_some h
      refine .consW (.callO [5001, 5002] (ref_bring_ok hv26) (.cons (.s rfl) (.cons (.s rfl) (.cons (.s rfl) (.cons (.s rfl) (.cons (.s rfl) .nil))))) (.cons (k := 5001) rfl (.cons (k := 5002) rfl .nil)) rfl (by decide) (by decide) (by intro d h; cases h; decide)) rfl rfl ?_
      refine .consA (.not .none (.s rfl)) rfl ?_
      refine .nil (.then ?_)
      refine .cond (t := 53) rfl trivial (fun hb27 => ?_) (fun hb27 => ?_)
      ·
       replace h := bif_t h hb27
       refine .seq (.region [] mixed (by kernel_rfl) ?_)
       refine .cons (.assign .none .bool) rfl ?_
       refine .nil (.then ?_)
       refine .ret ?_
       refine .blkRet ?_
       refine .thenRet ?_
       refine .blkRet ?_
       refine .blkRet ?_
       refine .thenRet ?_
       refine .thenRet ?_
       refine .blkRet ?_
       refine .thenRet ?_
       replace h := hD23 _ (some_eq h)
       replace h := resd_ab hK22 (some_eq h)
       replace h := hD20 _ (some_eq h)
       replace h := resb_ab hK19 (some_eq h)
       obtain rfl := some_eq h
       exact Ends.ret1 (.inl rfl) Try.results36 (ResOK.tmp rfl trivial Imp.refl)
      ·
       replace h := bif_f h hb27
       refine .skip ?_
       refine .blkNormal ?_
       exact Ends.againL (some_eq h) (.k 1 rfl (.k 2 rfl (.k 7 rfl (.k 10 rfl (.k 11 rfl (.k 38 rfl (.k 39 rfl .nil))))))) (.k 5001 rfl (.k 5002 rfl .nil))
     ·
      replace h := bif_f h hb25
      refine .exit ?_
      refine .thenExit ?_
      refine .thenExit ?_
      refine .blkExit ?_
      refine .blkNormal ?_
      replace h := hD23 _ (some_eq h)
      exact Ends.join _ (some_eq h) (.k 1 rfl (.k 2 rfl (.k 7 rfl (.k 10 rfl (.k 38 rfl (.k 39 rfl .nil)))))) (.k 5001 rfl (.k 5002 rfl .nil))
    ·
     have h := resd_nx hK22 hj22
     refine .region [] mixed (by kernel_rfl) ?_
     refine .cons (.addW .none (.s rfl) (.int (by decide))) rfl ?_
     refine .cons (.move .none (.s rfl)) rfl ?_
     refine .nil ?_
     exact Ends.againL (some_eq h) (.k 39 rfl (.k 1 rfl (.k 2 rfl (.k 7 rfl (.k 10 rfl (.k 38 rfl .nil)))))) (.k 5001 rfl (.k 5002 rfl .nil))
   ·
    replace h := bif_f h hb21
    refine .exit ?_
    refine .thenExit ?_
    refine .thenExit ?_
    refine .blkExit ?_
    replace h := hD20 _ (some_eq h)
    exact Ends.join _ (some_eq h) (.k 7 rfl (.k 10 rfl .nil)) (.k 5001 rfl (.k 5002 rfl .nil))
  ·
   have h := resb_nx hK19 hj19
   refine .seq (.region [] mixed (by kernel_rfl) ?_)
   refine .cons (.assign .none .bool) rfl ?_
   refine .nil (.then ?_)
   refine .ret ?_
   obtain rfl := some_eq h
   exact Ends.ret1 (.inl rfl) Try.results36 (ResOK.tmp rfl trivial Imp.refl)


end Go.Proofs.Ytbahnfkccdlpnaa
