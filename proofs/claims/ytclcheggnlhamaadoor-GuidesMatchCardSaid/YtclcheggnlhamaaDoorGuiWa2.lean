/-
  The walks: what a function computes is what its plain function says (printed by a program of one's own).
-/
import Derived.Test.YtclcheggnlhamaaDoorGuiWa1
set_option maxRecDepth 100000
set_option linter.unusedSimpArgs false
set_option linter.unusedVariables false
namespace Go.Proofs.YtclcheggnlhamaaDoor
open Go Go.DB Go.RowKit

theorem page_selected_ok {d1 : Doc} {ids1 : (List Str)} {r : ((Option Page_view) × (List Int) × Int)}  (h : page_selected d1 ids1 = some r) : FSpec Tryd.prog 35 [rep d1, rep ids1] (tup [rep r.1, rep r.2.1, rep r.2.2]) := by
  unfold page_selected at h
  refine FSpec.intro (n := 106) fnok35 Tryd.func35 rfl Tryd.ntmps35 rfl (fun F => ?_)
  refine .seq ?_
  refine .region [] mixed (by kernel_rfl) ?_
  refine .cons (.box .none (.s rfl)) rfl ?_
  refine .cons (.assign .none (.const (x := (none : (Option Page_view))) (fun M w => ⟨_, ptr_zero, rfl⟩))) rfl ?_
  refine .cons (.assign .none (.const (x := ([] : (List Int))) (fun M w => ⟨_, ⟨none, 0, rfl, Nat.le_refl _, by decide, rfl⟩, rfl⟩))) rfl ?_
  refine .cons (.assign .none (.int (by decide))) rfl ?_
  refine .nil ?_
  refine .then ?_
  refine .seq ?_
  refine .region [] mixed (by kernel_rfl) ?_
  refine .cons (.load .none ty25 (.s rfl)) rfl ?_
  obtain ⟨r1, hv1, h⟩ := bind_some h
  refine .cons (.call .none (page_look_ok hv1) (.cons (.s rfl) .nil)) rfl ?_
  refine .cons (.move .none (.s rfl)) rfl ?_
  refine .cons (.extract .none (.s rfl) rfl) rfl ?_
  refine .cons (.extract .none (.s rfl) rfl) rfl ?_
  refine .cons (.assign .none (.s rfl)) rfl ?_
  refine .cons (.assign .none (.s rfl)) rfl ?_
  refine .nil ?_
  refine .then ?_
  refine .seq ?_
  refine .seq ?_
  refine .region [] mixed (by kernel_rfl) ?_
  refine .cons (.move .none (.s rfl)) rfl ?_
  refine .cons (.neI .none (.s rfl) (.int (by decide))) rfl ?_
  refine .nil ?_
  refine .then ?_
  refine .cond (t := 26) rfl trivial (fun hb2 => ?_) (fun hb2 => ?_)
  · replace h := bif_t h hb2
    refine .seq ?_
    refine .region [] mixed (by kernel_rfl) ?_
    refine .cons (.move .none (.s rfl)) rfl ?_
    refine .cons (.assign .none (.const (x := (none : (Option Page_view))) (fun M w => ⟨_, ptr_zero, rfl⟩))) rfl ?_
    refine .cons (.assign .none (.const (x := ([] : (List Int))) (fun M w => ⟨_, ⟨none, 0, rfl, Nat.le_refl _, by decide, rfl⟩, rfl⟩))) rfl ?_
    refine .cons (.assign .none (.s rfl)) rfl ?_
    refine .nil ?_
    refine .then ?_
    refine .ret ?_
    refine .thenRet ?_
    obtain rfl := some_eq h
    exact Ends.ret3 (.inl rfl) Tryd.results35 (ResOK.tmp rfl trivial Imp.refl) (ResOK.tmp rfl trivial Imp.refl) (ResOK.tmp rfl trivial Imp.refl)
  · replace h := bif_f h hb2
    refine .skip ?_
    refine .then ?_
    refine .seq ?_
    refine .region [([], []), ([], []), ([], []), ([], [31]), ([31], [9, 31])] mixed (by kernel_rfl) ?_
    refine .consA (.fieldAddr .none fd25_0 hfd25_0 (.s rfl)) rfl ?_
    refine .consA (.load .none ty22 (.s rfl)) rfl ?_
    obtain ⟨v1, hv3, h⟩ := bnd_some h
    refine .consA (.re hv3 (.len .none sl22 (.s rfl))) rfl ?_
    obtain ⟨hn4, h⟩ := need_some h
    refine .consW (.makeSlice rk73 zo4 rfl (.s rfl) (.s rfl) hn4) rfl rfl ?_
    refine .consW (.passRow rfl (.tmp rfl)) rfl rfl ?_
    refine .nil ?_
    refine .then ?_
    obtain ⟨chosen1, hv5, h⟩ := bnd_some h
    refine .reB (t := 9) rfl (congrArg (rowV 4) hv5) ?_
    refine .nameRow (t := 9) (g := 5001) rfl rfl rfl (fun s5001 => ?_)
    refine .seq ?_
    refine .seq ?_
    refine .region [] mixed (by kernel_rfl) ?_
    refine .cons (.move .none (.s rfl)) rfl ?_
    refine .cons (.len .none sl35 (.s rfl)) rfl ?_
    refine .cons (.move .none (.int (by decide))) rfl ?_
    refine .nil ?_
    refine .then ?_
    obtain ⟨v2, hv6, h⟩ := bind_some h
    refine .isRef (t := 7) hv6 rfl trivial ?_
    obtain ⟨o_7, h, hK7⟩ := bindR_some h
    refine .thenJ (ι := (List Bool)) (fun j_7 => []) (fun j_7 => [(5001, some (CPred.at s5001 (rowV 4 j_7)))]) (fun s => o_7 = Res.nx s) (.cons (t := 2) rfl (.cons (t := 7) rfl (.cons (t := 9) rfl Sub.nil))) SubB.nil ?_ (fun j_7 hj7 => ?_)
    · skip
      refine .block ?_
      refine .rforEL h (fun p8_ => [(34, ⟨True, rep p8_.1⟩)]) (fun p8_ => [(5001, some (CPred.at s5001 (rowV 4 p8_.2)))]) (.cons (t := 34) rfl Sub.nil) (.cons (t := 5001) rfl SubB.nil) (.cons (t := 2) rfl (.cons (t := 7) rfl (.cons (t := 9) rfl (.cons (t := 32) rfl (.cons (t := 33) rfl Sub.nil))))) SubB.nil (fun p8_ o_8 h hD8 => ?_)
      refine .seq ?_
      refine .region [] mixed (by kernel_rfl) ?_
      refine .cons (.lt .none (.s rfl) (.s rfl)) rfl ?_
      refine .nil ?_
      refine .then ?_
      refine .seq ?_
      refine .cond (t := 35) rfl trivial (fun hb9 => ?_) (fun hb9 => ?_)
      · replace h := bif_t h hb9
        refine .skip ?_
        refine .then ?_
        refine .seq ?_
        obtain ⟨o_10, h, hK10⟩ := bindD_some h
        unfold page_selected_L1 at h
        refine .thenJ (ι := (List Bool)) (fun j_10 => []) (fun j_10 => [(5001, some (CPred.at s5001 (rowV 4 j_10)))]) (fun s => o_10 = Res.nx s) (.cons (t := 2) rfl (.cons (t := 7) rfl (.cons (t := 9) rfl (.cons (t := 32) rfl (.cons (t := 33) rfl (.cons (t := 34) rfl Sub.nil)))))) SubB.nil ?_ (fun j_10 hj10 => ?_)
        · skip
          refine .block ?_
          refine .seq ?_
          refine .region [] mixed (by kernel_rfl) ?_
          obtain ⟨hn11, h⟩ := need_some h
          refine .cons (.indexAddr .none sl35 ty9 (.s rfl) (.s rfl) (fun _ => hn11)) rfl ?_
          refine .cons (.load .none ty9 (.s rfl)) rfl ?_
          refine .cons (.assign .none (.s rfl)) rfl ?_
          refine .nil ?_
          refine .then ?_
          refine .seq ?_
          refine .region [] mixed (by kernel_rfl) ?_
          refine .cons (.move .none (.s rfl)) rfl ?_
          refine .cons (.nilCheckR .none (.s rfl)) rfl ?_
          refine .cons (.fieldAddr .none fd63_1 hfd63_1 (.s rfl)) rfl ?_
          refine .cons (.load .none ty60 (.s rfl)) rfl ?_
          refine .cons (.move .none (.s rfl)) rfl ?_
          refine .cons (.lookupOk .none mo60 zo3 (.s rfl) (.s rfl)) rfl ?_
          refine .cons (.move .none (.s rfl)) rfl ?_
          refine .cons (.extract .none (.s rfl) rfl) rfl ?_
          refine .cons (.extract .none (.s rfl) rfl) rfl ?_
          obtain ⟨k1, hv12, h⟩ := bnd_some h
          refine .cons (.re hv12 (.assign .none (.s rfl))) rfl ?_
          refine .cons (.assign .none (.s rfl)) rfl ?_
          refine .nil ?_
          refine .then ?_
          refine .seq ?_
          refine .block ?_
          refine .seq ?_
          refine .region [] mixed (by kernel_rfl) ?_
          refine .cons (.move .none (.s rfl)) rfl ?_
          refine .cons (.not .none (.s rfl)) rfl ?_
          refine .cons (.assign .none (.s rfl)) rfl ?_
          refine .nil ?_
          refine .then ?_
          refine .cond (t := 47) rfl trivial (fun hb13 => ?_) (fun hb13 => ?_)
          · replace h := bif_t h hb13
            refine .seq ?_
            refine .region [] mixed (by kernel_rfl) ?_
            refine .cons (.assign .none (.const (x := (none : (Option Page_view))) (fun M w => ⟨_, ptr_zero, rfl⟩))) rfl ?_
            refine .cons (.assign .none (.const (x := ([] : (List Int))) (fun M w => ⟨_, ⟨none, 0, rfl, Nat.le_refl _, by decide, rfl⟩, rfl⟩))) rfl ?_
            refine .cons (.assign .none (.int (by decide))) rfl ?_
            refine .nil ?_
            refine .then ?_
            refine .ret ?_
            refine .blkRet ?_
            refine .thenRet ?_
            refine .blkRet ?_
            refine .thenRet ?_
            refine .thenRet ?_
            refine .blkRet ?_
            refine .thenRet ?_
            replace h := resd_ab hK10 (some_eq h)
            replace h := hD8 _ (some_eq h)
            replace h := resb_ab hK7 (some_eq h)
            obtain rfl := some_eq h
            exact Ends.ret3 (.inl rfl) Tryd.results35 (ResOK.tmp rfl trivial Imp.refl) (ResOK.tmp rfl trivial Imp.refl) (ResOK.tmp rfl trivial Imp.refl)
          · replace h := bif_f h hb13
            refine .seq ?_
            refine .region [([], []), ([], []), ([5001], []), ([5001], []), ([], [])] mixed (by kernel_rfl) ?_
            refine .consA (.move .none (.s rfl)) rfl ?_
            refine .consA (.move .none (.s rfl)) rfl ?_
            obtain ⟨hn14, h⟩ := need_some h
            refine .consA (.indexAddrO (k := 5001) .none sl73 ty4 (.s rfl) rfl (.s rfl) (fun _ => hn14)) rfl ?_
            refine .consA (.loadElem0 (k := 5001) .none ty4 (.s rfl) rfl (fun _ => hn14)) rfl ?_
            refine .consA (.assign .none (.s rfl)) rfl ?_
            refine .nil ?_
            refine .then ?_
            refine .cond (t := 50) rfl trivial (fun hb15 => ?_) (fun hb15 => ?_)
            · replace h := bif_t h hb15
              refine .seq ?_
              refine .region [] mixed (by kernel_rfl) ?_
              refine .cons (.assign .none (.const (x := (none : (Option Page_view))) (fun M w => ⟨_, ptr_zero, rfl⟩))) rfl ?_
              refine .cons (.assign .none (.const (x := ([] : (List Int))) (fun M w => ⟨_, ⟨none, 0, rfl, Nat.le_refl _, by decide, rfl⟩, rfl⟩))) rfl ?_
              refine .cons (.assign .none (.int (by decide))) rfl ?_
              refine .nil ?_
              refine .then ?_
              refine .ret ?_
              refine .blkRet ?_
              refine .thenRet ?_
              refine .blkRet ?_
              refine .thenRet ?_
              refine .thenRet ?_
              refine .blkRet ?_
              refine .thenRet ?_
              replace h := resd_ab hK10 (some_eq h)
              replace h := hD8 _ (some_eq h)
              replace h := resb_ab hK7 (some_eq h)
              obtain rfl := some_eq h
              exact Ends.ret3 (.inl rfl) Tryd.results35 (ResOK.tmp rfl trivial Imp.refl) (ResOK.tmp rfl trivial Imp.refl) (ResOK.tmp rfl trivial Imp.refl)
            · replace h := bif_f h hb15
              refine .skip ?_
              refine .blkNormal ?_
              refine .then ?_
              refine .region [([], []), ([], []), ([5001], []), ([5001], [5001])] mixed (by kernel_rfl) ?_
              refine .consA (.move .none (.s rfl)) rfl ?_
              refine .consA (.move .none (.s rfl)) rfl ?_
              obtain ⟨hn16, h⟩ := need_some h
              refine .consA (.indexAddrO (k := 5001) .none sl73 ty4 (.s rfl) rfl (.s rfl) (fun _ => hn16)) rfl ?_
              refine .consN (.storeElem0 (k := 5001) ty4 (.s rfl) rfl .bool hn16) rfl ?_
              refine .nil ?_
              refine .blkNormal ?_
              exact Ends.join _ (some_eq h) (.cons (t := 2) rfl (.cons (t := 7) rfl (.cons (t := 9) rfl (.cons (t := 32) rfl (.cons (t := 33) rfl (.cons (t := 34) rfl Sub.nil)))))) (.cons (t := 5001) rfl SubB.nil)
        · have h := resd_nx hK10 hj10
          refine .region [] mixed (by kernel_rfl) ?_
          refine .cons (.addW .none (.s rfl) (.int (by decide))) rfl ?_
          refine .cons (.move .none (.s rfl)) rfl ?_
          refine .nil ?_
          exact Ends.againL (some_eq h) (.cons (t := 34) rfl (.cons (t := 2) rfl (.cons (t := 7) rfl (.cons (t := 9) rfl (.cons (t := 32) rfl (.cons (t := 33) rfl Sub.nil)))))) (.cons (t := 5001) rfl SubB.nil)
      · replace h := bif_f h hb9
        refine .exit ?_
        refine .thenExit ?_
        refine .thenExit ?_
        refine .blkExit ?_
        replace h := hD8 _ (some_eq h)
        exact Ends.join _ (some_eq h) (.cons (t := 2) rfl (.cons (t := 7) rfl (.cons (t := 9) rfl Sub.nil))) (.cons (t := 5001) rfl SubB.nil)
    · have h := resb_nx hK7 hj7
      refine .freezeRow (g := 5001) (ts := [9]) rfl (.cons (t := 9) rfl trivial .nil) SubB.nil rfl ?_
      refine .seq ?_
      refine .region [([], [14])] mixed (by kernel_rfl) ?_
      refine .consW (.nilRow (T := 3) (α := Int) rfl) rfl rfl ?_
      refine .nil ?_
      refine .then ?_
      refine .nameRow (t := 14) (g := 5002) rfl rfl rfl (fun s5002 => ?_)
      refine .seq ?_
      refine .seq ?_
      refine .region [] mixed (by kernel_rfl) ?_
      refine .cons (.fieldAddr .none fd25_0 hfd25_0 (.s rfl)) rfl ?_
      refine .cons (.load .none ty22 (.s rfl)) rfl ?_
      refine .cons (.len .none sl22 (.s rfl)) rfl ?_
      refine .cons (.move .none (.int (by decide))) rfl ?_
      refine .nil ?_
      refine .then ?_
      obtain ⟨j_17, h, hK17⟩ := bind_some h
      refine .thenJ (ι := (List Int)) (fun j_17 => []) (fun j_17 => [(14, some (rowV 3 j_17))]) (fun s => j_17 = s) (.cons (t := 7) rfl Sub.nil) SubB.nil ?_ (fun j_17' hj17 => ?_)
      · skip
        refine .block ?_
        refine .anon (t := 14) (g := 5002) rfl rfl trivial rfl ?_
        refine .rforL h (fun p18_ => [(62, ⟨True, rep p18_.1⟩)]) (fun p18_ => [(14, some (rowV 3 p18_.2))]) (.cons (t := 62) rfl Sub.nil) (.cons (t := 14) rfl SubB.nil) (.cons (t := 2) rfl (.cons (t := 7) rfl (.cons (t := 9) rfl (.cons (t := 60) rfl (.cons (t := 61) rfl Sub.nil))))) SubB.nil (fun p18_ o_18 h hD18 => ?_)
        refine .nameRow (t := 14) (g := 5003) rfl rfl rfl (fun s5003 => ?_)
        refine .seq ?_
        refine .region [] mixed (by kernel_rfl) ?_
        refine .cons (.lt .none (.s rfl) (.s rfl)) rfl ?_
        refine .nil ?_
        refine .then ?_
        refine .seq ?_
        refine .cond (t := 63) rfl trivial (fun hb19 => ?_) (fun hb19 => ?_)
        · replace h := bif_t h hb19
          refine .skip ?_
          refine .then ?_
          refine .seq ?_
          obtain ⟨j_20, h, hK20⟩ := bind_some h
          unfold page_selected_L2 at h
          refine .thenJ (ι := (List Int)) (fun j_20 => []) (fun j_20 => [(14, some (rowV 3 j_20))]) (fun s => j_20 = s) (.cons (t := 2) rfl (.cons (t := 7) rfl (.cons (t := 9) rfl (.cons (t := 60) rfl (.cons (t := 61) rfl (.cons (t := 62) rfl Sub.nil)))))) SubB.nil ?_ (fun j_20' hj20 => ?_)
          · skip
            refine .block ?_
            refine .seq ?_
            refine .region [([], []), ([], []), ([], []), ([], [16]), ([], []), ([16], [16])] mixed (by kernel_rfl) ?_
            refine .consA (.move .none (.s rfl)) rfl ?_
            obtain ⟨hn21, h⟩ := need_some h
            refine .consA (.indexAddr .none sl22 ty43 (.s rfl) (.s rfl) (fun _ => hn21)) rfl ?_
            obtain ⟨v3, hv22, h⟩ := bnd_some h
            refine .consA (.re hv22 (.load .none ty43 (.s rfl))) rfl ?_
            refine .consW (.alloc zo43 rfl) rfl rfl ?_
            refine .consA (.assign .none (.s rfl)) rfl ?_
            refine .consN (.store ty43 rfl rfl (.s rfl)) rfl ?_
            refine .nil ?_
            refine .then ?_
            refine .freeze (t := 16) rfl rfl (.cons (t := 5003) rfl SubB.nil) rfl ?_
            refine .seq ?_
            refine .region [] mixed (by kernel_rfl) ?_
            refine .cons (.assign .none .bool) rfl ?_
            refine .nil ?_
            refine .then ?_
            refine .seq ?_
            refine .seq ?_
            refine .region [([], []), ([], [18]), ([18], [18])] mixed (by kernel_rfl) ?_
            refine .consA (.load .none ty43 (.s rfl)) rfl ?_
            refine .consW (.alloc zo43 rfl) rfl rfl ?_
            refine .consN (.store ty43 rfl rfl (.s rfl)) rfl ?_
            refine .nil ?_
            refine .then ?_
            refine .nameBox (t := 18) (g := 5004) rfl rfl (fun m5004 => ?_)
            obtain ⟨j_23, h, hK23⟩ := bind_some h
            refine .thenJ (ι := Bool) (fun j_23 => [(17, ⟨True, rep j_23⟩)]) (fun j_23 => []) (fun s => j_23 = s) (.cons (t := 2) rfl (.cons (t := 7) rfl (.cons (t := 9) rfl (.cons (t := 14) rfl (.cons (t := 15) rfl (.cons (t := 60) rfl (.cons (t := 61) rfl (.cons (t := 62) rfl Sub.nil)))))))) (.cons (t := 5003) rfl SubB.nil) ?_ (fun j_23' hj23 => ?_)
            · skip
              refine .block ?_
              refine .anon (t := 18) (g := 5004) rfl rfl trivial rfl ?_
              refine .loopL h (fun s24_ => [(17, ⟨True, rep s24_.1⟩)]) (fun s24_ => [(18, some (cont 43 s24_.2))]) (.cons (t := 17) rfl Sub.nil) (.cons (t := 18) rfl SubB.nil) (.cons (t := 2) rfl (.cons (t := 7) rfl (.cons (t := 9) rfl (.cons (t := 14) rfl (.cons (t := 15) rfl (.cons (t := 60) rfl (.cons (t := 61) rfl (.cons (t := 62) rfl Sub.nil)))))))) (.cons (t := 5003) rfl SubB.nil) (fun s24_ o_24 h hD24 => ?_)
              unfold page_selected_L3 at h
              refine .nameBox (t := 18) (g := 5005) rfl rfl (fun m5005 => ?_)
              refine .seq ?_
              refine .seq ?_
              refine .region [([], []), ([5005], []), ([], [])] mixed (by kernel_rfl) ?_
              refine .consA (.fieldPtr .none fd43_5 (.s rfl)) rfl ?_
              refine .consA (.loadAt (k := 5005) .none ty9 rfl (.s rfl) hfd43_5) rfl ?_
              refine .consA (.neS .none (eqAt_str Tryd.underlying9) (.s rfl) (.str (l := []) (by decide))) rfl ?_
              refine .nil ?_
              refine .then ?_
              refine .cond (t := 70) rfl trivial (fun hb25 => ?_) (fun hb25 => ?_)
              · replace h := bif_t h hb25
                refine .skip ?_
                refine .then ?_
                refine .seq ?_
                refine .block ?_
                refine .seq ?_
                refine .region [([], []), ([], []), ([], []), ([], []), ([], []), ([5005], []), ([], []), ([], [])] mixed (by kernel_rfl) ?_
                refine .consA (.move .none (.s rfl)) rfl ?_
                refine .consA (.nilCheckR .none (.s rfl)) rfl ?_
                refine .consA (.fieldAddr .none fd63_1 hfd63_1 (.s rfl)) rfl ?_
                refine .consA (.load .none ty60 (.s rfl)) rfl ?_
                refine .consA (.fieldPtr .none fd43_5 (.s rfl)) rfl ?_
                refine .consA (.loadAt (k := 5005) .none ty9 rfl (.s rfl) hfd43_5) rfl ?_
                refine .consA (.lookup .none mo60 zo3 (.s rfl) (.s rfl)) rfl ?_
                obtain ⟨k2, hv26, h⟩ := bnd_some h
                refine .consA (.re hv26 (.assign .none (.s rfl))) rfl ?_
                refine .nil ?_
                refine .then ?_
                refine .seq ?_
                refine .region [] mixed (by kernel_rfl) ?_
                refine .cons (.move .none (.s rfl)) rfl ?_
                refine .cons (.move .none (.s rfl)) rfl ?_
                refine .cons (.move (.at rfl rfl) (.s rfl)) rfl ?_
                refine .cons (.move (.at rfl rfl) (.s rfl)) rfl ?_
                obtain ⟨hn27, h⟩ := need_some h
                refine .cons (.indexAddr (.at rfl rfl) sl73 ty4 (.tmp rfl id) (.tmp rfl id) (fun hg => hn27 hg.2)) rfl ?_
                refine .cons (.load (.at rfl rfl) ty4 (.tmp rfl id)) rfl ?_
                refine .cons (.pickOr .none (.s rfl) (.tmp rfl id)) rfl ?_
                obtain ⟨under1, hv28, h⟩ := bnd_some h
                refine .cons (.re hv28 (.assign .none (.s rfl))) rfl ?_
                refine .nil ?_
                refine .then ?_
                refine .region [([], []), ([], []), ([], []), ([], []), ([], []), ([5005], [5005])] mixed (by kernel_rfl) ?_
                refine .consA (.fieldAddr .none fd25_0 hfd25_0 (.s rfl)) rfl ?_
                refine .consA (.load .none ty22 (.s rfl)) rfl ?_
                refine .consA (.move .none (.s rfl)) rfl ?_
                obtain ⟨hn29, h⟩ := need_some h
                refine .consA (.indexAddr .none sl22 ty43 (.s rfl) (.s rfl) (fun _ => hn29)) rfl ?_
                obtain ⟨v4, hv30, h⟩ := bnd_some h
                refine .consA (.re hv30 (.load .none ty43 (.s rfl))) rfl ?_
                refine .consN (.storeAt0 (g := 5005) ty43 rfl (.s rfl) (.s rfl)) rfl ?_
                refine .nil ?_
                refine .blkNormal ?_
                refine .then ?_
                refine .freezeBox (g := 5005) (ts := [18]) rfl (.cons (t := 18) rfl trivial .nil) (.cons (t := 5003) rfl SubB.nil) rfl ?_
                refine .seq ?_
                refine .region [] mixed (by kernel_rfl) ?_
                refine .cons (.load .none ty43 (.s rfl)) rfl ?_
                refine .nil ?_
                refine .then ?_
                refine .region [([], [18]), ([18], [18])] mixed (by kernel_rfl) ?_
                refine .consW (.alloc zo43 rfl) rfl rfl ?_
                refine .consN (.store ty43 rfl rfl (.s rfl)) rfl ?_
                refine .nil ?_
                exact Ends.againL (some_eq h) (.cons (t := 17) rfl (.cons (t := 2) rfl (.cons (t := 7) rfl (.cons (t := 9) rfl (.cons (t := 14) rfl (.cons (t := 15) rfl (.cons (t := 60) rfl (.cons (t := 61) rfl (.cons (t := 62) rfl Sub.nil))))))))) (.cons (t := 18) rfl (.cons (t := 5003) rfl SubB.nil))
              · replace h := bif_f h hb25
                refine .exit ?_
                refine .thenExit ?_
                refine .thenExit ?_
                refine .blkExit ?_
                replace h := hD24 _ (some_eq h)
                exact Ends.join _ (some_eq h) (.cons (t := 17) rfl (.cons (t := 2) rfl (.cons (t := 7) rfl (.cons (t := 9) rfl (.cons (t := 14) rfl (.cons (t := 15) rfl (.cons (t := 60) rfl (.cons (t := 61) rfl (.cons (t := 62) rfl Sub.nil))))))))) (.cons (t := 5003) rfl SubB.nil)
            · subst hj23; have h := hK23; clear hK23
              refine .seq ?_
              refine .region [] mixed (by kernel_rfl) ?_
              refine .cons (.move .none (.s rfl)) rfl ?_
              refine .cons (.move .none (.s rfl)) rfl ?_
              obtain ⟨hn31, h⟩ := need_some h
              refine .cons (.indexAddr .none sl73 ty4 (.s rfl) (.s rfl) (fun _ => hn31)) rfl ?_
              refine .cons (.load .none ty4 (.s rfl)) rfl ?_
              refine .cons (.move .none (.s rfl)) rfl ?_
              refine .cons (.move (.at rfl rfl) (.s rfl)) rfl ?_
              refine .cons (.not (.at rfl rfl) (.tmp rfl id)) rfl ?_
              refine .cons (.pickAnd .none (.s rfl) (.tmp rfl id)) rfl ?_
              refine .nil ?_
              refine .then ?_
              refine .cond (t := 98) rfl trivial (fun hb32 => ?_) (fun hb32 => ?_)
              · replace h := bif_t h hb32
                refine .region [([], []), ([], []), ([], []), ([5003], [102, 5003]), ([102], [14, 102])] mixed (by kernel_rfl) ?_
                refine .consA (.move .none (.s rfl)) rfl ?_
                refine .consA (.move .none (.s rfl)) rfl ?_
                refine .consA (.buildSlice (xs := [_]) .none sl59 ty3 hz3 (.cons (.s rfl) .nil) rfl (by decide)) rfl ?_
                obtain ⟨hn33, h⟩ := need_some h
                refine .consW (.append (k := 5003) rk59 rfl (.told (.s rfl) rfl) (.s rfl) hn33) rfl rfl ?_
                refine .consW (.passRow rfl (.tmp rfl)) rfl rfl ?_
                refine .nil ?_
                refine .blkNormal ?_
                exact Ends.join _ (some_eq h) (.cons (t := 2) rfl (.cons (t := 7) rfl (.cons (t := 9) rfl (.cons (t := 60) rfl (.cons (t := 61) rfl (.cons (t := 62) rfl Sub.nil)))))) (.cons (t := 14) rfl SubB.nil)
              · replace h := bif_f h hb32
                refine .skip ?_
                refine .blkNormal ?_
                refine .anon (t := 14) (g := 5003) rfl rfl trivial rfl ?_
                exact Ends.join _ (some_eq h) (.cons (t := 2) rfl (.cons (t := 7) rfl (.cons (t := 9) rfl (.cons (t := 60) rfl (.cons (t := 61) rfl (.cons (t := 62) rfl Sub.nil)))))) (.cons (t := 14) rfl SubB.nil)
          · subst hj20; have h := hK20; clear hK20
            refine .nameRow (t := 14) (g := 5006) rfl rfl rfl (fun s5006 => ?_)
            refine .region [] mixed (by kernel_rfl) ?_
            refine .cons (.addW .none (.s rfl) (.int (by decide))) rfl ?_
            refine .cons (.move .none (.s rfl)) rfl ?_
            refine .nil ?_
            refine .anon (t := 14) (g := 5006) rfl rfl trivial rfl ?_
            exact Ends.againL (some_eq h) (.cons (t := 62) rfl (.cons (t := 2) rfl (.cons (t := 7) rfl (.cons (t := 9) rfl (.cons (t := 60) rfl (.cons (t := 61) rfl Sub.nil)))))) (.cons (t := 14) rfl SubB.nil)
        · replace h := bif_f h hb19
          refine .exit ?_
          refine .thenExit ?_
          refine .thenExit ?_
          refine .blkExit ?_
          refine .anon (t := 14) (g := 5003) rfl rfl trivial rfl ?_
          replace h := hD18 _ (some_eq h)
          exact Ends.join _ (some_eq h) (.cons (t := 7) rfl Sub.nil) (.cons (t := 14) rfl SubB.nil)
      · subst hj17; have h := hK17; clear hK17
        refine .freezeRowA (t := 14) rfl rfl SubB.nil rfl ?_
        refine .seq ?_
        refine .region [] mixed (by kernel_rfl) ?_
        refine .cons (.move .none (.s rfl)) rfl ?_
        refine .cons (.move .none (.s rfl)) rfl ?_
        refine .cons (.assign .none (.s rfl)) rfl ?_
        refine .cons (.assign .none (.s rfl)) rfl ?_
        refine .cons (.assign .none (.int (by decide))) rfl ?_
        refine .nil ?_
        refine .then ?_
        refine .ret ?_
        obtain rfl := some_eq h
        exact Ends.ret3 (.inl rfl) Tryd.results35 (ResOK.tmp rfl trivial Imp.refSome) (ResOK.tmp rfl trivial Imp.refl) (ResOK.tmp rfl trivial Imp.refl)

theorem page_view_box_ok {v1 : Page_view} {i1 : Int} {r : Box}  (h : page_view_box v1 i1 = some r) : FSpec Tryd.prog 53 [ref v1, rep i1] (rep r) := by
  unfold page_view_box at h
  refine FSpec.intro (n := 14) fnok53 Tryd.func53 rfl Tryd.ntmps53 rfl (fun F => ?_)
  refine .seq ?_
  refine .region [([], [4])] mixed (by kernel_rfl) ?_
  refine .consW (.alloc zo41 rfl) rfl rfl ?_
  refine .nil ?_
  refine .then ?_
  obtain ⟨v2, hv1, h⟩ := bnd_some h
  refine .reB (t := 4) rfl (congrArg (cont 41) hv1) ?_
  refine .nameBox (t := 4) (g := 5001) rfl rfl (fun m5001 => ?_)
  refine .seq ?_
  refine .region [([], []), ([], []), ([], []), ([], []), ([], []), ([], []), ([], [5]), ([5], [5]), ([], [])] mixed (by kernel_rfl) ?_
  refine .consA (.move .none (.s rfl)) rfl ?_
  refine .consA (.move .none (.s rfl)) rfl ?_
  obtain ⟨r1, hv2, h⟩ := bind_some h
  refine .consA (.call .none (page_view_boxOf_ok hv2) (.cons (.s rfl) (.cons (.s rfl) .nil))) rfl ?_
  refine .consA (.move .none (.s rfl)) rfl ?_
  refine .consA (.extract .none (.s rfl) rfl) rfl ?_
  refine .consA (.extract .none (.s rfl) rfl) rfl ?_
  refine .consW (.alloc zo41 rfl) rfl rfl ?_
  refine .consN (.store ty41 rfl rfl (.s rfl)) rfl ?_
  refine .consA (.assign .none (.s rfl)) rfl ?_
  refine .nil ?_
  refine .then ?_
  refine .freeze (t := 5) rfl rfl (.cons (t := 5001) rfl SubB.nil) rfl ?_
  refine .seq ?_
  refine .region [([], []), ([5001], [5001])] mixed (by kernel_rfl) ?_
  refine .consA (.load .none ty41 (.s rfl)) rfl ?_
  refine .consN (.storeAt0 (g := 5001) ty41 rfl (.s rfl) (.s rfl)) rfl ?_
  refine .nil ?_
  refine .then ?_
  refine .freezeBox (g := 5001) (ts := [4]) rfl (.cons (t := 4) rfl trivial .nil) SubB.nil rfl ?_
  refine .ret ?_
  obtain rfl := some_eq h
  exact Ends.ret1 (.inl rfl) Tryd.results53 (ResOK.cellR ty41 rfl trivial Imp.refl)

theorem page_view_hullOf_ok {v1 : Page_view} {roots1 : (List Int)} {r : (Box × Int)}  (h : page_view_hullOf v1 roots1 = some r) : FSpec Tryd.prog 36 [ref v1, rep roots1] (tup [rep r.1, rep r.2]) := by
  unfold page_view_hullOf at h
  refine FSpec.intro (n := 26) fnok36 Tryd.func36 rfl Tryd.ntmps36 rfl (fun F => ?_)
  refine .seq ?_
  refine .region [([], [4]), ([], [])] mixed (by kernel_rfl) ?_
  refine .consW (.alloc zo41 rfl) rfl rfl ?_
  refine .consA (.assign .none (.int (by decide))) rfl ?_
  refine .nil ?_
  refine .then ?_
  obtain ⟨v2, hv1, h⟩ := bnd_some h
  refine .reB (t := 4) rfl (congrArg (cont 41) hv1) ?_
  refine .nameBox (t := 4) (g := 5001) rfl rfl (fun m5001 => ?_)
  refine .seq ?_
  refine .region [([], [6])] mixed (by kernel_rfl) ?_
  refine .consW (.nilRow (T := 41) (α := Box) rfl) rfl rfl ?_
  refine .nil ?_
  refine .then ?_
  refine .nameRow (t := 6) (g := 5002) rfl rfl rfl (fun s5002 => ?_)
  refine .seq ?_
  refine .seq ?_
  refine .region [] mixed (by kernel_rfl) ?_
  refine .cons (.move .none (.s rfl)) rfl ?_
  refine .cons (.len .none sl59 (.s rfl)) rfl ?_
  refine .cons (.move .none (.int (by decide))) rfl ?_
  refine .nil ?_
  refine .then ?_
  obtain ⟨j_2, h, hK2⟩ := bind_some h
  refine .thenJ (ι := (List Box)) (fun j_2 => []) (fun j_2 => [(6, some (rowV 41 j_2))]) (fun s => j_2 = s) (.cons (t := 4) rfl Sub.nil) (.cons (t := 5001) rfl SubB.nil) ?_ (fun j_2' hj2 => ?_)
  · skip
    refine .block ?_
    refine .anon (t := 6) (g := 5002) rfl rfl trivial rfl ?_
    refine .rforL h (fun p3_ => [(11, ⟨True, rep p3_.1⟩)]) (fun p3_ => [(6, some (rowV 41 p3_.2))]) (.cons (t := 11) rfl Sub.nil) (.cons (t := 6) rfl SubB.nil) (.cons (t := 0) rfl (.cons (t := 4) rfl (.cons (t := 9) rfl (.cons (t := 10) rfl Sub.nil)))) (.cons (t := 5001) rfl SubB.nil) (fun p3_ o_3 h hD3 => ?_)
    refine .nameRow (t := 6) (g := 5003) rfl rfl rfl (fun s5003 => ?_)
    refine .seq ?_
    refine .region [] mixed (by kernel_rfl) ?_
    refine .cons (.lt .none (.s rfl) (.s rfl)) rfl ?_
    refine .nil ?_
    refine .then ?_
    refine .seq ?_
    refine .cond (t := 12) rfl trivial (fun hb4 => ?_) (fun hb4 => ?_)
    · replace h := bif_t h hb4
      refine .skip ?_
      refine .then ?_
      refine .seq ?_
      obtain ⟨j_5, h, hK5⟩ := bind_some h
      unfold page_view_hullOf_L1 at h
      refine .thenJ (ι := (List Box)) (fun j_5 => []) (fun j_5 => [(6, some (rowV 41 j_5))]) (fun s => j_5 = s) (.cons (t := 0) rfl (.cons (t := 4) rfl (.cons (t := 9) rfl (.cons (t := 10) rfl (.cons (t := 11) rfl Sub.nil))))) (.cons (t := 5001) rfl SubB.nil) ?_ (fun j_5' hj5 => ?_)
      · skip
        refine .block ?_
        refine .seq ?_
        refine .region [] mixed (by kernel_rfl) ?_
        obtain ⟨hn6, h⟩ := need_some h
        refine .cons (.indexAddr .none sl59 ty3 (.s rfl) (.s rfl) (fun _ => hn6)) rfl ?_
        refine .cons (.load .none ty3 (.s rfl)) rfl ?_
        refine .cons (.assign .none (.s rfl)) rfl ?_
        refine .nil ?_
        refine .then ?_
        refine .region [([], []), ([], []), ([], []), ([], []), ([], []), ([5003], [20, 5003]), ([20], [6, 20])] mixed (by kernel_rfl) ?_
        refine .consA (.move .none (.s rfl)) rfl ?_
        refine .consA (.move .none (.s rfl)) rfl ?_
        refine .consA (.move .none (.s rfl)) rfl ?_
        obtain ⟨r1, hv7, h⟩ := bind_some h
        refine .consA (.call .none (page_view_box_ok hv7) (.cons (.s rfl) (.cons (.s rfl) .nil))) rfl ?_
        refine .consA (.buildSlice (xs := [_]) .none sl51 ty41 hz41 (.cons (.s rfl) .nil) rfl (by decide)) rfl ?_
        obtain ⟨hn8, h⟩ := need_some h
        refine .consW (.append (k := 5003) rk51 rfl (.told (.s rfl) rfl) (.s rfl) hn8) rfl rfl ?_
        refine .consWD (.passRow rfl (.tmp rfl)) rfl rfl ?_
        refine .nil ?_
        refine .blkNormal ?_
        exact Ends.join _ (some_eq h) (.cons (t := 0) rfl (.cons (t := 4) rfl (.cons (t := 9) rfl (.cons (t := 10) rfl (.cons (t := 11) rfl Sub.nil))))) (.cons (t := 6) rfl (.cons (t := 5001) rfl SubB.nil))
      · subst hj5; have h := hK5; clear hK5
        refine .nameRow (t := 6) (g := 5004) rfl rfl rfl (fun s5004 => ?_)
        refine .region [] mixed (by kernel_rfl) ?_
        refine .cons (.addW .none (.s rfl) (.int (by decide))) rfl ?_
        refine .cons (.move .none (.s rfl)) rfl ?_
        refine .nil ?_
        refine .anon (t := 6) (g := 5004) rfl rfl trivial rfl ?_
        exact Ends.againL (some_eq h) (.cons (t := 11) rfl (.cons (t := 0) rfl (.cons (t := 4) rfl (.cons (t := 9) rfl (.cons (t := 10) rfl Sub.nil))))) (.cons (t := 6) rfl (.cons (t := 5001) rfl SubB.nil))
    · replace h := bif_f h hb4
      refine .exit ?_
      refine .thenExit ?_
      refine .thenExit ?_
      refine .blkExit ?_
      refine .anon (t := 6) (g := 5003) rfl rfl trivial rfl ?_
      replace h := hD3 _ (some_eq h)
      exact Ends.join _ (some_eq h) (.cons (t := 4) rfl Sub.nil) (.cons (t := 6) rfl (.cons (t := 5001) rfl SubB.nil))
  · subst hj2; have h := hK2; clear hK2
    refine .freezeRowA (t := 6) rfl rfl (.cons (t := 5001) rfl SubB.nil) rfl ?_
    refine .seq ?_
    refine .region [([], []), ([], []), ([], []), ([], []), ([5001], [5001]), ([], [])] mixed (by kernel_rfl) ?_
    refine .consA (.move .none (.s rfl)) rfl ?_
    obtain ⟨r2, hv9, h⟩ := bind_some h
    refine .consA (.call .none (geom_Hull_ok hv9) (.cons (.s rfl) .nil)) rfl ?_
    refine .consA (.extract .none (.s rfl) rfl) rfl ?_
    refine .consA (.extract .none (.s rfl) rfl) rfl ?_
    refine .consN (.storeAt0 (g := 5001) ty41 rfl (.s rfl) (.s rfl)) rfl ?_
    refine .consA (.assign .none (.s rfl)) rfl ?_
    refine .nil ?_
    refine .then ?_
    refine .freezeBox (g := 5001) (ts := [4]) rfl (.cons (t := 4) rfl trivial .nil) SubB.nil rfl ?_
    refine .ret ?_
    obtain rfl := some_eq h
    exact Ends.ret2 (.inl rfl) Tryd.results36 (ResOK.cellR ty41 rfl trivial Imp.refl) (ResOK.tmp rfl trivial Imp.refl)

theorem page_far_ok {n1 : Int} {r : Bool}  (h : page_far n1 = some r) : FSpec Tryd.prog 37 [rep n1] (rep r) := by
  unfold page_far at h
  refine FSpec.intro (n := 9) fnok37 Tryd.func37 rfl Tryd.ntmps37 rfl (fun F => ?_)
  refine .seq ?_
  refine .region [] mixed (by kernel_rfl) ?_
  refine .cons (.assign .none .bool) rfl ?_
  refine .nil ?_
  refine .then ?_
  refine .seq ?_
  refine .region [] mixed (by kernel_rfl) ?_
  refine .cons (.move .none (.s rfl)) rfl ?_
  refine .cons (.lt .none (.s rfl) (.int (by decide))) rfl ?_
  refine .cons (.move .none (.s rfl)) rfl ?_
  refine .cons (.move (.at rfl rfl) (.s rfl)) rfl ?_
  refine .cons (.gt (.at rfl rfl) (.tmp rfl id) (.int (by decide))) rfl ?_
  refine .cons (.pickOr .none (.s rfl) (.tmp rfl id)) rfl ?_
  refine .cons (.assign .none (.s rfl)) rfl ?_
  refine .nil ?_
  refine .then ?_
  refine .ret ?_
  obtain rfl := some_eq h
  exact Ends.ret1 (.inl rfl) Tryd.results37 (ResOK.tmp rfl trivial Imp.refl)

theorem page_view_below_okS {self : (Page_view × Int × (List Bool)) → Option (List Bool)} (hself : ∀ {s35 : Value} (x : (Page_view × Int × (List Bool))) (r : (List Bool)), self x = some r → FSpecO Tryd.prog 38 [ref x.1, rep x.2.1, isV s35] [(s35, rowV 4 x.2.2)] (anyV) [some (rowV 4 r)]) {s35 : Value} {x : (Page_view × Int × (List Bool))} {r : (List Bool)} (h : page_view_below_body self x = some r) : FSpecO Tryd.prog 38 [ref x.1, rep x.2.1, isV s35] [(s35, rowV 4 x.2.2)] (anyV) [some (rowV 4 r)] := by
  unfold page_view_below_body at h
  refine FSpecO.intro (n := 35) fnok38 Tryd.func38 rfl Tryd.ntmps38 rfl (fun F => ?_)
  refine .seq ?_
  refine .region [([], []), ([], []), ([35], []), ([35], [35])] mixed (by kernel_rfl) ?_
  refine .consA (.move .none (.s rfl)) rfl ?_
  refine .consA (.move .none (.s rfl)) rfl ?_
  obtain ⟨hn1, h⟩ := need_some h
  refine .consA (.indexAddrO (k := 35) .none sl73 ty4 (.s rfl) rfl (.s rfl) (fun _ => hn1)) rfl ?_
  refine .consN (.storeElem0 (k := 35) ty4 (.s rfl) rfl .bool hn1) rfl ?_
  refine .nil ?_
  refine .then ?_
  obtain ⟨marks2, hv2, h⟩ := bnd_some h
  refine .reB (t := 35) rfl (congrArg (fun y => CPred.at s35 (rowV 4 y)) hv2) ?_
  refine .seq ?_
  refine .region [] mixed (by kernel_rfl) ?_
  refine .cons (.move .none (.s rfl)) rfl ?_
  refine .cons (.nilCheckR .none (.s rfl)) rfl ?_
  refine .cons (.fieldAddr .none fd63_2 hfd63_2 (.s rfl)) rfl ?_
  refine .cons (.load .none ty61 (.s rfl)) rfl ?_
  refine .cons (.move .none (.s rfl)) rfl ?_
  refine .cons (.nilCheckR .none (.s rfl)) rfl ?_
  refine .cons (.fieldAddr .none fd63_0 hfd63_0 (.s rfl)) rfl ?_
  refine .cons (.fieldAddr .none fd25_0 hfd25_0 (.s rfl)) rfl ?_
  refine .cons (.load .none ty22 (.s rfl)) rfl ?_
  refine .cons (.move .none (.s rfl)) rfl ?_
  obtain ⟨hn3, h⟩ := need_some h
  refine .cons (.indexAddr .none sl22 ty43 (.s rfl) (.s rfl) (fun _ => hn3)) rfl ?_
  refine .cons (.fieldAddr .none fd43_0 hfd43_0 (.s rfl)) rfl ?_
  refine .cons (.load .none ty9 (.s rfl)) rfl ?_
  obtain ⟨v2, hv4, h⟩ := bnd_some h
  refine .cons (.re hv4 (.lookup .none mo61 zo59 (.s rfl) (.s rfl))) rfl ?_
  refine .cons (.len .none sl59 (.s rfl)) rfl ?_
  refine .cons (.move .none (.int (by decide))) rfl ?_
  refine .nil ?_
  refine .then ?_
  obtain ⟨j_5, h, hK5⟩ := bind_some h
  refine .tailJ (ι := (List Bool)) (fun j_5 => []) (fun j_5 => [(35, some (CPred.at s35 (rowV 4 j_5)))]) (fun s => j_5 = s) (.cons (t := 2) rfl Sub.nil) SubB.nil ?_ (fun j_5' hj5 => ?_)
  · skip
    refine .block ?_
    refine .rforL h (fun p6_ => [(26, ⟨True, rep p6_.1⟩)]) (fun p6_ => [(35, some (CPred.at s35 (rowV 4 p6_.2)))]) (.cons (t := 26) rfl Sub.nil) (.cons (t := 35) rfl SubB.nil) (.cons (t := 0) rfl (.cons (t := 2) rfl (.cons (t := 24) rfl (.cons (t := 25) rfl Sub.nil)))) SubB.nil (fun p6_ o_6 h hD6 => ?_)
    refine .seq ?_
    refine .region [] mixed (by kernel_rfl) ?_
    refine .cons (.lt .none (.s rfl) (.s rfl)) rfl ?_
    refine .nil ?_
    refine .then ?_
    refine .seq ?_
    refine .cond (t := 27) rfl trivial (fun hb7 => ?_) (fun hb7 => ?_)
    · replace h := bif_t h hb7
      refine .skip ?_
      refine .then ?_
      refine .seq ?_
      obtain ⟨j_8, h, hK8⟩ := bind_some h
      unfold page_view_below_L1 at h
      refine .thenJ (ι := (List Bool)) (fun j_8 => []) (fun j_8 => [(35, some (CPred.at s35 (rowV 4 j_8)))]) (fun s => j_8 = s) (.cons (t := 0) rfl (.cons (t := 2) rfl (.cons (t := 24) rfl (.cons (t := 25) rfl (.cons (t := 26) rfl Sub.nil))))) SubB.nil ?_ (fun j_8' hj8 => ?_)
      · skip
        refine .block ?_
        refine .seq ?_
        refine .region [] mixed (by kernel_rfl) ?_
        obtain ⟨hn9, h⟩ := need_some h
        refine .cons (.indexAddr .none sl59 ty3 (.s rfl) (.s rfl) (fun _ => hn9)) rfl ?_
        refine .cons (.load .none ty3 (.s rfl)) rfl ?_
        refine .cons (.assign .none (.s rfl)) rfl ?_
        refine .nil ?_
        refine .then ?_
        refine .region [([], []), ([], []), ([], []), ([35], [35])] mixed (by kernel_rfl) ?_
        refine .consA (.move .none (.s rfl)) rfl ?_
        refine .consA (.move .none (.s rfl)) rfl ?_
        refine .consA (.move .none (.s rfl)) rfl ?_
        obtain ⟨r1, hv10, h⟩ := bind_some h
        refine .consW (.callO [35] (hself _ _ hv10) (.cons (.s rfl) (.cons (.s rfl) (.cons (.s rfl) .nil))) (.cons (k := 35) rfl .nil) rfl (by decide) (by decide) (by intro d h; cases h; decide)) rfl rfl ?_
        refine .nil ?_
        refine .blkNormal ?_
        exact Ends.join _ (some_eq h) (.cons (t := 0) rfl (.cons (t := 2) rfl (.cons (t := 24) rfl (.cons (t := 25) rfl (.cons (t := 26) rfl Sub.nil))))) (.cons (t := 35) rfl SubB.nil)
      · subst hj8; have h := hK8; clear hK8
        refine .region [] mixed (by kernel_rfl) ?_
        refine .cons (.addW .none (.s rfl) (.int (by decide))) rfl ?_
        refine .cons (.move .none (.s rfl)) rfl ?_
        refine .nil ?_
        exact Ends.againL (some_eq h) (.cons (t := 26) rfl (.cons (t := 0) rfl (.cons (t := 2) rfl (.cons (t := 24) rfl (.cons (t := 25) rfl Sub.nil))))) (.cons (t := 35) rfl SubB.nil)
    · replace h := bif_f h hb7
      refine .exit ?_
      refine .thenExit ?_
      refine .thenExit ?_
      refine .blkExit ?_
      replace h := hD6 _ (some_eq h)
      exact Ends.join _ (some_eq h) (.cons (t := 2) rfl Sub.nil) (.cons (t := 35) rfl SubB.nil)
  · subst hj5; have h := hK5; clear hK5
    obtain rfl := some_eq h
    exact Ends.ret0O (.inr rfl) [35] Tryd.results38 (by decide) (.held rfl .nil) 
theorem page_view_below_okN : ∀ (k : Nat) {s35 : Value} (x : (Page_view × Int × (List Bool))) (r : (List Bool)) (h : fixN page_view_below_body k x = some r), FSpecO Tryd.prog 38 [ref x.1, rep x.2.1, isV s35] [(s35, rowV 4 x.2.2)] (anyV) [some (rowV 4 r)]
  | 0, _, x, r, h => by simp [fixN] at h
  | k + 1, _, x, r, h => page_view_below_okS (page_view_below_okN k) h
theorem page_view_below_ok {v1 : Page_view} {k1 : Int} {marks1 : (List Bool)} {r : (List Bool)} {s35 : Value} (h : page_view_below v1 k1 marks1 = some r) : FSpecO Tryd.prog 38 [ref v1, rep k1, isV s35] [(s35, rowV 4 marks1)] (anyV) [some (rowV 4 r)] :=
  let ⟨k, hk⟩ := fixp_some h
  page_view_below_okN k (v1, k1, marks1) r hk

theorem page_nearer_ok {line1 : Int} {others1 : (List Int)} {reach1 : Int} {best1 : Int} {some1 : Bool} {r : (Int × Bool)}  (h : page_nearer line1 others1 reach1 best1 some1 = some r) : FSpec Tryd.prog 40 [rep line1, rep others1, rep reach1, rep best1, rep some1] (tup [rep r.1, rep r.2]) := by
  unfold page_nearer at h
  refine FSpec.intro (n := 67) fnok40 Tryd.func40 rfl Tryd.ntmps40 rfl (fun F => ?_)
  refine .seq ?_
  refine .region [] mixed (by kernel_rfl) ?_
  refine .cons (.assign .none (.int (by decide))) rfl ?_
  refine .cons (.assign .none .bool) rfl ?_
  refine .nil ?_
  refine .then ?_
  refine .seq ?_
  refine .seq ?_
  refine .region [] mixed (by kernel_rfl) ?_
  refine .cons (.move .none (.s rfl)) rfl ?_
  refine .cons (.len .none sl59 (.s rfl)) rfl ?_
  refine .cons (.move .none (.int (by decide))) rfl ?_
  refine .nil ?_
  refine .then ?_
  obtain ⟨j_1, h, hK1⟩ := bind_some h
  refine .thenJ (ι := (Int × Bool)) (fun j_1 => [(3, ⟨True, rep j_1.1⟩), (4, ⟨True, rep j_1.2⟩)]) (fun j_1 => []) (fun s => j_1 = s) Sub.nil SubB.nil ?_ (fun j_1' hj1 => ?_)
  · skip
    refine .block ?_
    refine .rforL h (fun p2_ => [(17, ⟨True, rep p2_.1⟩), (3, ⟨True, rep p2_.2.1⟩), (4, ⟨True, rep p2_.2.2⟩)]) (fun p2_ => []) (.cons (t := 17) rfl (.cons (t := 3) rfl (.cons (t := 4) rfl Sub.nil))) SubB.nil (.cons (t := 0) rfl (.cons (t := 2) rfl (.cons (t := 15) rfl (.cons (t := 16) rfl Sub.nil)))) SubB.nil (fun p2_ o_2 h hD2 => ?_)
    refine .seq ?_
    refine .region [] mixed (by kernel_rfl) ?_
    refine .cons (.lt .none (.s rfl) (.s rfl)) rfl ?_
    refine .nil ?_
    refine .then ?_
    refine .seq ?_
    refine .cond (t := 18) rfl trivial (fun hb3 => ?_) (fun hb3 => ?_)
    · replace h := bif_t h hb3
      refine .skip ?_
      refine .then ?_
      refine .seq ?_
      obtain ⟨j_4, h, hK4⟩ := bind_some h
      unfold page_nearer_L1 at h
      refine .thenJ (ι := (Int × Bool)) (fun j_4 => [(3, ⟨True, rep j_4.1⟩), (4, ⟨True, rep j_4.2⟩)]) (fun j_4 => []) (fun s => j_4 = s) (.cons (t := 0) rfl (.cons (t := 2) rfl (.cons (t := 15) rfl (.cons (t := 16) rfl (.cons (t := 17) rfl Sub.nil))))) SubB.nil ?_ (fun j_4' hj4 => ?_)
      · skip
        refine .block ?_
        refine .seq ?_
        refine .region [] mixed (by kernel_rfl) ?_
        obtain ⟨hn5, h⟩ := need_some h
        refine .cons (.indexAddr .none sl59 ty3 (.s rfl) (.s rfl) (fun _ => hn5)) rfl ?_
        refine .cons (.load .none ty3 (.s rfl)) rfl ?_
        obtain ⟨o1, hv6, h⟩ := bnd_some h
        refine .cons (.re hv6 (.assign .none (.s rfl))) rfl ?_
        refine .nil ?_
        refine .then ?_
        refine .seq ?_
        refine .seq ?_
        refine .region [] mixed (by kernel_rfl) ?_
        refine .cons (.move .none (.s rfl)) rfl ?_
        refine .cons (.move .none (.s rfl)) rfl ?_
        refine .cons (.subW .none (.s rfl) (.s rfl)) rfl ?_
        refine .cons (.rem .none (.s rfl) (.int (by decide)) (fun _ => by decide)) rfl ?_
        refine .cons (.neI .none (.s rfl) (.int (by decide))) rfl ?_
        refine .nil ?_
        refine .then ?_
        refine .cond (t := 25) rfl trivial (fun hb7 => ?_) (fun hb7 => ?_)
        · replace h := bif_t h hb7
          refine .exit ?_
          refine .thenExit ?_
          refine .blkExit ?_
          exact Ends.join _ (some_eq h) (.cons (t := 3) rfl (.cons (t := 4) rfl (.cons (t := 0) rfl (.cons (t := 2) rfl (.cons (t := 15) rfl (.cons (t := 16) rfl (.cons (t := 17) rfl Sub.nil))))))) SubB.nil
        · replace h := bif_f h hb7
          refine .skip ?_
          refine .then ?_
          refine .seq ?_
          refine .region [] mixed (by kernel_rfl) ?_
          refine .cons (.move .none (.s rfl)) rfl ?_
          refine .cons (.move .none (.s rfl)) rfl ?_
          refine .cons (.subW .none (.s rfl) (.s rfl)) rfl ?_
          refine .cons (.quo .none (.s rfl) (.int (by decide)) (fun _ => by decide)) rfl ?_
          obtain ⟨c1, hv8, h⟩ := bnd_some h
          refine .cons (.re hv8 (.assign .none (.s rfl))) rfl ?_
          refine .nil ?_
          refine .then ?_
          refine .seq ?_
          refine .seq ?_
          refine .region [] mixed (by kernel_rfl) ?_
          refine .cons (.move .none (.s rfl)) rfl ?_
          refine .cons (.move .none (.s rfl)) rfl ?_
          refine .cons (.negW .none (.s rfl)) rfl ?_
          refine .cons (.lt .none (.s rfl) (.s rfl)) rfl ?_
          refine .cons (.move .none (.s rfl)) rfl ?_
          refine .cons (.move (.at rfl rfl) (.s rfl)) rfl ?_
          refine .cons (.move (.at rfl rfl) (.s rfl)) rfl ?_
          refine .cons (.gt (.at rfl rfl) (.tmp rfl id) (.tmp rfl id)) rfl ?_
          refine .cons (.pickOr .none (.s rfl) (.tmp rfl id)) rfl ?_
          refine .nil ?_
          refine .then ?_
          refine .cond (t := 38) rfl trivial (fun hb9 => ?_) (fun hb9 => ?_)
          · replace h := bif_t h hb9
            refine .exit ?_
            refine .thenExit ?_
            refine .blkExit ?_
            exact Ends.join _ (some_eq h) (.cons (t := 3) rfl (.cons (t := 4) rfl (.cons (t := 0) rfl (.cons (t := 2) rfl (.cons (t := 15) rfl (.cons (t := 16) rfl (.cons (t := 17) rfl Sub.nil))))))) SubB.nil
          · replace h := bif_f h hb9
            refine .skip ?_
            refine .then ?_
            refine .seq ?_
            refine .region [] mixed (by kernel_rfl) ?_
            refine .cons (.move .none (.s rfl)) rfl ?_
            refine .cons (.not .none (.s rfl)) rfl ?_
            refine .cons (.move .none (.s rfl)) rfl ?_
            refine .cons (.move (.at rfl rfl) (.s rfl)) rfl ?_
            refine .cons (.move (.at rfl rfl) (.s rfl)) rfl ?_
            refine .cons (.negW (.at rfl rfl) (.tmp rfl id)) rfl ?_
            refine .cons (.max2 (.at rfl rfl) (.tmp rfl id) (.tmp rfl id)) rfl ?_
            refine .cons (.move (.at rfl rfl) (.s rfl)) rfl ?_
            refine .cons (.move (.at rfl rfl) (.s rfl)) rfl ?_
            refine .cons (.negW (.at rfl rfl) (.tmp rfl id)) rfl ?_
            refine .cons (.max2 (.at rfl rfl) (.tmp rfl id) (.tmp rfl id)) rfl ?_
            refine .cons (.lt (.at rfl rfl) (.tmp rfl id) (.tmp rfl id)) rfl ?_
            refine .cons (.pickOr .none (.s rfl) (.tmp rfl id)) rfl ?_
            refine .cons (.move .none (.s rfl)) rfl ?_
            refine .cons (.move (.at rfl rfl) (.s rfl)) rfl ?_
            refine .cons (.move (.at rfl rfl) (.s rfl)) rfl ?_
            refine .cons (.negW (.at rfl rfl) (.tmp rfl id)) rfl ?_
            refine .cons (.eqI (.at rfl rfl) (.tmp rfl id) (.tmp rfl id)) rfl ?_
            refine .cons (.move (.at rfl rfl) (.tmp rfl id)) rfl ?_
            refine .cons (.move (.at rfl rfl) (.s rfl)) rfl ?_
            refine .cons (.move (.at rfl rfl) (.s rfl)) rfl ?_
            refine .cons (.gt (.at rfl rfl) (.tmp rfl id) (.tmp rfl id)) rfl ?_
            refine .cons (.pickAnd (.at rfl rfl) (.tmp rfl id) (.tmp rfl id)) rfl ?_
            refine .cons (.pickOr .none (.s rfl) (.tmp rfl id)) rfl ?_
            refine .nil ?_
            refine .then ?_
            refine .cond (t := 62) rfl trivial (fun hb10 => ?_) (fun hb10 => ?_)
            · replace h := bif_t h hb10
              refine .region [] mixed (by kernel_rfl) ?_
              refine .cons (.move .none (.s rfl)) rfl ?_
              refine .cons (.assign .none (.s rfl)) rfl ?_
              refine .cons (.assign .none .bool) rfl ?_
              refine .nil ?_
              refine .blkNormal ?_
              exact Ends.join _ (some_eq h) (.cons (t := 3) rfl (.cons (t := 4) rfl (.cons (t := 0) rfl (.cons (t := 2) rfl (.cons (t := 15) rfl (.cons (t := 16) rfl (.cons (t := 17) rfl Sub.nil))))))) SubB.nil
            · replace h := bif_f h hb10
              refine .skip ?_
              refine .blkNormal ?_
              exact Ends.join _ (some_eq h) (.cons (t := 3) rfl (.cons (t := 4) rfl (.cons (t := 0) rfl (.cons (t := 2) rfl (.cons (t := 15) rfl (.cons (t := 16) rfl (.cons (t := 17) rfl Sub.nil))))))) SubB.nil
      · subst hj4; have h := hK4; clear hK4
        refine .region [] mixed (by kernel_rfl) ?_
        refine .cons (.addW .none (.s rfl) (.int (by decide))) rfl ?_
        refine .cons (.move .none (.s rfl)) rfl ?_
        refine .nil ?_
        exact Ends.againL (some_eq h) (.cons (t := 17) rfl (.cons (t := 3) rfl (.cons (t := 4) rfl (.cons (t := 0) rfl (.cons (t := 2) rfl (.cons (t := 15) rfl (.cons (t := 16) rfl Sub.nil))))))) SubB.nil
    · replace h := bif_f h hb3
      refine .exit ?_
      refine .thenExit ?_
      refine .thenExit ?_
      refine .blkExit ?_
      replace h := hD2 _ (some_eq h)
      exact Ends.join _ (some_eq h) (.cons (t := 3) rfl (.cons (t := 4) rfl Sub.nil)) SubB.nil
  · subst hj1; have h := hK1; clear hK1
    refine .seq ?_
    refine .region [] mixed (by kernel_rfl) ?_
    refine .cons (.move .none (.s rfl)) rfl ?_
    refine .cons (.move .none (.s rfl)) rfl ?_
    refine .cons (.assign .none (.s rfl)) rfl ?_
    refine .cons (.assign .none (.s rfl)) rfl ?_
    refine .nil ?_
    refine .then ?_
    refine .ret ?_
    obtain rfl := some_eq h
    exact Ends.ret2 (.inl rfl) Tryd.results40 (ResOK.tmp rfl trivial Imp.refl) (ResOK.tmp rfl trivial Imp.refl)

theorem page_Guide_1_ok {way1 : Int} {from1 : Int} {long1 : Int} {c0_1 : (Arr 1 (List Int))} {c1_1 : Int} {c2_1 : (Arr 1 (List Int))} {r : Int}  (h : page_Guide_1 way1 from1 long1 c0_1 c1_1 c2_1 = some r) : FSpec Tryd.prog 39 [rep way1, rep from1, rep long1, ref c0_1, ref c1_1, ref c2_1] (rep r) := by
  unfold page_Guide_1 at h
  refine FSpec.intro (n := 51) fnok39 Tryd.func39 rfl Tryd.ntmps39 rfl (fun F => ?_)
  refine .seq ?_
  refine .region [] mixed (by kernel_rfl) ?_
  refine .cons (.assign .none (.int (by decide))) rfl ?_
  refine .nil ?_
  refine .then ?_
  refine .seq ?_
  refine .region [] mixed (by kernel_rfl) ?_
  refine .cons (.move .none (.s rfl)) rfl ?_
  refine .cons (.mulW .none (.int (by decide)) (.s rfl)) rfl ?_
  refine .cons (.move .none (.s rfl)) rfl ?_
  obtain ⟨hn1, h⟩ := need_some h
  refine .cons (.indexAddrA .none ao75 ty59 (.s rfl) (.s rfl) (fun _ => hn1)) rfl ?_
  refine .cons (.load .none ty59 (.s rfl)) rfl ?_
  refine .cons (.load .none ty3 (.s rfl)) rfl ?_
  obtain ⟨r1, hv2, h⟩ := bind_some h
  refine .cons (.call .none (page_nearer_ok hv2) (.cons (.s rfl) (.cons (.s rfl) (.cons (.s rfl) (.cons (.int (by decide)) (.cons .bool .nil)))))) rfl ?_
  refine .cons (.move .none (.s rfl)) rfl ?_
  refine .cons (.extract .none (.s rfl) rfl) rfl ?_
  refine .cons (.extract .none (.s rfl) rfl) rfl ?_
  refine .cons (.assign .none (.s rfl)) rfl ?_
  refine .cons (.assign .none (.s rfl)) rfl ?_
  refine .nil ?_
  refine .then ?_
  refine .seq ?_
  refine .region [] mixed (by kernel_rfl) ?_
  refine .cons (.move .none (.s rfl)) rfl ?_
  refine .cons (.move .none (.s rfl)) rfl ?_
  refine .cons (.addW .none (.s rfl) (.s rfl)) rfl ?_
  refine .cons (.mulW .none (.int (by decide)) (.s rfl)) rfl ?_
  refine .cons (.move .none (.s rfl)) rfl ?_
  obtain ⟨hn3, h⟩ := need_some h
  refine .cons (.indexAddrA .none ao75 ty59 (.s rfl) (.s rfl) (fun _ => hn3)) rfl ?_
  refine .cons (.load .none ty59 (.s rfl)) rfl ?_
  refine .cons (.load .none ty3 (.s rfl)) rfl ?_
  refine .cons (.move .none (.s rfl)) rfl ?_
  refine .cons (.move .none (.s rfl)) rfl ?_
  obtain ⟨r2, hv4, h⟩ := bind_some h
  refine .cons (.call .none (page_nearer_ok hv4) (.cons (.s rfl) (.cons (.s rfl) (.cons (.s rfl) (.cons (.s rfl) (.cons (.s rfl) .nil)))))) rfl ?_
  refine .cons (.move .none (.s rfl)) rfl ?_
  refine .cons (.extract .none (.s rfl) rfl) rfl ?_
  refine .cons (.extract .none (.s rfl) rfl) rfl ?_
  refine .cons (.assign .none (.s rfl)) rfl ?_
  refine .cons (.assign .none (.s rfl)) rfl ?_
  refine .nil ?_
  refine .then ?_
  refine .seq ?_
  refine .region [] mixed (by kernel_rfl) ?_
  refine .cons (.move .none (.s rfl)) rfl ?_
  refine .cons (.mulW .none (.int (by decide)) (.s rfl)) rfl ?_
  refine .cons (.move .none (.s rfl)) rfl ?_
  refine .cons (.addW .none (.s rfl) (.s rfl)) rfl ?_
  refine .cons (.move .none (.s rfl)) rfl ?_
  obtain ⟨hn5, h⟩ := need_some h
  refine .cons (.indexAddrA .none ao75 ty59 (.s rfl) (.s rfl) (fun _ => hn5)) rfl ?_
  refine .cons (.load .none ty59 (.s rfl)) rfl ?_
  refine .cons (.load .none ty3 (.s rfl)) rfl ?_
  refine .cons (.move .none (.s rfl)) rfl ?_
  refine .cons (.move .none (.s rfl)) rfl ?_
  obtain ⟨r3, hv6, h⟩ := bind_some h
  refine .cons (.call .none (page_nearer_ok hv6) (.cons (.s rfl) (.cons (.s rfl) (.cons (.s rfl) (.cons (.s rfl) (.cons (.s rfl) .nil)))))) rfl ?_
  refine .cons (.move .none (.s rfl)) rfl ?_
  refine .cons (.extract .none (.s rfl) rfl) rfl ?_
  refine .cons (.extract .none (.s rfl) rfl) rfl ?_
  refine .cons (.assign .none (.s rfl)) rfl ?_
  refine .nil ?_
  refine .then ?_
  refine .seq ?_
  refine .region [] mixed (by kernel_rfl) ?_
  refine .cons (.move .none (.s rfl)) rfl ?_
  refine .cons (.assign .none (.s rfl)) rfl ?_
  refine .nil ?_
  refine .then ?_
  refine .ret ?_
  obtain rfl := some_eq h
  exact Ends.ret1 (.inl rfl) Tryd.results39 (ResOK.tmp rfl trivial Imp.refl)

theorem page_Guide_ok {d1 : Doc} {ids1 : (List Str)} {dx1 : Int} {dy1 : Int} {reach1 : Int} {r : (Int × Int × Int)}  (h : page_Guide d1 ids1 dx1 dy1 reach1 = some r) : FSpec Tryd.prog 13 [rep d1, rep ids1, rep dx1, rep dy1, rep reach1] (tup [rep r.1, rep r.2.1, rep r.2.2]) := by
  unfold page_Guide at h
  refine FSpec.intro (n := 166) fnok13 Tryd.func13 rfl Tryd.ntmps13 rfl (fun F => ?_)
  refine .seq ?_
  refine .region [] mixed (by kernel_rfl) ?_
  refine .cons (.box .none (.s rfl)) rfl ?_
  refine .cons (.box .none (.s rfl)) rfl ?_
  refine .cons (.assign .none (.int (by decide))) rfl ?_
  refine .cons (.assign .none (.int (by decide))) rfl ?_
  refine .cons (.assign .none (.int (by decide))) rfl ?_
  refine .nil ?_
  refine .then ?_
  refine .seq ?_
  refine .region [] mixed (by kernel_rfl) ?_
  refine .cons (.load .none ty25 (.s rfl)) rfl ?_
  refine .cons (.move .none (.s rfl)) rfl ?_
  obtain ⟨r1, hv1, h⟩ := bind_some h
  refine .cons (.call .none (page_selected_ok hv1) (.cons (.s rfl) (.cons (.s rfl) .nil))) rfl ?_
  refine .cons (.move .none (.s rfl)) rfl ?_
  refine .cons (.extract .none (.s rfl) rfl) rfl ?_
  refine .cons (.extract .none (.s rfl) rfl) rfl ?_
  refine .cons (.extract .none (.s rfl) rfl) rfl ?_
  refine .cons (.assign .none (.s rfl)) rfl ?_
  refine .cons (.assign .none (.s rfl)) rfl ?_
  refine .cons (.assign .none (.s rfl)) rfl ?_
  refine .nil ?_
  refine .then ?_
  refine .seq ?_
  refine .seq ?_
  refine .region [] mixed (by kernel_rfl) ?_
  refine .cons (.move .none (.s rfl)) rfl ?_
  refine .cons (.neI .none (.s rfl) (.int (by decide))) rfl ?_
  refine .nil ?_
  refine .then ?_
  refine .cond (t := 34) rfl trivial (fun hb2 => ?_) (fun hb2 => ?_)
  · replace h := bif_t h hb2
    refine .seq ?_
    refine .region [] mixed (by kernel_rfl) ?_
    refine .cons (.move .none (.s rfl)) rfl ?_
    refine .cons (.assign .none (.int (by decide))) rfl ?_
    refine .cons (.assign .none (.int (by decide))) rfl ?_
    refine .cons (.assign .none (.s rfl)) rfl ?_
    refine .nil ?_
    refine .then ?_
    refine .ret ?_
    refine .thenRet ?_
    obtain rfl := some_eq h
    exact Ends.ret3 (.inl rfl) Tryd.results13 (ResOK.tmp rfl trivial Imp.refl) (ResOK.tmp rfl trivial Imp.refl) (ResOK.tmp rfl trivial Imp.refl)
  · replace h := bif_f h hb2
    refine .skip ?_
    refine .then ?_
    refine .seq ?_
    obtain ⟨v1, hv3, h⟩ := bind_some h
    refine .isRef (t := 13) hv3 rfl trivial ?_
    refine .region [([], []), ([], []), ([], []), ([], []), ([], []), ([], []), ([], [16]), ([16], [16]), ([], [])] mixed (by kernel_rfl) ?_
    refine .consA (.move .none (.s rfl)) rfl ?_
    refine .consA (.move .none (.s rfl)) rfl ?_
    obtain ⟨r2, hv4, h⟩ := bind_some h
    refine .consA (.call .none (page_view_hullOf_ok hv4) (.cons (.s rfl) (.cons (.s rfl) .nil))) rfl ?_
    refine .consA (.move .none (.s rfl)) rfl ?_
    refine .consA (.extract .none (.s rfl) rfl) rfl ?_
    refine .consA (.extract .none (.s rfl) rfl) rfl ?_
    refine .consW (.alloc zo41 rfl) rfl rfl ?_
    refine .consN (.store ty41 rfl rfl (.s rfl)) rfl ?_
    refine .consA (.assign .none (.s rfl)) rfl ?_
    refine .nil ?_
    refine .then ?_
    refine .freeze (t := 16) rfl rfl SubB.nil rfl ?_
    refine .seq ?_
    refine .seq ?_
    refine .region [] mixed (by kernel_rfl) ?_
    refine .cons (.move .none (.s rfl)) rfl ?_
    refine .cons (.neI .none (.s rfl) (.int (by decide))) rfl ?_
    refine .nil ?_
    refine .then ?_
    refine .cond (t := 43) rfl trivial (fun hb5 => ?_) (fun hb5 => ?_)
    · replace h := bif_t h hb5
      refine .seq ?_
      refine .region [] mixed (by kernel_rfl) ?_
      refine .cons (.move .none (.s rfl)) rfl ?_
      refine .cons (.assign .none (.int (by decide))) rfl ?_
      refine .cons (.assign .none (.int (by decide))) rfl ?_
      refine .cons (.assign .none (.s rfl)) rfl ?_
      refine .nil ?_
      refine .then ?_
      refine .ret ?_
      refine .thenRet ?_
      obtain rfl := some_eq h
      exact Ends.ret3 (.inl rfl) Tryd.results13 (ResOK.tmp rfl trivial Imp.refl) (ResOK.tmp rfl trivial Imp.refl) (ResOK.tmp rfl trivial Imp.refl)
    · replace h := bif_f h hb5
      refine .skip ?_
      refine .then ?_
      refine .seq ?_
      refine .seq ?_
      refine .region [] mixed (by kernel_rfl) ?_
      refine .cons (.move .none (.s rfl)) rfl ?_
      obtain ⟨r3, hv6, h⟩ := bind_some h
      refine .cons (.call .none (page_far_ok hv6) (.cons (.s rfl) .nil)) rfl ?_
      refine .cons (.move .none (.s rfl)) rfl ?_
      refine .cons (.move (.at rfl rfl) (.s rfl)) rfl ?_
      obtain ⟨r4, hv7, h⟩ := bind_some h
      refine .cons (.callIf (.at rfl rfl) fnok37 (fun hg => page_far_ok ((fun hg => gd_some hv7 ((notT hg.2))) hg)) (.cons (.tmp rfl id) .nil) (fun h => h)) rfl ?_
      refine .cons (.pickOr .none (.s rfl) (.tmp rfl id)) rfl ?_
      refine .cons (.move .none (.s rfl)) rfl ?_
      refine .cons (.load (.at rfl rfl) ty3 (.s rfl)) rfl ?_
      refine .cons (.lt (.at rfl rfl) (.tmp rfl id) (.int (by decide))) rfl ?_
      refine .cons (.pickOr .none (.s rfl) (.tmp rfl id)) rfl ?_
      refine .cons (.move .none (.s rfl)) rfl ?_
      refine .cons (.load (.at rfl rfl) ty3 (.s rfl)) rfl ?_
      refine .cons (.gt (.at rfl rfl) (.tmp rfl id) (.int (by decide))) rfl ?_
      refine .cons (.pickOr .none (.s rfl) (.tmp rfl id)) rfl ?_
      refine .nil ?_
      refine .then ?_
      refine .cond (t := 58) rfl trivial (fun hb8 => ?_) (fun hb8 => ?_)
      · replace h := bif_t h hb8
        refine .seq ?_
        refine .region [] mixed (by kernel_rfl) ?_
        refine .cons (.assign .none (.int (by decide))) rfl ?_
        refine .cons (.assign .none (.int (by decide))) rfl ?_
        refine .cons (.assign .none (.int (by decide))) rfl ?_
        refine .nil ?_
        refine .then ?_
        refine .ret ?_
        refine .thenRet ?_
        obtain rfl := some_eq h
        exact Ends.ret3 (.inl rfl) Tryd.results13 (ResOK.tmp rfl trivial Imp.refl) (ResOK.tmp rfl trivial Imp.refl) (ResOK.tmp rfl trivial Imp.refl)
      · replace h := bif_f h hb8
        refine .skip ?_
        refine .then ?_
        refine .seq ?_
        refine .region [([], []), ([], []), ([], []), ([], [62]), ([62], [17, 62])] mixed (by kernel_rfl) ?_
        refine .consA (.fieldAddr .none fd25_0 hfd25_0 (.s rfl)) rfl ?_
        refine .consA (.load .none ty22 (.s rfl)) rfl ?_
        obtain ⟨v2, hv9, h⟩ := bnd_some h
        refine .consA (.re hv9 (.len .none sl22 (.s rfl))) rfl ?_
        obtain ⟨hn10, h⟩ := need_some h
        refine .consW (.makeSlice rk73 zo4 rfl (.s rfl) (.s rfl) hn10) rfl rfl ?_
        refine .consW (.passRow rfl (.tmp rfl)) rfl rfl ?_
        refine .nil ?_
        refine .then ?_
        obtain ⟨marks1, hv11, h⟩ := bnd_some h
        refine .reB (t := 17) rfl (congrArg (rowV 4) hv11) ?_
        refine .nameRow (t := 17) (g := 5001) rfl rfl rfl (fun s5001 => ?_)
        refine .seq ?_
        refine .seq ?_
        refine .region [] mixed (by kernel_rfl) ?_
        refine .cons (.move .none (.s rfl)) rfl ?_
        refine .cons (.len .none sl59 (.s rfl)) rfl ?_
        refine .cons (.move .none (.int (by decide))) rfl ?_
        refine .nil ?_
        refine .then ?_
        obtain ⟨j_12, h, hK12⟩ := bind_some h
        refine .thenJ (ι := (List Bool)) (fun j_12 => []) (fun j_12 => [(5001, some (CPred.at s5001 (rowV 4 j_12)))]) (fun s => j_12 = s) (.cons (t := 2) rfl (.cons (t := 3) rfl (.cons (t := 5) rfl (.cons (t := 9) rfl (.cons (t := 16) rfl (.cons (t := 17) rfl Sub.nil)))))) SubB.nil ?_ (fun j_12' hj12 => ?_)
        · skip
          refine .block ?_
          refine .rforL h (fun p13_ => [(65, ⟨True, rep p13_.1⟩)]) (fun p13_ => [(5001, some (CPred.at s5001 (rowV 4 p13_.2)))]) (.cons (t := 65) rfl Sub.nil) (.cons (t := 5001) rfl SubB.nil) (.cons (t := 2) rfl (.cons (t := 3) rfl (.cons (t := 5) rfl (.cons (t := 9) rfl (.cons (t := 13) rfl (.cons (t := 16) rfl (.cons (t := 17) rfl (.cons (t := 63) rfl (.cons (t := 64) rfl Sub.nil))))))))) SubB.nil (fun p13_ o_13 h hD13 => ?_)
          refine .seq ?_
          refine .region [] mixed (by kernel_rfl) ?_
          refine .cons (.lt .none (.s rfl) (.s rfl)) rfl ?_
          refine .nil ?_
          refine .then ?_
          refine .seq ?_
          refine .cond (t := 66) rfl trivial (fun hb14 => ?_) (fun hb14 => ?_)
          · replace h := bif_t h hb14
            refine .skip ?_
            refine .then ?_
            refine .seq ?_
            obtain ⟨j_15, h, hK15⟩ := bind_some h
            unfold page_Guide_L1 at h
            refine .thenJ (ι := (List Bool)) (fun j_15 => []) (fun j_15 => [(5001, some (CPred.at s5001 (rowV 4 j_15)))]) (fun s => j_15 = s) (.cons (t := 2) rfl (.cons (t := 3) rfl (.cons (t := 5) rfl (.cons (t := 9) rfl (.cons (t := 13) rfl (.cons (t := 16) rfl (.cons (t := 17) rfl (.cons (t := 63) rfl (.cons (t := 64) rfl (.cons (t := 65) rfl Sub.nil)))))))))) SubB.nil ?_ (fun j_15' hj15 => ?_)
            · skip
              refine .block ?_
              refine .seq ?_
              refine .region [] mixed (by kernel_rfl) ?_
              obtain ⟨hn16, h⟩ := need_some h
              refine .cons (.indexAddr .none sl59 ty3 (.s rfl) (.s rfl) (fun _ => hn16)) rfl ?_
              refine .cons (.load .none ty3 (.s rfl)) rfl ?_
              refine .cons (.assign .none (.s rfl)) rfl ?_
              refine .nil ?_
              refine .then ?_
              refine .region [([], []), ([], []), ([], []), ([5001], [5001])] mixed (by kernel_rfl) ?_
              refine .consA (.move .none (.s rfl)) rfl ?_
              refine .consA (.move .none (.s rfl)) rfl ?_
              refine .consA (.move .none (.s rfl)) rfl ?_
              obtain ⟨r5, hv17, h⟩ := bind_some h
              refine .consW (.callO [5001] (page_view_below_ok hv17) (.cons (.s rfl) (.cons (.s rfl) (.cons (.s rfl) .nil))) (.cons (k := 5001) rfl .nil) rfl (by decide) (by decide) (by intro d h; cases h; decide)) rfl rfl ?_
              refine .nil ?_
              refine .blkNormal ?_
              exact Ends.join _ (some_eq h) (.cons (t := 2) rfl (.cons (t := 3) rfl (.cons (t := 5) rfl (.cons (t := 9) rfl (.cons (t := 13) rfl (.cons (t := 16) rfl (.cons (t := 17) rfl (.cons (t := 63) rfl (.cons (t := 64) rfl (.cons (t := 65) rfl Sub.nil)))))))))) (.cons (t := 5001) rfl SubB.nil)
            · subst hj15; have h := hK15; clear hK15
              refine .region [] mixed (by kernel_rfl) ?_
              refine .cons (.addW .none (.s rfl) (.int (by decide))) rfl ?_
              refine .cons (.move .none (.s rfl)) rfl ?_
              refine .nil ?_
              exact Ends.againL (some_eq h) (.cons (t := 65) rfl (.cons (t := 2) rfl (.cons (t := 3) rfl (.cons (t := 5) rfl (.cons (t := 9) rfl (.cons (t := 13) rfl (.cons (t := 16) rfl (.cons (t := 17) rfl (.cons (t := 63) rfl (.cons (t := 64) rfl Sub.nil)))))))))) (.cons (t := 5001) rfl SubB.nil)
          · replace h := bif_f h hb14
            refine .exit ?_
            refine .thenExit ?_
            refine .thenExit ?_
            refine .blkExit ?_
            replace h := hD13 _ (some_eq h)
            exact Ends.join _ (some_eq h) (.cons (t := 2) rfl (.cons (t := 3) rfl (.cons (t := 5) rfl (.cons (t := 9) rfl (.cons (t := 16) rfl (.cons (t := 17) rfl Sub.nil)))))) (.cons (t := 5001) rfl SubB.nil)
        · subst hj12; have h := hK12; clear hK12
          refine .freezeRow (g := 5001) (ts := [17]) rfl (.cons (t := 17) rfl trivial .nil) SubB.nil rfl ?_
          refine .seq ?_
          refine .region [([], [20]), ([], [21])] mixed (by kernel_rfl) ?_
          refine .consW (.alloc zva75 rfl) rfl rfl ?_
          refine .consW (.alloc zva75 rfl) rfl rfl ?_
          refine .nil ?_
          refine .then ?_
          refine .nameAt (t := 20) (g := 5002) rfl rfl isBox_cont rfl (fun m5002 => ?_)
          refine .nameAt (t := 21) (g := 5003) rfl rfl isBox_cont rfl (fun m5003 => ?_)
          refine .nilKey (g := 5004) (T := 3) (α := Int) rfl ?_
          refine .nilKey (g := 5005) (T := 3) (α := Int) rfl ?_
          refine .nilKey (g := 5006) (T := 3) (α := Int) rfl ?_
          refine .nilKey (g := 5007) (T := 3) (α := Int) rfl ?_
          refine .seq ?_
          refine .seq ?_
          refine .region [] mixed (by kernel_rfl) ?_
          refine .cons (.fieldAddr .none fd25_0 hfd25_0 (.s rfl)) rfl ?_
          refine .cons (.load .none ty22 (.s rfl)) rfl ?_
          refine .cons (.len .none sl22 (.s rfl)) rfl ?_
          refine .cons (.move .none (.int (by decide))) rfl ?_
          refine .nil ?_
          refine .then ?_
          obtain ⟨j_18, h, hK18⟩ := bind_some h
          refine .thenJ (ι := ((Arr 1 (List Int)) × (Arr 1 (List Int)))) (fun j_18 => []) (fun j_18 => [(5002, some (CPred.at (ptr m5002 0) (deep (fun z0 => deep (fun z1 => cont 75 (⟨[⟨z0⟩, ⟨z1⟩]⟩ : Arr 1 Raw)) (rowV 3 j_18.1.at1)) (rowV 3 j_18.1.at0)))), (5003, some (CPred.at (ptr m5003 0) (deep (fun z0 => deep (fun z1 => cont 75 (⟨[⟨z0⟩, ⟨z1⟩]⟩ : Arr 1 Raw)) (rowV 3 j_18.2.at1)) (rowV 3 j_18.2.at0))))]) (fun s => j_18 = s) (.cons (t := 2) rfl (.cons (t := 3) rfl (.cons (t := 9) rfl (.cons (t := 16) rfl (.cons (t := 20) rfl (.cons (t := 21) rfl Sub.nil)))))) SubB.nil ?_ (fun j_18' hj18 => ?_)
          · skip
            refine .block ?_
            refine .close (k := 5002) (g := 5005) (fun z => cont 75 (⟨[⟨(.slice none 0 0)⟩, ⟨z⟩]⟩ : Arr 1 Raw)) rfl rfl rfl ?_
            refine .close (k := 5002) (g := 5004) (fun z => deep (fun z0 => cont 75 (⟨[⟨z⟩, ⟨z0⟩]⟩ : Arr 1 Raw)) (rowV 3 ([] : List Int))) rfl rfl rfl ?_
            refine .close (k := 5003) (g := 5007) (fun z => cont 75 (⟨[⟨(.slice none 0 0)⟩, ⟨z⟩]⟩ : Arr 1 Raw)) rfl rfl rfl ?_
            refine .close (k := 5003) (g := 5006) (fun z => deep (fun z0 => cont 75 (⟨[⟨z⟩, ⟨z0⟩]⟩ : Arr 1 Raw)) (rowV 3 ([] : List Int))) rfl rfl rfl ?_
            refine .rforL h (fun p19_ => [(77, ⟨True, rep p19_.1⟩)]) (fun p19_ => [(5002, some (CPred.at (ptr m5002 0) (deep (fun z0 => deep (fun z1 => cont 75 (⟨[⟨z0⟩, ⟨z1⟩]⟩ : Arr 1 Raw)) (rowV 3 p19_.2.1.at1)) (rowV 3 p19_.2.1.at0)))), (5003, some (CPred.at (ptr m5003 0) (deep (fun z0 => deep (fun z1 => cont 75 (⟨[⟨z0⟩, ⟨z1⟩]⟩ : Arr 1 Raw)) (rowV 3 p19_.2.2.at1)) (rowV 3 p19_.2.2.at0))))]) (.cons (t := 77) rfl Sub.nil) (.cons (t := 5002) rfl (.cons (t := 5003) rfl SubB.nil)) (.cons (t := 2) rfl (.cons (t := 3) rfl (.cons (t := 9) rfl (.cons (t := 16) rfl (.cons (t := 17) rfl (.cons (t := 20) rfl (.cons (t := 21) rfl (.cons (t := 75) rfl (.cons (t := 76) rfl Sub.nil))))))))) SubB.nil (fun p19_ o_19 h hD19 => ?_)
            refine .open (k := 5002) (g := 5008) rfl rfl (fun s5008 => ?_)
            refine .open (k := 5002) (g := 5009) rfl rfl (fun s5009 => ?_)
            refine .open (k := 5003) (g := 5010) rfl rfl (fun s5010 => ?_)
            refine .open (k := 5003) (g := 5011) rfl rfl (fun s5011 => ?_)
            refine .seq ?_
            refine .region [] mixed (by kernel_rfl) ?_
            refine .cons (.lt .none (.s rfl) (.s rfl)) rfl ?_
            refine .nil ?_
            refine .then ?_
            refine .seq ?_
            refine .cond (t := 78) rfl trivial (fun hb20 => ?_) (fun hb20 => ?_)
            · replace h := bif_t h hb20
              refine .skip ?_
              refine .then ?_
              refine .seq ?_
              obtain ⟨j_21, h, hK21⟩ := bind_some h
              unfold page_Guide_L2 at h
              refine .thenJ (ι := ((Arr 1 (List Int)) × (Arr 1 (List Int)))) (fun j_21 => []) (fun j_21 => [(5002, some (CPred.at (ptr m5002 0) (deep (fun z0 => deep (fun z1 => cont 75 (⟨[⟨z0⟩, ⟨z1⟩]⟩ : Arr 1 Raw)) (rowV 3 j_21.1.at1)) (rowV 3 j_21.1.at0)))), (5003, some (CPred.at (ptr m5003 0) (deep (fun z0 => deep (fun z1 => cont 75 (⟨[⟨z0⟩, ⟨z1⟩]⟩ : Arr 1 Raw)) (rowV 3 j_21.2.at1)) (rowV 3 j_21.2.at0))))]) (fun s => j_21 = s) (.cons (t := 2) rfl (.cons (t := 3) rfl (.cons (t := 9) rfl (.cons (t := 16) rfl (.cons (t := 17) rfl (.cons (t := 20) rfl (.cons (t := 21) rfl (.cons (t := 75) rfl (.cons (t := 76) rfl (.cons (t := 77) rfl Sub.nil)))))))))) SubB.nil ?_ (fun j_21' hj21 => ?_)
              · skip
                refine .block ?_
                refine .seq ?_
                refine .region [([], []), ([], []), ([], []), ([], [23]), ([], []), ([23], [23])] mixed (by kernel_rfl) ?_
                refine .consA (.move .none (.s rfl)) rfl ?_
                obtain ⟨hn22, h⟩ := need_some h
                refine .consA (.indexAddr .none sl22 ty43 (.s rfl) (.s rfl) (fun _ => hn22)) rfl ?_
                obtain ⟨v3, hv23, h⟩ := bnd_some h
                refine .consA (.re hv23 (.load .none ty43 (.s rfl))) rfl ?_
                refine .consW (.alloc zo43 rfl) rfl rfl ?_
                refine .consA (.assign .none (.s rfl)) rfl ?_
                refine .consN (.store ty43 rfl rfl (.s rfl)) rfl ?_
                refine .nil ?_
                refine .then ?_
                refine .freeze (t := 23) rfl rfl (.cons (t := 5002) rfl (.cons (t := 5003) rfl (.cons (t := 5008) rfl (.cons (t := 5009) rfl (.cons (t := 5010) rfl (.cons (t := 5011) rfl SubB.nil)))))) rfl ?_
                refine .seq ?_
                refine .region [([], []), ([], []), ([], [24]), ([24], [24])] mixed (by kernel_rfl) ?_
                refine .consA (.fieldAddr .none fd43_2 hfd43_2 (.s rfl)) rfl ?_
                refine .consA (.load .none ty41 (.s rfl)) rfl ?_
                refine .consW (.alloc zo41 rfl) rfl rfl ?_
                refine .consN (.store ty41 rfl rfl (.s rfl)) rfl ?_
                refine .nil ?_
                refine .then ?_
                refine .freeze (t := 24) rfl rfl (.cons (t := 5002) rfl (.cons (t := 5003) rfl (.cons (t := 5008) rfl (.cons (t := 5009) rfl (.cons (t := 5010) rfl (.cons (t := 5011) rfl SubB.nil)))))) rfl ?_
                refine .seq ?_
                refine .region [] mixed (by kernel_rfl) ?_
                refine .cons (.move .none (.s rfl)) rfl ?_
                refine .cons (.move .none (.s rfl)) rfl ?_
                obtain ⟨hn24, h⟩ := need_some h
                refine .cons (.indexAddr .none sl73 ty4 (.s rfl) (.s rfl) (fun _ => hn24)) rfl ?_
                refine .cons (.load .none ty4 (.s rfl)) rfl ?_
                refine .cons (.not .none (.s rfl)) rfl ?_
                refine .cons (.move .none (.s rfl)) rfl ?_
                refine .cons (.fieldAddr (.at rfl rfl) fd43_1 hfd43_1 (.s rfl)) rfl ?_
                refine .cons (.load (.at rfl rfl) ty3 (.tmp rfl id)) rfl ?_
                refine .cons (.neI (.at rfl rfl) (.tmp rfl id) (.int (by decide))) rfl ?_
                refine .cons (.pickAnd .none (.s rfl) (.tmp rfl id)) rfl ?_
                refine .nil ?_
                refine .then ?_
                refine .cond (t := 93) rfl trivial (fun hb25 => ?_) (fun hb25 => ?_)
                · replace h := bif_t h hb25
                  refine .seq ?_
                  refine .region [([], []), ([5002], []), ([], []), ([], []), ([], []), ([], []), ([], []), ([], []), ([], []), ([], []), ([], []), ([], []), ([5008], [106, 5008]), ([], []), ([5002, 106], [5002, 106])] mixed (by kernel_rfl) ?_
                  refine .consA (.indexPtr (k := 0) .none ao75 ty59 (.s rfl) (.int (by decide)) (by decide)) rfl ?_
                  refine .consA (.loadAt (k := 5002) .none tr59 rfl (.s rfl) hva1_0) rfl ?_
                  refine .consA (.fieldAddr .none fd41_0 hfd41_0 (.s rfl)) rfl ?_
                  refine .consA (.load .none ty3 (.s rfl)) rfl ?_
                  refine .consA (.mulW .none (.int (by decide)) (.s rfl)) rfl ?_
                  refine .consA (.fieldAddr .none fd41_0 hfd41_0 (.s rfl)) rfl ?_
                  refine .consA (.load .none ty3 (.s rfl)) rfl ?_
                  refine .consA (.fieldAddr .none fd41_2 hfd41_2 (.s rfl)) rfl ?_
                  refine .consA (.load .none ty3 (.s rfl)) rfl ?_
                  refine .consA (.addW .none (.s rfl) (.s rfl)) rfl ?_
                  refine .consA (.mulW .none (.int (by decide)) (.s rfl)) rfl ?_
                  refine .consA (.buildSlice (xs := [_, _]) .none sl59 ty3 hz3 (.cons (.s rfl) (.cons (.s rfl) .nil)) rfl (by decide)) rfl ?_
                  obtain ⟨hn26, h⟩ := need_some h
                  refine .consW (.append (k := 5008) rk59 rfl (.told (.s rfl) rfl) (.s rfl) hn26) rfl rfl ?_
                  refine .consA (.indexPtr (k := 0) .none ao75 ty59 (.s rfl) (.int (by decide)) (by decide)) rfl ?_
                  refine .consN (.storeRow (k := 5002) (t := 106) ty59 rfl (.s rfl) sva1_0 rfl rfl) rfl ?_
                  refine .nil ?_
                  refine .then ?_
                  refine .open (k := 5002) (g := 5012) rfl rfl (fun s5012 => ?_)
                  refine .seq ?_
                  refine .region [([], []), ([5002], []), ([], []), ([], []), ([], []), ([], []), ([], []), ([], []), ([], []), ([], []), ([], []), ([], []), ([5009], [120, 5009]), ([], []), ([5002, 120], [5002, 120])] mixed (by kernel_rfl) ?_
                  refine .consA (.indexPtr (k := 1) .none ao75 ty59 (.s rfl) (.int (by decide)) (by decide)) rfl ?_
                  refine .consA (.loadAt (k := 5002) .none tr59 rfl (.s rfl) hva1_1) rfl ?_
                  refine .consA (.fieldAddr .none fd41_1 hfd41_1 (.s rfl)) rfl ?_
                  refine .consA (.load .none ty3 (.s rfl)) rfl ?_
                  refine .consA (.mulW .none (.int (by decide)) (.s rfl)) rfl ?_
                  refine .consA (.fieldAddr .none fd41_1 hfd41_1 (.s rfl)) rfl ?_
                  refine .consA (.load .none ty3 (.s rfl)) rfl ?_
                  refine .consA (.fieldAddr .none fd41_3 hfd41_3 (.s rfl)) rfl ?_
                  refine .consA (.load .none ty3 (.s rfl)) rfl ?_
                  refine .consA (.addW .none (.s rfl) (.s rfl)) rfl ?_
                  refine .consA (.mulW .none (.int (by decide)) (.s rfl)) rfl ?_
                  refine .consA (.buildSlice (xs := [_, _]) .none sl59 ty3 hz3 (.cons (.s rfl) (.cons (.s rfl) .nil)) rfl (by decide)) rfl ?_
                  obtain ⟨hn27, h⟩ := need_some h
                  refine .consW (.append (k := 5009) rk59 rfl (.told (.s rfl) rfl) (.s rfl) hn27) rfl rfl ?_
                  refine .consA (.indexPtr (k := 1) .none ao75 ty59 (.s rfl) (.int (by decide)) (by decide)) rfl ?_
                  refine .consN (.storeRow (k := 5002) (t := 120) ty59 rfl (.s rfl) sva1_1 rfl rfl) rfl ?_
                  refine .nil ?_
                  refine .then ?_
                  obtain ⟨c1, hv28, h⟩ := bnd_some h
                  refine .reB (t := 5012) rfl (congrArg (fun y => CPred.at s5012 (rowV 3 y)) hv28) ?_
                  refine .open (k := 5002) (g := 5013) rfl rfl (fun s5013 => ?_)
                  refine .seq ?_
                  refine .region [([], []), ([5003], []), ([], []), ([], []), ([], []), ([], []), ([], []), ([], []), ([], []), ([5010], [131, 5010]), ([], []), ([5003, 131], [5003, 131])] mixed (by kernel_rfl) ?_
                  refine .consA (.indexPtr (k := 0) .none ao75 ty59 (.s rfl) (.int (by decide)) (by decide)) rfl ?_
                  refine .consA (.loadAt (k := 5003) .none tr59 rfl (.s rfl) hva1_0) rfl ?_
                  refine .consA (.fieldAddr .none fd41_0 hfd41_0 (.s rfl)) rfl ?_
                  refine .consA (.load .none ty3 (.s rfl)) rfl ?_
                  refine .consA (.mulW .none (.int (by decide)) (.s rfl)) rfl ?_
                  refine .consA (.fieldAddr .none fd41_2 hfd41_2 (.s rfl)) rfl ?_
                  refine .consA (.load .none ty3 (.s rfl)) rfl ?_
                  refine .consA (.addW .none (.s rfl) (.s rfl)) rfl ?_
                  refine .consA (.buildSlice (xs := [_]) .none sl59 ty3 hz3 (.cons (.s rfl) .nil) rfl (by decide)) rfl ?_
                  obtain ⟨hn29, h⟩ := need_some h
                  refine .consW (.append (k := 5010) rk59 rfl (.told (.s rfl) rfl) (.s rfl) hn29) rfl rfl ?_
                  refine .consA (.indexPtr (k := 0) .none ao75 ty59 (.s rfl) (.int (by decide)) (by decide)) rfl ?_
                  refine .consN (.storeRow (k := 5003) (t := 131) ty59 rfl (.s rfl) sva1_0 rfl rfl) rfl ?_
                  refine .nil ?_
                  refine .then ?_
                  obtain ⟨c2, hv30, h⟩ := bnd_some h
                  refine .reB (t := 5013) rfl (congrArg (fun y => CPred.at s5013 (rowV 3 y)) hv30) ?_
                  refine .open (k := 5003) (g := 5014) rfl rfl (fun s5014 => ?_)
                  refine .region [([], []), ([5003], []), ([], []), ([], []), ([], []), ([], []), ([], []), ([], []), ([], []), ([5011], [142, 5011]), ([], []), ([5003, 142], [5003, 142])] mixed (by kernel_rfl) ?_
                  refine .consA (.indexPtr (k := 1) .none ao75 ty59 (.s rfl) (.int (by decide)) (by decide)) rfl ?_
                  refine .consA (.loadAt (k := 5003) .none tr59 rfl (.s rfl) hva1_1) rfl ?_
                  refine .consA (.fieldAddr .none fd41_1 hfd41_1 (.s rfl)) rfl ?_
                  refine .consA (.load .none ty3 (.s rfl)) rfl ?_
                  refine .consA (.mulW .none (.int (by decide)) (.s rfl)) rfl ?_
                  refine .consA (.fieldAddr .none fd41_3 hfd41_3 (.s rfl)) rfl ?_
                  refine .consA (.load .none ty3 (.s rfl)) rfl ?_
                  refine .consA (.addW .none (.s rfl) (.s rfl)) rfl ?_
                  refine .consA (.buildSlice (xs := [_]) .none sl59 ty3 hz3 (.cons (.s rfl) .nil) rfl (by decide)) rfl ?_
                  obtain ⟨hn31, h⟩ := need_some h
                  refine .consW (.append (k := 5011) rk59 rfl (.told (.s rfl) rfl) (.s rfl) hn31) rfl rfl ?_
                  refine .consA (.indexPtr (k := 1) .none ao75 ty59 (.s rfl) (.int (by decide)) (by decide)) rfl ?_
                  refine .consN (.storeRow (k := 5003) (t := 142) ty59 rfl (.s rfl) sva1_1 rfl rfl) rfl ?_
                  refine .nil ?_
                  refine .blkNormal ?_
                  refine .close (k := 5002) (g := 5013) (fun z => cont 75 (⟨[⟨s5012⟩, ⟨z⟩]⟩ : Arr 1 Raw)) rfl rfl rfl ?_
                  refine .close (k := 5002) (g := 5012) (fun z => deep (fun z0 => cont 75 (⟨[⟨z⟩, ⟨z0⟩]⟩ : Arr 1 Raw)) (rowV 3 c2)) rfl rfl rfl ?_
                  refine .open (k := 5003) (g := 5015) rfl rfl (fun s5015 => ?_)
                  refine .close (k := 5003) (g := 5015) (fun z => cont 75 (⟨[⟨s5014⟩, ⟨z⟩]⟩ : Arr 1 Raw)) rfl rfl rfl ?_
                  refine .close (k := 5003) (g := 5014) (fun z => deep (fun z0 => cont 75 (⟨[⟨z⟩, ⟨z0⟩]⟩ : Arr 1 Raw)) (rowV 3 (p19_.2.2.at1 ++ [W ((W (2 * v3.Box.Y)) + v3.Box.H)]))) rfl rfl rfl ?_
                  exact Ends.join _ (some_eq h) (.cons (t := 2) rfl (.cons (t := 3) rfl (.cons (t := 9) rfl (.cons (t := 16) rfl (.cons (t := 17) rfl (.cons (t := 20) rfl (.cons (t := 21) rfl (.cons (t := 75) rfl (.cons (t := 76) rfl (.cons (t := 77) rfl Sub.nil)))))))))) (.cons (t := 5002) rfl (.cons (t := 5003) rfl SubB.nil))
                · replace h := bif_f h hb25
                  refine .skip ?_
                  refine .blkNormal ?_
                  refine .close (k := 5002) (g := 5009) (fun z => cont 75 (⟨[⟨s5008⟩, ⟨z⟩]⟩ : Arr 1 Raw)) rfl rfl rfl ?_
                  refine .close (k := 5002) (g := 5008) (fun z => deep (fun z0 => cont 75 (⟨[⟨z⟩, ⟨z0⟩]⟩ : Arr 1 Raw)) (rowV 3 p19_.2.1.at1)) rfl rfl rfl ?_
                  refine .close (k := 5003) (g := 5011) (fun z => cont 75 (⟨[⟨s5010⟩, ⟨z⟩]⟩ : Arr 1 Raw)) rfl rfl rfl ?_
                  refine .close (k := 5003) (g := 5010) (fun z => deep (fun z0 => cont 75 (⟨[⟨z⟩, ⟨z0⟩]⟩ : Arr 1 Raw)) (rowV 3 p19_.2.2.at1)) rfl rfl rfl ?_
                  exact Ends.join _ (some_eq h) (.cons (t := 2) rfl (.cons (t := 3) rfl (.cons (t := 9) rfl (.cons (t := 16) rfl (.cons (t := 17) rfl (.cons (t := 20) rfl (.cons (t := 21) rfl (.cons (t := 75) rfl (.cons (t := 76) rfl (.cons (t := 77) rfl Sub.nil)))))))))) (.cons (t := 5002) rfl (.cons (t := 5003) rfl SubB.nil))
              · subst hj21; have h := hK21; clear hK21
                refine .open (k := 5002) (g := 5016) rfl rfl (fun s5016 => ?_)
                refine .open (k := 5002) (g := 5017) rfl rfl (fun s5017 => ?_)
                refine .open (k := 5003) (g := 5018) rfl rfl (fun s5018 => ?_)
                refine .open (k := 5003) (g := 5019) rfl rfl (fun s5019 => ?_)
                refine .region [] mixed (by kernel_rfl) ?_
                refine .cons (.addW .none (.s rfl) (.int (by decide))) rfl ?_
                refine .cons (.move .none (.s rfl)) rfl ?_
                refine .nil ?_
                refine .close (k := 5002) (g := 5017) (fun z => cont 75 (⟨[⟨s5016⟩, ⟨z⟩]⟩ : Arr 1 Raw)) rfl rfl rfl ?_
                refine .close (k := 5002) (g := 5016) (fun z => deep (fun z0 => cont 75 (⟨[⟨z⟩, ⟨z0⟩]⟩ : Arr 1 Raw)) (rowV 3 j_21.1.at1)) rfl rfl rfl ?_
                refine .close (k := 5003) (g := 5019) (fun z => cont 75 (⟨[⟨s5018⟩, ⟨z⟩]⟩ : Arr 1 Raw)) rfl rfl rfl ?_
                refine .close (k := 5003) (g := 5018) (fun z => deep (fun z0 => cont 75 (⟨[⟨z⟩, ⟨z0⟩]⟩ : Arr 1 Raw)) (rowV 3 j_21.2.at1)) rfl rfl rfl ?_
                exact Ends.againL (some_eq h) (.cons (t := 77) rfl (.cons (t := 2) rfl (.cons (t := 3) rfl (.cons (t := 9) rfl (.cons (t := 16) rfl (.cons (t := 17) rfl (.cons (t := 20) rfl (.cons (t := 21) rfl (.cons (t := 75) rfl (.cons (t := 76) rfl Sub.nil)))))))))) (.cons (t := 5002) rfl (.cons (t := 5003) rfl SubB.nil))
            · replace h := bif_f h hb20
              refine .exit ?_
              refine .thenExit ?_
              refine .thenExit ?_
              refine .blkExit ?_
              refine .close (k := 5002) (g := 5009) (fun z => cont 75 (⟨[⟨s5008⟩, ⟨z⟩]⟩ : Arr 1 Raw)) rfl rfl rfl ?_
              refine .close (k := 5002) (g := 5008) (fun z => deep (fun z0 => cont 75 (⟨[⟨z⟩, ⟨z0⟩]⟩ : Arr 1 Raw)) (rowV 3 p19_.2.1.at1)) rfl rfl rfl ?_
              refine .close (k := 5003) (g := 5011) (fun z => cont 75 (⟨[⟨s5010⟩, ⟨z⟩]⟩ : Arr 1 Raw)) rfl rfl rfl ?_
              refine .close (k := 5003) (g := 5010) (fun z => deep (fun z0 => cont 75 (⟨[⟨z⟩, ⟨z0⟩]⟩ : Arr 1 Raw)) (rowV 3 p19_.2.2.at1)) rfl rfl rfl ?_
              replace h := hD19 _ (some_eq h)
              exact Ends.join _ (some_eq h) (.cons (t := 2) rfl (.cons (t := 3) rfl (.cons (t := 9) rfl (.cons (t := 16) rfl (.cons (t := 20) rfl (.cons (t := 21) rfl Sub.nil)))))) (.cons (t := 5002) rfl (.cons (t := 5003) rfl SubB.nil))
          · subst hj18; have h := hK18; clear hK18
            refine .freezeAt (g := 5002) (S := ref ((⟨[j_18.1.at0, j_18.1.at1]⟩ : (Arr 1 (List Int))) : (Arr 1 (List Int)))) (ts := [20]) rfl (.cons (t := 20) rfl trivial .nil) (.cons (t := 5003) rfl SubB.nil) rfl (fun M D w h hms => deep_ref2 (mk := (fun s1_ s2_ => (⟨[⟨s1_⟩, ⟨s2_⟩]⟩ : Arr 1 Raw))) (y := ((⟨[j_18.1.at0, j_18.1.at1]⟩ : (Arr 1 (List Int))) : (Arr 1 (List Int)))) frzRow frzRow rfl (fun M s1_ s2_ cs w hc g1 g2 => by obtain ⟨hl, c0, q0, e0, h0, c1, q1, e1, h1, hz⟩ := hc; exact ⟨rfl, c0, q0, e0, raw_cells rfl rfl h0 g1, c1, q1, e1, raw_cells rfl rfl h1 g2, hz⟩) M D w h hms) ?_
            refine .freezeAt (g := 5003) (S := ref ((⟨[j_18.2.at0, j_18.2.at1]⟩ : (Arr 1 (List Int))) : (Arr 1 (List Int)))) (ts := [21]) rfl (.cons (t := 21) rfl trivial .nil) SubB.nil rfl (fun M D w h hms => deep_ref2 (mk := (fun s1_ s2_ => (⟨[⟨s1_⟩, ⟨s2_⟩]⟩ : Arr 1 Raw))) (y := ((⟨[j_18.2.at0, j_18.2.at1]⟩ : (Arr 1 (List Int))) : (Arr 1 (List Int)))) frzRow frzRow rfl (fun M s1_ s2_ cs w hc g1 g2 => by obtain ⟨hl, c0, q0, e0, h0, c1, q1, e1, h1, hz⟩ := hc; exact ⟨rfl, c0, q0, e0, raw_cells rfl rfl h0 g1, c1, q1, e1, raw_cells rfl rfl h1 g2, hz⟩) M D w h hms) ?_
            refine .seq ?_
            refine .region [] mixed (by kernel_rfl) ?_
            refine .cons (.makeFunc (ι := Int × Int × Int × Int) (pre := fun i => (fun x0 x1 x2 => page_Guide_1 x0 x1 x2 (⟨[j_18.1.at0, j_18.1.at1]⟩ : (Arr 1 (List Int))) reach1 (⟨[j_18.2.at0, j_18.2.at1]⟩ : (Arr 1 (List Int)))) i.1 i.2.1 i.2.2.1 = some i.2.2.2) (Ss := fun i => [rep i.1, rep i.2.1, rep i.2.2.1]) (S := fun i => rep i.2.2.2) .none fnok39 (fun i h => page_Guide_1_ok h) (.cons (.s rfl) (.cons (.s rfl) (.cons (.s rfl) .nil)))) rfl ?_
            refine .cons (.assign .none (.s rfl)) rfl ?_
            refine .nil ?_
            refine .then ?_
            refine .seq ?_
            refine .region [] mixed (by kernel_rfl) ?_
            refine .cons (.move .none (.s rfl)) rfl ?_
            refine .cons (.move .none (.s rfl)) rfl ?_
            refine .cons (.fieldAddr .none fd41_0 hfd41_0 (.s rfl)) rfl ?_
            refine .cons (.load .none ty3 (.s rfl)) rfl ?_
            refine .cons (.move .none (.s rfl)) rfl ?_
            refine .cons (.addW .none (.s rfl) (.s rfl)) rfl ?_
            refine .cons (.fieldAddr .none fd41_2 hfd41_2 (.s rfl)) rfl ?_
            refine .cons (.load .none ty3 (.s rfl)) rfl ?_
            obtain ⟨r6, hv32, h⟩ := bind_some h
            refine .cons (.callV (0, W (r2.1.X + dx1), r2.1.W_, r6) .none (.s rfl) (fun _ => hv32) (.cons (.int (by decide)) (.cons (.s rfl) (.cons (.s rfl) .nil)))) rfl ?_
            refine .cons (.addW .none (.s rfl) (.s rfl)) rfl ?_
            refine .cons (.move .none (.s rfl)) rfl ?_
            refine .cons (.move .none (.s rfl)) rfl ?_
            refine .cons (.fieldAddr .none fd41_1 hfd41_1 (.s rfl)) rfl ?_
            refine .cons (.load .none ty3 (.s rfl)) rfl ?_
            refine .cons (.move .none (.s rfl)) rfl ?_
            refine .cons (.addW .none (.s rfl) (.s rfl)) rfl ?_
            refine .cons (.fieldAddr .none fd41_3 hfd41_3 (.s rfl)) rfl ?_
            refine .cons (.load .none ty3 (.s rfl)) rfl ?_
            obtain ⟨r7, hv33, h⟩ := bind_some h
            refine .cons (.callV (1, W (r2.1.Y + dy1), r2.1.H, r7) .none (.s rfl) (fun _ => hv33) (.cons (.int (by decide)) (.cons (.s rfl) (.cons (.s rfl) .nil)))) rfl ?_
            refine .cons (.addW .none (.s rfl) (.s rfl)) rfl ?_
            refine .cons (.assign .none (.s rfl)) rfl ?_
            refine .cons (.assign .none (.s rfl)) rfl ?_
            refine .cons (.assign .none (.int (by decide))) rfl ?_
            refine .nil ?_
            refine .then ?_
            refine .ret ?_
            obtain rfl := some_eq h
            exact Ends.ret3 (.inl rfl) Tryd.results13 (ResOK.tmp rfl trivial Imp.refl) (ResOK.tmp rfl trivial Imp.refl) (ResOK.tmp rfl trivial Imp.refl)

theorem ref_nodeError_1_ok {m1 : DNode} {c0_1 : DNode} {r : Bool}  (h : ref_nodeError_1 m1 c0_1 = some r) : FSpec Tryd.prog 68 [rep m1, ref c0_1] (rep r) := by
  unfold ref_nodeError_1 at h
  refine FSpec.intro (n := 9) fnok68 Tryd.func68 rfl Tryd.ntmps68 rfl (fun F => ?_)
  refine .seq ?_
  refine .region [] mixed (by kernel_rfl) ?_
  refine .cons (.box .none (.s rfl)) rfl ?_
  refine .cons (.assign .none .bool) rfl ?_
  refine .nil ?_
  refine .then ?_
  refine .seq ?_
  refine .region [] mixed (by kernel_rfl) ?_
  refine .cons (.fieldAddr .none fd43_0 hfd43_0 (.s rfl)) rfl ?_
  refine .cons (.load .none ty9 (.s rfl)) rfl ?_
  refine .cons (.fieldAddr .none fd43_0 hfd43_0 (.s rfl)) rfl ?_
  refine .cons (.load .none ty9 (.s rfl)) rfl ?_
  refine .cons (.eqS .none (eqAt_str Tryd.underlying9) (.s rfl) (.s rfl)) rfl ?_
  refine .cons (.assign .none (.s rfl)) rfl ?_
  refine .nil ?_
  refine .then ?_
  refine .ret ?_
  obtain rfl := some_eq h
  exact Ends.ret1 (.inl rfl) Tryd.results68 (ResOK.tmp rfl trivial Imp.refl)

theorem slices_IndexFunc_Node_ok {s1 : (List DNode)} {f1 : (DNode → Option Bool)} {r : Int}  (h : slices_IndexFunc_Node s1 f1 = some r) : FSpec Tryd.prog 31 [rep s1, fn1 Tryd.prog (rep (α := Bool)) f1] (rep r) := by
  unfold slices_IndexFunc_Node at h
  refine FSpec.intro (n := 19) fnok31 Tryd.func31 rfl Tryd.ntmps31 rfl (fun F => ?_)
  refine .seq ?_
  refine .region [] mixed (by kernel_rfl) ?_
  refine .cons (.assign .none (.int (by decide))) rfl ?_
  refine .nil ?_
  refine .then ?_
  refine .seq ?_
  refine .seq ?_
  refine .region [] mixed (by kernel_rfl) ?_
  refine .cons (.move .none (.s rfl)) rfl ?_
  refine .cons (.len .none sl22 (.s rfl)) rfl ?_
  refine .cons (.move .none (.int (by decide))) rfl ?_
  refine .nil ?_
  refine .then ?_
  obtain ⟨o_1, h, hK1⟩ := bindR_some h
  refine .thenJ (ι := Unit) (fun j_1 => []) (fun j_1 => []) (fun s => o_1 = Res.nx s) Sub.nil SubB.nil ?_ (fun j_1 hj1 => ?_)
  · skip
    refine .block ?_
    refine .rforEL h (fun p2_ => [(8, ⟨True, rep p2_.1⟩)]) (fun p2_ => []) (.cons (t := 8) rfl Sub.nil) SubB.nil (.cons (t := 0) rfl (.cons (t := 1) rfl (.cons (t := 7) rfl Sub.nil))) SubB.nil (fun p2_ o_2 h hD2 => ?_)
    refine .seq ?_
    refine .region [] mixed (by kernel_rfl) ?_
    refine .cons (.lt .none (.s rfl) (.s rfl)) rfl ?_
    refine .nil ?_
    refine .then ?_
    refine .seq ?_
    refine .cond (t := 9) rfl trivial (fun hb3 => ?_) (fun hb3 => ?_)
    · replace h := bif_t h hb3
      refine .skip ?_
      refine .then ?_
      refine .seq ?_
      obtain ⟨o_4, h, hK4⟩ := bindD_some h
      unfold slices_IndexFunc_Node_L1 at h
      refine .thenJ (ι := Unit) (fun j_4 => []) (fun j_4 => []) (fun s => o_4 = Res.nx s) (.cons (t := 0) rfl (.cons (t := 1) rfl (.cons (t := 7) rfl (.cons (t := 8) rfl Sub.nil)))) SubB.nil ?_ (fun j_4 hj4 => ?_)
      · skip
        refine .block ?_
        refine .seq ?_
        refine .region [] mixed (by kernel_rfl) ?_
        refine .cons (.move .none (.s rfl)) rfl ?_
        refine .cons (.assign .none (.s rfl)) rfl ?_
        refine .nil ?_
        refine .then ?_
        refine .seq ?_
        refine .region [] mixed (by kernel_rfl) ?_
        refine .cons (.move .none (.s rfl)) rfl ?_
        refine .cons (.move .none (.s rfl)) rfl ?_
        refine .cons (.move .none (.s rfl)) rfl ?_
        obtain ⟨hn5, h⟩ := need_some h
        refine .cons (.indexAddr .none sl22 ty43 (.s rfl) (.s rfl) (fun _ => hn5)) rfl ?_
        refine .cons (.load .none ty43 (.s rfl)) rfl ?_
        obtain ⟨r1, hv6, h⟩ := bind_some h
        refine .cons (.callV (gx s1 p2_.1, r1) .none (.s rfl) (fun _ => hv6) (.cons (.s rfl) .nil)) rfl ?_
        refine .nil ?_
        refine .then ?_
        refine .cond (t := 16) rfl trivial (fun hb7 => ?_) (fun hb7 => ?_)
        · replace h := bif_t h hb7
          refine .seq ?_
          refine .region [] mixed (by kernel_rfl) ?_
          refine .cons (.move .none (.s rfl)) rfl ?_
          refine .cons (.assign .none (.s rfl)) rfl ?_
          refine .nil ?_
          refine .then ?_
          refine .ret ?_
          refine .blkRet ?_
          refine .thenRet ?_
          refine .thenRet ?_
          refine .blkRet ?_
          refine .thenRet ?_
          replace h := resd_ab hK4 (some_eq h)
          replace h := hD2 _ (some_eq h)
          replace h := resb_ab hK1 (some_eq h)
          obtain rfl := some_eq h
          exact Ends.ret1 (.inl rfl) Tryd.results31 (ResOK.tmp rfl trivial Imp.refl)
        · replace h := bif_f h hb7
          refine .skip ?_
          refine .blkNormal ?_
          exact Ends.join _ (some_eq h) (.cons (t := 0) rfl (.cons (t := 1) rfl (.cons (t := 7) rfl (.cons (t := 8) rfl Sub.nil)))) SubB.nil
      · have h := resd_nx hK4 hj4
        refine .region [] mixed (by kernel_rfl) ?_
        refine .cons (.addW .none (.s rfl) (.int (by decide))) rfl ?_
        refine .cons (.move .none (.s rfl)) rfl ?_
        refine .nil ?_
        exact Ends.againL (some_eq h) (.cons (t := 8) rfl (.cons (t := 0) rfl (.cons (t := 1) rfl (.cons (t := 7) rfl Sub.nil)))) SubB.nil
    · replace h := bif_f h hb3
      refine .exit ?_
      refine .thenExit ?_
      refine .thenExit ?_
      refine .blkExit ?_
      replace h := hD2 _ (some_eq h)
      exact Ends.join _ (some_eq h) Sub.nil SubB.nil
  · have h := resb_nx hK1 hj1
    refine .seq ?_
    refine .region [] mixed (by kernel_rfl) ?_
    refine .cons (.assign .none (.int (by decide))) rfl ?_
    refine .nil ?_
    refine .then ?_
    refine .ret ?_
    obtain rfl := some_eq h
    exact Ends.ret1 (.inl rfl) Tryd.results31 (ResOK.tmp rfl trivial Imp.refl)

theorem slices_ContainsFunc_Node_ok {s1 : (List DNode)} {f1 : (DNode → Option Bool)} {r : Bool}  (h : slices_ContainsFunc_Node s1 f1 = some r) : FSpec Tryd.prog 67 [rep s1, fn1 Tryd.prog (rep (α := Bool)) f1] (rep r) := by
  unfold slices_ContainsFunc_Node at h
  refine FSpec.intro (n := 9) fnok67 Tryd.func67 rfl Tryd.ntmps67 rfl (fun F => ?_)
  refine .seq ?_
  refine .region [] mixed (by kernel_rfl) ?_
  refine .cons (.assign .none .bool) rfl ?_
  refine .nil ?_
  refine .then ?_
  refine .seq ?_
  refine .region [] mixed (by kernel_rfl) ?_
  refine .cons (.move .none (.s rfl)) rfl ?_
  refine .cons (.move .none (.s rfl)) rfl ?_
  obtain ⟨r1, hv1, h⟩ := bind_some h
  refine .cons (.call .none (slices_IndexFunc_Node_ok hv1) (.cons (.s rfl) (.cons (.s rfl) .nil))) rfl ?_
  refine .cons (.ge .none (.s rfl) (.int (by decide))) rfl ?_
  refine .cons (.assign .none (.s rfl)) rfl ?_
  refine .nil ?_
  refine .then ?_
  refine .ret ?_
  obtain rfl := some_eq h
  exact Ends.ret1 (.inl rfl) Tryd.results67 (ResOK.tmp rfl trivial Imp.refl)

theorem ref_NameOf_ok {s1 : Str} {r : Bool}  (h : ref_NameOf s1 = some r) : FSpec Tryd.prog 69 [rep s1] (rep r) := by
  unfold ref_NameOf at h
  refine FSpec.intro (n := 45) fnok69 Tryd.func69 rfl Tryd.ntmps69 rfl (fun F => ?_)
  refine .seq ?_
  refine .region [] mixed (by kernel_rfl) ?_
  refine .cons (.assign .none .bool) rfl ?_
  refine .nil ?_
  refine .then ?_
  refine .seq ?_
  refine .seq ?_
  refine .region [] mixed (by kernel_rfl) ?_
  refine .cons (.move .none (.s rfl)) rfl ?_
  refine .cons (.lenStr .none Tryd.underlying9 (.s rfl)) rfl ?_
  refine .cons (.move .none (.int (by decide))) rfl ?_
  refine .nil ?_
  refine .then ?_
  obtain ⟨o_1, h, hK1⟩ := bindR_some h
  refine .thenJ (ι := Unit) (fun j_1 => []) (fun j_1 => []) (fun s => o_1 = Res.nx s) (.cons (t := 0) rfl Sub.nil) SubB.nil ?_ (fun j_1 hj1 => ?_)
  · skip
    refine .block ?_
    refine .rforEL h (fun p2_ => [(7, ⟨True, rep p2_.1⟩)]) (fun p2_ => []) (.cons (t := 7) rfl Sub.nil) SubB.nil (.cons (t := 0) rfl (.cons (t := 6) rfl Sub.nil)) SubB.nil (fun p2_ o_2 h hD2 => ?_)
    refine .seq ?_
    refine .region [] mixed (by kernel_rfl) ?_
    refine .cons (.lt .none (.s rfl) (.s rfl)) rfl ?_
    refine .nil ?_
    refine .then ?_
    refine .seq ?_
    refine .cond (t := 8) rfl trivial (fun hb3 => ?_) (fun hb3 => ?_)
    · replace h := bif_t h hb3
      refine .skip ?_
      refine .then ?_
      refine .seq ?_
      obtain ⟨o_4, h, hK4⟩ := bindD_some h
      unfold ref_NameOf_L1 at h
      refine .thenJ (ι := Unit) (fun j_4 => []) (fun j_4 => []) (fun s => o_4 = Res.nx s) (.cons (t := 0) rfl (.cons (t := 6) rfl (.cons (t := 7) rfl Sub.nil))) SubB.nil ?_ (fun j_4 hj4 => ?_)
      · skip
        refine .block ?_
        refine .seq ?_
        refine .region [] mixed (by kernel_rfl) ?_
        refine .cons (.move .none (.s rfl)) rfl ?_
        refine .cons (.assign .none (.s rfl)) rfl ?_
        refine .nil ?_
        refine .then ?_
        refine .seq ?_
        refine .region [] mixed (by kernel_rfl) ?_
        refine .cons (.move .none (.s rfl)) rfl ?_
        refine .cons (.move .none (.s rfl)) rfl ?_
        obtain ⟨hn5, h⟩ := need_some h
        refine .cons (.indexStr .none Tryd.underlying9 (.s rfl) (.s rfl) (fun _ => hn5)) rfl ?_
        obtain ⟨c1, hv6, h⟩ := bnd_some h
        refine .cons (.re hv6 (.assign .none (.s rfl))) rfl ?_
        refine .nil ?_
        refine .then ?_
        refine .seq ?_
        refine .region [] mixed (by kernel_rfl) ?_
        refine .cons (.move .none (.s rfl)) rfl ?_
        refine .cons (.kgeq .none (.s rfl) .ki) rfl ?_
        refine .cons (.move .none (.s rfl)) rfl ?_
        refine .cons (.move (.at rfl rfl) (.s rfl)) rfl ?_
        refine .cons (.kleq (.at rfl rfl) (.tmp rfl id) .ki) rfl ?_
        refine .cons (.pickAnd .none (.s rfl) (.tmp rfl id)) rfl ?_
        refine .cons (.not .none (.s rfl)) rfl ?_
        refine .cons (.move .none (.s rfl)) rfl ?_
        refine .cons (.move (.at rfl rfl) (.s rfl)) rfl ?_
        refine .cons (.eqI (.at rfl rfl) (.tmp rfl id) (.int (by decide))) rfl ?_
        refine .cons (.move (.at rfl rfl) (.tmp rfl id)) rfl ?_
        refine .cons (.move (.at rfl rfl) (.s rfl)) rfl ?_
        refine .cons (.kgeq (.at rfl rfl) (.tmp rfl id) .ki) rfl ?_
        refine .cons (.move (.at rfl rfl) (.tmp rfl id)) rfl ?_
        refine .cons (.move (.at rfl rfl) (.s rfl)) rfl ?_
        refine .cons (.kleq (.at rfl rfl) (.tmp rfl id) .ki) rfl ?_
        refine .cons (.pickAnd (.at rfl rfl) (.tmp rfl id) (.tmp rfl id)) rfl ?_
        refine .cons (.not (.at rfl rfl) (.tmp rfl id)) rfl ?_
        refine .cons (.move (.at rfl rfl) (.tmp rfl id)) rfl ?_
        refine .cons (.move (.at rfl rfl) (.s rfl)) rfl ?_
        refine .cons (.kneq (.at rfl rfl) (.tmp rfl id) .ki) rfl ?_
        refine .cons (.pickAnd (.at rfl rfl) (.tmp rfl id) (.tmp rfl id)) rfl ?_
        refine .cons (.pickOr (.at rfl rfl) (.tmp rfl id) (.tmp rfl id)) rfl ?_
        refine .cons (.pickAnd .none (.s rfl) (.tmp rfl id)) rfl ?_
        refine .nil ?_
        refine .then ?_
        refine .cond (t := 36) rfl trivial (fun hb7 => ?_) (fun hb7 => ?_)
        · replace h := bif_t h hb7
          refine .seq ?_
          refine .region [] mixed (by kernel_rfl) ?_
          refine .cons (.assign .none .bool) rfl ?_
          refine .nil ?_
          refine .then ?_
          refine .ret ?_
          refine .blkRet ?_
          refine .thenRet ?_
          refine .thenRet ?_
          refine .blkRet ?_
          refine .thenRet ?_
          replace h := resd_ab hK4 (some_eq h)
          replace h := hD2 _ (some_eq h)
          replace h := resb_ab hK1 (some_eq h)
          obtain rfl := some_eq h
          exact Ends.ret1 (.inl rfl) Tryd.results69 (ResOK.tmp rfl trivial Imp.refl)
        · replace h := bif_f h hb7
          refine .skip ?_
          refine .blkNormal ?_
          exact Ends.join _ (some_eq h) (.cons (t := 0) rfl (.cons (t := 6) rfl (.cons (t := 7) rfl Sub.nil))) SubB.nil
      · have h := resd_nx hK4 hj4
        refine .region [] mixed (by kernel_rfl) ?_
        refine .cons (.addW .none (.s rfl) (.int (by decide))) rfl ?_
        refine .cons (.move .none (.s rfl)) rfl ?_
        refine .nil ?_
        exact Ends.againL (some_eq h) (.cons (t := 7) rfl (.cons (t := 0) rfl (.cons (t := 6) rfl Sub.nil))) SubB.nil
    · replace h := bif_f h hb3
      refine .exit ?_
      refine .thenExit ?_
      refine .thenExit ?_
      refine .blkExit ?_
      replace h := hD2 _ (some_eq h)
      exact Ends.join _ (some_eq h) (.cons (t := 0) rfl Sub.nil) SubB.nil
  · have h := resb_nx hK1 hj1
    refine .seq ?_
    refine .region [] mixed (by kernel_rfl) ?_
    refine .cons (.move .none (.s rfl)) rfl ?_
    refine .cons (.neS .none (eqAt_str Tryd.underlying9) (.s rfl) (.str (l := []) (by decide))) rfl ?_
    refine .cons (.move .none (.s rfl)) rfl ?_
    refine .cons (.move (.at rfl rfl) (.s rfl)) rfl ?_
    refine .cons (.lenStr (.at rfl rfl) Tryd.underlying9 (.tmp rfl id)) rfl ?_
    refine .cons (.le (.at rfl rfl) (.tmp rfl id) (.int (by decide))) rfl ?_
    refine .cons (.pickAnd .none (.s rfl) (.tmp rfl id)) rfl ?_
    refine .cons (.assign .none (.s rfl)) rfl ?_
    refine .nil ?_
    refine .then ?_
    refine .ret ?_
    obtain rfl := some_eq h
    exact Ends.ret1 (.inl rfl) Tryd.results69 (ResOK.tmp rfl trivial Imp.refl)

theorem ref_When_ok {is1 : Bool} {e1 : Int} {r : Int}  (h : ref_When is1 e1 = some r) : FSpec Tryd.prog 8 [rep is1, rep e1] (rep r) := by
  unfold ref_When at h
  refine FSpec.intro (n := 7) fnok8 Tryd.func8 rfl Tryd.ntmps8 rfl (fun F => ?_)
  refine .seq ?_
  refine .region [] mixed (by kernel_rfl) ?_
  refine .cons (.assign .none (.int (by decide))) rfl ?_
  refine .nil ?_
  refine .then ?_
  refine .seq ?_
  refine .seq ?_
  refine .region [] mixed (by kernel_rfl) ?_
  refine .cons (.move .none (.s rfl)) rfl ?_
  refine .nil ?_
  refine .then ?_
  refine .cond (t := 5) rfl trivial (fun hb1 => ?_) (fun hb1 => ?_)
  · replace h := bif_t h hb1
    refine .seq ?_
    refine .region [] mixed (by kernel_rfl) ?_
    refine .cons (.move .none (.s rfl)) rfl ?_
    refine .cons (.assign .none (.s rfl)) rfl ?_
    refine .nil ?_
    refine .then ?_
    refine .ret ?_
    refine .thenRet ?_
    obtain rfl := some_eq h
    exact Ends.ret1 (.inl rfl) Tryd.results8 (ResOK.tmp rfl trivial Imp.refl)
  · replace h := bif_f h hb1
    refine .skip ?_
    refine .then ?_
    refine .seq ?_
    refine .region [] mixed (by kernel_rfl) ?_
    refine .cons (.assign .none (.int (by decide))) rfl ?_
    refine .nil ?_
    refine .then ?_
    refine .ret ?_
    obtain rfl := some_eq h
    exact Ends.ret1 (.inl rfl) Tryd.results8 (ResOK.tmp rfl trivial Imp.refl)

theorem ref_In_ok {n1 : Int} {low1 : Int} {high1 : Int} {r : Bool}  (h : ref_In n1 low1 high1 = some r) : FSpec Tryd.prog 45 [rep n1, rep low1, rep high1] (rep r) := by
  unfold ref_In at h
  refine FSpec.intro (n := 15) fnok45 Tryd.func45 rfl Tryd.ntmps45 rfl (fun F => ?_)
  refine .seq ?_
  refine .region [] mixed (by kernel_rfl) ?_
  refine .cons (.assign .none .bool) rfl ?_
  refine .nil ?_
  refine .then ?_
  refine .seq ?_
  refine .region [] mixed (by kernel_rfl) ?_
  refine .cons (.move .none (.s rfl)) rfl ?_
  refine .cons (.move .none (.s rfl)) rfl ?_
  refine .cons (.ge .none (.s rfl) (.s rfl)) rfl ?_
  refine .cons (.move .none (.s rfl)) rfl ?_
  refine .cons (.move (.at rfl rfl) (.s rfl)) rfl ?_
  refine .cons (.move (.at rfl rfl) (.s rfl)) rfl ?_
  refine .cons (.le (.at rfl rfl) (.tmp rfl id) (.tmp rfl id)) rfl ?_
  refine .cons (.pickAnd .none (.s rfl) (.tmp rfl id)) rfl ?_
  refine .cons (.assign .none (.s rfl)) rfl ?_
  refine .nil ?_
  refine .then ?_
  refine .ret ?_
  obtain rfl := some_eq h
  exact Ends.ret1 (.inl rfl) Tryd.results45 (ResOK.tmp rfl trivial Imp.refl)

theorem ref_First_ok {l1 : (List Int)} {r : Int}  (h : ref_First l1 = some r) : FSpec Tryd.prog 43 [rep l1] (rep r) := by
  unfold ref_First at h
  refine FSpec.intro (n := 15) fnok43 Tryd.func43 rfl Tryd.ntmps43 rfl (fun F => ?_)
  refine .seq ?_
  refine .region [] mixed (by kernel_rfl) ?_
  refine .cons (.assign .none (.int (by decide))) rfl ?_
  refine .nil ?_
  refine .then ?_
  refine .seq ?_
  refine .seq ?_
  refine .region [] mixed (by kernel_rfl) ?_
  refine .cons (.move .none (.s rfl)) rfl ?_
  refine .cons (.len .none sl136 (.s rfl)) rfl ?_
  refine .cons (.move .none (.int (by decide))) rfl ?_
  refine .nil ?_
  refine .then ?_
  obtain ⟨o_1, h, hK1⟩ := bindR_some h
  refine .thenJ (ι := Unit) (fun j_1 => []) (fun j_1 => []) (fun s => o_1 = Res.nx s) Sub.nil SubB.nil ?_ (fun j_1 hj1 => ?_)
  · skip
    refine .block ?_
    refine .rforEL h (fun p2_ => [(7, ⟨True, rep p2_.1⟩)]) (fun p2_ => []) (.cons (t := 7) rfl Sub.nil) SubB.nil (.cons (t := 5) rfl (.cons (t := 6) rfl Sub.nil)) SubB.nil (fun p2_ o_2 h hD2 => ?_)
    refine .seq ?_
    refine .region [] mixed (by kernel_rfl) ?_
    refine .cons (.lt .none (.s rfl) (.s rfl)) rfl ?_
    refine .nil ?_
    refine .then ?_
    refine .seq ?_
    refine .cond (t := 8) rfl trivial (fun hb3 => ?_) (fun hb3 => ?_)
    · replace h := bif_t h hb3
      refine .skip ?_
      refine .then ?_
      refine .seq ?_
      obtain ⟨o_4, h, hK4⟩ := bindD_some h
      unfold ref_First_L1 at h
      refine .thenJ (ι := Unit) (fun j_4 => []) (fun j_4 => []) (fun s => o_4 = Res.nx s) (.cons (t := 5) rfl (.cons (t := 6) rfl (.cons (t := 7) rfl Sub.nil))) SubB.nil ?_ (fun j_4 hj4 => ?_)
      · skip
        refine .block ?_
        refine .seq ?_
        refine .region [] mixed (by kernel_rfl) ?_
        obtain ⟨hn5, h⟩ := need_some h
        refine .cons (.indexAddr .none sl136 ty26 (.s rfl) (.s rfl) (fun _ => hn5)) rfl ?_
        refine .cons (.load .none ty26 (.s rfl)) rfl ?_
        obtain ⟨e1, hv6, h⟩ := bnd_some h
        refine .cons (.re hv6 (.assign .none (.s rfl))) rfl ?_
        refine .nil ?_
        refine .then ?_
        refine .seq ?_
        refine .region [] mixed (by kernel_rfl) ?_
        refine .cons (.move .none (.s rfl)) rfl ?_
        refine .cons (.neI .none (.s rfl) (.int (by decide))) rfl ?_
        refine .nil ?_
        refine .then ?_
        refine .cond (t := 12) rfl trivial (fun hb7 => ?_) (fun hb7 => ?_)
        · replace h := bif_t h hb7
          refine .seq ?_
          refine .region [] mixed (by kernel_rfl) ?_
          refine .cons (.move .none (.s rfl)) rfl ?_
          refine .cons (.assign .none (.s rfl)) rfl ?_
          refine .nil ?_
          refine .then ?_
          refine .ret ?_
          refine .blkRet ?_
          refine .thenRet ?_
          refine .thenRet ?_
          refine .blkRet ?_
          refine .thenRet ?_
          replace h := resd_ab hK4 (some_eq h)
          replace h := hD2 _ (some_eq h)
          replace h := resb_ab hK1 (some_eq h)
          obtain rfl := some_eq h
          exact Ends.ret1 (.inl rfl) Tryd.results43 (ResOK.tmp rfl trivial Imp.refl)
        · replace h := bif_f h hb7
          refine .skip ?_
          refine .blkNormal ?_
          exact Ends.join _ (some_eq h) (.cons (t := 5) rfl (.cons (t := 6) rfl (.cons (t := 7) rfl Sub.nil))) SubB.nil
      · have h := resd_nx hK4 hj4
        refine .region [] mixed (by kernel_rfl) ?_
        refine .cons (.addW .none (.s rfl) (.int (by decide))) rfl ?_
        refine .cons (.move .none (.s rfl)) rfl ?_
        refine .nil ?_
        exact Ends.againL (some_eq h) (.cons (t := 7) rfl (.cons (t := 5) rfl (.cons (t := 6) rfl Sub.nil))) SubB.nil
    · replace h := bif_f h hb3
      refine .exit ?_
      refine .thenExit ?_
      refine .thenExit ?_
      refine .blkExit ?_
      replace h := hD2 _ (some_eq h)
      exact Ends.join _ (some_eq h) Sub.nil SubB.nil
  · have h := resb_nx hK1 hj1
    refine .seq ?_
    refine .region [] mixed (by kernel_rfl) ?_
    refine .cons (.assign .none (.int (by decide))) rfl ?_
    refine .nil ?_
    refine .then ?_
    refine .ret ?_
    obtain rfl := some_eq h
    exact Ends.ret1 (.inl rfl) Tryd.results43 (ResOK.tmp rfl trivial Imp.refl)

theorem ref_PointError_ok {p1 : Point} {r : Int}  (h : ref_PointError p1 = some r) : FSpec Tryd.prog 105 [rep p1] (rep r) := by
  unfold ref_PointError at h
  refine FSpec.intro (n := 14) fnok105 Tryd.func105 rfl Tryd.ntmps105 rfl (fun F => ?_)
  refine .seq ?_
  refine .region [] mixed (by kernel_rfl) ?_
  refine .cons (.box .none (.s rfl)) rfl ?_
  refine .cons (.assign .none (.int (by decide))) rfl ?_
  refine .nil ?_
  refine .then ?_
  refine .seq ?_
  refine .region [] mixed (by kernel_rfl) ?_
  refine .cons (.fieldAddr .none fd118_0 hfd118_0 (.s rfl)) rfl ?_
  refine .cons (.load .none ty3 (.s rfl)) rfl ?_
  obtain ⟨r1, hv1, h⟩ := bind_some h
  refine .cons (.call .none (ref_In_ok hv1) (.cons (.s rfl) (.cons (.int (by decide)) (.cons (.int (by decide)) .nil)))) rfl ?_
  refine .cons (.not .none (.s rfl)) rfl ?_
  refine .cons (.move .none (.s rfl)) rfl ?_
  refine .cons (.fieldAddr (.at rfl rfl) fd118_1 hfd118_1 (.s rfl)) rfl ?_
  refine .cons (.load (.at rfl rfl) ty3 (.tmp rfl id)) rfl ?_
  obtain ⟨r2, hv2, h⟩ := bind_some h
  refine .cons (.callIf (.at rfl rfl) fnok45 (fun hg => ref_In_ok ((fun hg => gd_some hv2 ((notT hg.2))) hg)) (.cons (.tmp rfl id) (.cons (.int (by decide)) (.cons (.int (by decide)) .nil))) (fun h => h)) rfl ?_
  refine .cons (.not (.at rfl rfl) (.tmp rfl id)) rfl ?_
  refine .cons (.pickOr .none (.s rfl) (.tmp rfl id)) rfl ?_
  obtain ⟨r3, hv3, h⟩ := bind_some h
  refine .cons (.call .none (ref_When_ok hv3) (.cons (.s rfl) (.cons (.int (by decide)) .nil))) rfl ?_
  refine .cons (.assign .none (.s rfl)) rfl ?_
  refine .nil ?_
  refine .then ?_
  refine .ret ?_
  obtain rfl := some_eq h
  exact Ends.ret1 (.inl rfl) Tryd.results105 (ResOK.tmp rfl trivial Imp.refl)

theorem ref_BoxError_ok {b1 : Box} {r : Int}  (h : ref_BoxError b1 = some r) : FSpec Tryd.prog 70 [rep b1] (rep r) := by
  unfold ref_BoxError at h
  refine FSpec.intro (n := 22) fnok70 Tryd.func70 rfl Tryd.ntmps70 rfl (fun F => ?_)
  refine .seq ?_
  refine .region [] mixed (by kernel_rfl) ?_
  refine .cons (.box .none (.s rfl)) rfl ?_
  refine .cons (.assign .none (.int (by decide))) rfl ?_
  refine .nil ?_
  refine .then ?_
  refine .seq ?_
  refine .region [] mixed (by kernel_rfl) ?_
  refine .cons (.fieldAddr .none fd41_0 hfd41_0 (.s rfl)) rfl ?_
  refine .cons (.load .none ty3 (.s rfl)) rfl ?_
  refine .cons (.fieldAddr .none fd41_1 hfd41_1 (.s rfl)) rfl ?_
  refine .cons (.load .none ty3 (.s rfl)) rfl ?_
  refine .cons (.buildF (y := (⟨b1.X, b1.Y⟩ : Point)) .none bu118 zc118 rfl (.cons (.s rfl) (.cons (.s rfl) .nil)) (.cons rfl sf118_0 (.cons rfl sf118_1 .nil))) rfl ?_
  obtain ⟨r1, hv1, h⟩ := bind_some h
  refine .cons (.call .none (ref_PointError_ok hv1) (.cons (.s rfl) .nil)) rfl ?_
  refine .cons (.fieldAddr .none fd41_2 hfd41_2 (.s rfl)) rfl ?_
  refine .cons (.load .none ty3 (.s rfl)) rfl ?_
  obtain ⟨r2, hv2, h⟩ := bind_some h
  refine .cons (.call .none (ref_In_ok hv2) (.cons (.s rfl) (.cons (.int (by decide)) (.cons (.int (by decide)) .nil)))) rfl ?_
  refine .cons (.not .none (.s rfl)) rfl ?_
  refine .cons (.move .none (.s rfl)) rfl ?_
  refine .cons (.fieldAddr (.at rfl rfl) fd41_3 hfd41_3 (.s rfl)) rfl ?_
  refine .cons (.load (.at rfl rfl) ty3 (.tmp rfl id)) rfl ?_
  obtain ⟨r3, hv3, h⟩ := bind_some h
  refine .cons (.callIf (.at rfl rfl) fnok45 (fun hg => ref_In_ok ((fun hg => gd_some hv3 ((notT hg.2))) hg)) (.cons (.tmp rfl id) (.cons (.int (by decide)) (.cons (.int (by decide)) .nil))) (fun h => h)) rfl ?_
  refine .cons (.not (.at rfl rfl) (.tmp rfl id)) rfl ?_
  refine .cons (.pickOr .none (.s rfl) (.tmp rfl id)) rfl ?_
  obtain ⟨r4, hv4, h⟩ := bind_some h
  refine .cons (.call .none (ref_When_ok hv4) (.cons (.s rfl) (.cons (.int (by decide)) .nil))) rfl ?_
  refine .cons (.buildSlice (xs := [_, _]) .none sl136 ty26 hz26 (.cons (.s rfl) (.cons (.s rfl) .nil)) rfl (by decide)) rfl ?_
  obtain ⟨r5, hv5, h⟩ := bind_some h
  refine .cons (.call .none (ref_First_ok hv5) (.cons (.s rfl) .nil)) rfl ?_
  refine .cons (.assign .none (.s rfl)) rfl ?_
  refine .nil ?_
  refine .then ?_
  refine .ret ?_
  obtain rfl := some_eq h
  exact Ends.ret1 (.inl rfl) Tryd.results70 (ResOK.tmp rfl trivial Imp.refl)

theorem ref_TextError_ok {s1 : Str} {r : Int}  (h : ref_TextError s1 = some r) : FSpec Tryd.prog 71 [rep s1] (rep r) := by
  unfold ref_TextError at h
  refine FSpec.intro (n := 41) fnok71 Tryd.func71 rfl Tryd.ntmps71 rfl (fun F => ?_)
  refine .seq ?_
  refine .region [] mixed (by kernel_rfl) ?_
  refine .cons (.assign .none (.int (by decide))) rfl ?_
  refine .nil ?_
  refine .then ?_
  refine .seq ?_
  refine .region [] mixed (by kernel_rfl) ?_
  refine .cons (.move .none (.s rfl)) rfl ?_
  obtain ⟨r1, hv1, h⟩ := bind_some h
  refine .cons (.call .none (utf8_ValidString_ok hv1) (.cons (.s rfl) .nil)) rfl ?_
  refine .cons (.not .none (.s rfl)) rfl ?_
  obtain ⟨bad1, hv2, h⟩ := bnd_some h
  refine .cons (.re hv2 (.assign .none (.s rfl))) rfl ?_
  refine .nil ?_
  refine .then ?_
  refine .seq ?_
  refine .seq ?_
  refine .region [] mixed (by kernel_rfl) ?_
  refine .cons (.move .none (.s rfl)) rfl ?_
  refine .cons (.lenStr .none Tryd.underlying9 (.s rfl)) rfl ?_
  refine .cons (.move .none (.int (by decide))) rfl ?_
  refine .nil ?_
  refine .then ?_
  obtain ⟨j_3, h, hK3⟩ := bind_some h
  refine .thenJ (ι := Bool) (fun j_3 => [(3, ⟨True, rep j_3⟩)]) (fun j_3 => []) (fun s => j_3 = s) (.cons (t := 0) rfl Sub.nil) SubB.nil ?_ (fun j_3' hj3 => ?_)
  · skip
    refine .block ?_
    refine .rforL h (fun p4_ => [(10, ⟨True, rep p4_.1⟩), (3, ⟨True, rep p4_.2⟩)]) (fun p4_ => []) (.cons (t := 10) rfl (.cons (t := 3) rfl Sub.nil)) SubB.nil (.cons (t := 0) rfl (.cons (t := 9) rfl Sub.nil)) SubB.nil (fun p4_ o_4 h hD4 => ?_)
    refine .seq ?_
    refine .region [] mixed (by kernel_rfl) ?_
    refine .cons (.lt .none (.s rfl) (.s rfl)) rfl ?_
    refine .nil ?_
    refine .then ?_
    refine .seq ?_
    refine .cond (t := 11) rfl trivial (fun hb5 => ?_) (fun hb5 => ?_)
    · replace h := bif_t h hb5
      refine .skip ?_
      refine .then ?_
      refine .seq ?_
      obtain ⟨j_6, h, hK6⟩ := bind_some h
      unfold ref_TextError_L1 at h
      refine .thenJ (ι := Bool) (fun j_6 => [(3, ⟨True, rep j_6⟩)]) (fun j_6 => []) (fun s => j_6 = s) (.cons (t := 0) rfl (.cons (t := 9) rfl (.cons (t := 10) rfl Sub.nil))) SubB.nil ?_ (fun j_6' hj6 => ?_)
      · skip
        refine .block ?_
        refine .seq ?_
        refine .region [] mixed (by kernel_rfl) ?_
        refine .cons (.move .none (.s rfl)) rfl ?_
        refine .cons (.assign .none (.s rfl)) rfl ?_
        refine .nil ?_
        refine .then ?_
        refine .region [] mixed (by kernel_rfl) ?_
        refine .cons (.move .none (.s rfl)) rfl ?_
        refine .cons (.move .none (.s rfl)) rfl ?_
        refine .cons (.move (.at rfl rfl) (.s rfl)) rfl ?_
        refine .cons (.move (.at rfl rfl) (.s rfl)) rfl ?_
        obtain ⟨hn7, h⟩ := need_some h
        refine .cons (.indexStr (.at rfl rfl) Tryd.underlying9 (.tmp rfl id) (.tmp rfl id) (fun hg => hn7 hg.2)) rfl ?_
        refine .cons (.klss (.at rfl rfl) (.tmp rfl id) .ki) rfl ?_
        refine .cons (.move (.at rfl rfl) (.tmp rfl id)) rfl ?_
        refine .cons (.move (.at rfl rfl) (.s rfl)) rfl ?_
        refine .cons (.move (.at rfl rfl) (.s rfl)) rfl ?_
        obtain ⟨hn8, h⟩ := need_some h
        refine .cons (.indexStr (.at rfl rfl) Tryd.underlying9 (.tmp rfl id) (.tmp rfl id) (fun hg => hn8 hg.1.2 hg.2)) rfl ?_
        refine .cons (.kneq (.at rfl rfl) (.tmp rfl id) .ki) rfl ?_
        refine .cons (.pickAnd (.at rfl rfl) (.tmp rfl id) (.tmp rfl id)) rfl ?_
        refine .cons (.pickOr .none (.s rfl) (.tmp rfl id)) rfl ?_
        refine .cons (.move .none (.s rfl)) rfl ?_
        refine .cons (.move (.at rfl rfl) (.s rfl)) rfl ?_
        refine .cons (.move (.at rfl rfl) (.s rfl)) rfl ?_
        obtain ⟨hn9, h⟩ := need_some h
        refine .cons (.indexStr (.at rfl rfl) Tryd.underlying9 (.tmp rfl id) (.tmp rfl id) (fun hg => hn9 hg.2)) rfl ?_
        refine .cons (.keql (.at rfl rfl) (.tmp rfl id) .ki) rfl ?_
        refine .cons (.pickOr .none (.s rfl) (.tmp rfl id)) rfl ?_
        obtain ⟨bad2, hv10, h⟩ := bnd_some h
        refine .cons (.re hv10 (.assign .none (.s rfl))) rfl ?_
        refine .nil ?_
        refine .blkNormal ?_
        exact Ends.join _ (some_eq h) (.cons (t := 3) rfl (.cons (t := 0) rfl (.cons (t := 9) rfl (.cons (t := 10) rfl Sub.nil)))) SubB.nil
      · subst hj6; have h := hK6; clear hK6
        refine .region [] mixed (by kernel_rfl) ?_
        refine .cons (.addW .none (.s rfl) (.int (by decide))) rfl ?_
        refine .cons (.move .none (.s rfl)) rfl ?_
        refine .nil ?_
        exact Ends.againL (some_eq h) (.cons (t := 10) rfl (.cons (t := 3) rfl (.cons (t := 0) rfl (.cons (t := 9) rfl Sub.nil)))) SubB.nil
    · replace h := bif_f h hb5
      refine .exit ?_
      refine .thenExit ?_
      refine .thenExit ?_
      refine .blkExit ?_
      replace h := hD4 _ (some_eq h)
      exact Ends.join _ (some_eq h) (.cons (t := 3) rfl (.cons (t := 0) rfl Sub.nil)) SubB.nil
  · subst hj3; have h := hK3; clear hK3
    refine .seq ?_
    refine .region [] mixed (by kernel_rfl) ?_
    refine .cons (.move .none (.s rfl)) rfl ?_
    refine .cons (.lenStr .none Tryd.underlying9 (.s rfl)) rfl ?_
    refine .cons (.gt .none (.s rfl) (.int (by decide))) rfl ?_
    obtain ⟨r2, hv11, h⟩ := bind_some h
    refine .cons (.call .none (ref_When_ok hv11) (.cons (.s rfl) (.cons (.int (by decide)) .nil))) rfl ?_
    refine .cons (.move .none (.s rfl)) rfl ?_
    obtain ⟨r3, hv12, h⟩ := bind_some h
    refine .cons (.call .none (ref_When_ok hv12) (.cons (.s rfl) (.cons (.int (by decide)) .nil))) rfl ?_
    refine .cons (.buildSlice (xs := [_, _]) .none sl136 ty26 hz26 (.cons (.s rfl) (.cons (.s rfl) .nil)) rfl (by decide)) rfl ?_
    obtain ⟨r4, hv13, h⟩ := bind_some h
    refine .cons (.call .none (ref_First_ok hv13) (.cons (.s rfl) .nil)) rfl ?_
    refine .cons (.assign .none (.s rfl)) rfl ?_
    refine .nil ?_
    refine .then ?_
    refine .ret ?_
    obtain rfl := some_eq h
    exact Ends.ret1 (.inl rfl) Tryd.results71 (ResOK.tmp rfl trivial Imp.refl)

theorem ref_classError_ok {s1 : Str} {r : Int}  (h : ref_classError s1 = some r) : FSpec Tryd.prog 72 [rep s1] (rep r) := by
  unfold ref_classError at h
  refine FSpec.intro (n := 11) fnok72 Tryd.func72 rfl Tryd.ntmps72 rfl (fun F => ?_)
  refine .seq ?_
  refine .region [] mixed (by kernel_rfl) ?_
  refine .cons (.assign .none (.int (by decide))) rfl ?_
  refine .nil ?_
  refine .then ?_
  refine .seq ?_
  refine .region [] mixed (by kernel_rfl) ?_
  refine .cons (.move .none (.s rfl)) rfl ?_
  refine .cons (.neS .none (eqAt_str Tryd.underlying9) (.s rfl) (.str (l := []) (by decide))) rfl ?_
  refine .cons (.move .none (.s rfl)) rfl ?_
  refine .cons (.move (.at rfl rfl) (.s rfl)) rfl ?_
  obtain ⟨r1, hv1, h⟩ := bind_some h
  refine .cons (.callIf (.at rfl rfl) fnok69 (fun hg => ref_NameOf_ok ((fun hg => gd_some hv1 (hg.2)) hg)) (.cons (.tmp rfl id) .nil) (fun h => h)) rfl ?_
  refine .cons (.not (.at rfl rfl) (.tmp rfl id)) rfl ?_
  refine .cons (.pickAnd .none (.s rfl) (.tmp rfl id)) rfl ?_
  obtain ⟨r2, hv2, h⟩ := bind_some h
  refine .cons (.call .none (ref_When_ok hv2) (.cons (.s rfl) (.cons (.int (by decide)) .nil))) rfl ?_
  refine .cons (.assign .none (.s rfl)) rfl ?_
  refine .nil ?_
  refine .then ?_
  refine .ret ?_
  obtain rfl := some_eq h
  exact Ends.ret1 (.inl rfl) Tryd.results72 (ResOK.tmp rfl trivial Imp.refl)

theorem ref_nodeError_ok {d1 : Doc} {i1 : Int} {r : Int}  (h : ref_nodeError d1 i1 = some r) : FSpec Tryd.prog 27 [rep d1, rep i1] (rep r) := by
  unfold ref_nodeError at h
  refine FSpec.intro (n := 57) fnok27 Tryd.func27 rfl Tryd.ntmps27 rfl (fun F => ?_)
  refine .seq ?_
  refine .region [] mixed (by kernel_rfl) ?_
  refine .cons (.box .none (.s rfl)) rfl ?_
  refine .cons (.assign .none (.int (by decide))) rfl ?_
  refine .nil ?_
  refine .then ?_
  refine .seq ?_
  refine .region [([], []), ([], []), ([], []), ([], []), ([], []), ([], [5]), ([5], [5])] mixed (by kernel_rfl) ?_
  refine .consA (.fieldAddr .none fd25_0 hfd25_0 (.s rfl)) rfl ?_
  refine .consA (.load .none ty22 (.s rfl)) rfl ?_
  refine .consA (.move .none (.s rfl)) rfl ?_
  obtain ⟨hn1, h⟩ := need_some h
  refine .consA (.indexAddr .none sl22 ty43 (.s rfl) (.s rfl) (fun _ => hn1)) rfl ?_
  obtain ⟨v1, hv2, h⟩ := bnd_some h
  refine .consA (.re hv2 (.load .none ty43 (.s rfl))) rfl ?_
  refine .consW (.alloc zo43 rfl) rfl rfl ?_
  refine .consN (.store ty43 rfl rfl (.s rfl)) rfl ?_
  refine .nil ?_
  refine .then ?_
  refine .freeze (t := 5) rfl rfl SubB.nil rfl ?_
  refine .seq ?_
  refine .region [] mixed (by kernel_rfl) ?_
  refine .cons (.fieldAddr .none fd25_0 hfd25_0 (.s rfl)) rfl ?_
  refine .cons (.load .none ty22 (.s rfl)) rfl ?_
  refine .cons (.move .none (.s rfl)) rfl ?_
  obtain ⟨hn3, h⟩ := need_some h
  refine .cons (.slice .none sl22 ty43 (.s rfl) rfl (.s rfl) (fun _ => hn3)) rfl ?_
  refine .cons (.makeFunc (ι := DNode × Bool) (pre := fun i => (fun x0 => ref_nodeError_1 x0 v1) i.1 = some i.2) (Ss := fun i => [rep i.1]) (S := fun i => rep i.2) .none fnok68 (fun i h => ref_nodeError_1_ok h) (.cons (.s rfl) .nil)) rfl ?_
  obtain ⟨twice1, hv4, h⟩ := bind_some h
  refine .cons (.call .none (slices_ContainsFunc_Node_ok hv4) (.cons (.s rfl) (.cons (.s rfl) .nil))) rfl ?_
  refine .cons (.assign .none (.s rfl)) rfl ?_
  refine .nil ?_
  refine .then ?_
  refine .seq ?_
  refine .seq ?_
  refine .region [] mixed (by kernel_rfl) ?_
  refine .cons (.fieldAddr .none fd43_0 hfd43_0 (.s rfl)) rfl ?_
  refine .cons (.load .none ty9 (.s rfl)) rfl ?_
  obtain ⟨r1, hv5, h⟩ := bind_some h
  refine .cons (.call .none (ref_NameOf_ok hv5) (.cons (.s rfl) .nil)) rfl ?_
  refine .cons (.not .none (.s rfl)) rfl ?_
  obtain ⟨r2, hv6, h⟩ := bind_some h
  refine .cons (.call .none (ref_When_ok hv6) (.cons (.s rfl) (.cons (.int (by decide)) .nil))) rfl ?_
  refine .cons (.move .none (.s rfl)) rfl ?_
  obtain ⟨r3, hv7, h⟩ := bind_some h
  refine .cons (.call .none (ref_When_ok hv7) (.cons (.s rfl) (.cons (.int (by decide)) .nil))) rfl ?_
  refine .cons (.fieldAddr .none fd43_1 hfd43_1 (.s rfl)) rfl ?_
  refine .cons (.load .none ty3 (.s rfl)) rfl ?_
  obtain ⟨r4, hv8, h⟩ := bind_some h
  refine .cons (.call .none (ref_In_ok hv8) (.cons (.s rfl) (.cons (.int (by decide)) (.cons (.int (by decide)) .nil)))) rfl ?_
  refine .cons (.not .none (.s rfl)) rfl ?_
  obtain ⟨r5, hv9, h⟩ := bind_some h
  refine .cons (.call .none (ref_When_ok hv9) (.cons (.s rfl) (.cons (.int (by decide)) .nil))) rfl ?_
  refine .cons (.buildSlice (xs := [_, _, _]) .none sl136 ty26 hz26 (.cons (.s rfl) (.cons (.s rfl) (.cons (.s rfl) .nil))) rfl (by decide)) rfl ?_
  obtain ⟨e1, hv10, h⟩ := bind_some h
  refine .cons (.call .none (ref_First_ok hv10) (.cons (.s rfl) .nil)) rfl ?_
  refine .cons (.assign .none (.s rfl)) rfl ?_
  refine .nil ?_
  refine .then ?_
  refine .seq ?_
  refine .region [] mixed (by kernel_rfl) ?_
  refine .cons (.move .none (.s rfl)) rfl ?_
  refine .cons (.neI .none (.s rfl) (.int (by decide))) rfl ?_
  refine .nil ?_
  refine .then ?_
  refine .cond (t := 35) rfl trivial (fun hb11 => ?_) (fun hb11 => ?_)
  · replace h := bif_t h hb11
    refine .seq ?_
    refine .region [] mixed (by kernel_rfl) ?_
    refine .cons (.move .none (.s rfl)) rfl ?_
    refine .cons (.assign .none (.s rfl)) rfl ?_
    refine .nil ?_
    refine .then ?_
    refine .ret ?_
    refine .thenRet ?_
    obtain rfl := some_eq h
    exact Ends.ret1 (.inl rfl) Tryd.results27 (ResOK.tmp rfl trivial Imp.refl)
  · replace h := bif_f h hb11
    refine .skip ?_
    refine .then ?_
    refine .seq ?_
    refine .region [] mixed (by kernel_rfl) ?_
    refine .cons (.fieldAddr .none fd43_2 hfd43_2 (.s rfl)) rfl ?_
    refine .cons (.load .none ty41 (.s rfl)) rfl ?_
    refine .cons (.buildF (y := (⟨(0 : Int), (0 : Int), (0 : Int), (0 : Int)⟩ : Box)) .none bu41 zc41 rfl .nil .nil) rfl ?_
    refine .cons (.neS .none eq41 (.s rfl) (.s rfl)) rfl ?_
    obtain ⟨box1, hv12, h⟩ := bind_some h
    refine .cons (.call .none (ref_When_ok hv12) (.cons (.s rfl) (.cons (.int (by decide)) .nil))) rfl ?_
    refine .cons (.assign .none (.s rfl)) rfl ?_
    refine .nil ?_
    refine .then ?_
    refine .seq ?_
    refine .seq ?_
    refine .region [] mixed (by kernel_rfl) ?_
    refine .cons (.fieldAddr .none fd43_1 hfd43_1 (.s rfl)) rfl ?_
    refine .cons (.load .none ty3 (.s rfl)) rfl ?_
    refine .cons (.neI .none (.s rfl) (.int (by decide))) rfl ?_
    refine .nil ?_
    refine .then ?_
    obtain ⟨j_13, h, hK13⟩ := bind_some h
    refine .thenJ (ι := Int) (fun j_13 => [(8, ⟨True, rep j_13⟩)]) (fun j_13 => []) (fun s => j_13 = s) (.cons (t := 5) rfl Sub.nil) SubB.nil ?_ (fun j_13' hj13 => ?_)
    · skip
      refine .cond (t := 44) rfl trivial (fun hb14 => ?_) (fun hb14 => ?_)
      · replace h := bif_t h hb14
        refine .region [] mixed (by kernel_rfl) ?_
        refine .cons (.fieldAddr .none fd43_2 hfd43_2 (.s rfl)) rfl ?_
        refine .cons (.load .none ty41 (.s rfl)) rfl ?_
        obtain ⟨box2, hv15, h⟩ := bind_some h
        refine .cons (.call .none (ref_BoxError_ok hv15) (.cons (.s rfl) .nil)) rfl ?_
        refine .cons (.assign .none (.s rfl)) rfl ?_
        refine .nil ?_
        exact Ends.join _ (some_eq h) (.cons (t := 8) rfl (.cons (t := 5) rfl Sub.nil)) SubB.nil
      · replace h := bif_f h hb14
        refine .skip ?_
        exact Ends.join _ (some_eq h) (.cons (t := 8) rfl (.cons (t := 5) rfl Sub.nil)) SubB.nil
    · subst hj13; have h := hK13; clear hK13
      refine .seq ?_
      refine .region [] mixed (by kernel_rfl) ?_
      refine .cons (.move .none (.s rfl)) rfl ?_
      refine .cons (.fieldAddr .none fd43_3 hfd43_3 (.s rfl)) rfl ?_
      refine .cons (.load .none ty9 (.s rfl)) rfl ?_
      obtain ⟨r6, hv16, h⟩ := bind_some h
      refine .cons (.call .none (ref_TextError_ok hv16) (.cons (.s rfl) .nil)) rfl ?_
      refine .cons (.fieldAddr .none fd43_4 hfd43_4 (.s rfl)) rfl ?_
      refine .cons (.load .none ty9 (.s rfl)) rfl ?_
      obtain ⟨r7, hv17, h⟩ := bind_some h
      refine .cons (.call .none (ref_classError_ok hv17) (.cons (.s rfl) .nil)) rfl ?_
      refine .cons (.buildSlice (xs := [_, _, _]) .none sl136 ty26 hz26 (.cons (.s rfl) (.cons (.s rfl) (.cons (.s rfl) .nil))) rfl (by decide)) rfl ?_
      obtain ⟨r8, hv18, h⟩ := bind_some h
      refine .cons (.call .none (ref_First_ok hv18) (.cons (.s rfl) .nil)) rfl ?_
      refine .cons (.assign .none (.s rfl)) rfl ?_
      refine .nil ?_
      refine .then ?_
      refine .ret ?_
      obtain rfl := some_eq h
      exact Ends.ret1 (.inl rfl) Tryd.results27 (ResOK.tmp rfl trivial Imp.refl)

theorem ref_NodeAt_1_ok {n1 : DNode} {c0_1 : Str} {r : Bool}  (h : ref_NodeAt_1 n1 c0_1 = some r) : FSpec Tryd.prog 32 [rep n1, ref c0_1] (rep r) := by
  unfold ref_NodeAt_1 at h
  refine FSpec.intro (n := 8) fnok32 Tryd.func32 rfl Tryd.ntmps32 rfl (fun F => ?_)
  refine .seq ?_
  refine .region [] mixed (by kernel_rfl) ?_
  refine .cons (.box .none (.s rfl)) rfl ?_
  refine .cons (.assign .none .bool) rfl ?_
  refine .nil ?_
  refine .then ?_
  refine .seq ?_
  refine .region [] mixed (by kernel_rfl) ?_
  refine .cons (.fieldAddr .none fd43_0 hfd43_0 (.s rfl)) rfl ?_
  refine .cons (.load .none ty9 (.s rfl)) rfl ?_
  refine .cons (.load .none ty9 (.s rfl)) rfl ?_
  refine .cons (.eqS .none (eqAt_str Tryd.underlying9) (.s rfl) (.s rfl)) rfl ?_
  refine .cons (.assign .none (.s rfl)) rfl ?_
  refine .nil ?_
  refine .then ?_
  refine .ret ?_
  obtain rfl := some_eq h
  exact Ends.ret1 (.inl rfl) Tryd.results32 (ResOK.tmp rfl trivial Imp.refl)

theorem ref_NodeAt_ok {d1 : Doc} {id1 : Str} {r : Int}  (h : ref_NodeAt d1 id1 = some r) : FSpec Tryd.prog 9 [rep d1, rep id1] (rep r) := by
  unfold ref_NodeAt at h
  refine FSpec.intro (n := 9) fnok9 Tryd.func9 rfl Tryd.ntmps9 rfl (fun F => ?_)
  refine .seq ?_
  refine .region [] mixed (by kernel_rfl) ?_
  refine .cons (.box .none (.s rfl)) rfl ?_
  refine .cons (.box .none (.s rfl)) rfl ?_
  refine .cons (.assign .none (.int (by decide))) rfl ?_
  refine .nil ?_
  refine .then ?_
  refine .seq ?_
  refine .region [] mixed (by kernel_rfl) ?_
  refine .cons (.fieldAddr .none fd25_0 hfd25_0 (.s rfl)) rfl ?_
  refine .cons (.load .none ty22 (.s rfl)) rfl ?_
  refine .cons (.makeFunc (ι := DNode × Bool) (pre := fun i => (fun x0 => ref_NodeAt_1 x0 id1) i.1 = some i.2) (Ss := fun i => [rep i.1]) (S := fun i => rep i.2) .none fnok32 (fun i h => ref_NodeAt_1_ok h) (.cons (.s rfl) .nil)) rfl ?_
  obtain ⟨r1, hv1, h⟩ := bind_some h
  refine .cons (.call .none (slices_IndexFunc_Node_ok hv1) (.cons (.s rfl) (.cons (.s rfl) .nil))) rfl ?_
  refine .cons (.assign .none (.s rfl)) rfl ?_
  refine .nil ?_
  refine .then ?_
  refine .ret ?_
  obtain rfl := some_eq h
  exact Ends.ret1 (.inl rfl) Tryd.results9 (ResOK.tmp rfl trivial Imp.refl)

theorem ref_above_ok {d1 : Doc} {n1 : DNode} {r : (Int × Bool)}  (h : ref_above d1 n1 = some r) : FSpec Tryd.prog 73 [rep d1, rep n1] (tup [rep r.1, rep r.2]) := by
  unfold ref_above at h
  refine FSpec.intro (n := 38) fnok73 Tryd.func73 rfl Tryd.ntmps73 rfl (fun F => ?_)
  refine .seq ?_
  refine .region [] mixed (by kernel_rfl) ?_
  refine .cons (.box .none (.s rfl)) rfl ?_
  refine .cons (.box .none (.s rfl)) rfl ?_
  refine .cons (.assign .none (.int (by decide))) rfl ?_
  refine .cons (.assign .none .bool) rfl ?_
  refine .nil ?_
  refine .then ?_
  refine .seq ?_
  refine .region [] mixed (by kernel_rfl) ?_
  refine .cons (.fieldAddr .none fd43_5 hfd43_5 (.s rfl)) rfl ?_
  refine .cons (.load .none ty9 (.s rfl)) rfl ?_
  refine .cons (.assign .none (.s rfl)) rfl ?_
  refine .nil ?_
  refine .then ?_
  refine .seq ?_
  obtain ⟨o_1, h, hK1⟩ := bindR_some h
  refine .thenJ (ι := Int) (fun j_1 => [(4, ⟨True, rep j_1⟩)]) (fun j_1 => []) (fun s => o_1 = Res.nx s) Sub.nil SubB.nil ?_ (fun j_1 hj1 => ?_)
  · skip
    refine .block ?_
    refine .loopL h (fun s2_ => [(4, ⟨True, rep s2_.1⟩), (6, ⟨True, rep s2_.2⟩)]) (fun s2_ => []) (.cons (t := 4) rfl (.cons (t := 6) rfl Sub.nil)) SubB.nil (.cons (t := 2) rfl (.cons (t := 3) rfl Sub.nil)) SubB.nil (fun s2_ o_2 h hD2 => ?_)
    unfold ref_above_L1 at h
    refine .seq ?_
    refine .seq ?_
    refine .region [] mixed (by kernel_rfl) ?_
    refine .cons (.move .none (.s rfl)) rfl ?_
    refine .cons (.neS .none (eqAt_str Tryd.underlying9) (.s rfl) (.str (l := []) (by decide))) rfl ?_
    refine .nil ?_
    refine .then ?_
    refine .cond (t := 10) rfl trivial (fun hb3 => ?_) (fun hb3 => ?_)
    · replace h := bif_t h hb3
      refine .skip ?_
      refine .then ?_
      refine .block ?_
      refine .seq ?_
      refine .seq ?_
      refine .region [] mixed (by kernel_rfl) ?_
      refine .cons (.move .none (.s rfl)) rfl ?_
      refine .cons (.addW .none (.s rfl) (.int (by decide))) rfl ?_
      obtain ⟨many1, hv4, h⟩ := bnd_some h
      refine .cons (.re hv4 (.assign .none (.s rfl))) rfl ?_
      refine .nil ?_
      refine .then ?_
      refine .seq ?_
      refine .region [] mixed (by kernel_rfl) ?_
      refine .cons (.move .none (.s rfl)) rfl ?_
      refine .cons (.fieldAddr .none fd43_0 hfd43_0 (.s rfl)) rfl ?_
      refine .cons (.load .none ty9 (.s rfl)) rfl ?_
      refine .cons (.eqS .none (eqAt_str Tryd.underlying9) (.s rfl) (.s rfl)) rfl ?_
      refine .cons (.move .none (.s rfl)) rfl ?_
      refine .cons (.move (.at rfl rfl) (.s rfl)) rfl ?_
      refine .cons (.fieldAddr (.at rfl rfl) fd25_0 hfd25_0 (.s rfl)) rfl ?_
      refine .cons (.load (.at rfl rfl) ty22 (.tmp rfl id)) rfl ?_
      refine .cons (.len (.at rfl rfl) sl22 (.tmp rfl id)) rfl ?_
      refine .cons (.gt (.at rfl rfl) (.tmp rfl id) (.tmp rfl id)) rfl ?_
      refine .cons (.pickOr .none (.s rfl) (.tmp rfl id)) rfl ?_
      refine .nil ?_
      refine .then ?_
      refine .cond (t := 23) rfl trivial (fun hb5 => ?_) (fun hb5 => ?_)
      · replace h := bif_t h hb5
        refine .seq ?_
        refine .region [] mixed (by kernel_rfl) ?_
        refine .cons (.move .none (.s rfl)) rfl ?_
        refine .cons (.move .none (.s rfl)) rfl ?_
        refine .cons (.fieldAddr .none fd43_0 hfd43_0 (.s rfl)) rfl ?_
        refine .cons (.load .none ty9 (.s rfl)) rfl ?_
        refine .cons (.eqS .none (eqAt_str Tryd.underlying9) (.s rfl) (.s rfl)) rfl ?_
        refine .cons (.assign .none (.s rfl)) rfl ?_
        refine .cons (.assign .none (.s rfl)) rfl ?_
        refine .nil ?_
        refine .then ?_
        refine .ret ?_
        refine .thenRet ?_
        refine .blkRet ?_
        refine .thenRet ?_
        refine .blkRet ?_
        refine .thenRet ?_
        replace h := hD2 _ (some_eq h)
        replace h := resb_ab hK1 (some_eq h)
        obtain rfl := some_eq h
        exact Ends.ret2 (.inl rfl) Tryd.results73 (ResOK.tmp rfl trivial Imp.refl) (ResOK.tmp rfl trivial Imp.refl)
      · replace h := bif_f h hb5
        refine .skip ?_
        refine .then ?_
        refine .region [] mixed (by kernel_rfl) ?_
        refine .cons (.fieldAddr .none fd25_0 hfd25_0 (.s rfl)) rfl ?_
        refine .cons (.load .none ty22 (.s rfl)) rfl ?_
        refine .cons (.load .none ty25 (.s rfl)) rfl ?_
        refine .cons (.move .none (.s rfl)) rfl ?_
        obtain ⟨r1, hv6, h⟩ := bind_some h
        refine .cons (.call .none (ref_NodeAt_ok hv6) (.cons (.s rfl) (.cons (.s rfl) .nil))) rfl ?_
        obtain ⟨hn7, h⟩ := need_some h
        refine .cons (.indexAddr .none sl22 ty43 (.s rfl) (.s rfl) (fun _ => hn7)) rfl ?_
        refine .cons (.fieldAddr .none fd43_5 hfd43_5 (.s rfl)) rfl ?_
        refine .cons (.load .none ty9 (.s rfl)) rfl ?_
        obtain ⟨id1, hv8, h⟩ := bnd_some h
        refine .cons (.re hv8 (.assign .none (.s rfl))) rfl ?_
        refine .nil ?_
        refine .blkNormal ?_
        exact Ends.againL (some_eq h) (.cons (t := 4) rfl (.cons (t := 6) rfl (.cons (t := 2) rfl (.cons (t := 3) rfl Sub.nil)))) SubB.nil
    · replace h := bif_f h hb3
      refine .exit ?_
      refine .thenExit ?_
      refine .thenExit ?_
      refine .blkExit ?_
      replace h := hD2 _ (some_eq h)
      exact Ends.join _ (some_eq h) (.cons (t := 4) rfl Sub.nil) SubB.nil
  · have h := resb_nx hK1 hj1
    refine .seq ?_
    refine .region [] mixed (by kernel_rfl) ?_
    refine .cons (.move .none (.s rfl)) rfl ?_
    refine .cons (.assign .none (.s rfl)) rfl ?_
    refine .cons (.assign .none .bool) rfl ?_
    refine .nil ?_
    refine .then ?_
    refine .ret ?_
    obtain rfl := some_eq h
    exact Ends.ret2 (.inl rfl) Tryd.results73 (ResOK.tmp rfl trivial Imp.refl) (ResOK.tmp rfl trivial Imp.refl)

theorem ref_members_ok {d1 : Doc} {id1 : Str} {r : (List DNode)}  (h : ref_members d1 id1 = some r) : FSpec Tryd.prog 74 [rep d1, rep id1] (rep r) := by
  unfold ref_members at h
  refine FSpec.intro (n := 25) fnok74 Tryd.func74 rfl Tryd.ntmps74 rfl (fun F => ?_)
  refine .seq ?_
  refine .region [] mixed (by kernel_rfl) ?_
  refine .cons (.box .none (.s rfl)) rfl ?_
  refine .cons (.assign .none (.const (x := ([] : (List DNode))) (fun M w => ⟨_, ⟨none, 0, rfl, Nat.le_refl _, by decide, rfl⟩, rfl⟩))) rfl ?_
  refine .nil ?_
  refine .then ?_
  refine .seq ?_
  refine .region [([], [5])] mixed (by kernel_rfl) ?_
  refine .consW (.nilRow (T := 43) (α := DNode) rfl) rfl rfl ?_
  refine .nil ?_
  refine .then ?_
  refine .nameRow (t := 5) (g := 5001) rfl rfl rfl (fun s5001 => ?_)
  refine .seq ?_
  refine .seq ?_
  refine .region [] mixed (by kernel_rfl) ?_
  refine .cons (.fieldAddr .none fd25_0 hfd25_0 (.s rfl)) rfl ?_
  refine .cons (.load .none ty22 (.s rfl)) rfl ?_
  refine .cons (.len .none sl22 (.s rfl)) rfl ?_
  refine .cons (.move .none (.int (by decide))) rfl ?_
  refine .nil ?_
  refine .then ?_
  obtain ⟨j_1, h, hK1⟩ := bind_some h
  refine .thenJ (ι := (List DNode)) (fun j_1 => []) (fun j_1 => [(5, some (rowV 43 j_1))]) (fun s => j_1 = s) Sub.nil SubB.nil ?_ (fun j_1' hj1 => ?_)
  · skip
    refine .block ?_
    refine .anon (t := 5) (g := 5001) rfl rfl trivial rfl ?_
    refine .rforL h (fun p2_ => [(11, ⟨True, rep p2_.1⟩)]) (fun p2_ => [(5, some (rowV 43 p2_.2))]) (.cons (t := 11) rfl Sub.nil) (.cons (t := 5) rfl SubB.nil) (.cons (t := 1) rfl (.cons (t := 9) rfl (.cons (t := 10) rfl Sub.nil))) SubB.nil (fun p2_ o_2 h hD2 => ?_)
    refine .nameRow (t := 5) (g := 5002) rfl rfl rfl (fun s5002 => ?_)
    refine .seq ?_
    refine .region [] mixed (by kernel_rfl) ?_
    refine .cons (.lt .none (.s rfl) (.s rfl)) rfl ?_
    refine .nil ?_
    refine .then ?_
    refine .seq ?_
    refine .cond (t := 12) rfl trivial (fun hb3 => ?_) (fun hb3 => ?_)
    · replace h := bif_t h hb3
      refine .skip ?_
      refine .then ?_
      refine .seq ?_
      obtain ⟨j_4, h, hK4⟩ := bind_some h
      unfold ref_members_L1 at h
      refine .thenJ (ι := (List DNode)) (fun j_4 => []) (fun j_4 => [(5, some (rowV 43 j_4))]) (fun s => j_4 = s) (.cons (t := 1) rfl (.cons (t := 9) rfl (.cons (t := 10) rfl (.cons (t := 11) rfl Sub.nil)))) SubB.nil ?_ (fun j_4' hj4 => ?_)
      · skip
        refine .block ?_
        refine .seq ?_
        refine .region [([], []), ([], []), ([], [7]), ([7], [7])] mixed (by kernel_rfl) ?_
        obtain ⟨hn5, h⟩ := need_some h
        refine .consA (.indexAddr .none sl22 ty43 (.s rfl) (.s rfl) (fun _ => hn5)) rfl ?_
        obtain ⟨v1, hv6, h⟩ := bnd_some h
        refine .consA (.re hv6 (.load .none ty43 (.s rfl))) rfl ?_
        refine .consW (.alloc zo43 rfl) rfl rfl ?_
        refine .consN (.store ty43 rfl rfl (.s rfl)) rfl ?_
        refine .nil ?_
        refine .then ?_
        refine .freeze (t := 7) rfl rfl (.cons (t := 5002) rfl SubB.nil) rfl ?_
        refine .seq ?_
        refine .region [] mixed (by kernel_rfl) ?_
        refine .cons (.fieldAddr .none fd43_5 hfd43_5 (.s rfl)) rfl ?_
        refine .cons (.load .none ty9 (.s rfl)) rfl ?_
        refine .cons (.move .none (.s rfl)) rfl ?_
        refine .cons (.eqS .none (eqAt_str Tryd.underlying9) (.s rfl) (.s rfl)) rfl ?_
        refine .nil ?_
        refine .then ?_
        refine .cond (t := 18) rfl trivial (fun hb7 => ?_) (fun hb7 => ?_)
        · replace h := bif_t h hb7
          refine .region [([], []), ([], []), ([], []), ([5002], [22, 5002]), ([22], [5, 22])] mixed (by kernel_rfl) ?_
          refine .consA (.move .none (.s rfl)) rfl ?_
          refine .consA (.load .none ty43 (.s rfl)) rfl ?_
          refine .consA (.buildSlice (xs := [_]) .none sl22 ty43 hz43 (.cons (.s rfl) .nil) rfl (by decide)) rfl ?_
          obtain ⟨hn8, h⟩ := need_some h
          refine .consW (.append (k := 5002) rk22 rfl (.told (.s rfl) rfl) (.s rfl) hn8) rfl rfl ?_
          refine .consW (.passRow rfl (.tmp rfl)) rfl rfl ?_
          refine .nil ?_
          refine .blkNormal ?_
          exact Ends.join _ (some_eq h) (.cons (t := 1) rfl (.cons (t := 9) rfl (.cons (t := 10) rfl (.cons (t := 11) rfl Sub.nil)))) (.cons (t := 5) rfl SubB.nil)
        · replace h := bif_f h hb7
          refine .skip ?_
          refine .blkNormal ?_
          refine .anon (t := 5) (g := 5002) rfl rfl trivial rfl ?_
          exact Ends.join _ (some_eq h) (.cons (t := 1) rfl (.cons (t := 9) rfl (.cons (t := 10) rfl (.cons (t := 11) rfl Sub.nil)))) (.cons (t := 5) rfl SubB.nil)
      · subst hj4; have h := hK4; clear hK4
        refine .nameRow (t := 5) (g := 5003) rfl rfl rfl (fun s5003 => ?_)
        refine .region [] mixed (by kernel_rfl) ?_
        refine .cons (.addW .none (.s rfl) (.int (by decide))) rfl ?_
        refine .cons (.move .none (.s rfl)) rfl ?_
        refine .nil ?_
        refine .anon (t := 5) (g := 5003) rfl rfl trivial rfl ?_
        exact Ends.againL (some_eq h) (.cons (t := 11) rfl (.cons (t := 1) rfl (.cons (t := 9) rfl (.cons (t := 10) rfl Sub.nil)))) (.cons (t := 5) rfl SubB.nil)
    · replace h := bif_f h hb3
      refine .exit ?_
      refine .thenExit ?_
      refine .thenExit ?_
      refine .blkExit ?_
      refine .anon (t := 5) (g := 5002) rfl rfl trivial rfl ?_
      replace h := hD2 _ (some_eq h)
      exact Ends.join _ (some_eq h) Sub.nil (.cons (t := 5) rfl SubB.nil)
  · subst hj1; have h := hK1; clear hK1
    refine .freezeRowA (t := 5) rfl rfl SubB.nil rfl ?_
    refine .seq ?_
    refine .region [] mixed (by kernel_rfl) ?_
    refine .cons (.move .none (.s rfl)) rfl ?_
    refine .cons (.assign .none (.s rfl)) rfl ?_
    refine .nil ?_
    refine .then ?_
    refine .ret ?_
    obtain rfl := some_eq h
    exact Ends.ret1 (.inl rfl) Tryd.results74 (ResOK.tmp rfl trivial Imp.refl)

theorem ref_treeError_ok {d1 : Doc} {r : Int}  (h : ref_treeError d1 = some r) : FSpec Tryd.prog 28 [rep d1] (rep r) := by
  unfold ref_treeError at h
  refine FSpec.intro (n := 94) fnok28 Tryd.func28 rfl Tryd.ntmps28 rfl (fun F => ?_)
  refine .seq ?_
  refine .region [] mixed (by kernel_rfl) ?_
  refine .cons (.box .none (.s rfl)) rfl ?_
  refine .cons (.assign .none (.int (by decide))) rfl ?_
  refine .nil ?_
  refine .then ?_
  refine .seq ?_
  refine .seq ?_
  refine .region [] mixed (by kernel_rfl) ?_
  refine .cons (.fieldAddr .none fd25_0 hfd25_0 (.s rfl)) rfl ?_
  refine .cons (.load .none ty22 (.s rfl)) rfl ?_
  refine .cons (.len .none sl22 (.s rfl)) rfl ?_
  refine .cons (.move .none (.int (by decide))) rfl ?_
  refine .nil ?_
  refine .then ?_
  obtain ⟨o_1, h, hK1⟩ := bindR_some h
  refine .thenJ (ι := Unit) (fun j_1 => []) (fun j_1 => []) (fun s => o_1 = Res.nx s) (.cons (t := 1) rfl Sub.nil) SubB.nil ?_ (fun j_1 hj1 => ?_)
  · skip
    refine .block ?_
    refine .rforEL h (fun p2_ => [(19, ⟨True, rep p2_.1⟩)]) (fun p2_ => []) (.cons (t := 19) rfl Sub.nil) SubB.nil (.cons (t := 1) rfl (.cons (t := 17) rfl (.cons (t := 18) rfl Sub.nil))) SubB.nil (fun p2_ o_2 h hD2 => ?_)
    refine .seq ?_
    refine .region [] mixed (by kernel_rfl) ?_
    refine .cons (.lt .none (.s rfl) (.s rfl)) rfl ?_
    refine .nil ?_
    refine .then ?_
    refine .seq ?_
    refine .cond (t := 20) rfl trivial (fun hb3 => ?_) (fun hb3 => ?_)
    · replace h := bif_t h hb3
      refine .skip ?_
      refine .then ?_
      refine .seq ?_
      obtain ⟨o_4, h, hK4⟩ := bindD_some h
      unfold ref_treeError_L1 at h
      refine .thenJ (ι := Unit) (fun j_4 => []) (fun j_4 => []) (fun s => o_4 = Res.nx s) (.cons (t := 1) rfl (.cons (t := 17) rfl (.cons (t := 18) rfl (.cons (t := 19) rfl Sub.nil)))) SubB.nil ?_ (fun j_4 hj4 => ?_)
      · skip
        refine .block ?_
        refine .seq ?_
        refine .region [([], []), ([], []), ([], [4]), ([4], [4])] mixed (by kernel_rfl) ?_
        obtain ⟨hn5, h⟩ := need_some h
        refine .consA (.indexAddr .none sl22 ty43 (.s rfl) (.s rfl) (fun _ => hn5)) rfl ?_
        obtain ⟨v1, hv6, h⟩ := bnd_some h
        refine .consA (.re hv6 (.load .none ty43 (.s rfl))) rfl ?_
        refine .consW (.alloc zo43 rfl) rfl rfl ?_
        refine .consN (.store ty43 rfl rfl (.s rfl)) rfl ?_
        refine .nil ?_
        refine .then ?_
        refine .freeze (t := 4) rfl rfl SubB.nil rfl ?_
        refine .seq ?_
        refine .region [] mixed (by kernel_rfl) ?_
        refine .cons (.load .none ty25 (.s rfl)) rfl ?_
        refine .cons (.fieldAddr .none fd43_5 hfd43_5 (.s rfl)) rfl ?_
        refine .cons (.load .none ty9 (.s rfl)) rfl ?_
        obtain ⟨k1, hv7, h⟩ := bind_some h
        refine .cons (.call .none (ref_NodeAt_ok hv7) (.cons (.s rfl) (.cons (.s rfl) .nil))) rfl ?_
        refine .cons (.assign .none (.s rfl)) rfl ?_
        refine .nil ?_
        refine .then ?_
        refine .seq ?_
        refine .region [] mixed (by kernel_rfl) ?_
        refine .cons (.fieldAddr .none fd43_5 hfd43_5 (.s rfl)) rfl ?_
        refine .cons (.load .none ty9 (.s rfl)) rfl ?_
        refine .cons (.neS .none (eqAt_str Tryd.underlying9) (.s rfl) (.str (l := []) (by decide))) rfl ?_
        refine .cons (.move .none (.s rfl)) rfl ?_
        refine .cons (.move (.at rfl rfl) (.s rfl)) rfl ?_
        refine .cons (.lt (.at rfl rfl) (.tmp rfl id) (.int (by decide))) rfl ?_
        refine .cons (.move (.at rfl rfl) (.tmp rfl id)) rfl ?_
        refine .cons (.fieldAddr (.at rfl rfl) fd25_0 hfd25_0 (.s rfl)) rfl ?_
        refine .cons (.load (.at rfl rfl) ty22 (.tmp rfl id)) rfl ?_
        refine .cons (.move (.at rfl rfl) (.s rfl)) rfl ?_
        obtain ⟨hn8, h⟩ := need_some h
        refine .cons (.indexAddr (.at rfl rfl) sl22 ty43 (.tmp rfl id) (.tmp rfl id) (fun hg => hn8 hg.1.2 hg.2)) rfl ?_
        refine .cons (.fieldAddr (.at rfl rfl) fd43_1 hfd43_1 (.tmp rfl id)) rfl ?_
        refine .cons (.load (.at rfl rfl) ty3 (.tmp rfl id)) rfl ?_
        refine .cons (.neI (.at rfl rfl) (.tmp rfl id) (.int (by decide))) rfl ?_
        refine .cons (.pickOr (.at rfl rfl) (.tmp rfl id) (.tmp rfl id)) rfl ?_
        refine .cons (.pickAnd .none (.s rfl) (.tmp rfl id)) rfl ?_
        refine .nil ?_
        refine .then ?_
        refine .cond (t := 42) rfl trivial (fun hb9 => ?_) (fun hb9 => ?_)
        · replace h := bif_t h hb9
          refine .seq ?_
          refine .region [] mixed (by kernel_rfl) ?_
          refine .cons (.assign .none (.int (by decide))) rfl ?_
          refine .nil ?_
          refine .then ?_
          refine .ret ?_
          refine .blkRet ?_
          refine .thenRet ?_
          refine .thenRet ?_
          refine .blkRet ?_
          refine .thenRet ?_
          replace h := resd_ab hK4 (some_eq h)
          replace h := hD2 _ (some_eq h)
          replace h := resb_ab hK1 (some_eq h)
          obtain rfl := some_eq h
          exact Ends.ret1 (.inl rfl) Tryd.results28 (ResOK.tmp rfl trivial Imp.refl)
        · replace h := bif_f h hb9
          refine .skip ?_
          refine .blkNormal ?_
          exact Ends.join _ (some_eq h) (.cons (t := 1) rfl (.cons (t := 17) rfl (.cons (t := 18) rfl (.cons (t := 19) rfl Sub.nil)))) SubB.nil
      · have h := resd_nx hK4 hj4
        refine .region [] mixed (by kernel_rfl) ?_
        refine .cons (.addW .none (.s rfl) (.int (by decide))) rfl ?_
        refine .cons (.move .none (.s rfl)) rfl ?_
        refine .nil ?_
        exact Ends.againL (some_eq h) (.cons (t := 19) rfl (.cons (t := 1) rfl (.cons (t := 17) rfl (.cons (t := 18) rfl Sub.nil)))) SubB.nil
    · replace h := bif_f h hb3
      refine .exit ?_
      refine .thenExit ?_
      refine .thenExit ?_
      refine .blkExit ?_
      replace h := hD2 _ (some_eq h)
      exact Ends.join _ (some_eq h) (.cons (t := 1) rfl Sub.nil) SubB.nil
  · have h := resb_nx hK1 hj1
    refine .seq ?_
    refine .seq ?_
    refine .region [] mixed (by kernel_rfl) ?_
    refine .cons (.fieldAddr .none fd25_0 hfd25_0 (.s rfl)) rfl ?_
    refine .cons (.load .none ty22 (.s rfl)) rfl ?_
    refine .cons (.len .none sl22 (.s rfl)) rfl ?_
    refine .cons (.move .none (.int (by decide))) rfl ?_
    refine .nil ?_
    refine .then ?_
    obtain ⟨o_10, h, hK10⟩ := bindR_some h
    refine .thenJ (ι := Unit) (fun j_10 => []) (fun j_10 => []) (fun s => o_10 = Res.nx s) (.cons (t := 1) rfl Sub.nil) SubB.nil ?_ (fun j_10 hj10 => ?_)
    · skip
      refine .block ?_
      refine .rforEL h (fun p11_ => [(47, ⟨True, rep p11_.1⟩)]) (fun p11_ => []) (.cons (t := 47) rfl Sub.nil) SubB.nil (.cons (t := 1) rfl (.cons (t := 45) rfl (.cons (t := 46) rfl Sub.nil))) SubB.nil (fun p11_ o_11 h hD11 => ?_)
      refine .seq ?_
      refine .region [] mixed (by kernel_rfl) ?_
      refine .cons (.lt .none (.s rfl) (.s rfl)) rfl ?_
      refine .nil ?_
      refine .then ?_
      refine .seq ?_
      refine .cond (t := 48) rfl trivial (fun hb12 => ?_) (fun hb12 => ?_)
      · replace h := bif_t h hb12
        refine .skip ?_
        refine .then ?_
        refine .seq ?_
        obtain ⟨o_13, h, hK13⟩ := bindD_some h
        unfold ref_treeError_L2 at h
        refine .thenJ (ι := Unit) (fun j_13 => []) (fun j_13 => []) (fun s => o_13 = Res.nx s) (.cons (t := 1) rfl (.cons (t := 45) rfl (.cons (t := 46) rfl (.cons (t := 47) rfl Sub.nil)))) SubB.nil ?_ (fun j_13 hj13 => ?_)
        · skip
          refine .block ?_
          refine .seq ?_
          refine .region [([], []), ([], []), ([], [7]), ([7], [7])] mixed (by kernel_rfl) ?_
          obtain ⟨hn14, h⟩ := need_some h
          refine .consA (.indexAddr .none sl22 ty43 (.s rfl) (.s rfl) (fun _ => hn14)) rfl ?_
          obtain ⟨v2, hv15, h⟩ := bnd_some h
          refine .consA (.re hv15 (.load .none ty43 (.s rfl))) rfl ?_
          refine .consW (.alloc zo43 rfl) rfl rfl ?_
          refine .consN (.store ty43 rfl rfl (.s rfl)) rfl ?_
          refine .nil ?_
          refine .then ?_
          refine .freeze (t := 7) rfl rfl SubB.nil rfl ?_
          refine .seq ?_
          refine .region [] mixed (by kernel_rfl) ?_
          refine .cons (.load .none ty25 (.s rfl)) rfl ?_
          refine .cons (.load .none ty43 (.s rfl)) rfl ?_
          obtain ⟨r1, hv16, h⟩ := bind_some h
          refine .cons (.call .none (ref_above_ok hv16) (.cons (.s rfl) (.cons (.s rfl) .nil))) rfl ?_
          refine .cons (.move .none (.s rfl)) rfl ?_
          refine .cons (.extract .none (.s rfl) rfl) rfl ?_
          refine .cons (.extract .none (.s rfl) rfl) rfl ?_
          refine .cons (.assign .none (.s rfl)) rfl ?_
          refine .cons (.assign .none (.s rfl)) rfl ?_
          refine .nil ?_
          refine .then ?_
          refine .seq ?_
          refine .region [] mixed (by kernel_rfl) ?_
          refine .cons (.move .none (.s rfl)) rfl ?_
          refine .nil ?_
          refine .then ?_
          refine .cond (t := 57) rfl trivial (fun hb17 => ?_) (fun hb17 => ?_)
          · replace h := bif_t h hb17
            refine .seq ?_
            refine .region [] mixed (by kernel_rfl) ?_
            refine .cons (.assign .none (.int (by decide))) rfl ?_
            refine .nil ?_
            refine .then ?_
            refine .ret ?_
            refine .blkRet ?_
            refine .thenRet ?_
            refine .thenRet ?_
            refine .blkRet ?_
            refine .thenRet ?_
            replace h := resd_ab hK13 (some_eq h)
            replace h := hD11 _ (some_eq h)
            replace h := resb_ab hK10 (some_eq h)
            obtain rfl := some_eq h
            exact Ends.ret1 (.inl rfl) Tryd.results28 (ResOK.tmp rfl trivial Imp.refl)
          · replace h := bif_f h hb17
            refine .skip ?_
            refine .blkNormal ?_
            exact Ends.join _ (some_eq h) (.cons (t := 1) rfl (.cons (t := 45) rfl (.cons (t := 46) rfl (.cons (t := 47) rfl Sub.nil)))) SubB.nil
        · have h := resd_nx hK13 hj13
          refine .region [] mixed (by kernel_rfl) ?_
          refine .cons (.addW .none (.s rfl) (.int (by decide))) rfl ?_
          refine .cons (.move .none (.s rfl)) rfl ?_
          refine .nil ?_
          exact Ends.againL (some_eq h) (.cons (t := 47) rfl (.cons (t := 1) rfl (.cons (t := 45) rfl (.cons (t := 46) rfl Sub.nil)))) SubB.nil
      · replace h := bif_f h hb12
        refine .exit ?_
        refine .thenExit ?_
        refine .thenExit ?_
        refine .blkExit ?_
        replace h := hD11 _ (some_eq h)
        exact Ends.join _ (some_eq h) (.cons (t := 1) rfl Sub.nil) SubB.nil
    · have h := resb_nx hK10 hj10
      refine .seq ?_
      refine .seq ?_
      refine .region [] mixed (by kernel_rfl) ?_
      refine .cons (.fieldAddr .none fd25_0 hfd25_0 (.s rfl)) rfl ?_
      refine .cons (.load .none ty22 (.s rfl)) rfl ?_
      refine .cons (.len .none sl22 (.s rfl)) rfl ?_
      refine .cons (.move .none (.int (by decide))) rfl ?_
      refine .nil ?_
      refine .then ?_
      obtain ⟨o_18, h, hK18⟩ := bindR_some h
      refine .thenJ (ι := Unit) (fun j_18 => []) (fun j_18 => []) (fun s => o_18 = Res.nx s) (.cons (t := 1) rfl Sub.nil) SubB.nil ?_ (fun j_18 hj18 => ?_)
      · skip
        refine .block ?_
        refine .rforEL h (fun p19_ => [(62, ⟨True, rep p19_.1⟩)]) (fun p19_ => []) (.cons (t := 62) rfl Sub.nil) SubB.nil (.cons (t := 1) rfl (.cons (t := 60) rfl (.cons (t := 61) rfl Sub.nil))) SubB.nil (fun p19_ o_19 h hD19 => ?_)
        refine .seq ?_
        refine .region [] mixed (by kernel_rfl) ?_
        refine .cons (.lt .none (.s rfl) (.s rfl)) rfl ?_
        refine .nil ?_
        refine .then ?_
        refine .seq ?_
        refine .cond (t := 63) rfl trivial (fun hb20 => ?_) (fun hb20 => ?_)
        · replace h := bif_t h hb20
          refine .skip ?_
          refine .then ?_
          refine .seq ?_
          obtain ⟨o_21, h, hK21⟩ := bindD_some h
          unfold ref_treeError_L3 at h
          refine .thenJ (ι := Unit) (fun j_21 => []) (fun j_21 => []) (fun s => o_21 = Res.nx s) (.cons (t := 1) rfl (.cons (t := 60) rfl (.cons (t := 61) rfl (.cons (t := 62) rfl Sub.nil)))) SubB.nil ?_ (fun j_21 hj21 => ?_)
          · skip
            refine .block ?_
            refine .seq ?_
            refine .region [([], []), ([], []), ([], [11]), ([11], [11])] mixed (by kernel_rfl) ?_
            obtain ⟨hn22, h⟩ := need_some h
            refine .consA (.indexAddr .none sl22 ty43 (.s rfl) (.s rfl) (fun _ => hn22)) rfl ?_
            obtain ⟨v3, hv23, h⟩ := bnd_some h
            refine .consA (.re hv23 (.load .none ty43 (.s rfl))) rfl ?_
            refine .consW (.alloc zo43 rfl) rfl rfl ?_
            refine .consN (.store ty43 rfl rfl (.s rfl)) rfl ?_
            refine .nil ?_
            refine .then ?_
            refine .freeze (t := 11) rfl rfl SubB.nil rfl ?_
            refine .seq ?_
            refine .region [] mixed (by kernel_rfl) ?_
            refine .cons (.load .none ty25 (.s rfl)) rfl ?_
            refine .cons (.load .none ty43 (.s rfl)) rfl ?_
            obtain ⟨r2, hv24, h⟩ := bind_some h
            refine .cons (.call .none (ref_above_ok hv24) (.cons (.s rfl) (.cons (.s rfl) .nil))) rfl ?_
            refine .cons (.move .none (.s rfl)) rfl ?_
            refine .cons (.extract .none (.s rfl) rfl) rfl ?_
            refine .cons (.extract .none (.s rfl) rfl) rfl ?_
            refine .cons (.assign .none (.s rfl)) rfl ?_
            refine .cons (.assign .none (.s rfl)) rfl ?_
            refine .nil ?_
            refine .then ?_
            refine .seq ?_
            refine .region [] mixed (by kernel_rfl) ?_
            refine .cons (.move .none (.s rfl)) rfl ?_
            refine .cons (.gt .none (.s rfl) (.int (by decide))) rfl ?_
            refine .nil ?_
            refine .then ?_
            refine .cond (t := 73) rfl trivial (fun hb25 => ?_) (fun hb25 => ?_)
            · replace h := bif_t h hb25
              refine .seq ?_
              refine .region [] mixed (by kernel_rfl) ?_
              refine .cons (.assign .none (.int (by decide))) rfl ?_
              refine .nil ?_
              refine .then ?_
              refine .ret ?_
              refine .blkRet ?_
              refine .thenRet ?_
              refine .thenRet ?_
              refine .blkRet ?_
              refine .thenRet ?_
              replace h := resd_ab hK21 (some_eq h)
              replace h := hD19 _ (some_eq h)
              replace h := resb_ab hK18 (some_eq h)
              obtain rfl := some_eq h
              exact Ends.ret1 (.inl rfl) Tryd.results28 (ResOK.tmp rfl trivial Imp.refl)
            · replace h := bif_f h hb25
              refine .skip ?_
              refine .blkNormal ?_
              exact Ends.join _ (some_eq h) (.cons (t := 1) rfl (.cons (t := 60) rfl (.cons (t := 61) rfl (.cons (t := 62) rfl Sub.nil)))) SubB.nil
          · have h := resd_nx hK21 hj21
            refine .region [] mixed (by kernel_rfl) ?_
            refine .cons (.addW .none (.s rfl) (.int (by decide))) rfl ?_
            refine .cons (.move .none (.s rfl)) rfl ?_
            refine .nil ?_
            exact Ends.againL (some_eq h) (.cons (t := 62) rfl (.cons (t := 1) rfl (.cons (t := 60) rfl (.cons (t := 61) rfl Sub.nil)))) SubB.nil
        · replace h := bif_f h hb20
          refine .exit ?_
          refine .thenExit ?_
          refine .thenExit ?_
          refine .blkExit ?_
          replace h := hD19 _ (some_eq h)
          exact Ends.join _ (some_eq h) (.cons (t := 1) rfl Sub.nil) SubB.nil
      · have h := resb_nx hK18 hj18
        refine .seq ?_
        refine .seq ?_
        refine .region [] mixed (by kernel_rfl) ?_
        refine .cons (.fieldAddr .none fd25_0 hfd25_0 (.s rfl)) rfl ?_
        refine .cons (.load .none ty22 (.s rfl)) rfl ?_
        refine .cons (.len .none sl22 (.s rfl)) rfl ?_
        refine .cons (.move .none (.int (by decide))) rfl ?_
        refine .nil ?_
        refine .then ?_
        obtain ⟨o_26, h, hK26⟩ := bindR_some h
        refine .thenJ (ι := Unit) (fun j_26 => []) (fun j_26 => []) (fun s => o_26 = Res.nx s) Sub.nil SubB.nil ?_ (fun j_26 hj26 => ?_)
        · skip
          refine .block ?_
          refine .rforEL h (fun p27_ => [(78, ⟨True, rep p27_.1⟩)]) (fun p27_ => []) (.cons (t := 78) rfl Sub.nil) SubB.nil (.cons (t := 1) rfl (.cons (t := 76) rfl (.cons (t := 77) rfl Sub.nil))) SubB.nil (fun p27_ o_27 h hD27 => ?_)
          refine .seq ?_
          refine .region [] mixed (by kernel_rfl) ?_
          refine .cons (.lt .none (.s rfl) (.s rfl)) rfl ?_
          refine .nil ?_
          refine .then ?_
          refine .seq ?_
          refine .cond (t := 79) rfl trivial (fun hb28 => ?_) (fun hb28 => ?_)
          · replace h := bif_t h hb28
            refine .skip ?_
            refine .then ?_
            refine .seq ?_
            obtain ⟨o_29, h, hK29⟩ := bindD_some h
            unfold ref_treeError_L4 at h
            refine .thenJ (ι := Unit) (fun j_29 => []) (fun j_29 => []) (fun s => o_29 = Res.nx s) (.cons (t := 1) rfl (.cons (t := 76) rfl (.cons (t := 77) rfl (.cons (t := 78) rfl Sub.nil)))) SubB.nil ?_ (fun j_29 hj29 => ?_)
            · skip
              refine .block ?_
              refine .seq ?_
              refine .region [([], []), ([], []), ([], [15]), ([15], [15])] mixed (by kernel_rfl) ?_
              obtain ⟨hn30, h⟩ := need_some h
              refine .consA (.indexAddr .none sl22 ty43 (.s rfl) (.s rfl) (fun _ => hn30)) rfl ?_
              obtain ⟨v4, hv31, h⟩ := bnd_some h
              refine .consA (.re hv31 (.load .none ty43 (.s rfl))) rfl ?_
              refine .consW (.alloc zo43 rfl) rfl rfl ?_
              refine .consN (.store ty43 rfl rfl (.s rfl)) rfl ?_
              refine .nil ?_
              refine .then ?_
              refine .freeze (t := 15) rfl rfl SubB.nil rfl ?_
              refine .seq ?_
              refine .region [] mixed (by kernel_rfl) ?_
              refine .cons (.fieldAddr .none fd43_1 hfd43_1 (.s rfl)) rfl ?_
              refine .cons (.load .none ty3 (.s rfl)) rfl ?_
              refine .cons (.eqI .none (.s rfl) (.int (by decide))) rfl ?_
              refine .cons (.move .none (.s rfl)) rfl ?_
              refine .cons (.load (.at rfl rfl) ty25 (.s rfl)) rfl ?_
              refine .cons (.fieldAddr (.at rfl rfl) fd43_0 hfd43_0 (.s rfl)) rfl ?_
              refine .cons (.load (.at rfl rfl) ty9 (.tmp rfl id)) rfl ?_
              obtain ⟨r3, hv32, h⟩ := bind_some h
              refine .cons (.callIf (.at rfl rfl) fnok74 (fun hg => ref_members_ok ((fun hg => gd_some hv32 (hg.2)) hg)) (.cons (.tmp rfl id) (.cons (.tmp rfl id) .nil)) (fun h => h)) rfl ?_
              refine .cons (.len (.at rfl rfl) sl22 (.tmp rfl id)) rfl ?_
              refine .cons (.eqI (.at rfl rfl) (.tmp rfl id) (.int (by decide))) rfl ?_
              refine .cons (.pickAnd .none (.s rfl) (.tmp rfl id)) rfl ?_
              refine .nil ?_
              refine .then ?_
              refine .cond (t := 92) rfl trivial (fun hb33 => ?_) (fun hb33 => ?_)
              · replace h := bif_t h hb33
                refine .seq ?_
                refine .region [] mixed (by kernel_rfl) ?_
                refine .cons (.assign .none (.int (by decide))) rfl ?_
                refine .nil ?_
                refine .then ?_
                refine .ret ?_
                refine .blkRet ?_
                refine .thenRet ?_
                refine .thenRet ?_
                refine .blkRet ?_
                refine .thenRet ?_
                replace h := resd_ab hK29 (some_eq h)
                replace h := hD27 _ (some_eq h)
                replace h := resb_ab hK26 (some_eq h)
                obtain rfl := some_eq h
                exact Ends.ret1 (.inl rfl) Tryd.results28 (ResOK.tmp rfl trivial Imp.refl)
              · replace h := bif_f h hb33
                refine .skip ?_
                refine .blkNormal ?_
                exact Ends.join _ (some_eq h) (.cons (t := 1) rfl (.cons (t := 76) rfl (.cons (t := 77) rfl (.cons (t := 78) rfl Sub.nil)))) SubB.nil
            · have h := resd_nx hK29 hj29
              refine .region [] mixed (by kernel_rfl) ?_
              refine .cons (.addW .none (.s rfl) (.int (by decide))) rfl ?_
              refine .cons (.move .none (.s rfl)) rfl ?_
              refine .nil ?_
              exact Ends.againL (some_eq h) (.cons (t := 78) rfl (.cons (t := 1) rfl (.cons (t := 76) rfl (.cons (t := 77) rfl Sub.nil)))) SubB.nil
          · replace h := bif_f h hb28
            refine .exit ?_
            refine .thenExit ?_
            refine .thenExit ?_
            refine .blkExit ?_
            replace h := hD27 _ (some_eq h)
            exact Ends.join _ (some_eq h) Sub.nil SubB.nil
        · have h := resb_nx hK26 hj26
          refine .seq ?_
          refine .region [] mixed (by kernel_rfl) ?_
          refine .cons (.assign .none (.int (by decide))) rfl ?_
          refine .nil ?_
          refine .then ?_
          refine .ret ?_
          obtain rfl := some_eq h
          exact Ends.ret1 (.inl rfl) Tryd.results28 (ResOK.tmp rfl trivial Imp.refl)

theorem ref_edgeError_1_ok {y1 : DEdge} {c0_1 : DEdge} {r : Bool}  (h : ref_edgeError_1 y1 c0_1 = some r) : FSpec Tryd.prog 76 [rep y1, ref c0_1] (rep r) := by
  unfold ref_edgeError_1 at h
  refine FSpec.intro (n := 9) fnok76 Tryd.func76 rfl Tryd.ntmps76 rfl (fun F => ?_)
  refine .seq ?_
  refine .region [] mixed (by kernel_rfl) ?_
  refine .cons (.box .none (.s rfl)) rfl ?_
  refine .cons (.assign .none .bool) rfl ?_
  refine .nil ?_
  refine .then ?_
  refine .seq ?_
  refine .region [] mixed (by kernel_rfl) ?_
  refine .cons (.fieldAddr .none fd96_0 hfd96_0 (.s rfl)) rfl ?_
  refine .cons (.load .none ty9 (.s rfl)) rfl ?_
  refine .cons (.fieldAddr .none fd96_0 hfd96_0 (.s rfl)) rfl ?_
  refine .cons (.load .none ty9 (.s rfl)) rfl ?_
  refine .cons (.eqS .none (eqAt_str Tryd.underlying9) (.s rfl) (.s rfl)) rfl ?_
  refine .cons (.assign .none (.s rfl)) rfl ?_
  refine .nil ?_
  refine .then ?_
  refine .ret ?_
  obtain rfl := some_eq h
  exact Ends.ret1 (.inl rfl) Tryd.results76 (ResOK.tmp rfl trivial Imp.refl)

theorem slices_IndexFunc_Edge_ok {s1 : (List DEdge)} {f1 : (DEdge → Option Bool)} {r : Int}  (h : slices_IndexFunc_Edge s1 f1 = some r) : FSpec Tryd.prog 107 [rep s1, fn1 Tryd.prog (rep (α := Bool)) f1] (rep r) := by
  unfold slices_IndexFunc_Edge at h
  refine FSpec.intro (n := 19) fnok107 Tryd.func107 rfl Tryd.ntmps107 rfl (fun F => ?_)
  refine .seq ?_
  refine .region [] mixed (by kernel_rfl) ?_
  refine .cons (.assign .none (.int (by decide))) rfl ?_
  refine .nil ?_
  refine .then ?_
  refine .seq ?_
  refine .seq ?_
  refine .region [] mixed (by kernel_rfl) ?_
  refine .cons (.move .none (.s rfl)) rfl ?_
  refine .cons (.len .none sl23 (.s rfl)) rfl ?_
  refine .cons (.move .none (.int (by decide))) rfl ?_
  refine .nil ?_
  refine .then ?_
  obtain ⟨o_1, h, hK1⟩ := bindR_some h
  refine .thenJ (ι := Unit) (fun j_1 => []) (fun j_1 => []) (fun s => o_1 = Res.nx s) Sub.nil SubB.nil ?_ (fun j_1 hj1 => ?_)
  · skip
    refine .block ?_
    refine .rforEL h (fun p2_ => [(8, ⟨True, rep p2_.1⟩)]) (fun p2_ => []) (.cons (t := 8) rfl Sub.nil) SubB.nil (.cons (t := 0) rfl (.cons (t := 1) rfl (.cons (t := 7) rfl Sub.nil))) SubB.nil (fun p2_ o_2 h hD2 => ?_)
    refine .seq ?_
    refine .region [] mixed (by kernel_rfl) ?_
    refine .cons (.lt .none (.s rfl) (.s rfl)) rfl ?_
    refine .nil ?_
    refine .then ?_
    refine .seq ?_
    refine .cond (t := 9) rfl trivial (fun hb3 => ?_) (fun hb3 => ?_)
    · replace h := bif_t h hb3
      refine .skip ?_
      refine .then ?_
      refine .seq ?_
      obtain ⟨o_4, h, hK4⟩ := bindD_some h
      unfold slices_IndexFunc_Edge_L1 at h
      refine .thenJ (ι := Unit) (fun j_4 => []) (fun j_4 => []) (fun s => o_4 = Res.nx s) (.cons (t := 0) rfl (.cons (t := 1) rfl (.cons (t := 7) rfl (.cons (t := 8) rfl Sub.nil)))) SubB.nil ?_ (fun j_4 hj4 => ?_)
      · skip
        refine .block ?_
        refine .seq ?_
        refine .region [] mixed (by kernel_rfl) ?_
        refine .cons (.move .none (.s rfl)) rfl ?_
        refine .cons (.assign .none (.s rfl)) rfl ?_
        refine .nil ?_
        refine .then ?_
        refine .seq ?_
        refine .region [] mixed (by kernel_rfl) ?_
        refine .cons (.move .none (.s rfl)) rfl ?_
        refine .cons (.move .none (.s rfl)) rfl ?_
        refine .cons (.move .none (.s rfl)) rfl ?_
        obtain ⟨hn5, h⟩ := need_some h
        refine .cons (.indexAddr .none sl23 ty96 (.s rfl) (.s rfl) (fun _ => hn5)) rfl ?_
        refine .cons (.load .none ty96 (.s rfl)) rfl ?_
        obtain ⟨r1, hv6, h⟩ := bind_some h
        refine .cons (.callV (gx s1 p2_.1, r1) .none (.s rfl) (fun _ => hv6) (.cons (.s rfl) .nil)) rfl ?_
        refine .nil ?_
        refine .then ?_
        refine .cond (t := 16) rfl trivial (fun hb7 => ?_) (fun hb7 => ?_)
        · replace h := bif_t h hb7
          refine .seq ?_
          refine .region [] mixed (by kernel_rfl) ?_
          refine .cons (.move .none (.s rfl)) rfl ?_
          refine .cons (.assign .none (.s rfl)) rfl ?_
          refine .nil ?_
          refine .then ?_
          refine .ret ?_
          refine .blkRet ?_
          refine .thenRet ?_
          refine .thenRet ?_
          refine .blkRet ?_
          refine .thenRet ?_
          replace h := resd_ab hK4 (some_eq h)
          replace h := hD2 _ (some_eq h)
          replace h := resb_ab hK1 (some_eq h)
          obtain rfl := some_eq h
          exact Ends.ret1 (.inl rfl) Tryd.results107 (ResOK.tmp rfl trivial Imp.refl)
        · replace h := bif_f h hb7
          refine .skip ?_
          refine .blkNormal ?_
          exact Ends.join _ (some_eq h) (.cons (t := 0) rfl (.cons (t := 1) rfl (.cons (t := 7) rfl (.cons (t := 8) rfl Sub.nil)))) SubB.nil
      · have h := resd_nx hK4 hj4
        refine .region [] mixed (by kernel_rfl) ?_
        refine .cons (.addW .none (.s rfl) (.int (by decide))) rfl ?_
        refine .cons (.move .none (.s rfl)) rfl ?_
        refine .nil ?_
        exact Ends.againL (some_eq h) (.cons (t := 8) rfl (.cons (t := 0) rfl (.cons (t := 1) rfl (.cons (t := 7) rfl Sub.nil)))) SubB.nil
    · replace h := bif_f h hb3
      refine .exit ?_
      refine .thenExit ?_
      refine .thenExit ?_
      refine .blkExit ?_
      replace h := hD2 _ (some_eq h)
      exact Ends.join _ (some_eq h) Sub.nil SubB.nil
  · have h := resb_nx hK1 hj1
    refine .seq ?_
    refine .region [] mixed (by kernel_rfl) ?_
    refine .cons (.assign .none (.int (by decide))) rfl ?_
    refine .nil ?_
    refine .then ?_
    refine .ret ?_
    obtain rfl := some_eq h
    exact Ends.ret1 (.inl rfl) Tryd.results107 (ResOK.tmp rfl trivial Imp.refl)

theorem slices_ContainsFunc_Edge_ok {s1 : (List DEdge)} {f1 : (DEdge → Option Bool)} {r : Bool}  (h : slices_ContainsFunc_Edge s1 f1 = some r) : FSpec Tryd.prog 75 [rep s1, fn1 Tryd.prog (rep (α := Bool)) f1] (rep r) := by
  unfold slices_ContainsFunc_Edge at h
  refine FSpec.intro (n := 9) fnok75 Tryd.func75 rfl Tryd.ntmps75 rfl (fun F => ?_)
  refine .seq ?_
  refine .region [] mixed (by kernel_rfl) ?_
  refine .cons (.assign .none .bool) rfl ?_
  refine .nil ?_
  refine .then ?_
  refine .seq ?_
  refine .region [] mixed (by kernel_rfl) ?_
  refine .cons (.move .none (.s rfl)) rfl ?_
  refine .cons (.move .none (.s rfl)) rfl ?_
  obtain ⟨r1, hv1, h⟩ := bind_some h
  refine .cons (.call .none (slices_IndexFunc_Edge_ok hv1) (.cons (.s rfl) (.cons (.s rfl) .nil))) rfl ?_
  refine .cons (.ge .none (.s rfl) (.int (by decide))) rfl ?_
  refine .cons (.assign .none (.s rfl)) rfl ?_
  refine .nil ?_
  refine .then ?_
  refine .ret ?_
  obtain rfl := some_eq h
  exact Ends.ret1 (.inl rfl) Tryd.results75 (ResOK.tmp rfl trivial Imp.refl)

theorem ref_PortError_ok {side1 : Int} {at1 : Int} {r : Int}  (h : ref_PortError side1 at1 = some r) : FSpec Tryd.prog 77 [rep side1, rep at1] (rep r) := by
  unfold ref_PortError at h
  refine FSpec.intro (n := 14) fnok77 Tryd.func77 rfl Tryd.ntmps77 rfl (fun F => ?_)
  refine .seq ?_
  refine .region [] mixed (by kernel_rfl) ?_
  refine .cons (.assign .none (.int (by decide))) rfl ?_
  refine .nil ?_
  refine .then ?_
  refine .seq ?_
  refine .region [] mixed (by kernel_rfl) ?_
  refine .cons (.move .none (.s rfl)) rfl ?_
  obtain ⟨r1, hv1, h⟩ := bind_some h
  refine .cons (.call .none (ref_In_ok hv1) (.cons (.s rfl) (.cons (.int (by decide)) (.cons (.int (by decide)) .nil)))) rfl ?_
  refine .cons (.not .none (.s rfl)) rfl ?_
  refine .cons (.move .none (.s rfl)) rfl ?_
  refine .cons (.move (.at rfl rfl) (.s rfl)) rfl ?_
  obtain ⟨r2, hv2, h⟩ := bind_some h
  refine .cons (.callIf (.at rfl rfl) fnok45 (fun hg => ref_In_ok ((fun hg => gd_some hv2 ((notT hg.2))) hg)) (.cons (.tmp rfl id) (.cons (.int (by decide)) (.cons (.int (by decide)) .nil))) (fun h => h)) rfl ?_
  refine .cons (.not (.at rfl rfl) (.tmp rfl id)) rfl ?_
  refine .cons (.pickOr .none (.s rfl) (.tmp rfl id)) rfl ?_
  obtain ⟨r3, hv3, h⟩ := bind_some h
  refine .cons (.call .none (ref_When_ok hv3) (.cons (.s rfl) (.cons (.int (by decide)) .nil))) rfl ?_
  refine .cons (.assign .none (.s rfl)) rfl ?_
  refine .nil ?_
  refine .then ?_
  refine .ret ?_
  obtain rfl := some_eq h
  exact Ends.ret1 (.inl rfl) Tryd.results77 (ResOK.tmp rfl trivial Imp.refl)

theorem ref_PointsError_ok {l1 : (List Point)} {r : Int}  (h : ref_PointsError l1 = some r) : FSpec Tryd.prog 78 [rep l1] (rep r) := by
  unfold ref_PointsError at h
  refine FSpec.intro (n := 21) fnok78 Tryd.func78 rfl Tryd.ntmps78 rfl (fun F => ?_)
  refine .seq ?_
  refine .region [] mixed (by kernel_rfl) ?_
  refine .cons (.assign .none (.int (by decide))) rfl ?_
  refine .nil ?_
  refine .then ?_
  refine .seq ?_
  refine .seq ?_
  refine .region [] mixed (by kernel_rfl) ?_
  refine .cons (.move .none (.s rfl)) rfl ?_
  refine .cons (.len .none sl94 (.s rfl)) rfl ?_
  refine .cons (.gt .none (.s rfl) (.int (by decide))) rfl ?_
  refine .nil ?_
  refine .then ?_
  refine .cond (t := 8) rfl trivial (fun hb1 => ?_) (fun hb1 => ?_)
  · replace h := bif_t h hb1
    refine .seq ?_
    refine .region [] mixed (by kernel_rfl) ?_
    refine .cons (.assign .none (.int (by decide))) rfl ?_
    refine .nil ?_
    refine .then ?_
    refine .ret ?_
    refine .thenRet ?_
    obtain rfl := some_eq h
    exact Ends.ret1 (.inl rfl) Tryd.results78 (ResOK.tmp rfl trivial Imp.refl)
  · replace h := bif_f h hb1
    refine .skip ?_
    refine .then ?_
    refine .seq ?_
    refine .seq ?_
    refine .region [] mixed (by kernel_rfl) ?_
    refine .cons (.move .none (.s rfl)) rfl ?_
    refine .cons (.len .none sl94 (.s rfl)) rfl ?_
    refine .cons (.move .none (.int (by decide))) rfl ?_
    refine .nil ?_
    refine .then ?_
    obtain ⟨o_2, h, hK2⟩ := bindR_some h
    refine .thenJ (ι := Unit) (fun j_2 => []) (fun j_2 => []) (fun s => o_2 = Res.nx s) Sub.nil SubB.nil ?_ (fun j_2 hj2 => ?_)
    · skip
      refine .block ?_
      refine .rforEL h (fun p3_ => [(11, ⟨True, rep p3_.1⟩)]) (fun p3_ => []) (.cons (t := 11) rfl Sub.nil) SubB.nil (.cons (t := 9) rfl (.cons (t := 10) rfl Sub.nil)) SubB.nil (fun p3_ o_3 h hD3 => ?_)
      refine .seq ?_
      refine .region [] mixed (by kernel_rfl) ?_
      refine .cons (.lt .none (.s rfl) (.s rfl)) rfl ?_
      refine .nil ?_
      refine .then ?_
      refine .seq ?_
      refine .cond (t := 12) rfl trivial (fun hb4 => ?_) (fun hb4 => ?_)
      · replace h := bif_t h hb4
        refine .skip ?_
        refine .then ?_
        refine .seq ?_
        obtain ⟨o_5, h, hK5⟩ := bindD_some h
        unfold ref_PointsError_L1 at h
        refine .thenJ (ι := Unit) (fun j_5 => []) (fun j_5 => []) (fun s => o_5 = Res.nx s) (.cons (t := 9) rfl (.cons (t := 10) rfl (.cons (t := 11) rfl Sub.nil))) SubB.nil ?_ (fun j_5 hj5 => ?_)
        · skip
          refine .block ?_
          refine .seq ?_
          refine .region [([], []), ([], []), ([], [4]), ([4], [4])] mixed (by kernel_rfl) ?_
          obtain ⟨hn6, h⟩ := need_some h
          refine .consA (.indexAddr .none sl94 ty118 (.s rfl) (.s rfl) (fun _ => hn6)) rfl ?_
          obtain ⟨v1, hv7, h⟩ := bnd_some h
          refine .consA (.re hv7 (.load .none ty118 (.s rfl))) rfl ?_
          refine .consW (.alloc zo118 rfl) rfl rfl ?_
          refine .consN (.store ty118 rfl rfl (.s rfl)) rfl ?_
          refine .nil ?_
          refine .then ?_
          refine .freeze (t := 4) rfl rfl SubB.nil rfl ?_
          refine .seq ?_
          refine .region [] mixed (by kernel_rfl) ?_
          refine .cons (.load .none ty118 (.s rfl)) rfl ?_
          obtain ⟨e1, hv8, h⟩ := bind_some h
          refine .cons (.call .none (ref_PointError_ok hv8) (.cons (.s rfl) .nil)) rfl ?_
          refine .cons (.assign .none (.s rfl)) rfl ?_
          refine .nil ?_
          refine .then ?_
          refine .seq ?_
          refine .region [] mixed (by kernel_rfl) ?_
          refine .cons (.move .none (.s rfl)) rfl ?_
          refine .cons (.neI .none (.s rfl) (.int (by decide))) rfl ?_
          refine .nil ?_
          refine .then ?_
          refine .cond (t := 18) rfl trivial (fun hb9 => ?_) (fun hb9 => ?_)
          · replace h := bif_t h hb9
            refine .seq ?_
            refine .region [] mixed (by kernel_rfl) ?_
            refine .cons (.move .none (.s rfl)) rfl ?_
            refine .cons (.assign .none (.s rfl)) rfl ?_
            refine .nil ?_
            refine .then ?_
            refine .ret ?_
            refine .blkRet ?_
            refine .thenRet ?_
            refine .thenRet ?_
            refine .blkRet ?_
            refine .thenRet ?_
            replace h := resd_ab hK5 (some_eq h)
            replace h := hD3 _ (some_eq h)
            replace h := resb_ab hK2 (some_eq h)
            obtain rfl := some_eq h
            exact Ends.ret1 (.inl rfl) Tryd.results78 (ResOK.tmp rfl trivial Imp.refl)
          · replace h := bif_f h hb9
            refine .skip ?_
            refine .blkNormal ?_
            exact Ends.join _ (some_eq h) (.cons (t := 9) rfl (.cons (t := 10) rfl (.cons (t := 11) rfl Sub.nil))) SubB.nil
        · have h := resd_nx hK5 hj5
          refine .region [] mixed (by kernel_rfl) ?_
          refine .cons (.addW .none (.s rfl) (.int (by decide))) rfl ?_
          refine .cons (.move .none (.s rfl)) rfl ?_
          refine .nil ?_
          exact Ends.againL (some_eq h) (.cons (t := 11) rfl (.cons (t := 9) rfl (.cons (t := 10) rfl Sub.nil))) SubB.nil
      · replace h := bif_f h hb4
        refine .exit ?_
        refine .thenExit ?_
        refine .thenExit ?_
        refine .blkExit ?_
        replace h := hD3 _ (some_eq h)
        exact Ends.join _ (some_eq h) Sub.nil SubB.nil
    · have h := resb_nx hK2 hj2
      refine .seq ?_
      refine .region [] mixed (by kernel_rfl) ?_
      refine .cons (.assign .none (.int (by decide))) rfl ?_
      refine .nil ?_
      refine .then ?_
      refine .ret ?_
      obtain rfl := some_eq h
      exact Ends.ret1 (.inl rfl) Tryd.results78 (ResOK.tmp rfl trivial Imp.refl)


end Go.Proofs.YtclcheggnlhamaaDoor
