/-
  The walks: what a function computes is what its plain function says (printed by a program of one's own).
-/
import Derived.Test.YtclcheggnlhamaaDoorGuiWa2
set_option maxRecDepth 100000
set_option linter.unusedSimpArgs false
set_option linter.unusedVariables false
namespace Go.Proofs.YtclcheggnlhamaaDoor
open Go Go.DB Go.RowKit

theorem ref_edgeError_ok {d1 : Doc} {i1 : Int} {r : Int}  (h : ref_edgeError d1 i1 = some r) : FSpec Tryd.prog 29 [rep d1, rep i1] (rep r) := by
  unfold ref_edgeError at h
  refine FSpec.intro (n := 92) fnok29 Tryd.func29 rfl Tryd.ntmps29 rfl (fun F => ?_)
  refine .seq ?_
  refine .region [] mixed (by kernel_rfl) ?_
  refine .cons (.box .none (.s rfl)) rfl ?_
  refine .cons (.assign .none (.int (by decide))) rfl ?_
  refine .nil ?_
  refine .then ?_
  refine .seq ?_
  refine .region [([], []), ([], []), ([], []), ([], []), ([], []), ([], [5]), ([5], [5])] mixed (by kernel_rfl) ?_
  refine .consA (.fieldAddr .none fd25_1 hfd25_1 (.s rfl)) rfl ?_
  refine .consA (.load .none ty23 (.s rfl)) rfl ?_
  refine .consA (.move .none (.s rfl)) rfl ?_
  obtain ⟨hn1, h⟩ := need_some h
  refine .consA (.indexAddr .none sl23 ty96 (.s rfl) (.s rfl) (fun _ => hn1)) rfl ?_
  obtain ⟨v1, hv2, h⟩ := bnd_some h
  refine .consA (.re hv2 (.load .none ty96 (.s rfl))) rfl ?_
  refine .consW (.alloc zo96 rfl) rfl rfl ?_
  refine .consN (.store ty96 rfl rfl (.s rfl)) rfl ?_
  refine .nil ?_
  refine .then ?_
  refine .freeze (t := 5) rfl rfl SubB.nil rfl ?_
  refine .seq ?_
  refine .region [] mixed (by kernel_rfl) ?_
  refine .cons (.load .none ty25 (.s rfl)) rfl ?_
  refine .cons (.fieldAddr .none fd96_0 hfd96_0 (.s rfl)) rfl ?_
  refine .cons (.load .none ty9 (.s rfl)) rfl ?_
  obtain ⟨r1, hv3, h⟩ := bind_some h
  refine .cons (.call .none (ref_NodeAt_ok hv3) (.cons (.s rfl) (.cons (.s rfl) .nil))) rfl ?_
  refine .cons (.ge .none (.s rfl) (.int (by decide))) rfl ?_
  refine .cons (.move .none (.s rfl)) rfl ?_
  refine .cons (.fieldAddr (.at rfl rfl) fd25_1 hfd25_1 (.s rfl)) rfl ?_
  refine .cons (.load (.at rfl rfl) ty23 (.tmp rfl id)) rfl ?_
  refine .cons (.move (.at rfl rfl) (.s rfl)) rfl ?_
  obtain ⟨hn4, h⟩ := need_some h
  refine .cons (.slice (.at rfl rfl) sl23 ty96 (.tmp rfl id) rfl (.tmp rfl id) (fun hg => hn4 hg.2)) rfl ?_
  refine .cons (.makeFunc (ι := DEdge × Bool) (pre := fun i => (fun x0 => ref_edgeError_1 x0 v1) i.1 = some i.2) (Ss := fun i => [rep i.1]) (S := fun i => rep i.2) (.at rfl rfl) fnok76 (fun i h => ref_edgeError_1_ok h) (.cons (.s rfl) .nil)) rfl ?_
  obtain ⟨r2, hv5, h⟩ := bind_some h
  refine .cons (.callIf (.at rfl rfl) fnok75 (fun hg => slices_ContainsFunc_Edge_ok ((fun hg => gd_some hv5 ((notT hg.2))) hg)) (.cons (.tmp rfl id) (.cons (.tmp rfl id) .nil)) (fun h => h)) rfl ?_
  refine .cons (.pickOr .none (.s rfl) (.tmp rfl id)) rfl ?_
  refine .cons (.assign .none (.s rfl)) rfl ?_
  refine .nil ?_
  refine .then ?_
  refine .seq ?_
  refine .seq ?_
  refine .region [] mixed (by kernel_rfl) ?_
  refine .cons (.fieldAddr .none fd96_0 hfd96_0 (.s rfl)) rfl ?_
  refine .cons (.load .none ty9 (.s rfl)) rfl ?_
  obtain ⟨r3, hv6, h⟩ := bind_some h
  refine .cons (.call .none (ref_NameOf_ok hv6) (.cons (.s rfl) .nil)) rfl ?_
  refine .cons (.not .none (.s rfl)) rfl ?_
  obtain ⟨r4, hv7, h⟩ := bind_some h
  refine .cons (.call .none (ref_When_ok hv7) (.cons (.s rfl) (.cons (.int (by decide)) .nil))) rfl ?_
  refine .cons (.move .none (.s rfl)) rfl ?_
  obtain ⟨r5, hv8, h⟩ := bind_some h
  refine .cons (.call .none (ref_When_ok hv8) (.cons (.s rfl) (.cons (.int (by decide)) .nil))) rfl ?_
  refine .cons (.buildSlice (xs := [_, _]) .none sl136 ty26 hz26 (.cons (.s rfl) (.cons (.s rfl) .nil)) rfl (by decide)) rfl ?_
  obtain ⟨e1, hv9, h⟩ := bind_some h
  refine .cons (.call .none (ref_First_ok hv9) (.cons (.s rfl) .nil)) rfl ?_
  refine .cons (.assign .none (.s rfl)) rfl ?_
  refine .nil ?_
  refine .then ?_
  refine .seq ?_
  refine .region [] mixed (by kernel_rfl) ?_
  refine .cons (.move .none (.s rfl)) rfl ?_
  refine .cons (.neI .none (.s rfl) (.int (by decide))) rfl ?_
  refine .nil ?_
  refine .then ?_
  refine .cond (t := 40) rfl trivial (fun hb10 => ?_) (fun hb10 => ?_)
  · replace h := bif_t h hb10
    refine .seq ?_
    refine .region [] mixed (by kernel_rfl) ?_
    refine .cons (.move .none (.s rfl)) rfl ?_
    refine .cons (.assign .none (.s rfl)) rfl ?_
    refine .nil ?_
    refine .then ?_
    refine .ret ?_
    refine .thenRet ?_
    obtain rfl := some_eq h
    exact Ends.ret1 (.inl rfl) Tryd.results29 (ResOK.tmp rfl trivial Imp.refl)
  · replace h := bif_f h hb10
    refine .skip ?_
    refine .then ?_
    refine .seq ?_
    refine .seq ?_
    refine .region [] mixed (by kernel_rfl) ?_
    refine .cons (.fieldAddr .none fd96_1 hfd96_1 (.s rfl)) rfl ?_
    refine .cons (.load .none ty93 (.s rfl)) rfl ?_
    refine .cons (.fieldAddr .none fd96_2 hfd96_2 (.s rfl)) rfl ?_
    refine .cons (.load .none ty93 (.s rfl)) rfl ?_
    obtain ⟨v2, hv11, h⟩ := bnd_some h
    refine .cons (.re hv11 (.buildSlice (xs := [_, _]) .none sl127 ty93 hz93 (.cons (.s rfl) (.cons (.s rfl) .nil)) rfl (by decide))) rfl ?_
    refine .cons (.len .none sl127 (.s rfl)) rfl ?_
    refine .cons (.move .none (.int (by decide))) rfl ?_
    refine .nil ?_
    refine .then ?_
    obtain ⟨o_12, h, hK12⟩ := bindR_some h
    refine .thenJ (ι := Unit) (fun j_12 => []) (fun j_12 => []) (fun s => o_12 = Res.nx s) (.cons (t := 5) rfl Sub.nil) SubB.nil ?_ (fun j_12 hj12 => ?_)
    · skip
      refine .block ?_
      refine .rforEL h (fun p13_ => [(48, ⟨True, rep p13_.1⟩)]) (fun p13_ => []) (.cons (t := 48) rfl Sub.nil) SubB.nil (.cons (t := 2) rfl (.cons (t := 5) rfl (.cons (t := 46) rfl (.cons (t := 47) rfl Sub.nil)))) SubB.nil (fun p13_ o_13 h hD13 => ?_)
      refine .seq ?_
      refine .region [] mixed (by kernel_rfl) ?_
      refine .cons (.lt .none (.s rfl) (.s rfl)) rfl ?_
      refine .nil ?_
      refine .then ?_
      refine .seq ?_
      refine .cond (t := 49) rfl trivial (fun hb14 => ?_) (fun hb14 => ?_)
      · replace h := bif_t h hb14
        refine .skip ?_
        refine .then ?_
        refine .seq ?_
        obtain ⟨o_15, h, hK15⟩ := bindD_some h
        unfold ref_edgeError_L1 at h
        refine .thenJ (ι := Unit) (fun j_15 => []) (fun j_15 => []) (fun s => o_15 = Res.nx s) (.cons (t := 2) rfl (.cons (t := 5) rfl (.cons (t := 46) rfl (.cons (t := 47) rfl (.cons (t := 48) rfl Sub.nil))))) SubB.nil ?_ (fun j_15 hj15 => ?_)
        · skip
          refine .block ?_
          refine .seq ?_
          refine .region [([], []), ([], []), ([], [9]), ([9], [9])] mixed (by kernel_rfl) ?_
          obtain ⟨hn16, h⟩ := need_some h
          refine .consA (.indexAddr .none sl127 ty93 (.s rfl) (.s rfl) (fun _ => hn16)) rfl ?_
          obtain ⟨v3, hv17, h⟩ := bnd_some h
          refine .consA (.re hv17 (.load .none ty93 (.s rfl))) rfl ?_
          refine .consW (.alloc zo93 rfl) rfl rfl ?_
          refine .consN (.store ty93 rfl rfl (.s rfl)) rfl ?_
          refine .nil ?_
          refine .then ?_
          refine .freeze (t := 9) rfl rfl SubB.nil rfl ?_
          refine .seq ?_
          refine .region [] mixed (by kernel_rfl) ?_
          refine .cons (.load .none ty25 (.s rfl)) rfl ?_
          refine .cons (.fieldAddr .none fd93_0 hfd93_0 (.s rfl)) rfl ?_
          refine .cons (.load .none ty9 (.s rfl)) rfl ?_
          obtain ⟨k1, hv18, h⟩ := bind_some h
          refine .cons (.call .none (ref_NodeAt_ok hv18) (.cons (.s rfl) (.cons (.s rfl) .nil))) rfl ?_
          refine .cons (.assign .none (.s rfl)) rfl ?_
          refine .nil ?_
          refine .then ?_
          refine .seq ?_
          refine .seq ?_
          refine .region [] mixed (by kernel_rfl) ?_
          refine .cons (.move .none (.s rfl)) rfl ?_
          refine .cons (.lt .none (.s rfl) (.int (by decide))) rfl ?_
          refine .nil ?_
          refine .then ?_
          refine .cond (t := 57) rfl trivial (fun hb19 => ?_) (fun hb19 => ?_)
          · replace h := bif_t h hb19
            refine .seq ?_
            refine .region [] mixed (by kernel_rfl) ?_
            refine .cons (.assign .none (.int (by decide))) rfl ?_
            refine .nil ?_
            refine .then ?_
            refine .ret ?_
            refine .thenRet ?_
            refine .blkRet ?_
            refine .thenRet ?_
            refine .thenRet ?_
            refine .blkRet ?_
            refine .thenRet ?_
            replace h := resd_ab hK15 (some_eq h)
            replace h := hD13 _ (some_eq h)
            replace h := resb_ab hK12 (some_eq h)
            obtain rfl := some_eq h
            exact Ends.ret1 (.inl rfl) Tryd.results29 (ResOK.tmp rfl trivial Imp.refl)
          · replace h := bif_f h hb19
            refine .skip ?_
            refine .then ?_
            refine .seq ?_
            refine .region [] mixed (by kernel_rfl) ?_
            refine .cons (.fieldAddr .none fd25_0 hfd25_0 (.s rfl)) rfl ?_
            refine .cons (.load .none ty22 (.s rfl)) rfl ?_
            refine .cons (.move .none (.s rfl)) rfl ?_
            obtain ⟨hn20, h⟩ := need_some h
            refine .cons (.indexAddr .none sl22 ty43 (.s rfl) (.s rfl) (fun _ => hn20)) rfl ?_
            refine .cons (.fieldAddr .none fd43_1 hfd43_1 (.s rfl)) rfl ?_
            refine .cons (.load .none ty3 (.s rfl)) rfl ?_
            refine .cons (.eqI .none (.s rfl) (.int (by decide))) rfl ?_
            obtain ⟨r6, hv21, h⟩ := bind_some h
            refine .cons (.call .none (ref_When_ok hv21) (.cons (.s rfl) (.cons (.int (by decide)) .nil))) rfl ?_
            refine .cons (.fieldAddr .none fd93_1 hfd93_1 (.s rfl)) rfl ?_
            refine .cons (.load .none ty3 (.s rfl)) rfl ?_
            refine .cons (.fieldAddr .none fd93_2 hfd93_2 (.s rfl)) rfl ?_
            refine .cons (.load .none ty3 (.s rfl)) rfl ?_
            obtain ⟨r7, hv22, h⟩ := bind_some h
            refine .cons (.call .none (ref_PortError_ok hv22) (.cons (.s rfl) (.cons (.s rfl) .nil))) rfl ?_
            refine .cons (.buildSlice (xs := [_, _]) .none sl136 ty26 hz26 (.cons (.s rfl) (.cons (.s rfl) .nil)) rfl (by decide)) rfl ?_
            obtain ⟨e2, hv23, h⟩ := bind_some h
            refine .cons (.call .none (ref_First_ok hv23) (.cons (.s rfl) .nil)) rfl ?_
            refine .cons (.assign .none (.s rfl)) rfl ?_
            refine .nil ?_
            refine .then ?_
            refine .seq ?_
            refine .region [] mixed (by kernel_rfl) ?_
            refine .cons (.move .none (.s rfl)) rfl ?_
            refine .cons (.neI .none (.s rfl) (.int (by decide))) rfl ?_
            refine .nil ?_
            refine .then ?_
            refine .cond (t := 74) rfl trivial (fun hb24 => ?_) (fun hb24 => ?_)
            · replace h := bif_t h hb24
              refine .seq ?_
              refine .region [] mixed (by kernel_rfl) ?_
              refine .cons (.move .none (.s rfl)) rfl ?_
              refine .cons (.assign .none (.s rfl)) rfl ?_
              refine .nil ?_
              refine .then ?_
              refine .ret ?_
              refine .blkRet ?_
              refine .thenRet ?_
              refine .thenRet ?_
              refine .blkRet ?_
              refine .thenRet ?_
              replace h := resd_ab hK15 (some_eq h)
              replace h := hD13 _ (some_eq h)
              replace h := resb_ab hK12 (some_eq h)
              obtain rfl := some_eq h
              exact Ends.ret1 (.inl rfl) Tryd.results29 (ResOK.tmp rfl trivial Imp.refl)
            · replace h := bif_f h hb24
              refine .skip ?_
              refine .blkNormal ?_
              exact Ends.join _ (some_eq h) (.cons (t := 2) rfl (.cons (t := 5) rfl (.cons (t := 46) rfl (.cons (t := 47) rfl (.cons (t := 48) rfl Sub.nil))))) SubB.nil
        · have h := resd_nx hK15 hj15
          refine .region [] mixed (by kernel_rfl) ?_
          refine .cons (.addW .none (.s rfl) (.int (by decide))) rfl ?_
          refine .cons (.move .none (.s rfl)) rfl ?_
          refine .nil ?_
          exact Ends.againL (some_eq h) (.cons (t := 48) rfl (.cons (t := 2) rfl (.cons (t := 5) rfl (.cons (t := 46) rfl (.cons (t := 47) rfl Sub.nil))))) SubB.nil
      · replace h := bif_f h hb14
        refine .exit ?_
        refine .thenExit ?_
        refine .thenExit ?_
        refine .blkExit ?_
        replace h := hD13 _ (some_eq h)
        exact Ends.join _ (some_eq h) (.cons (t := 5) rfl Sub.nil) SubB.nil
    · have h := resb_nx hK12 hj12
      refine .seq ?_
      refine .seq ?_
      refine .region [] mixed (by kernel_rfl) ?_
      refine .cons (.fieldAddr .none fd96_3 hfd96_3 (.s rfl)) rfl ?_
      refine .cons (.load .none ty94 (.s rfl)) rfl ?_
      refine .cons (.len .none sl94 (.s rfl)) rfl ?_
      refine .cons (.gt .none (.s rfl) (.int (by decide))) rfl ?_
      refine .nil ?_
      refine .then ?_
      refine .cond (t := 80) rfl trivial (fun hb25 => ?_) (fun hb25 => ?_)
      · replace h := bif_t h hb25
        refine .seq ?_
        refine .region [] mixed (by kernel_rfl) ?_
        refine .cons (.assign .none (.int (by decide))) rfl ?_
        refine .nil ?_
        refine .then ?_
        refine .ret ?_
        refine .thenRet ?_
        obtain rfl := some_eq h
        exact Ends.ret1 (.inl rfl) Tryd.results29 (ResOK.tmp rfl trivial Imp.refl)
      · replace h := bif_f h hb25
        refine .skip ?_
        refine .then ?_
        refine .seq ?_
        refine .region [] mixed (by kernel_rfl) ?_
        refine .cons (.fieldAddr .none fd96_3 hfd96_3 (.s rfl)) rfl ?_
        refine .cons (.load .none ty94 (.s rfl)) rfl ?_
        obtain ⟨r8, hv26, h⟩ := bind_some h
        refine .cons (.call .none (ref_PointsError_ok hv26) (.cons (.s rfl) .nil)) rfl ?_
        refine .cons (.fieldAddr .none fd96_4 hfd96_4 (.s rfl)) rfl ?_
        refine .cons (.load .none ty9 (.s rfl)) rfl ?_
        obtain ⟨r9, hv27, h⟩ := bind_some h
        refine .cons (.call .none (ref_TextError_ok hv27) (.cons (.s rfl) .nil)) rfl ?_
        refine .cons (.fieldAddr .none fd96_5 hfd96_5 (.s rfl)) rfl ?_
        refine .cons (.load .none ty9 (.s rfl)) rfl ?_
        obtain ⟨r10, hv28, h⟩ := bind_some h
        refine .cons (.call .none (ref_classError_ok hv28) (.cons (.s rfl) .nil)) rfl ?_
        refine .cons (.buildSlice (xs := [_, _, _]) .none sl136 ty26 hz26 (.cons (.s rfl) (.cons (.s rfl) (.cons (.s rfl) .nil))) rfl (by decide)) rfl ?_
        obtain ⟨r11, hv29, h⟩ := bind_some h
        refine .cons (.call .none (ref_First_ok hv29) (.cons (.s rfl) .nil)) rfl ?_
        refine .cons (.assign .none (.s rfl)) rfl ?_
        refine .nil ?_
        refine .then ?_
        refine .ret ?_
        obtain rfl := some_eq h
        exact Ends.ret1 (.inl rfl) Tryd.results29 (ResOK.tmp rfl trivial Imp.refl)

theorem ref_HullOf_ok {l1 : (List Box)} {r : (Box × Int)}  (h : ref_HullOf l1 = some r) : FSpec Tryd.prog 79 [rep l1] (tup [rep r.1, rep r.2]) := by
  unfold ref_HullOf at h
  refine FSpec.intro (n := 79) fnok79 Tryd.func79 rfl Tryd.ntmps79 rfl (fun F => ?_)
  refine .seq ?_
  refine .region [([], [2]), ([], [])] mixed (by kernel_rfl) ?_
  refine .consW (.alloc zo41 rfl) rfl rfl ?_
  refine .consA (.assign .none (.int (by decide))) rfl ?_
  refine .nil ?_
  refine .then ?_
  obtain ⟨v1, hv1, h⟩ := bnd_some h
  refine .reB (t := 2) rfl (congrArg (cont 41) hv1) ?_
  refine .nameBox (t := 2) (g := 5001) rfl rfl (fun m5001 => ?_)
  refine .seq ?_
  refine .seq ?_
  refine .region [] mixed (by kernel_rfl) ?_
  refine .cons (.move .none (.s rfl)) rfl ?_
  refine .cons (.len .none sl51 (.s rfl)) rfl ?_
  refine .cons (.eqI .none (.s rfl) (.int (by decide))) rfl ?_
  refine .nil ?_
  refine .then ?_
  refine .cond (t := 12) rfl trivial (fun hb2 => ?_) (fun hb2 => ?_)
  · replace h := bif_t h hb2
    refine .seq ?_
    refine .region [([], []), ([5001], [5001]), ([], [])] mixed (by kernel_rfl) ?_
    obtain ⟨v2, hv3, h⟩ := bnd_some h
    refine .consA (.re hv3 (.buildF (y := (⟨(0 : Int), (0 : Int), (0 : Int), (0 : Int)⟩ : Box)) .none bu41 zc41 rfl .nil .nil)) rfl ?_
    refine .consN (.storeAt0 (g := 5001) ty41 rfl (.s rfl) (.s rfl)) rfl ?_
    refine .consA (.assign .none (.int (by decide))) rfl ?_
    refine .nil ?_
    refine .then ?_
    refine .freezeBox (g := 5001) (ts := [2]) rfl (.cons (t := 2) rfl trivial .nil) SubB.nil rfl ?_
    refine .ret ?_
    refine .thenRet ?_
    obtain rfl := some_eq h
    exact Ends.ret2 (.inl rfl) Tryd.results79 (ResOK.cellR ty41 rfl trivial Imp.refl) (ResOK.tmp rfl trivial Imp.refl)
  · replace h := bif_f h hb2
    refine .skip ?_
    refine .then ?_
    refine .seq ?_
    refine .region [] mixed (by kernel_rfl) ?_
    refine .cons (.move .none (.s rfl)) rfl ?_
    obtain ⟨hn4, h⟩ := need_some h
    refine .cons (.indexAddr .none sl51 ty41 (.s rfl) (.int (by decide)) (fun _ => hn4)) rfl ?_
    refine .cons (.fieldAddr .none fd41_0 hfd41_0 (.s rfl)) rfl ?_
    refine .cons (.load .none ty3 (.s rfl)) rfl ?_
    refine .cons (.move .none (.s rfl)) rfl ?_
    obtain ⟨hn5, h⟩ := need_some h
    refine .cons (.indexAddr .none sl51 ty41 (.s rfl) (.int (by decide)) (fun _ => hn5)) rfl ?_
    refine .cons (.fieldAddr .none fd41_1 hfd41_1 (.s rfl)) rfl ?_
    refine .cons (.load .none ty3 (.s rfl)) rfl ?_
    refine .cons (.move .none (.s rfl)) rfl ?_
    obtain ⟨hn6, h⟩ := need_some h
    refine .cons (.indexAddr .none sl51 ty41 (.s rfl) (.int (by decide)) (fun _ => hn6)) rfl ?_
    refine .cons (.fieldAddr .none fd41_0 hfd41_0 (.s rfl)) rfl ?_
    refine .cons (.load .none ty3 (.s rfl)) rfl ?_
    refine .cons (.move .none (.s rfl)) rfl ?_
    obtain ⟨hn7, h⟩ := need_some h
    refine .cons (.indexAddr .none sl51 ty41 (.s rfl) (.int (by decide)) (fun _ => hn7)) rfl ?_
    refine .cons (.fieldAddr .none fd41_1 hfd41_1 (.s rfl)) rfl ?_
    refine .cons (.load .none ty3 (.s rfl)) rfl ?_
    obtain ⟨x1, hv8, h⟩ := bnd_some h
    refine .cons (.re hv8 (.assign .none (.s rfl))) rfl ?_
    obtain ⟨y1, hv9, h⟩ := bnd_some h
    refine .cons (.re hv9 (.assign .none (.s rfl))) rfl ?_
    obtain ⟨r1, hv10, h⟩ := bnd_some h
    refine .cons (.re hv10 (.assign .none (.s rfl))) rfl ?_
    obtain ⟨d1, hv11, h⟩ := bnd_some h
    refine .cons (.re hv11 (.assign .none (.s rfl))) rfl ?_
    refine .nil ?_
    refine .then ?_
    refine .seq ?_
    refine .seq ?_
    refine .region [] mixed (by kernel_rfl) ?_
    refine .cons (.move .none (.s rfl)) rfl ?_
    refine .cons (.len .none sl51 (.s rfl)) rfl ?_
    refine .cons (.move .none (.int (by decide))) rfl ?_
    refine .nil ?_
    refine .then ?_
    obtain ⟨j_12, h, hK12⟩ := bind_some h
    refine .thenJ (ι := (Int × Int × Int × Int)) (fun j_12 => [(4, ⟨True, rep j_12.1⟩), (5, ⟨True, rep j_12.2.1⟩), (6, ⟨True, rep j_12.2.2.1⟩), (7, ⟨True, rep j_12.2.2.2⟩)]) (fun j_12 => []) (fun s => j_12 = s) (.cons (t := 2) rfl Sub.nil) (.cons (t := 5001) rfl SubB.nil) ?_ (fun j_12' hj12 => ?_)
    · skip
      refine .block ?_
      refine .rforL h (fun p13_ => [(32, ⟨True, rep p13_.1⟩), (4, ⟨True, rep p13_.2.1⟩), (5, ⟨True, rep p13_.2.2.1⟩), (6, ⟨True, rep p13_.2.2.2.1⟩), (7, ⟨True, rep p13_.2.2.2.2⟩)]) (fun p13_ => []) (.cons (t := 32) rfl (.cons (t := 4) rfl (.cons (t := 5) rfl (.cons (t := 6) rfl (.cons (t := 7) rfl Sub.nil))))) SubB.nil (.cons (t := 2) rfl (.cons (t := 30) rfl (.cons (t := 31) rfl Sub.nil))) (.cons (t := 5001) rfl SubB.nil) (fun p13_ o_13 h hD13 => ?_)
      refine .seq ?_
      refine .region [] mixed (by kernel_rfl) ?_
      refine .cons (.lt .none (.s rfl) (.s rfl)) rfl ?_
      refine .nil ?_
      refine .then ?_
      refine .seq ?_
      refine .cond (t := 33) rfl trivial (fun hb14 => ?_) (fun hb14 => ?_)
      · replace h := bif_t h hb14
        refine .skip ?_
        refine .then ?_
        refine .seq ?_
        obtain ⟨j_15, h, hK15⟩ := bind_some h
        unfold ref_HullOf_L1 at h
        refine .thenJ (ι := (Int × Int × Int × Int)) (fun j_15 => [(4, ⟨True, rep j_15.1⟩), (5, ⟨True, rep j_15.2.1⟩), (6, ⟨True, rep j_15.2.2.1⟩), (7, ⟨True, rep j_15.2.2.2⟩)]) (fun j_15 => []) (fun s => j_15 = s) (.cons (t := 2) rfl (.cons (t := 30) rfl (.cons (t := 31) rfl (.cons (t := 32) rfl Sub.nil)))) (.cons (t := 5001) rfl SubB.nil) ?_ (fun j_15' hj15 => ?_)
        · skip
          refine .block ?_
          refine .seq ?_
          refine .region [([], []), ([], []), ([], [9]), ([9], [9])] mixed (by kernel_rfl) ?_
          obtain ⟨hn16, h⟩ := need_some h
          refine .consA (.indexAddr .none sl51 ty41 (.s rfl) (.s rfl) (fun _ => hn16)) rfl ?_
          obtain ⟨v3, hv17, h⟩ := bnd_some h
          refine .consA (.re hv17 (.load .none ty41 (.s rfl))) rfl ?_
          refine .consW (.alloc zo41 rfl) rfl rfl ?_
          refine .consN (.store ty41 rfl rfl (.s rfl)) rfl ?_
          refine .nil ?_
          refine .then ?_
          refine .freeze (t := 9) rfl rfl (.cons (t := 5001) rfl SubB.nil) rfl ?_
          refine .region [] mixed (by kernel_rfl) ?_
          refine .cons (.move .none (.s rfl)) rfl ?_
          refine .cons (.fieldAddr .none fd41_0 hfd41_0 (.s rfl)) rfl ?_
          refine .cons (.load .none ty3 (.s rfl)) rfl ?_
          refine .cons (.min2 .none (.s rfl) (.s rfl)) rfl ?_
          refine .cons (.move .none (.s rfl)) rfl ?_
          refine .cons (.fieldAddr .none fd41_1 hfd41_1 (.s rfl)) rfl ?_
          refine .cons (.load .none ty3 (.s rfl)) rfl ?_
          refine .cons (.min2 .none (.s rfl) (.s rfl)) rfl ?_
          refine .cons (.move .none (.s rfl)) rfl ?_
          refine .cons (.fieldAddr .none fd41_0 hfd41_0 (.s rfl)) rfl ?_
          refine .cons (.load .none ty3 (.s rfl)) rfl ?_
          refine .cons (.fieldAddr .none fd41_2 hfd41_2 (.s rfl)) rfl ?_
          refine .cons (.load .none ty3 (.s rfl)) rfl ?_
          refine .cons (.addW .none (.s rfl) (.s rfl)) rfl ?_
          refine .cons (.max2 .none (.s rfl) (.s rfl)) rfl ?_
          refine .cons (.move .none (.s rfl)) rfl ?_
          refine .cons (.fieldAddr .none fd41_1 hfd41_1 (.s rfl)) rfl ?_
          refine .cons (.load .none ty3 (.s rfl)) rfl ?_
          refine .cons (.fieldAddr .none fd41_3 hfd41_3 (.s rfl)) rfl ?_
          refine .cons (.load .none ty3 (.s rfl)) rfl ?_
          refine .cons (.addW .none (.s rfl) (.s rfl)) rfl ?_
          refine .cons (.max2 .none (.s rfl) (.s rfl)) rfl ?_
          obtain ⟨x2, hv18, h⟩ := bnd_some h
          refine .cons (.re hv18 (.assign .none (.s rfl))) rfl ?_
          obtain ⟨y2, hv19, h⟩ := bnd_some h
          refine .cons (.re hv19 (.assign .none (.s rfl))) rfl ?_
          obtain ⟨r2, hv20, h⟩ := bnd_some h
          refine .cons (.re hv20 (.assign .none (.s rfl))) rfl ?_
          obtain ⟨d2, hv21, h⟩ := bnd_some h
          refine .cons (.re hv21 (.assign .none (.s rfl))) rfl ?_
          refine .nil ?_
          refine .blkNormal ?_
          exact Ends.join _ (some_eq h) (.cons (t := 4) rfl (.cons (t := 5) rfl (.cons (t := 6) rfl (.cons (t := 7) rfl (.cons (t := 2) rfl (.cons (t := 30) rfl (.cons (t := 31) rfl (.cons (t := 32) rfl Sub.nil)))))))) (.cons (t := 5001) rfl SubB.nil)
        · subst hj15; have h := hK15; clear hK15
          refine .region [] mixed (by kernel_rfl) ?_
          refine .cons (.addW .none (.s rfl) (.int (by decide))) rfl ?_
          refine .cons (.move .none (.s rfl)) rfl ?_
          refine .nil ?_
          exact Ends.againL (some_eq h) (.cons (t := 32) rfl (.cons (t := 4) rfl (.cons (t := 5) rfl (.cons (t := 6) rfl (.cons (t := 7) rfl (.cons (t := 2) rfl (.cons (t := 30) rfl (.cons (t := 31) rfl Sub.nil)))))))) (.cons (t := 5001) rfl SubB.nil)
      · replace h := bif_f h hb14
        refine .exit ?_
        refine .thenExit ?_
        refine .thenExit ?_
        refine .blkExit ?_
        replace h := hD13 _ (some_eq h)
        exact Ends.join _ (some_eq h) (.cons (t := 4) rfl (.cons (t := 5) rfl (.cons (t := 6) rfl (.cons (t := 7) rfl (.cons (t := 2) rfl Sub.nil))))) (.cons (t := 5001) rfl SubB.nil)
    · subst hj12; have h := hK12; clear hK12
      refine .seq ?_
      refine .seq ?_
      refine .region [] mixed (by kernel_rfl) ?_
      refine .cons (.move .none (.s rfl)) rfl ?_
      refine .cons (.move .none (.s rfl)) rfl ?_
      refine .cons (.subW .none (.s rfl) (.s rfl)) rfl ?_
      refine .cons (.gt .none (.s rfl) (.int (by decide))) rfl ?_
      refine .cons (.move .none (.s rfl)) rfl ?_
      refine .cons (.move (.at rfl rfl) (.s rfl)) rfl ?_
      refine .cons (.move (.at rfl rfl) (.s rfl)) rfl ?_
      refine .cons (.subW (.at rfl rfl) (.tmp rfl id) (.tmp rfl id)) rfl ?_
      refine .cons (.gt (.at rfl rfl) (.tmp rfl id) (.int (by decide))) rfl ?_
      refine .cons (.pickOr .none (.s rfl) (.tmp rfl id)) rfl ?_
      refine .nil ?_
      refine .then ?_
      refine .cond (t := 68) rfl trivial (fun hb22 => ?_) (fun hb22 => ?_)
      · replace h := bif_t h hb22
        refine .seq ?_
        refine .region [([], []), ([5001], [5001]), ([], [])] mixed (by kernel_rfl) ?_
        obtain ⟨v4, hv23, h⟩ := bnd_some h
        refine .consA (.re hv23 (.buildF (y := (⟨(0 : Int), (0 : Int), (0 : Int), (0 : Int)⟩ : Box)) .none bu41 zc41 rfl .nil .nil)) rfl ?_
        refine .consN (.storeAt0 (g := 5001) ty41 rfl (.s rfl) (.s rfl)) rfl ?_
        refine .consA (.assign .none (.int (by decide))) rfl ?_
        refine .nil ?_
        refine .then ?_
        refine .freezeBox (g := 5001) (ts := [2]) rfl (.cons (t := 2) rfl trivial .nil) SubB.nil rfl ?_
        refine .ret ?_
        refine .thenRet ?_
        obtain rfl := some_eq h
        exact Ends.ret2 (.inl rfl) Tryd.results79 (ResOK.cellR ty41 rfl trivial Imp.refl) (ResOK.tmp rfl trivial Imp.refl)
      · replace h := bif_f h hb22
        refine .skip ?_
        refine .then ?_
        refine .seq ?_
        refine .region [([], []), ([], []), ([], []), ([], []), ([], []), ([], []), ([], []), ([], []), ([], []), ([5001], [5001]), ([], [])] mixed (by kernel_rfl) ?_
        refine .consA (.move .none (.s rfl)) rfl ?_
        refine .consA (.move .none (.s rfl)) rfl ?_
        refine .consA (.move .none (.s rfl)) rfl ?_
        refine .consA (.move .none (.s rfl)) rfl ?_
        refine .consA (.subW .none (.s rfl) (.s rfl)) rfl ?_
        refine .consA (.move .none (.s rfl)) rfl ?_
        refine .consA (.move .none (.s rfl)) rfl ?_
        refine .consA (.subW .none (.s rfl) (.s rfl)) rfl ?_
        obtain ⟨v5, hv24, h⟩ := bnd_some h
        refine .consA (.re hv24 (.buildF (y := (⟨j_12.1, j_12.2.1, W (j_12.2.2.1 - j_12.1), W (j_12.2.2.2 - j_12.2.1)⟩ : Box)) .none bu41 zc41 rfl (.cons (.s rfl) (.cons (.s rfl) (.cons (.s rfl) (.cons (.s rfl) .nil)))) (.cons rfl sf41_0 (.cons rfl sf41_1 (.cons rfl sf41_2 (.cons rfl sf41_3 .nil)))))) rfl ?_
        refine .consN (.storeAt0 (g := 5001) ty41 rfl (.s rfl) (.s rfl)) rfl ?_
        refine .consA (.assign .none (.int (by decide))) rfl ?_
        refine .nil ?_
        refine .then ?_
        refine .freezeBox (g := 5001) (ts := [2]) rfl (.cons (t := 2) rfl trivial .nil) SubB.nil rfl ?_
        refine .ret ?_
        obtain rfl := some_eq h
        exact Ends.ret2 (.inl rfl) Tryd.results79 (ResOK.cellR ty41 rfl trivial Imp.refl) (ResOK.tmp rfl trivial Imp.refl)

theorem ref_BoxOfNode_okS {self : (Doc × Str) → Option (Box × Int)} (hself : ∀  (x : (Doc × Str)) (r : (Box × Int)), self x = some r → FSpec Tryd.prog 30 [rep x.1, rep x.2] (tup [rep r.1, rep r.2]))  {x : (Doc × Str)} {r : (Box × Int)} (h : ref_BoxOfNode_body self x = some r) : FSpec Tryd.prog 30 [rep x.1, rep x.2] (tup [rep r.1, rep r.2]) := by
  unfold ref_BoxOfNode_body at h
  refine FSpec.intro (n := 75) fnok30 Tryd.func30 rfl Tryd.ntmps30 rfl (fun F => ?_)
  refine .seq ?_
  refine .region [([], []), ([], [4]), ([], [])] mixed (by kernel_rfl) ?_
  refine .consA (.box .none (.s rfl)) rfl ?_
  refine .consW (.alloc zo41 rfl) rfl rfl ?_
  refine .consA (.assign .none (.int (by decide))) rfl ?_
  refine .nil ?_
  refine .then ?_
  obtain ⟨v1, hv1, h⟩ := bnd_some h
  refine .reB (t := 4) rfl (congrArg (cont 41) hv1) ?_
  refine .nameBox (t := 4) (g := 5001) rfl rfl (fun m5001 => ?_)
  refine .seq ?_
  refine .region [([], []), ([], []), ([], []), ([], []), ([], []), ([], []), ([], []), ([], [6]), ([6], [6])] mixed (by kernel_rfl) ?_
  refine .consA (.fieldAddr .none fd25_0 hfd25_0 (.s rfl)) rfl ?_
  refine .consA (.load .none ty22 (.s rfl)) rfl ?_
  refine .consA (.load .none ty25 (.s rfl)) rfl ?_
  refine .consA (.move .none (.s rfl)) rfl ?_
  obtain ⟨r1, hv2, h⟩ := bind_some h
  refine .consA (.call .none (ref_NodeAt_ok hv2) (.cons (.s rfl) (.cons (.s rfl) .nil))) rfl ?_
  obtain ⟨hn3, h⟩ := need_some h
  refine .consA (.indexAddr .none sl22 ty43 (.s rfl) (.s rfl) (fun _ => hn3)) rfl ?_
  obtain ⟨v2, hv4, h⟩ := bnd_some h
  refine .consA (.re hv4 (.load .none ty43 (.s rfl))) rfl ?_
  refine .consW (.alloc zo43 rfl) rfl rfl ?_
  refine .consN (.store ty43 rfl rfl (.s rfl)) rfl ?_
  refine .nil ?_
  refine .then ?_
  refine .freeze (t := 6) rfl rfl (.cons (t := 5001) rfl SubB.nil) rfl ?_
  refine .seq ?_
  refine .seq ?_
  refine .region [] mixed (by kernel_rfl) ?_
  refine .cons (.fieldAddr .none fd43_1 hfd43_1 (.s rfl)) rfl ?_
  refine .cons (.load .none ty3 (.s rfl)) rfl ?_
  refine .cons (.neI .none (.s rfl) (.int (by decide))) rfl ?_
  refine .nil ?_
  refine .then ?_
  refine .cond (t := 23) rfl trivial (fun hb5 => ?_) (fun hb5 => ?_)
  · replace h := bif_t h hb5
    refine .seq ?_
    refine .region [([], []), ([], []), ([5001], [5001]), ([], [])] mixed (by kernel_rfl) ?_
    refine .consA (.fieldAddr .none fd43_2 hfd43_2 (.s rfl)) rfl ?_
    refine .consA (.load .none ty41 (.s rfl)) rfl ?_
    refine .consN (.storeAt0 (g := 5001) ty41 rfl (.s rfl) (.s rfl)) rfl ?_
    refine .consA (.assign .none (.int (by decide))) rfl ?_
    refine .nil ?_
    refine .then ?_
    refine .freezeBox (g := 5001) (ts := [4]) rfl (.cons (t := 4) rfl trivial .nil) SubB.nil rfl ?_
    refine .ret ?_
    refine .thenRet ?_
    obtain rfl := some_eq h
    exact Ends.ret2 (.inl rfl) Tryd.results30 (ResOK.cellR ty41 rfl trivial Imp.refl) (ResOK.tmp rfl trivial Imp.refl)
  · replace h := bif_f h hb5
    refine .skip ?_
    refine .then ?_
    refine .seq ?_
    refine .region [([], [7])] mixed (by kernel_rfl) ?_
    refine .consW (.nilRow (T := 41) (α := Box) rfl) rfl rfl ?_
    refine .nil ?_
    refine .then ?_
    refine .nameRow (t := 7) (g := 5002) rfl rfl rfl (fun s5002 => ?_)
    refine .seq ?_
    refine .seq ?_
    refine .region [] mixed (by kernel_rfl) ?_
    refine .cons (.load .none ty25 (.s rfl)) rfl ?_
    refine .cons (.move .none (.s rfl)) rfl ?_
    obtain ⟨r2, hv6, h⟩ := bind_some h
    refine .cons (.call .none (ref_members_ok hv6) (.cons (.s rfl) (.cons (.s rfl) .nil))) rfl ?_
    refine .cons (.len .none sl22 (.s rfl)) rfl ?_
    refine .cons (.move .none (.int (by decide))) rfl ?_
    refine .nil ?_
    refine .then ?_
    obtain ⟨o_7, h, hK7⟩ := bindR_some h
    refine .thenJ (ι := (List Box)) (fun j_7 => []) (fun j_7 => [(7, some (rowV 41 j_7))]) (fun s => o_7 = Res.nx s) (.cons (t := 4) rfl Sub.nil) (.cons (t := 5001) rfl SubB.nil) ?_ (fun j_7 hj7 => ?_)
    · skip
      refine .block ?_
      refine .anon (t := 7) (g := 5002) rfl rfl trivial rfl ?_
      refine .rforEL h (fun p8_ => [(30, ⟨True, rep p8_.1⟩)]) (fun p8_ => [(7, some (rowV 41 p8_.2))]) (.cons (t := 30) rfl Sub.nil) (.cons (t := 7) rfl SubB.nil) (.cons (t := 2) rfl (.cons (t := 4) rfl (.cons (t := 28) rfl (.cons (t := 29) rfl Sub.nil)))) (.cons (t := 5001) rfl SubB.nil) (fun p8_ o_8 h hD8 => ?_)
      refine .nameRow (t := 7) (g := 5003) rfl rfl rfl (fun s5003 => ?_)
      refine .seq ?_
      refine .region [] mixed (by kernel_rfl) ?_
      refine .cons (.lt .none (.s rfl) (.s rfl)) rfl ?_
      refine .nil ?_
      refine .then ?_
      refine .seq ?_
      refine .cond (t := 31) rfl trivial (fun hb9 => ?_) (fun hb9 => ?_)
      · replace h := bif_t h hb9
        refine .skip ?_
        refine .then ?_
        refine .seq ?_
        obtain ⟨o_10, h, hK10⟩ := bindD_some h
        unfold ref_BoxOfNode_L1 at h
        refine .thenJ (ι := (List Box)) (fun j_10 => []) (fun j_10 => [(7, some (rowV 41 j_10))]) (fun s => o_10 = Res.nx s) (.cons (t := 2) rfl (.cons (t := 4) rfl (.cons (t := 28) rfl (.cons (t := 29) rfl (.cons (t := 30) rfl Sub.nil))))) (.cons (t := 5001) rfl SubB.nil) ?_ (fun j_10 hj10 => ?_)
        · skip
          refine .block ?_
          refine .seq ?_
          refine .region [([], []), ([], []), ([], [9]), ([9], [9])] mixed (by kernel_rfl) ?_
          obtain ⟨hn11, h⟩ := need_some h
          refine .consA (.indexAddr .none sl22 ty43 (.s rfl) (.s rfl) (fun _ => hn11)) rfl ?_
          obtain ⟨v3, hv12, h⟩ := bnd_some h
          refine .consA (.re hv12 (.load .none ty43 (.s rfl))) rfl ?_
          refine .consW (.alloc zo43 rfl) rfl rfl ?_
          refine .consN (.store ty43 rfl rfl (.s rfl)) rfl ?_
          refine .nil ?_
          refine .then ?_
          refine .freeze (t := 9) rfl rfl (.cons (t := 5001) rfl (.cons (t := 5003) rfl SubB.nil)) rfl ?_
          refine .seq ?_
          refine .region [([], []), ([], []), ([], []), ([], []), ([], []), ([], []), ([], []), ([], [10]), ([10], [10]), ([], [])] mixed (by kernel_rfl) ?_
          refine .consA (.load .none ty25 (.s rfl)) rfl ?_
          refine .consA (.fieldAddr .none fd43_0 hfd43_0 (.s rfl)) rfl ?_
          refine .consA (.load .none ty9 (.s rfl)) rfl ?_
          obtain ⟨r3, hv13, h⟩ := bind_some h
          refine .consA (.call .none (hself _ _ hv13) (.cons (.s rfl) (.cons (.s rfl) .nil))) rfl ?_
          refine .consA (.move .none (.s rfl)) rfl ?_
          refine .consA (.extract .none (.s rfl) rfl) rfl ?_
          refine .consA (.extract .none (.s rfl) rfl) rfl ?_
          refine .consW (.alloc zo41 rfl) rfl rfl ?_
          refine .consN (.store ty41 rfl rfl (.s rfl)) rfl ?_
          refine .consA (.assign .none (.s rfl)) rfl ?_
          refine .nil ?_
          refine .then ?_
          refine .freeze (t := 10) rfl rfl (.cons (t := 5001) rfl (.cons (t := 5003) rfl SubB.nil)) rfl ?_
          refine .seq ?_
          refine .seq ?_
          refine .region [] mixed (by kernel_rfl) ?_
          refine .cons (.move .none (.s rfl)) rfl ?_
          refine .cons (.neI .none (.s rfl) (.int (by decide))) rfl ?_
          refine .nil ?_
          refine .then ?_
          refine .cond (t := 42) rfl trivial (fun hb14 => ?_) (fun hb14 => ?_)
          · replace h := bif_t h hb14
            refine .seq ?_
            refine .region [([], []), ([], []), ([5001], [5001]), ([], [])] mixed (by kernel_rfl) ?_
            obtain ⟨v4, hv15, h⟩ := bnd_some h
            refine .consA (.re hv15 (.buildF (y := (⟨(0 : Int), (0 : Int), (0 : Int), (0 : Int)⟩ : Box)) .none bu41 zc41 rfl .nil .nil)) rfl ?_
            refine .consA (.move .none (.s rfl)) rfl ?_
            refine .consN (.storeAt0 (g := 5001) ty41 rfl (.s rfl) (.s rfl)) rfl ?_
            refine .consA (.assign .none (.s rfl)) rfl ?_
            refine .nil ?_
            refine .then ?_
            refine .freezeBox (g := 5001) (ts := [4]) rfl (.cons (t := 4) rfl trivial .nil) SubB.nil rfl ?_
            refine .ret ?_
            refine .thenRet ?_
            refine .blkRet ?_
            refine .thenRet ?_
            refine .thenRet ?_
            refine .blkRet ?_
            refine .thenRet ?_
            replace h := resd_ab hK10 (some_eq h)
            replace h := hD8 _ (some_eq h)
            replace h := resb_ab hK7 (some_eq h)
            obtain rfl := some_eq h
            exact Ends.ret2 (.inl rfl) Tryd.results30 (ResOK.cellR ty41 rfl trivial Imp.refl) (ResOK.tmp rfl trivial Imp.refl)
          · replace h := bif_f h hb14
            refine .skip ?_
            refine .then ?_
            refine .region [([], []), ([], []), ([], []), ([5003], [48, 5003]), ([48], [7, 48])] mixed (by kernel_rfl) ?_
            refine .consA (.move .none (.s rfl)) rfl ?_
            refine .consA (.load .none ty41 (.s rfl)) rfl ?_
            refine .consA (.buildSlice (xs := [_]) .none sl51 ty41 hz41 (.cons (.s rfl) .nil) rfl (by decide)) rfl ?_
            obtain ⟨hn16, h⟩ := need_some h
            refine .consW (.append (k := 5003) rk51 rfl (.told (.s rfl) rfl) (.s rfl) hn16) rfl rfl ?_
            refine .consW (.passRow rfl (.tmp rfl)) rfl rfl ?_
            refine .nil ?_
            refine .blkNormal ?_
            exact Ends.join _ (some_eq h) (.cons (t := 2) rfl (.cons (t := 4) rfl (.cons (t := 28) rfl (.cons (t := 29) rfl (.cons (t := 30) rfl Sub.nil))))) (.cons (t := 7) rfl (.cons (t := 5001) rfl SubB.nil))
        · have h := resd_nx hK10 hj10
          refine .nameRow (t := 7) (g := 5004) rfl rfl rfl (fun s5004 => ?_)
          refine .region [] mixed (by kernel_rfl) ?_
          refine .cons (.addW .none (.s rfl) (.int (by decide))) rfl ?_
          refine .cons (.move .none (.s rfl)) rfl ?_
          refine .nil ?_
          refine .anon (t := 7) (g := 5004) rfl rfl trivial rfl ?_
          exact Ends.againL (some_eq h) (.cons (t := 30) rfl (.cons (t := 2) rfl (.cons (t := 4) rfl (.cons (t := 28) rfl (.cons (t := 29) rfl Sub.nil))))) (.cons (t := 7) rfl (.cons (t := 5001) rfl SubB.nil))
      · replace h := bif_f h hb9
        refine .exit ?_
        refine .thenExit ?_
        refine .thenExit ?_
        refine .blkExit ?_
        refine .anon (t := 7) (g := 5003) rfl rfl trivial rfl ?_
        replace h := hD8 _ (some_eq h)
        exact Ends.join _ (some_eq h) (.cons (t := 4) rfl Sub.nil) (.cons (t := 7) rfl (.cons (t := 5001) rfl SubB.nil))
    · have h := resb_nx hK7 hj7
      refine .freezeRowA (t := 7) rfl rfl (.cons (t := 5001) rfl SubB.nil) rfl ?_
      refine .seq ?_
      refine .region [([], []), ([], []), ([], []), ([], []), ([], []), ([], [12]), ([12], [12]), ([], [])] mixed (by kernel_rfl) ?_
      refine .consA (.move .none (.s rfl)) rfl ?_
      obtain ⟨r4, hv17, h⟩ := bind_some h
      refine .consA (.call .none (ref_HullOf_ok hv17) (.cons (.s rfl) .nil)) rfl ?_
      refine .consA (.move .none (.s rfl)) rfl ?_
      refine .consA (.extract .none (.s rfl) rfl) rfl ?_
      refine .consA (.extract .none (.s rfl) rfl) rfl ?_
      refine .consW (.alloc zo41 rfl) rfl rfl ?_
      refine .consN (.store ty41 rfl rfl (.s rfl)) rfl ?_
      refine .consA (.assign .none (.s rfl)) rfl ?_
      refine .nil ?_
      refine .then ?_
      refine .nameBox (t := 12) (g := 5005) rfl rfl (fun m5005 => ?_)
      refine .seq ?_
      refine .seq ?_
      refine .region [] mixed (by kernel_rfl) ?_
      refine .cons (.move .none (.s rfl)) rfl ?_
      refine .cons (.neI .none (.s rfl) (.int (by decide))) rfl ?_
      refine .nil ?_
      refine .then ?_
      refine .cond (t := 56) rfl trivial (fun hb18 => ?_) (fun hb18 => ?_)
      · replace h := bif_t h hb18
        refine .seq ?_
        refine .region [([], []), ([], []), ([5001], [5001]), ([], [])] mixed (by kernel_rfl) ?_
        obtain ⟨v5, hv19, h⟩ := bnd_some h
        refine .consA (.re hv19 (.buildF (y := (⟨(0 : Int), (0 : Int), (0 : Int), (0 : Int)⟩ : Box)) .none bu41 zc41 rfl .nil .nil)) rfl ?_
        refine .consA (.move .none (.s rfl)) rfl ?_
        refine .consN (.storeAt0 (g := 5001) ty41 rfl (.s rfl) (.s rfl)) rfl ?_
        refine .consA (.assign .none (.s rfl)) rfl ?_
        refine .nil ?_
        refine .then ?_
        refine .freezeBox (g := 5001) (ts := [4]) rfl (.cons (t := 4) rfl trivial .nil) SubB.nil rfl ?_
        refine .ret ?_
        refine .thenRet ?_
        obtain rfl := some_eq h
        exact Ends.ret2 (.inl rfl) Tryd.results30 (ResOK.cellR ty41 rfl trivial Imp.refl) (ResOK.tmp rfl trivial Imp.refl)
      · replace h := bif_f h hb18
        refine .skip ?_
        refine .then ?_
        refine .seq ?_
        refine .region [([], []), ([5005], []), ([], []), ([], []), ([5005], []), ([], []), ([], []), ([5005], []), ([], []), ([], []), ([5005], []), ([], []), ([], []), ([5005], [5005])] mixed (by kernel_rfl) ?_
        refine .consA (.fieldPtr .none fd41_0 (.s rfl)) rfl ?_
        refine .consA (.loadAt (k := 5005) .none ty3 rfl (.s rfl) hfd41_0) rfl ?_
        refine .consA (.subW .none (.s rfl) (.int (by decide))) rfl ?_
        refine .consA (.fieldPtr .none fd41_1 (.s rfl)) rfl ?_
        refine .consA (.loadAt (k := 5005) .none ty3 rfl (.s rfl) hfd41_1) rfl ?_
        refine .consA (.subW .none (.s rfl) (.int (by decide))) rfl ?_
        refine .consA (.fieldPtr .none fd41_2 (.s rfl)) rfl ?_
        refine .consA (.loadAt (k := 5005) .none ty3 rfl (.s rfl) hfd41_2) rfl ?_
        refine .consA (.addW .none (.s rfl) (.int (by decide))) rfl ?_
        refine .consA (.fieldPtr .none fd41_3 (.s rfl)) rfl ?_
        refine .consA (.loadAt (k := 5005) .none ty3 rfl (.s rfl) hfd41_3) rfl ?_
        refine .consA (.addW .none (.s rfl) (.int (by decide))) rfl ?_
        obtain ⟨v6, hv20, h⟩ := bnd_some h
        refine .consA (.re hv20 (.buildF (y := (⟨W (r4.1.X - 10), W (r4.1.Y - 10), W (r4.1.W_ + 20), W (r4.1.H + 20)⟩ : Box)) .none bu41 zc41 rfl (.cons (.s rfl) (.cons (.s rfl) (.cons (.s rfl) (.cons (.s rfl) .nil)))) (.cons rfl sf41_0 (.cons rfl sf41_1 (.cons rfl sf41_2 (.cons rfl sf41_3 .nil)))))) rfl ?_
        refine .consN (.storeAt0 (g := 5005) ty41 rfl (.s rfl) (.s rfl)) rfl ?_
        refine .nil ?_
        refine .then ?_
        refine .freezeBox (g := 5005) (ts := [12]) rfl (.cons (t := 12) rfl trivial .nil) (.cons (t := 5001) rfl SubB.nil) rfl ?_
        refine .seq ?_
        refine .region [([], []), ([], []), ([], []), ([5001], [5001]), ([], [])] mixed (by kernel_rfl) ?_
        refine .consA (.load .none ty41 (.s rfl)) rfl ?_
        refine .consA (.load .none ty41 (.s rfl)) rfl ?_
        obtain ⟨r5, hv21, h⟩ := bind_some h
        refine .consA (.call .none (ref_BoxError_ok hv21) (.cons (.s rfl) .nil)) rfl ?_
        refine .consN (.storeAt0 (g := 5001) ty41 rfl (.s rfl) (.s rfl)) rfl ?_
        refine .consA (.assign .none (.s rfl)) rfl ?_
        refine .nil ?_
        refine .then ?_
        refine .freezeBox (g := 5001) (ts := [4]) rfl (.cons (t := 4) rfl trivial .nil) SubB.nil rfl ?_
        refine .ret ?_
        obtain rfl := some_eq h
        exact Ends.ret2 (.inl rfl) Tryd.results30 (ResOK.cellR ty41 rfl trivial Imp.refl) (ResOK.tmp rfl trivial Imp.refl)
theorem ref_BoxOfNode_okN : ∀ (k : Nat)  (x : (Doc × Str)) (r : (Box × Int)) (h : fixN ref_BoxOfNode_body k x = some r), FSpec Tryd.prog 30 [rep x.1, rep x.2] (tup [rep r.1, rep r.2])
  | 0, x, r, h => by simp [fixN] at h
  | k + 1, x, r, h => ref_BoxOfNode_okS (ref_BoxOfNode_okN k) h
theorem ref_BoxOfNode_ok {d1 : Doc} {id1 : Str} {r : (Box × Int)}  (h : ref_BoxOfNode d1 id1 = some r) : FSpec Tryd.prog 30 [rep d1, rep id1] (tup [rep r.1, rep r.2]) :=
  let ⟨k, hk⟩ := fixp_some h
  ref_BoxOfNode_okN k (d1, id1) r hk

theorem ref_DocError_ok {d1 : Doc} {r : Int}  (h : ref_DocError d1 = some r) : FSpec Tryd.prog 7 [rep d1] (rep r) := by
  unfold ref_DocError at h
  refine FSpec.intro (n := 71) fnok7 Tryd.func7 rfl Tryd.ntmps7 rfl (fun F => ?_)
  refine .seq ?_
  refine .region [] mixed (by kernel_rfl) ?_
  refine .cons (.box .none (.s rfl)) rfl ?_
  refine .cons (.assign .none (.int (by decide))) rfl ?_
  refine .nil ?_
  refine .then ?_
  refine .seq ?_
  refine .seq ?_
  refine .region [] mixed (by kernel_rfl) ?_
  refine .cons (.fieldAddr .none fd25_0 hfd25_0 (.s rfl)) rfl ?_
  refine .cons (.load .none ty22 (.s rfl)) rfl ?_
  refine .cons (.len .none sl22 (.s rfl)) rfl ?_
  refine .cons (.gt .none (.s rfl) (.int (by decide))) rfl ?_
  refine .cons (.move .none (.s rfl)) rfl ?_
  refine .cons (.fieldAddr (.at rfl rfl) fd25_1 hfd25_1 (.s rfl)) rfl ?_
  refine .cons (.load (.at rfl rfl) ty23 (.tmp rfl id)) rfl ?_
  refine .cons (.len (.at rfl rfl) sl23 (.tmp rfl id)) rfl ?_
  refine .cons (.gt (.at rfl rfl) (.tmp rfl id) (.int (by decide))) rfl ?_
  refine .cons (.pickOr .none (.s rfl) (.tmp rfl id)) rfl ?_
  refine .nil ?_
  refine .then ?_
  refine .cond (t := 21) rfl trivial (fun hb1 => ?_) (fun hb1 => ?_)
  · replace h := bif_t h hb1
    refine .seq ?_
    refine .region [] mixed (by kernel_rfl) ?_
    refine .cons (.assign .none (.int (by decide))) rfl ?_
    refine .nil ?_
    refine .then ?_
    refine .ret ?_
    refine .thenRet ?_
    obtain rfl := some_eq h
    exact Ends.ret1 (.inl rfl) Tryd.results7 (ResOK.tmp rfl trivial Imp.refl)
  · replace h := bif_f h hb1
    refine .skip ?_
    refine .then ?_
    refine .seq ?_
    refine .seq ?_
    refine .region [] mixed (by kernel_rfl) ?_
    refine .cons (.fieldAddr .none fd25_0 hfd25_0 (.s rfl)) rfl ?_
    refine .cons (.load .none ty22 (.s rfl)) rfl ?_
    refine .cons (.len .none sl22 (.s rfl)) rfl ?_
    refine .cons (.move .none (.int (by decide))) rfl ?_
    refine .nil ?_
    refine .then ?_
    obtain ⟨o_2, h, hK2⟩ := bindR_some h
    refine .thenJ (ι := Unit) (fun j_2 => []) (fun j_2 => []) (fun s => o_2 = Res.nx s) (.cons (t := 1) rfl Sub.nil) SubB.nil ?_ (fun j_2 hj2 => ?_)
    · skip
      refine .block ?_
      refine .rforEL h (fun p3_ => [(25, ⟨True, rep p3_.1⟩)]) (fun p3_ => []) (.cons (t := 25) rfl Sub.nil) SubB.nil (.cons (t := 1) rfl (.cons (t := 24) rfl Sub.nil)) SubB.nil (fun p3_ o_3 h hD3 => ?_)
      refine .seq ?_
      refine .region [] mixed (by kernel_rfl) ?_
      refine .cons (.lt .none (.s rfl) (.s rfl)) rfl ?_
      refine .nil ?_
      refine .then ?_
      refine .seq ?_
      refine .cond (t := 26) rfl trivial (fun hb4 => ?_) (fun hb4 => ?_)
      · replace h := bif_t h hb4
        refine .skip ?_
        refine .then ?_
        refine .seq ?_
        obtain ⟨o_5, h, hK5⟩ := bindD_some h
        unfold ref_DocError_L1 at h
        refine .thenJ (ι := Unit) (fun j_5 => []) (fun j_5 => []) (fun s => o_5 = Res.nx s) (.cons (t := 1) rfl (.cons (t := 24) rfl (.cons (t := 25) rfl Sub.nil))) SubB.nil ?_ (fun j_5 hj5 => ?_)
        · skip
          refine .block ?_
          refine .seq ?_
          refine .region [] mixed (by kernel_rfl) ?_
          refine .cons (.move .none (.s rfl)) rfl ?_
          refine .cons (.assign .none (.s rfl)) rfl ?_
          refine .nil ?_
          refine .then ?_
          refine .seq ?_
          refine .region [] mixed (by kernel_rfl) ?_
          refine .cons (.load .none ty25 (.s rfl)) rfl ?_
          refine .cons (.move .none (.s rfl)) rfl ?_
          obtain ⟨e1, hv6, h⟩ := bind_some h
          refine .cons (.call .none (ref_nodeError_ok hv6) (.cons (.s rfl) (.cons (.s rfl) .nil))) rfl ?_
          refine .cons (.assign .none (.s rfl)) rfl ?_
          refine .nil ?_
          refine .then ?_
          refine .seq ?_
          refine .region [] mixed (by kernel_rfl) ?_
          refine .cons (.move .none (.s rfl)) rfl ?_
          refine .cons (.neI .none (.s rfl) (.int (by decide))) rfl ?_
          refine .nil ?_
          refine .then ?_
          refine .cond (t := 32) rfl trivial (fun hb7 => ?_) (fun hb7 => ?_)
          · replace h := bif_t h hb7
            refine .seq ?_
            refine .region [] mixed (by kernel_rfl) ?_
            refine .cons (.move .none (.s rfl)) rfl ?_
            refine .cons (.assign .none (.s rfl)) rfl ?_
            refine .nil ?_
            refine .then ?_
            refine .ret ?_
            refine .blkRet ?_
            refine .thenRet ?_
            refine .thenRet ?_
            refine .blkRet ?_
            refine .thenRet ?_
            replace h := resd_ab hK5 (some_eq h)
            replace h := hD3 _ (some_eq h)
            replace h := resb_ab hK2 (some_eq h)
            obtain rfl := some_eq h
            exact Ends.ret1 (.inl rfl) Tryd.results7 (ResOK.tmp rfl trivial Imp.refl)
          · replace h := bif_f h hb7
            refine .skip ?_
            refine .blkNormal ?_
            exact Ends.join _ (some_eq h) (.cons (t := 1) rfl (.cons (t := 24) rfl (.cons (t := 25) rfl Sub.nil))) SubB.nil
        · have h := resd_nx hK5 hj5
          refine .region [] mixed (by kernel_rfl) ?_
          refine .cons (.addW .none (.s rfl) (.int (by decide))) rfl ?_
          refine .cons (.move .none (.s rfl)) rfl ?_
          refine .nil ?_
          exact Ends.againL (some_eq h) (.cons (t := 25) rfl (.cons (t := 1) rfl (.cons (t := 24) rfl Sub.nil))) SubB.nil
      · replace h := bif_f h hb4
        refine .exit ?_
        refine .thenExit ?_
        refine .thenExit ?_
        refine .blkExit ?_
        replace h := hD3 _ (some_eq h)
        exact Ends.join _ (some_eq h) (.cons (t := 1) rfl Sub.nil) SubB.nil
    · have h := resb_nx hK2 hj2
      refine .seq ?_
      refine .seq ?_
      refine .region [] mixed (by kernel_rfl) ?_
      refine .cons (.load .none ty25 (.s rfl)) rfl ?_
      obtain ⟨e2, hv8, h⟩ := bind_some h
      refine .cons (.call .none (ref_treeError_ok hv8) (.cons (.s rfl) .nil)) rfl ?_
      refine .cons (.assign .none (.s rfl)) rfl ?_
      refine .nil ?_
      refine .then ?_
      refine .seq ?_
      refine .region [] mixed (by kernel_rfl) ?_
      refine .cons (.move .none (.s rfl)) rfl ?_
      refine .cons (.neI .none (.s rfl) (.int (by decide))) rfl ?_
      refine .nil ?_
      refine .then ?_
      refine .cond (t := 38) rfl trivial (fun hb9 => ?_) (fun hb9 => ?_)
      · replace h := bif_t h hb9
        refine .seq ?_
        refine .region [] mixed (by kernel_rfl) ?_
        refine .cons (.move .none (.s rfl)) rfl ?_
        refine .cons (.assign .none (.s rfl)) rfl ?_
        refine .nil ?_
        refine .then ?_
        refine .ret ?_
        refine .thenRet ?_
        obtain rfl := some_eq h
        exact Ends.ret1 (.inl rfl) Tryd.results7 (ResOK.tmp rfl trivial Imp.refl)
      · replace h := bif_f h hb9
        refine .skip ?_
        refine .then ?_
        refine .seq ?_
        refine .seq ?_
        refine .region [] mixed (by kernel_rfl) ?_
        refine .cons (.fieldAddr .none fd25_1 hfd25_1 (.s rfl)) rfl ?_
        refine .cons (.load .none ty23 (.s rfl)) rfl ?_
        refine .cons (.len .none sl23 (.s rfl)) rfl ?_
        refine .cons (.move .none (.int (by decide))) rfl ?_
        refine .nil ?_
        refine .then ?_
        obtain ⟨o_10, h, hK10⟩ := bindR_some h
        refine .thenJ (ι := Unit) (fun j_10 => []) (fun j_10 => []) (fun s => o_10 = Res.nx s) (.cons (t := 1) rfl Sub.nil) SubB.nil ?_ (fun j_10 hj10 => ?_)
        · skip
          refine .block ?_
          refine .rforEL h (fun p11_ => [(43, ⟨True, rep p11_.1⟩)]) (fun p11_ => []) (.cons (t := 43) rfl Sub.nil) SubB.nil (.cons (t := 1) rfl (.cons (t := 42) rfl Sub.nil)) SubB.nil (fun p11_ o_11 h hD11 => ?_)
          refine .seq ?_
          refine .region [] mixed (by kernel_rfl) ?_
          refine .cons (.lt .none (.s rfl) (.s rfl)) rfl ?_
          refine .nil ?_
          refine .then ?_
          refine .seq ?_
          refine .cond (t := 44) rfl trivial (fun hb12 => ?_) (fun hb12 => ?_)
          · replace h := bif_t h hb12
            refine .skip ?_
            refine .then ?_
            refine .seq ?_
            obtain ⟨o_13, h, hK13⟩ := bindD_some h
            unfold ref_DocError_L2 at h
            refine .thenJ (ι := Unit) (fun j_13 => []) (fun j_13 => []) (fun s => o_13 = Res.nx s) (.cons (t := 1) rfl (.cons (t := 42) rfl (.cons (t := 43) rfl Sub.nil))) SubB.nil ?_ (fun j_13 hj13 => ?_)
            · skip
              refine .block ?_
              refine .seq ?_
              refine .region [] mixed (by kernel_rfl) ?_
              refine .cons (.move .none (.s rfl)) rfl ?_
              refine .cons (.assign .none (.s rfl)) rfl ?_
              refine .nil ?_
              refine .then ?_
              refine .seq ?_
              refine .region [] mixed (by kernel_rfl) ?_
              refine .cons (.load .none ty25 (.s rfl)) rfl ?_
              refine .cons (.move .none (.s rfl)) rfl ?_
              obtain ⟨e3, hv14, h⟩ := bind_some h
              refine .cons (.call .none (ref_edgeError_ok hv14) (.cons (.s rfl) (.cons (.s rfl) .nil))) rfl ?_
              refine .cons (.assign .none (.s rfl)) rfl ?_
              refine .nil ?_
              refine .then ?_
              refine .seq ?_
              refine .region [] mixed (by kernel_rfl) ?_
              refine .cons (.move .none (.s rfl)) rfl ?_
              refine .cons (.neI .none (.s rfl) (.int (by decide))) rfl ?_
              refine .nil ?_
              refine .then ?_
              refine .cond (t := 50) rfl trivial (fun hb15 => ?_) (fun hb15 => ?_)
              · replace h := bif_t h hb15
                refine .seq ?_
                refine .region [] mixed (by kernel_rfl) ?_
                refine .cons (.move .none (.s rfl)) rfl ?_
                refine .cons (.assign .none (.s rfl)) rfl ?_
                refine .nil ?_
                refine .then ?_
                refine .ret ?_
                refine .blkRet ?_
                refine .thenRet ?_
                refine .thenRet ?_
                refine .blkRet ?_
                refine .thenRet ?_
                replace h := resd_ab hK13 (some_eq h)
                replace h := hD11 _ (some_eq h)
                replace h := resb_ab hK10 (some_eq h)
                obtain rfl := some_eq h
                exact Ends.ret1 (.inl rfl) Tryd.results7 (ResOK.tmp rfl trivial Imp.refl)
              · replace h := bif_f h hb15
                refine .skip ?_
                refine .blkNormal ?_
                exact Ends.join _ (some_eq h) (.cons (t := 1) rfl (.cons (t := 42) rfl (.cons (t := 43) rfl Sub.nil))) SubB.nil
            · have h := resd_nx hK13 hj13
              refine .region [] mixed (by kernel_rfl) ?_
              refine .cons (.addW .none (.s rfl) (.int (by decide))) rfl ?_
              refine .cons (.move .none (.s rfl)) rfl ?_
              refine .nil ?_
              exact Ends.againL (some_eq h) (.cons (t := 43) rfl (.cons (t := 1) rfl (.cons (t := 42) rfl Sub.nil))) SubB.nil
          · replace h := bif_f h hb12
            refine .exit ?_
            refine .thenExit ?_
            refine .thenExit ?_
            refine .blkExit ?_
            replace h := hD11 _ (some_eq h)
            exact Ends.join _ (some_eq h) (.cons (t := 1) rfl Sub.nil) SubB.nil
        · have h := resb_nx hK10 hj10
          refine .seq ?_
          refine .seq ?_
          refine .region [] mixed (by kernel_rfl) ?_
          refine .cons (.fieldAddr .none fd25_0 hfd25_0 (.s rfl)) rfl ?_
          refine .cons (.load .none ty22 (.s rfl)) rfl ?_
          refine .cons (.len .none sl22 (.s rfl)) rfl ?_
          refine .cons (.move .none (.int (by decide))) rfl ?_
          refine .nil ?_
          refine .then ?_
          obtain ⟨o_16, h, hK16⟩ := bindR_some h
          refine .thenJ (ι := Unit) (fun j_16 => []) (fun j_16 => []) (fun s => o_16 = Res.nx s) Sub.nil SubB.nil ?_ (fun j_16 hj16 => ?_)
          · skip
            refine .block ?_
            refine .rforEL h (fun p17_ => [(56, ⟨True, rep p17_.1⟩)]) (fun p17_ => []) (.cons (t := 56) rfl Sub.nil) SubB.nil (.cons (t := 1) rfl (.cons (t := 54) rfl (.cons (t := 55) rfl Sub.nil))) SubB.nil (fun p17_ o_17 h hD17 => ?_)
            refine .seq ?_
            refine .region [] mixed (by kernel_rfl) ?_
            refine .cons (.lt .none (.s rfl) (.s rfl)) rfl ?_
            refine .nil ?_
            refine .then ?_
            refine .seq ?_
            refine .cond (t := 57) rfl trivial (fun hb18 => ?_) (fun hb18 => ?_)
            · replace h := bif_t h hb18
              refine .skip ?_
              refine .then ?_
              refine .seq ?_
              obtain ⟨o_19, h, hK19⟩ := bindD_some h
              unfold ref_DocError_L3 at h
              refine .thenJ (ι := Unit) (fun j_19 => []) (fun j_19 => []) (fun s => o_19 = Res.nx s) (.cons (t := 1) rfl (.cons (t := 54) rfl (.cons (t := 55) rfl (.cons (t := 56) rfl Sub.nil)))) SubB.nil ?_ (fun j_19 hj19 => ?_)
              · skip
                refine .block ?_
                refine .seq ?_
                refine .region [([], []), ([], []), ([], [9]), ([9], [9])] mixed (by kernel_rfl) ?_
                obtain ⟨hn20, h⟩ := need_some h
                refine .consA (.indexAddr .none sl22 ty43 (.s rfl) (.s rfl) (fun _ => hn20)) rfl ?_
                obtain ⟨v1, hv21, h⟩ := bnd_some h
                refine .consA (.re hv21 (.load .none ty43 (.s rfl))) rfl ?_
                refine .consW (.alloc zo43 rfl) rfl rfl ?_
                refine .consN (.store ty43 rfl rfl (.s rfl)) rfl ?_
                refine .nil ?_
                refine .then ?_
                refine .freeze (t := 9) rfl rfl SubB.nil rfl ?_
                refine .seq ?_
                refine .region [([], []), ([], []), ([], []), ([], []), ([], []), ([], []), ([], []), ([], [10]), ([10], [10]), ([], [])] mixed (by kernel_rfl) ?_
                refine .consA (.load .none ty25 (.s rfl)) rfl ?_
                refine .consA (.fieldAddr .none fd43_0 hfd43_0 (.s rfl)) rfl ?_
                refine .consA (.load .none ty9 (.s rfl)) rfl ?_
                obtain ⟨r1, hv22, h⟩ := bind_some h
                refine .consA (.call .none (ref_BoxOfNode_ok hv22) (.cons (.s rfl) (.cons (.s rfl) .nil))) rfl ?_
                refine .consA (.move .none (.s rfl)) rfl ?_
                refine .consA (.extract .none (.s rfl) rfl) rfl ?_
                refine .consA (.extract .none (.s rfl) rfl) rfl ?_
                refine .consW (.alloc zo41 rfl) rfl rfl ?_
                refine .consN (.store ty41 rfl rfl (.s rfl)) rfl ?_
                refine .consA (.assign .none (.s rfl)) rfl ?_
                refine .nil ?_
                refine .then ?_
                refine .seq ?_
                refine .region [] mixed (by kernel_rfl) ?_
                refine .cons (.move .none (.s rfl)) rfl ?_
                refine .cons (.neI .none (.s rfl) (.int (by decide))) rfl ?_
                refine .nil ?_
                refine .then ?_
                refine .cond (t := 68) rfl trivial (fun hb23 => ?_) (fun hb23 => ?_)
                · replace h := bif_t h hb23
                  refine .seq ?_
                  refine .region [] mixed (by kernel_rfl) ?_
                  refine .cons (.move .none (.s rfl)) rfl ?_
                  refine .cons (.assign .none (.s rfl)) rfl ?_
                  refine .nil ?_
                  refine .then ?_
                  refine .ret ?_
                  refine .blkRet ?_
                  refine .thenRet ?_
                  refine .thenRet ?_
                  refine .blkRet ?_
                  refine .thenRet ?_
                  replace h := resd_ab hK19 (some_eq h)
                  replace h := hD17 _ (some_eq h)
                  replace h := resb_ab hK16 (some_eq h)
                  obtain rfl := some_eq h
                  exact Ends.ret1 (.inl rfl) Tryd.results7 (ResOK.tmp rfl trivial Imp.refl)
                · replace h := bif_f h hb23
                  refine .skip ?_
                  refine .blkNormal ?_
                  exact Ends.join _ (some_eq h) (.cons (t := 1) rfl (.cons (t := 54) rfl (.cons (t := 55) rfl (.cons (t := 56) rfl Sub.nil)))) SubB.nil
              · have h := resd_nx hK19 hj19
                refine .region [] mixed (by kernel_rfl) ?_
                refine .cons (.addW .none (.s rfl) (.int (by decide))) rfl ?_
                refine .cons (.move .none (.s rfl)) rfl ?_
                refine .nil ?_
                exact Ends.againL (some_eq h) (.cons (t := 56) rfl (.cons (t := 1) rfl (.cons (t := 54) rfl (.cons (t := 55) rfl Sub.nil)))) SubB.nil
            · replace h := bif_f h hb18
              refine .exit ?_
              refine .thenExit ?_
              refine .thenExit ?_
              refine .blkExit ?_
              replace h := hD17 _ (some_eq h)
              exact Ends.join _ (some_eq h) Sub.nil SubB.nil
          · have h := resb_nx hK16 hj16
            refine .seq ?_
            refine .region [] mixed (by kernel_rfl) ?_
            refine .cons (.assign .none (.int (by decide))) rfl ?_
            refine .nil ?_
            refine .then ?_
            refine .ret ?_
            obtain rfl := some_eq h
            exact Ends.ret1 (.inl rfl) Tryd.results7 (ResOK.tmp rfl trivial Imp.refl)

theorem slices_Index_string_ok {s1 : (List Str)} {v1 : Str} {r : Int}  (h : slices_Index_string s1 v1 = some r) : FSpec Tryd.prog 109 [rep s1, rep v1] (rep r) := by
  unfold slices_Index_string at h
  refine FSpec.intro (n := 19) fnok109 Tryd.func109 rfl Tryd.ntmps109 rfl (fun F => ?_)
  refine .seq ?_
  refine .region [] mixed (by kernel_rfl) ?_
  refine .cons (.assign .none (.int (by decide))) rfl ?_
  refine .nil ?_
  refine .then ?_
  refine .seq ?_
  refine .seq ?_
  refine .region [] mixed (by kernel_rfl) ?_
  refine .cons (.move .none (.s rfl)) rfl ?_
  refine .cons (.len .none sl35 (.s rfl)) rfl ?_
  refine .cons (.move .none (.int (by decide))) rfl ?_
  refine .nil ?_
  refine .then ?_
  obtain ⟨o_1, h, hK1⟩ := bindR_some h
  refine .thenJ (ι := Unit) (fun j_1 => []) (fun j_1 => []) (fun s => o_1 = Res.nx s) Sub.nil SubB.nil ?_ (fun j_1 hj1 => ?_)
  · skip
    refine .block ?_
    refine .rforEL h (fun p2_ => [(8, ⟨True, rep p2_.1⟩)]) (fun p2_ => []) (.cons (t := 8) rfl Sub.nil) SubB.nil (.cons (t := 0) rfl (.cons (t := 1) rfl (.cons (t := 7) rfl Sub.nil))) SubB.nil (fun p2_ o_2 h hD2 => ?_)
    refine .seq ?_
    refine .region [] mixed (by kernel_rfl) ?_
    refine .cons (.lt .none (.s rfl) (.s rfl)) rfl ?_
    refine .nil ?_
    refine .then ?_
    refine .seq ?_
    refine .cond (t := 9) rfl trivial (fun hb3 => ?_) (fun hb3 => ?_)
    · replace h := bif_t h hb3
      refine .skip ?_
      refine .then ?_
      refine .seq ?_
      obtain ⟨o_4, h, hK4⟩ := bindD_some h
      unfold slices_Index_string_L1 at h
      refine .thenJ (ι := Unit) (fun j_4 => []) (fun j_4 => []) (fun s => o_4 = Res.nx s) (.cons (t := 0) rfl (.cons (t := 1) rfl (.cons (t := 7) rfl (.cons (t := 8) rfl Sub.nil)))) SubB.nil ?_ (fun j_4 hj4 => ?_)
      · skip
        refine .block ?_
        refine .seq ?_
        refine .region [] mixed (by kernel_rfl) ?_
        refine .cons (.move .none (.s rfl)) rfl ?_
        refine .cons (.assign .none (.s rfl)) rfl ?_
        refine .nil ?_
        refine .then ?_
        refine .seq ?_
        refine .region [] mixed (by kernel_rfl) ?_
        refine .cons (.move .none (.s rfl)) rfl ?_
        refine .cons (.move .none (.s rfl)) rfl ?_
        refine .cons (.move .none (.s rfl)) rfl ?_
        obtain ⟨hn5, h⟩ := need_some h
        refine .cons (.indexAddr .none sl35 ty9 (.s rfl) (.s rfl) (fun _ => hn5)) rfl ?_
        refine .cons (.load .none ty9 (.s rfl)) rfl ?_
        refine .cons (.eqS .none (eqAt_str Tryd.underlying9) (.s rfl) (.s rfl)) rfl ?_
        refine .nil ?_
        refine .then ?_
        refine .cond (t := 16) rfl trivial (fun hb6 => ?_) (fun hb6 => ?_)
        · replace h := bif_t h hb6
          refine .seq ?_
          refine .region [] mixed (by kernel_rfl) ?_
          refine .cons (.move .none (.s rfl)) rfl ?_
          refine .cons (.assign .none (.s rfl)) rfl ?_
          refine .nil ?_
          refine .then ?_
          refine .ret ?_
          refine .blkRet ?_
          refine .thenRet ?_
          refine .thenRet ?_
          refine .blkRet ?_
          refine .thenRet ?_
          replace h := resd_ab hK4 (some_eq h)
          replace h := hD2 _ (some_eq h)
          replace h := resb_ab hK1 (some_eq h)
          obtain rfl := some_eq h
          exact Ends.ret1 (.inl rfl) Tryd.results109 (ResOK.tmp rfl trivial Imp.refl)
        · replace h := bif_f h hb6
          refine .skip ?_
          refine .blkNormal ?_
          exact Ends.join _ (some_eq h) (.cons (t := 0) rfl (.cons (t := 1) rfl (.cons (t := 7) rfl (.cons (t := 8) rfl Sub.nil)))) SubB.nil
      · have h := resd_nx hK4 hj4
        refine .region [] mixed (by kernel_rfl) ?_
        refine .cons (.addW .none (.s rfl) (.int (by decide))) rfl ?_
        refine .cons (.move .none (.s rfl)) rfl ?_
        refine .nil ?_
        exact Ends.againL (some_eq h) (.cons (t := 8) rfl (.cons (t := 0) rfl (.cons (t := 1) rfl (.cons (t := 7) rfl Sub.nil)))) SubB.nil
    · replace h := bif_f h hb3
      refine .exit ?_
      refine .thenExit ?_
      refine .thenExit ?_
      refine .blkExit ?_
      replace h := hD2 _ (some_eq h)
      exact Ends.join _ (some_eq h) Sub.nil SubB.nil
  · have h := resb_nx hK1 hj1
    refine .seq ?_
    refine .region [] mixed (by kernel_rfl) ?_
    refine .cons (.assign .none (.int (by decide))) rfl ?_
    refine .nil ?_
    refine .then ?_
    refine .ret ?_
    obtain rfl := some_eq h
    exact Ends.ret1 (.inl rfl) Tryd.results109 (ResOK.tmp rfl trivial Imp.refl)

theorem slices_Contains_string_ok {s1 : (List Str)} {v1 : Str} {r : Bool}  (h : slices_Contains_string s1 v1 = some r) : FSpec Tryd.prog 85 [rep s1, rep v1] (rep r) := by
  unfold slices_Contains_string at h
  refine FSpec.intro (n := 9) fnok85 Tryd.func85 rfl Tryd.ntmps85 rfl (fun F => ?_)
  refine .seq ?_
  refine .region [] mixed (by kernel_rfl) ?_
  refine .cons (.assign .none .bool) rfl ?_
  refine .nil ?_
  refine .then ?_
  refine .seq ?_
  refine .region [] mixed (by kernel_rfl) ?_
  refine .cons (.move .none (.s rfl)) rfl ?_
  refine .cons (.move .none (.s rfl)) rfl ?_
  obtain ⟨r1, hv1, h⟩ := bind_some h
  refine .cons (.call .none (slices_Index_string_ok hv1) (.cons (.s rfl) (.cons (.s rfl) .nil))) rfl ?_
  refine .cons (.ge .none (.s rfl) (.int (by decide))) rfl ?_
  refine .cons (.assign .none (.s rfl)) rfl ?_
  refine .nil ?_
  refine .then ?_
  refine .ret ?_
  obtain rfl := some_eq h
  exact Ends.ret1 (.inl rfl) Tryd.results85 (ResOK.tmp rfl trivial Imp.refl)

theorem ref_SelectionError_ok {d1 : Doc} {ids1 : (List Str)} {r : Int}  (h : ref_SelectionError d1 ids1 = some r) : FSpec Tryd.prog 41 [rep d1, rep ids1] (rep r) := by
  unfold ref_SelectionError at h
  refine FSpec.intro (n := 32) fnok41 Tryd.func41 rfl Tryd.ntmps41 rfl (fun F => ?_)
  refine .seq ?_
  refine .region [] mixed (by kernel_rfl) ?_
  refine .cons (.box .none (.s rfl)) rfl ?_
  refine .cons (.assign .none (.int (by decide))) rfl ?_
  refine .nil ?_
  refine .then ?_
  refine .seq ?_
  refine .seq ?_
  refine .region [] mixed (by kernel_rfl) ?_
  refine .cons (.move .none (.s rfl)) rfl ?_
  refine .cons (.len .none sl35 (.s rfl)) rfl ?_
  refine .cons (.move .none (.int (by decide))) rfl ?_
  refine .nil ?_
  refine .then ?_
  obtain ⟨o_1, h, hK1⟩ := bindR_some h
  refine .thenJ (ι := Unit) (fun j_1 => []) (fun j_1 => []) (fun s => o_1 = Res.nx s) Sub.nil SubB.nil ?_ (fun j_1 hj1 => ?_)
  · skip
    refine .block ?_
    refine .rforEL h (fun p2_ => [(10, ⟨True, rep p2_.1⟩)]) (fun p2_ => []) (.cons (t := 10) rfl Sub.nil) SubB.nil (.cons (t := 1) rfl (.cons (t := 2) rfl (.cons (t := 8) rfl (.cons (t := 9) rfl Sub.nil)))) SubB.nil (fun p2_ o_2 h hD2 => ?_)
    refine .seq ?_
    refine .region [] mixed (by kernel_rfl) ?_
    refine .cons (.lt .none (.s rfl) (.s rfl)) rfl ?_
    refine .nil ?_
    refine .then ?_
    refine .seq ?_
    refine .cond (t := 11) rfl trivial (fun hb3 => ?_) (fun hb3 => ?_)
    · replace h := bif_t h hb3
      refine .skip ?_
      refine .then ?_
      refine .seq ?_
      obtain ⟨o_4, h, hK4⟩ := bindD_some h
      unfold ref_SelectionError_L1 at h
      refine .thenJ (ι := Unit) (fun j_4 => []) (fun j_4 => []) (fun s => o_4 = Res.nx s) (.cons (t := 1) rfl (.cons (t := 2) rfl (.cons (t := 8) rfl (.cons (t := 9) rfl (.cons (t := 10) rfl Sub.nil))))) SubB.nil ?_ (fun j_4 hj4 => ?_)
      · skip
        refine .block ?_
        refine .seq ?_
        refine .region [] mixed (by kernel_rfl) ?_
        refine .cons (.move .none (.s rfl)) rfl ?_
        obtain ⟨hn5, h⟩ := need_some h
        refine .cons (.indexAddr .none sl35 ty9 (.s rfl) (.s rfl) (fun _ => hn5)) rfl ?_
        refine .cons (.load .none ty9 (.s rfl)) rfl ?_
        refine .cons (.assign .none (.s rfl)) rfl ?_
        obtain ⟨id1, hv6, h⟩ := bnd_some h
        refine .cons (.re hv6 (.assign .none (.s rfl))) rfl ?_
        refine .nil ?_
        refine .then ?_
        refine .seq ?_
        refine .region [] mixed (by kernel_rfl) ?_
        refine .cons (.load .none ty25 (.s rfl)) rfl ?_
        refine .cons (.move .none (.s rfl)) rfl ?_
        obtain ⟨r1, hv7, h⟩ := bind_some h
        refine .cons (.call .none (ref_NodeAt_ok hv7) (.cons (.s rfl) (.cons (.s rfl) .nil))) rfl ?_
        refine .cons (.lt .none (.s rfl) (.int (by decide))) rfl ?_
        obtain ⟨r2, hv8, h⟩ := bind_some h
        refine .cons (.call .none (ref_When_ok hv8) (.cons (.s rfl) (.cons (.int (by decide)) .nil))) rfl ?_
        refine .cons (.move .none (.s rfl)) rfl ?_
        refine .cons (.move .none (.s rfl)) rfl ?_
        obtain ⟨hn9, h⟩ := need_some h
        refine .cons (.slice .none sl35 ty9 (.s rfl) rfl (.s rfl) (fun _ => hn9)) rfl ?_
        refine .cons (.move .none (.s rfl)) rfl ?_
        obtain ⟨r3, hv10, h⟩ := bind_some h
        refine .cons (.call .none (slices_Contains_string_ok hv10) (.cons (.s rfl) (.cons (.s rfl) .nil))) rfl ?_
        obtain ⟨r4, hv11, h⟩ := bind_some h
        refine .cons (.call .none (ref_When_ok hv11) (.cons (.s rfl) (.cons (.int (by decide)) .nil))) rfl ?_
        refine .cons (.buildSlice (xs := [_, _]) .none sl136 ty26 hz26 (.cons (.s rfl) (.cons (.s rfl) .nil)) rfl (by decide)) rfl ?_
        obtain ⟨e1, hv12, h⟩ := bind_some h
        refine .cons (.call .none (ref_First_ok hv12) (.cons (.s rfl) .nil)) rfl ?_
        refine .cons (.assign .none (.s rfl)) rfl ?_
        refine .nil ?_
        refine .then ?_
        refine .seq ?_
        refine .region [] mixed (by kernel_rfl) ?_
        refine .cons (.move .none (.s rfl)) rfl ?_
        refine .cons (.neI .none (.s rfl) (.int (by decide))) rfl ?_
        refine .nil ?_
        refine .then ?_
        refine .cond (t := 29) rfl trivial (fun hb13 => ?_) (fun hb13 => ?_)
        · replace h := bif_t h hb13
          refine .seq ?_
          refine .region [] mixed (by kernel_rfl) ?_
          refine .cons (.move .none (.s rfl)) rfl ?_
          refine .cons (.assign .none (.s rfl)) rfl ?_
          refine .nil ?_
          refine .then ?_
          refine .ret ?_
          refine .blkRet ?_
          refine .thenRet ?_
          refine .thenRet ?_
          refine .blkRet ?_
          refine .thenRet ?_
          replace h := resd_ab hK4 (some_eq h)
          replace h := hD2 _ (some_eq h)
          replace h := resb_ab hK1 (some_eq h)
          obtain rfl := some_eq h
          exact Ends.ret1 (.inl rfl) Tryd.results41 (ResOK.tmp rfl trivial Imp.refl)
        · replace h := bif_f h hb13
          refine .skip ?_
          refine .blkNormal ?_
          exact Ends.join _ (some_eq h) (.cons (t := 1) rfl (.cons (t := 2) rfl (.cons (t := 8) rfl (.cons (t := 9) rfl (.cons (t := 10) rfl Sub.nil))))) SubB.nil
      · have h := resd_nx hK4 hj4
        refine .region [] mixed (by kernel_rfl) ?_
        refine .cons (.addW .none (.s rfl) (.int (by decide))) rfl ?_
        refine .cons (.move .none (.s rfl)) rfl ?_
        refine .nil ?_
        exact Ends.againL (some_eq h) (.cons (t := 10) rfl (.cons (t := 1) rfl (.cons (t := 2) rfl (.cons (t := 8) rfl (.cons (t := 9) rfl Sub.nil))))) SubB.nil
    · replace h := bif_f h hb3
      refine .exit ?_
      refine .thenExit ?_
      refine .thenExit ?_
      refine .blkExit ?_
      replace h := hD2 _ (some_eq h)
      exact Ends.join _ (some_eq h) Sub.nil SubB.nil
  · have h := resb_nx hK1 hj1
    refine .seq ?_
    refine .region [] mixed (by kernel_rfl) ?_
    refine .cons (.assign .none (.int (by decide))) rfl ?_
    refine .nil ?_
    refine .then ?_
    refine .ret ?_
    obtain rfl := some_eq h
    exact Ends.ret1 (.inl rfl) Tryd.results41 (ResOK.tmp rfl trivial Imp.refl)

theorem law_selected_ok {d1 : Doc} {ids1 : (List Str)} {r : Int}  (h : law_selected d1 ids1 = some r) : FSpec Tryd.prog 14 [rep d1, rep ids1] (rep r) := by
  unfold law_selected at h
  refine FSpec.intro (n := 14) fnok14 Tryd.func14 rfl Tryd.ntmps14 rfl (fun F => ?_)
  refine .seq ?_
  refine .region [] mixed (by kernel_rfl) ?_
  refine .cons (.box .none (.s rfl)) rfl ?_
  refine .cons (.assign .none (.int (by decide))) rfl ?_
  refine .nil ?_
  refine .then ?_
  refine .seq ?_
  refine .seq ?_
  refine .region [] mixed (by kernel_rfl) ?_
  refine .cons (.load .none ty25 (.s rfl)) rfl ?_
  obtain ⟨e1, hv1, h⟩ := bind_some h
  refine .cons (.call .none (ref_DocError_ok hv1) (.cons (.s rfl) .nil)) rfl ?_
  refine .cons (.assign .none (.s rfl)) rfl ?_
  refine .nil ?_
  refine .then ?_
  refine .seq ?_
  refine .region [] mixed (by kernel_rfl) ?_
  refine .cons (.move .none (.s rfl)) rfl ?_
  refine .cons (.neI .none (.s rfl) (.int (by decide))) rfl ?_
  refine .nil ?_
  refine .then ?_
  refine .cond (t := 9) rfl trivial (fun hb2 => ?_) (fun hb2 => ?_)
  · replace h := bif_t h hb2
    refine .seq ?_
    refine .region [] mixed (by kernel_rfl) ?_
    refine .cons (.move .none (.s rfl)) rfl ?_
    refine .cons (.assign .none (.s rfl)) rfl ?_
    refine .nil ?_
    refine .then ?_
    refine .ret ?_
    refine .thenRet ?_
    obtain rfl := some_eq h
    exact Ends.ret1 (.inl rfl) Tryd.results14 (ResOK.tmp rfl trivial Imp.refl)
  · replace h := bif_f h hb2
    refine .skip ?_
    refine .then ?_
    refine .seq ?_
    refine .region [] mixed (by kernel_rfl) ?_
    refine .cons (.load .none ty25 (.s rfl)) rfl ?_
    refine .cons (.move .none (.s rfl)) rfl ?_
    obtain ⟨r1, hv3, h⟩ := bind_some h
    refine .cons (.call .none (ref_SelectionError_ok hv3) (.cons (.s rfl) (.cons (.s rfl) .nil))) rfl ?_
    refine .cons (.assign .none (.s rfl)) rfl ?_
    refine .nil ?_
    refine .then ?_
    refine .ret ?_
    obtain rfl := some_eq h
    exact Ends.ret1 (.inl rfl) Tryd.results14 (ResOK.tmp rfl trivial Imp.refl)

theorem ref_IsBelow_ok {d1 : Doc} {id1 : Str} {group1 : Str} {r : Bool}  (h : ref_IsBelow d1 id1 group1 = some r) : FSpec Tryd.prog 89 [rep d1, rep id1, rep group1] (rep r) := by
  unfold ref_IsBelow at h
  refine FSpec.intro (n := 29) fnok89 Tryd.func89 rfl Tryd.ntmps89 rfl (fun F => ?_)
  refine .seq ?_
  refine .region [] mixed (by kernel_rfl) ?_
  refine .cons (.box .none (.s rfl)) rfl ?_
  refine .cons (.assign .none .bool) rfl ?_
  refine .nil ?_
  refine .then ?_
  refine .seq ?_
  refine .seq ?_
  refine .region [] mixed (by kernel_rfl) ?_
  refine .cons (.fieldAddr .none fd25_0 hfd25_0 (.s rfl)) rfl ?_
  refine .cons (.load .none ty22 (.s rfl)) rfl ?_
  refine .cons (.load .none ty25 (.s rfl)) rfl ?_
  refine .cons (.move .none (.s rfl)) rfl ?_
  obtain ⟨r1, hv1, h⟩ := bind_some h
  refine .cons (.call .none (ref_NodeAt_ok hv1) (.cons (.s rfl) (.cons (.s rfl) .nil))) rfl ?_
  obtain ⟨hn2, h⟩ := need_some h
  refine .cons (.indexAddr .none sl22 ty43 (.s rfl) (.s rfl) (fun _ => hn2)) rfl ?_
  refine .cons (.fieldAddr .none fd43_5 hfd43_5 (.s rfl)) rfl ?_
  refine .cons (.load .none ty9 (.s rfl)) rfl ?_
  obtain ⟨p1, hv3, h⟩ := bnd_some h
  refine .cons (.re hv3 (.assign .none (.s rfl))) rfl ?_
  refine .nil ?_
  refine .then ?_
  obtain ⟨o_4, h, hK4⟩ := bindR_some h
  refine .thenJ (ι := Unit) (fun j_4 => []) (fun j_4 => []) (fun s => o_4 = Res.nx s) Sub.nil SubB.nil ?_ (fun j_4 hj4 => ?_)
  · skip
    refine .block ?_
    refine .loopL h (fun s5_ => [(7, ⟨True, rep s5_⟩)]) (fun s5_ => []) (.cons (t := 7) rfl Sub.nil) SubB.nil (.cons (t := 2) rfl (.cons (t := 3) rfl Sub.nil)) SubB.nil (fun s5_ o_5 h hD5 => ?_)
    unfold ref_IsBelow_L1 at h
    refine .seq ?_
    refine .seq ?_
    refine .region [] mixed (by kernel_rfl) ?_
    refine .cons (.move .none (.s rfl)) rfl ?_
    refine .cons (.neS .none (eqAt_str Tryd.underlying9) (.s rfl) (.str (l := []) (by decide))) rfl ?_
    refine .nil ?_
    refine .then ?_
    refine .cond (t := 17) rfl trivial (fun hb6 => ?_) (fun hb6 => ?_)
    · replace h := bif_t h hb6
      refine .skip ?_
      refine .then ?_
      refine .seq ?_
      refine .block ?_
      refine .seq ?_
      refine .region [] mixed (by kernel_rfl) ?_
      refine .cons (.move .none (.s rfl)) rfl ?_
      refine .cons (.move .none (.s rfl)) rfl ?_
      refine .cons (.eqS .none (eqAt_str Tryd.underlying9) (.s rfl) (.s rfl)) rfl ?_
      refine .nil ?_
      refine .then ?_
      refine .cond (t := 28) rfl trivial (fun hb7 => ?_) (fun hb7 => ?_)
      · replace h := bif_t h hb7
        refine .seq ?_
        refine .region [] mixed (by kernel_rfl) ?_
        refine .cons (.assign .none .bool) rfl ?_
        refine .nil ?_
        refine .then ?_
        refine .ret ?_
        refine .blkRet ?_
        refine .thenRet ?_
        refine .thenRet ?_
        refine .blkRet ?_
        refine .thenRet ?_
        replace h := hD5 _ (some_eq h)
        replace h := resb_ab hK4 (some_eq h)
        obtain rfl := some_eq h
        exact Ends.ret1 (.inl rfl) Tryd.results89 (ResOK.tmp rfl trivial Imp.refl)
      · replace h := bif_f h hb7
        refine .skip ?_
        refine .blkNormal ?_
        refine .then ?_
        refine .region [] mixed (by kernel_rfl) ?_
        refine .cons (.fieldAddr .none fd25_0 hfd25_0 (.s rfl)) rfl ?_
        refine .cons (.load .none ty22 (.s rfl)) rfl ?_
        refine .cons (.load .none ty25 (.s rfl)) rfl ?_
        refine .cons (.move .none (.s rfl)) rfl ?_
        obtain ⟨r2, hv8, h⟩ := bind_some h
        refine .cons (.call .none (ref_NodeAt_ok hv8) (.cons (.s rfl) (.cons (.s rfl) .nil))) rfl ?_
        obtain ⟨hn9, h⟩ := need_some h
        refine .cons (.indexAddr .none sl22 ty43 (.s rfl) (.s rfl) (fun _ => hn9)) rfl ?_
        refine .cons (.fieldAddr .none fd43_5 hfd43_5 (.s rfl)) rfl ?_
        refine .cons (.load .none ty9 (.s rfl)) rfl ?_
        obtain ⟨p2, hv10, h⟩ := bnd_some h
        refine .cons (.re hv10 (.assign .none (.s rfl))) rfl ?_
        refine .nil ?_
        exact Ends.againL (some_eq h) (.cons (t := 7) rfl (.cons (t := 2) rfl (.cons (t := 3) rfl Sub.nil))) SubB.nil
    · replace h := bif_f h hb6
      refine .exit ?_
      refine .thenExit ?_
      refine .thenExit ?_
      refine .blkExit ?_
      replace h := hD5 _ (some_eq h)
      exact Ends.join _ (some_eq h) Sub.nil SubB.nil
  · have h := resb_nx hK4 hj4
    refine .seq ?_
    refine .region [] mixed (by kernel_rfl) ?_
    refine .cons (.assign .none .bool) rfl ?_
    refine .nil ?_
    refine .then ?_
    refine .ret ?_
    obtain rfl := some_eq h
    exact Ends.ret1 (.inl rfl) Tryd.results89 (ResOK.tmp rfl trivial Imp.refl)

theorem ref_RootsOf_1_ok {g1 : Str} {c0_1 : Doc} {c1_1 : DNode} {r : Bool}  (h : ref_RootsOf_1 g1 c0_1 c1_1 = some r) : FSpec Tryd.prog 110 [rep g1, ref c0_1, ref c1_1] (rep r) := by
  unfold ref_RootsOf_1 at h
  refine FSpec.intro (n := 10) fnok110 Tryd.func110 rfl Tryd.ntmps110 rfl (fun F => ?_)
  refine .seq ?_
  refine .region [] mixed (by kernel_rfl) ?_
  refine .cons (.assign .none .bool) rfl ?_
  refine .nil ?_
  refine .then ?_
  refine .seq ?_
  refine .region [] mixed (by kernel_rfl) ?_
  refine .cons (.load .none ty25 (.s rfl)) rfl ?_
  refine .cons (.fieldAddr .none fd43_0 hfd43_0 (.s rfl)) rfl ?_
  refine .cons (.load .none ty9 (.s rfl)) rfl ?_
  refine .cons (.move .none (.s rfl)) rfl ?_
  obtain ⟨r1, hv1, h⟩ := bind_some h
  refine .cons (.call .none (ref_IsBelow_ok hv1) (.cons (.s rfl) (.cons (.s rfl) (.cons (.s rfl) .nil)))) rfl ?_
  refine .cons (.assign .none (.s rfl)) rfl ?_
  refine .nil ?_
  refine .then ?_
  refine .ret ?_
  obtain rfl := some_eq h
  exact Ends.ret1 (.inl rfl) Tryd.results110 (ResOK.tmp rfl trivial Imp.refl)

theorem slices_IndexFunc_string_ok {s1 : (List Str)} {f1 : (Str → Option Bool)} {r : Int}  (h : slices_IndexFunc_string s1 f1 = some r) : FSpec Tryd.prog 111 [rep s1, fn1 Tryd.prog (rep (α := Bool)) f1] (rep r) := by
  unfold slices_IndexFunc_string at h
  refine FSpec.intro (n := 19) fnok111 Tryd.func111 rfl Tryd.ntmps111 rfl (fun F => ?_)
  refine .seq ?_
  refine .region [] mixed (by kernel_rfl) ?_
  refine .cons (.assign .none (.int (by decide))) rfl ?_
  refine .nil ?_
  refine .then ?_
  refine .seq ?_
  refine .seq ?_
  refine .region [] mixed (by kernel_rfl) ?_
  refine .cons (.move .none (.s rfl)) rfl ?_
  refine .cons (.len .none sl35 (.s rfl)) rfl ?_
  refine .cons (.move .none (.int (by decide))) rfl ?_
  refine .nil ?_
  refine .then ?_
  obtain ⟨o_1, h, hK1⟩ := bindR_some h
  refine .thenJ (ι := Unit) (fun j_1 => []) (fun j_1 => []) (fun s => o_1 = Res.nx s) Sub.nil SubB.nil ?_ (fun j_1 hj1 => ?_)
  · skip
    refine .block ?_
    refine .rforEL h (fun p2_ => [(8, ⟨True, rep p2_.1⟩)]) (fun p2_ => []) (.cons (t := 8) rfl Sub.nil) SubB.nil (.cons (t := 0) rfl (.cons (t := 1) rfl (.cons (t := 7) rfl Sub.nil))) SubB.nil (fun p2_ o_2 h hD2 => ?_)
    refine .seq ?_
    refine .region [] mixed (by kernel_rfl) ?_
    refine .cons (.lt .none (.s rfl) (.s rfl)) rfl ?_
    refine .nil ?_
    refine .then ?_
    refine .seq ?_
    refine .cond (t := 9) rfl trivial (fun hb3 => ?_) (fun hb3 => ?_)
    · replace h := bif_t h hb3
      refine .skip ?_
      refine .then ?_
      refine .seq ?_
      obtain ⟨o_4, h, hK4⟩ := bindD_some h
      unfold slices_IndexFunc_string_L1 at h
      refine .thenJ (ι := Unit) (fun j_4 => []) (fun j_4 => []) (fun s => o_4 = Res.nx s) (.cons (t := 0) rfl (.cons (t := 1) rfl (.cons (t := 7) rfl (.cons (t := 8) rfl Sub.nil)))) SubB.nil ?_ (fun j_4 hj4 => ?_)
      · skip
        refine .block ?_
        refine .seq ?_
        refine .region [] mixed (by kernel_rfl) ?_
        refine .cons (.move .none (.s rfl)) rfl ?_
        refine .cons (.assign .none (.s rfl)) rfl ?_
        refine .nil ?_
        refine .then ?_
        refine .seq ?_
        refine .region [] mixed (by kernel_rfl) ?_
        refine .cons (.move .none (.s rfl)) rfl ?_
        refine .cons (.move .none (.s rfl)) rfl ?_
        refine .cons (.move .none (.s rfl)) rfl ?_
        obtain ⟨hn5, h⟩ := need_some h
        refine .cons (.indexAddr .none sl35 ty9 (.s rfl) (.s rfl) (fun _ => hn5)) rfl ?_
        refine .cons (.load .none ty9 (.s rfl)) rfl ?_
        obtain ⟨r1, hv6, h⟩ := bind_some h
        refine .cons (.callV (gx s1 p2_.1, r1) .none (.s rfl) (fun _ => hv6) (.cons (.s rfl) .nil)) rfl ?_
        refine .nil ?_
        refine .then ?_
        refine .cond (t := 16) rfl trivial (fun hb7 => ?_) (fun hb7 => ?_)
        · replace h := bif_t h hb7
          refine .seq ?_
          refine .region [] mixed (by kernel_rfl) ?_
          refine .cons (.move .none (.s rfl)) rfl ?_
          refine .cons (.assign .none (.s rfl)) rfl ?_
          refine .nil ?_
          refine .then ?_
          refine .ret ?_
          refine .blkRet ?_
          refine .thenRet ?_
          refine .thenRet ?_
          refine .blkRet ?_
          refine .thenRet ?_
          replace h := resd_ab hK4 (some_eq h)
          replace h := hD2 _ (some_eq h)
          replace h := resb_ab hK1 (some_eq h)
          obtain rfl := some_eq h
          exact Ends.ret1 (.inl rfl) Tryd.results111 (ResOK.tmp rfl trivial Imp.refl)
        · replace h := bif_f h hb7
          refine .skip ?_
          refine .blkNormal ?_
          exact Ends.join _ (some_eq h) (.cons (t := 0) rfl (.cons (t := 1) rfl (.cons (t := 7) rfl (.cons (t := 8) rfl Sub.nil)))) SubB.nil
      · have h := resd_nx hK4 hj4
        refine .region [] mixed (by kernel_rfl) ?_
        refine .cons (.addW .none (.s rfl) (.int (by decide))) rfl ?_
        refine .cons (.move .none (.s rfl)) rfl ?_
        refine .nil ?_
        exact Ends.againL (some_eq h) (.cons (t := 8) rfl (.cons (t := 0) rfl (.cons (t := 1) rfl (.cons (t := 7) rfl Sub.nil)))) SubB.nil
    · replace h := bif_f h hb3
      refine .exit ?_
      refine .thenExit ?_
      refine .thenExit ?_
      refine .blkExit ?_
      replace h := hD2 _ (some_eq h)
      exact Ends.join _ (some_eq h) Sub.nil SubB.nil
  · have h := resb_nx hK1 hj1
    refine .seq ?_
    refine .region [] mixed (by kernel_rfl) ?_
    refine .cons (.assign .none (.int (by decide))) rfl ?_
    refine .nil ?_
    refine .then ?_
    refine .ret ?_
    obtain rfl := some_eq h
    exact Ends.ret1 (.inl rfl) Tryd.results111 (ResOK.tmp rfl trivial Imp.refl)

theorem slices_ContainsFunc_string_ok {s1 : (List Str)} {f1 : (Str → Option Bool)} {r : Bool}  (h : slices_ContainsFunc_string s1 f1 = some r) : FSpec Tryd.prog 87 [rep s1, fn1 Tryd.prog (rep (α := Bool)) f1] (rep r) := by
  unfold slices_ContainsFunc_string at h
  refine FSpec.intro (n := 9) fnok87 Tryd.func87 rfl Tryd.ntmps87 rfl (fun F => ?_)
  refine .seq ?_
  refine .region [] mixed (by kernel_rfl) ?_
  refine .cons (.assign .none .bool) rfl ?_
  refine .nil ?_
  refine .then ?_
  refine .seq ?_
  refine .region [] mixed (by kernel_rfl) ?_
  refine .cons (.move .none (.s rfl)) rfl ?_
  refine .cons (.move .none (.s rfl)) rfl ?_
  obtain ⟨r1, hv1, h⟩ := bind_some h
  refine .cons (.call .none (slices_IndexFunc_string_ok hv1) (.cons (.s rfl) (.cons (.s rfl) .nil))) rfl ?_
  refine .cons (.ge .none (.s rfl) (.int (by decide))) rfl ?_
  refine .cons (.assign .none (.s rfl)) rfl ?_
  refine .nil ?_
  refine .then ?_
  refine .ret ?_
  obtain rfl := some_eq h
  exact Ends.ret1 (.inl rfl) Tryd.results87 (ResOK.tmp rfl trivial Imp.refl)

theorem ref_RootsOf_ok {d1 : Doc} {ids1 : (List Str)} {r : (List Str)}  (h : ref_RootsOf d1 ids1 = some r) : FSpec Tryd.prog 86 [rep d1, rep ids1] (rep r) := by
  unfold ref_RootsOf at h
  refine FSpec.intro (n := 32) fnok86 Tryd.func86 rfl Tryd.ntmps86 rfl (fun F => ?_)
  refine .seq ?_
  refine .region [] mixed (by kernel_rfl) ?_
  refine .cons (.box .none (.s rfl)) rfl ?_
  refine .cons (.assign .none (.const (x := ([] : (List Str))) (fun M w => ⟨_, ⟨none, 0, rfl, Nat.le_refl _, by decide, rfl⟩, rfl⟩))) rfl ?_
  refine .nil ?_
  refine .then ?_
  refine .seq ?_
  refine .region [([], [5])] mixed (by kernel_rfl) ?_
  refine .consW (.nilRow (T := 9) (α := Str) rfl) rfl rfl ?_
  refine .nil ?_
  refine .then ?_
  refine .nameRow (t := 5) (g := 5001) rfl rfl rfl (fun s5001 => ?_)
  refine .seq ?_
  refine .seq ?_
  refine .region [] mixed (by kernel_rfl) ?_
  refine .cons (.fieldAddr .none fd25_0 hfd25_0 (.s rfl)) rfl ?_
  refine .cons (.load .none ty22 (.s rfl)) rfl ?_
  refine .cons (.len .none sl22 (.s rfl)) rfl ?_
  refine .cons (.move .none (.int (by decide))) rfl ?_
  refine .nil ?_
  refine .then ?_
  obtain ⟨j_1, h, hK1⟩ := bind_some h
  refine .thenJ (ι := (List Str)) (fun j_1 => []) (fun j_1 => [(5, some (rowV 9 j_1))]) (fun s => j_1 = s) Sub.nil SubB.nil ?_ (fun j_1' hj1 => ?_)
  · skip
    refine .block ?_
    refine .anon (t := 5) (g := 5001) rfl rfl trivial rfl ?_
    refine .rforL h (fun p2_ => [(11, ⟨True, rep p2_.1⟩)]) (fun p2_ => [(5, some (rowV 9 p2_.2))]) (.cons (t := 11) rfl Sub.nil) (.cons (t := 5) rfl SubB.nil) (.cons (t := 1) rfl (.cons (t := 2) rfl (.cons (t := 9) rfl (.cons (t := 10) rfl Sub.nil)))) SubB.nil (fun p2_ o_2 h hD2 => ?_)
    refine .nameRow (t := 5) (g := 5002) rfl rfl rfl (fun s5002 => ?_)
    refine .seq ?_
    refine .region [] mixed (by kernel_rfl) ?_
    refine .cons (.lt .none (.s rfl) (.s rfl)) rfl ?_
    refine .nil ?_
    refine .then ?_
    refine .seq ?_
    refine .cond (t := 12) rfl trivial (fun hb3 => ?_) (fun hb3 => ?_)
    · replace h := bif_t h hb3
      refine .skip ?_
      refine .then ?_
      refine .seq ?_
      obtain ⟨j_4, h, hK4⟩ := bind_some h
      unfold ref_RootsOf_L1 at h
      refine .thenJ (ι := (List Str)) (fun j_4 => []) (fun j_4 => [(5, some (rowV 9 j_4))]) (fun s => j_4 = s) (.cons (t := 1) rfl (.cons (t := 2) rfl (.cons (t := 9) rfl (.cons (t := 10) rfl (.cons (t := 11) rfl Sub.nil))))) SubB.nil ?_ (fun j_4' hj4 => ?_)
      · skip
        refine .block ?_
        refine .seq ?_
        refine .region [([], []), ([], []), ([], [7]), ([7], [7])] mixed (by kernel_rfl) ?_
        obtain ⟨hn5, h⟩ := need_some h
        refine .consA (.indexAddr .none sl22 ty43 (.s rfl) (.s rfl) (fun _ => hn5)) rfl ?_
        obtain ⟨v1, hv6, h⟩ := bnd_some h
        refine .consA (.re hv6 (.load .none ty43 (.s rfl))) rfl ?_
        refine .consW (.alloc zo43 rfl) rfl rfl ?_
        refine .consN (.store ty43 rfl rfl (.s rfl)) rfl ?_
        refine .nil ?_
        refine .then ?_
        refine .freeze (t := 7) rfl rfl (.cons (t := 5002) rfl SubB.nil) rfl ?_
        refine .seq ?_
        refine .region [] mixed (by kernel_rfl) ?_
        refine .cons (.move .none (.s rfl)) rfl ?_
        refine .cons (.fieldAddr .none fd43_0 hfd43_0 (.s rfl)) rfl ?_
        refine .cons (.load .none ty9 (.s rfl)) rfl ?_
        obtain ⟨r1, hv7, h⟩ := bind_some h
        refine .cons (.call .none (slices_Contains_string_ok hv7) (.cons (.s rfl) (.cons (.s rfl) .nil))) rfl ?_
        refine .cons (.move .none (.s rfl)) rfl ?_
        refine .cons (.move (.at rfl rfl) (.s rfl)) rfl ?_
        refine .cons (.makeFunc (ι := Str × Bool) (pre := fun i => (fun x0 => ref_RootsOf_1 x0 d1 v1) i.1 = some i.2) (Ss := fun i => [rep i.1]) (S := fun i => rep i.2) (.at rfl rfl) fnok110 (fun i h => ref_RootsOf_1_ok h) (.cons (.s rfl) (.cons (.s rfl) .nil))) rfl ?_
        obtain ⟨r2, hv8, h⟩ := bind_some h
        refine .cons (.callIf (.at rfl rfl) fnok87 (fun hg => slices_ContainsFunc_string_ok ((fun hg => gd_some hv8 (hg.2)) hg)) (.cons (.tmp rfl id) (.cons (.tmp rfl id) .nil)) (fun h => h)) rfl ?_
        refine .cons (.not (.at rfl rfl) (.tmp rfl id)) rfl ?_
        refine .cons (.pickAnd .none (.s rfl) (.tmp rfl id)) rfl ?_
        refine .nil ?_
        refine .then ?_
        refine .cond (t := 24) rfl trivial (fun hb9 => ?_) (fun hb9 => ?_)
        · replace h := bif_t h hb9
          refine .region [([], []), ([], []), ([], []), ([], []), ([5002], [29, 5002]), ([29], [5, 29])] mixed (by kernel_rfl) ?_
          refine .consA (.move .none (.s rfl)) rfl ?_
          refine .consA (.fieldAddr .none fd43_0 hfd43_0 (.s rfl)) rfl ?_
          refine .consA (.load .none ty9 (.s rfl)) rfl ?_
          refine .consA (.buildSlice (xs := [_]) .none sl35 ty9 hz9 (.cons (.s rfl) .nil) rfl (by decide)) rfl ?_
          obtain ⟨hn10, h⟩ := need_some h
          refine .consW (.append (k := 5002) rk35 rfl (.told (.s rfl) rfl) (.s rfl) hn10) rfl rfl ?_
          refine .consW (.passRow rfl (.tmp rfl)) rfl rfl ?_
          refine .nil ?_
          refine .blkNormal ?_
          exact Ends.join _ (some_eq h) (.cons (t := 1) rfl (.cons (t := 2) rfl (.cons (t := 9) rfl (.cons (t := 10) rfl (.cons (t := 11) rfl Sub.nil))))) (.cons (t := 5) rfl SubB.nil)
        · replace h := bif_f h hb9
          refine .skip ?_
          refine .blkNormal ?_
          refine .anon (t := 5) (g := 5002) rfl rfl trivial rfl ?_
          exact Ends.join _ (some_eq h) (.cons (t := 1) rfl (.cons (t := 2) rfl (.cons (t := 9) rfl (.cons (t := 10) rfl (.cons (t := 11) rfl Sub.nil))))) (.cons (t := 5) rfl SubB.nil)
      · subst hj4; have h := hK4; clear hK4
        refine .nameRow (t := 5) (g := 5003) rfl rfl rfl (fun s5003 => ?_)
        refine .region [] mixed (by kernel_rfl) ?_
        refine .cons (.addW .none (.s rfl) (.int (by decide))) rfl ?_
        refine .cons (.move .none (.s rfl)) rfl ?_
        refine .nil ?_
        refine .anon (t := 5) (g := 5003) rfl rfl trivial rfl ?_
        exact Ends.againL (some_eq h) (.cons (t := 11) rfl (.cons (t := 1) rfl (.cons (t := 2) rfl (.cons (t := 9) rfl (.cons (t := 10) rfl Sub.nil))))) (.cons (t := 5) rfl SubB.nil)
    · replace h := bif_f h hb3
      refine .exit ?_
      refine .thenExit ?_
      refine .thenExit ?_
      refine .blkExit ?_
      refine .anon (t := 5) (g := 5002) rfl rfl trivial rfl ?_
      replace h := hD2 _ (some_eq h)
      exact Ends.join _ (some_eq h) Sub.nil (.cons (t := 5) rfl SubB.nil)
  · subst hj1; have h := hK1; clear hK1
    refine .freezeRowA (t := 5) rfl rfl SubB.nil rfl ?_
    refine .seq ?_
    refine .region [] mixed (by kernel_rfl) ?_
    refine .cons (.move .none (.s rfl)) rfl ?_
    refine .cons (.assign .none (.s rfl)) rfl ?_
    refine .nil ?_
    refine .then ?_
    refine .ret ?_
    obtain rfl := some_eq h
    exact Ends.ret1 (.inl rfl) Tryd.results86 (ResOK.tmp rfl trivial Imp.refl)

theorem ref_RootBoxes_ok {d1 : Doc} {ids1 : (List Str)} {r : ((List Box) × Box × Int)}  (h : ref_RootBoxes d1 ids1 = some r) : FSpec Tryd.prog 42 [rep d1, rep ids1] (tup [rep r.1, rep r.2.1, rep r.2.2]) := by
  unfold ref_RootBoxes at h
  refine FSpec.intro (n := 41) fnok42 Tryd.func42 rfl Tryd.ntmps42 rfl (fun F => ?_)
  refine .seq ?_
  refine .region [([], []), ([], []), ([], [5]), ([], [])] mixed (by kernel_rfl) ?_
  refine .consA (.box .none (.s rfl)) rfl ?_
  refine .consA (.assign .none (.const (x := ([] : (List Box))) (fun M w => ⟨_, ⟨none, 0, rfl, Nat.le_refl _, by decide, rfl⟩, rfl⟩))) rfl ?_
  refine .consW (.alloc zo41 rfl) rfl rfl ?_
  refine .consA (.assign .none (.int (by decide))) rfl ?_
  refine .nil ?_
  refine .then ?_
  obtain ⟨v1, hv1, h⟩ := bnd_some h
  refine .reB (t := 5) rfl (congrArg (cont 41) hv1) ?_
  refine .nameBox (t := 5) (g := 5001) rfl rfl (fun m5001 => ?_)
  refine .seq ?_
  refine .region [([], [7])] mixed (by kernel_rfl) ?_
  refine .consW (.nilRow (T := 41) (α := Box) rfl) rfl rfl ?_
  refine .nil ?_
  refine .then ?_
  refine .nameRow (t := 7) (g := 5002) rfl rfl rfl (fun s5002 => ?_)
  refine .seq ?_
  refine .seq ?_
  refine .region [] mixed (by kernel_rfl) ?_
  refine .cons (.load .none ty25 (.s rfl)) rfl ?_
  refine .cons (.move .none (.s rfl)) rfl ?_
  obtain ⟨r1, hv2, h⟩ := bind_some h
  refine .cons (.call .none (ref_RootsOf_ok hv2) (.cons (.s rfl) (.cons (.s rfl) .nil))) rfl ?_
  refine .cons (.len .none sl35 (.s rfl)) rfl ?_
  refine .cons (.move .none (.int (by decide))) rfl ?_
  refine .nil ?_
  refine .then ?_
  obtain ⟨j_3, h, hK3⟩ := bind_some h
  refine .thenJ (ι := (List Box)) (fun j_3 => []) (fun j_3 => [(7, some (rowV 41 j_3))]) (fun s => j_3 = s) (.cons (t := 5) rfl Sub.nil) (.cons (t := 5001) rfl SubB.nil) ?_ (fun j_3' hj3 => ?_)
  · skip
    refine .block ?_
    refine .anon (t := 7) (g := 5002) rfl rfl trivial rfl ?_
    refine .rforL h (fun p4_ => [(18, ⟨True, rep p4_.1⟩)]) (fun p4_ => [(7, some (rowV 41 p4_.2))]) (.cons (t := 18) rfl Sub.nil) (.cons (t := 7) rfl SubB.nil) (.cons (t := 2) rfl (.cons (t := 5) rfl (.cons (t := 16) rfl (.cons (t := 17) rfl Sub.nil)))) (.cons (t := 5001) rfl SubB.nil) (fun p4_ o_4 h hD4 => ?_)
    refine .nameRow (t := 7) (g := 5003) rfl rfl rfl (fun s5003 => ?_)
    refine .seq ?_
    refine .region [] mixed (by kernel_rfl) ?_
    refine .cons (.lt .none (.s rfl) (.s rfl)) rfl ?_
    refine .nil ?_
    refine .then ?_
    refine .seq ?_
    refine .cond (t := 19) rfl trivial (fun hb5 => ?_) (fun hb5 => ?_)
    · replace h := bif_t h hb5
      refine .skip ?_
      refine .then ?_
      refine .seq ?_
      obtain ⟨j_6, h, hK6⟩ := bind_some h
      unfold ref_RootBoxes_L1 at h
      refine .thenJ (ι := (List Box)) (fun j_6 => []) (fun j_6 => [(7, some (rowV 41 j_6))]) (fun s => j_6 = s) (.cons (t := 2) rfl (.cons (t := 5) rfl (.cons (t := 16) rfl (.cons (t := 17) rfl (.cons (t := 18) rfl Sub.nil))))) (.cons (t := 5001) rfl SubB.nil) ?_ (fun j_6' hj6 => ?_)
      · skip
        refine .block ?_
        refine .seq ?_
        refine .region [] mixed (by kernel_rfl) ?_
        obtain ⟨hn7, h⟩ := need_some h
        refine .cons (.indexAddr .none sl35 ty9 (.s rfl) (.s rfl) (fun _ => hn7)) rfl ?_
        refine .cons (.load .none ty9 (.s rfl)) rfl ?_
        refine .cons (.assign .none (.s rfl)) rfl ?_
        refine .nil ?_
        refine .then ?_
        refine .seq ?_
        refine .region [([], []), ([], []), ([], []), ([], []), ([], []), ([], []), ([], [10]), ([10], [10]), ([], [])] mixed (by kernel_rfl) ?_
        refine .consA (.load .none ty25 (.s rfl)) rfl ?_
        refine .consA (.move .none (.s rfl)) rfl ?_
        obtain ⟨r2, hv8, h⟩ := bind_some h
        refine .consA (.call .none (ref_BoxOfNode_ok hv8) (.cons (.s rfl) (.cons (.s rfl) .nil))) rfl ?_
        refine .consA (.move .none (.s rfl)) rfl ?_
        refine .consA (.extract .none (.s rfl) rfl) rfl ?_
        refine .consA (.extract .none (.s rfl) rfl) rfl ?_
        refine .consW (.alloc zo41 rfl) rfl rfl ?_
        refine .consN (.store ty41 rfl rfl (.s rfl)) rfl ?_
        refine .consA (.assign .none (.s rfl)) rfl ?_
        refine .nil ?_
        refine .then ?_
        refine .freeze (t := 10) rfl rfl (.cons (t := 5001) rfl (.cons (t := 5003) rfl SubB.nil)) rfl ?_
        refine .region [([], []), ([], []), ([], []), ([5003], [31, 5003]), ([31], [7, 31])] mixed (by kernel_rfl) ?_
        refine .consA (.move .none (.s rfl)) rfl ?_
        refine .consA (.load .none ty41 (.s rfl)) rfl ?_
        refine .consA (.buildSlice (xs := [_]) .none sl51 ty41 hz41 (.cons (.s rfl) .nil) rfl (by decide)) rfl ?_
        obtain ⟨hn9, h⟩ := need_some h
        refine .consW (.append (k := 5003) rk51 rfl (.told (.s rfl) rfl) (.s rfl) hn9) rfl rfl ?_
        refine .consW (.passRow rfl (.tmp rfl)) rfl rfl ?_
        refine .nil ?_
        refine .blkNormal ?_
        exact Ends.join _ (some_eq h) (.cons (t := 2) rfl (.cons (t := 5) rfl (.cons (t := 16) rfl (.cons (t := 17) rfl (.cons (t := 18) rfl Sub.nil))))) (.cons (t := 7) rfl (.cons (t := 5001) rfl SubB.nil))
      · subst hj6; have h := hK6; clear hK6
        refine .nameRow (t := 7) (g := 5004) rfl rfl rfl (fun s5004 => ?_)
        refine .region [] mixed (by kernel_rfl) ?_
        refine .cons (.addW .none (.s rfl) (.int (by decide))) rfl ?_
        refine .cons (.move .none (.s rfl)) rfl ?_
        refine .nil ?_
        refine .anon (t := 7) (g := 5004) rfl rfl trivial rfl ?_
        exact Ends.againL (some_eq h) (.cons (t := 18) rfl (.cons (t := 2) rfl (.cons (t := 5) rfl (.cons (t := 16) rfl (.cons (t := 17) rfl Sub.nil))))) (.cons (t := 7) rfl (.cons (t := 5001) rfl SubB.nil))
    · replace h := bif_f h hb5
      refine .exit ?_
      refine .thenExit ?_
      refine .thenExit ?_
      refine .blkExit ?_
      refine .anon (t := 7) (g := 5003) rfl rfl trivial rfl ?_
      replace h := hD4 _ (some_eq h)
      exact Ends.join _ (some_eq h) (.cons (t := 5) rfl Sub.nil) (.cons (t := 7) rfl (.cons (t := 5001) rfl SubB.nil))
  · subst hj3; have h := hK3; clear hK3
    refine .freezeRowA (t := 7) rfl rfl (.cons (t := 5001) rfl SubB.nil) rfl ?_
    refine .seq ?_
    refine .region [([], []), ([], []), ([], []), ([], []), ([], []), ([], [12]), ([12], [12]), ([], [])] mixed (by kernel_rfl) ?_
    refine .consA (.move .none (.s rfl)) rfl ?_
    obtain ⟨r3, hv10, h⟩ := bind_some h
    refine .consA (.call .none (ref_HullOf_ok hv10) (.cons (.s rfl) .nil)) rfl ?_
    refine .consA (.move .none (.s rfl)) rfl ?_
    refine .consA (.extract .none (.s rfl) rfl) rfl ?_
    refine .consA (.extract .none (.s rfl) rfl) rfl ?_
    refine .consW (.alloc zo41 rfl) rfl rfl ?_
    refine .consN (.store ty41 rfl rfl (.s rfl)) rfl ?_
    refine .consA (.assign .none (.s rfl)) rfl ?_
    refine .nil ?_
    refine .then ?_
    refine .freeze (t := 12) rfl rfl (.cons (t := 5001) rfl SubB.nil) rfl ?_
    refine .seq ?_
    refine .region [([], []), ([], []), ([], []), ([], []), ([5001], [5001]), ([], [])] mixed (by kernel_rfl) ?_
    refine .consA (.move .none (.s rfl)) rfl ?_
    refine .consA (.load .none ty41 (.s rfl)) rfl ?_
    refine .consA (.move .none (.s rfl)) rfl ?_
    refine .consA (.assign .none (.s rfl)) rfl ?_
    refine .consN (.storeAt0 (g := 5001) ty41 rfl (.s rfl) (.s rfl)) rfl ?_
    refine .consA (.assign .none (.s rfl)) rfl ?_
    refine .nil ?_
    refine .then ?_
    refine .freezeBox (g := 5001) (ts := [5]) rfl (.cons (t := 5) rfl trivial .nil) SubB.nil rfl ?_
    refine .ret ?_
    obtain rfl := some_eq h
    exact Ends.ret3 (.inl rfl) Tryd.results42 (ResOK.tmp rfl trivial Imp.refl) (ResOK.cellR ty41 rfl trivial Imp.refl) (ResOK.tmp rfl trivial Imp.refl)

theorem ref_StepError_ok {dx1 : Int} {dy1 : Int} {r : Int}  (h : ref_StepError dx1 dy1 = some r) : FSpec Tryd.prog 44 [rep dx1, rep dy1] (rep r) := by
  unfold ref_StepError at h
  refine FSpec.intro (n := 14) fnok44 Tryd.func44 rfl Tryd.ntmps44 rfl (fun F => ?_)
  refine .seq ?_
  refine .region [] mixed (by kernel_rfl) ?_
  refine .cons (.assign .none (.int (by decide))) rfl ?_
  refine .nil ?_
  refine .then ?_
  refine .seq ?_
  refine .region [] mixed (by kernel_rfl) ?_
  refine .cons (.move .none (.s rfl)) rfl ?_
  obtain ⟨r1, hv1, h⟩ := bind_some h
  refine .cons (.call .none (ref_In_ok hv1) (.cons (.s rfl) (.cons (.int (by decide)) (.cons (.int (by decide)) .nil)))) rfl ?_
  refine .cons (.not .none (.s rfl)) rfl ?_
  refine .cons (.move .none (.s rfl)) rfl ?_
  refine .cons (.move (.at rfl rfl) (.s rfl)) rfl ?_
  obtain ⟨r2, hv2, h⟩ := bind_some h
  refine .cons (.callIf (.at rfl rfl) fnok45 (fun hg => ref_In_ok ((fun hg => gd_some hv2 ((notT hg.2))) hg)) (.cons (.tmp rfl id) (.cons (.int (by decide)) (.cons (.int (by decide)) .nil))) (fun h => h)) rfl ?_
  refine .cons (.not (.at rfl rfl) (.tmp rfl id)) rfl ?_
  refine .cons (.pickOr .none (.s rfl) (.tmp rfl id)) rfl ?_
  obtain ⟨r3, hv3, h⟩ := bind_some h
  refine .cons (.call .none (ref_When_ok hv3) (.cons (.s rfl) (.cons (.int (by decide)) .nil))) rfl ?_
  refine .cons (.assign .none (.s rfl)) rfl ?_
  refine .nil ?_
  refine .then ?_
  refine .ret ?_
  obtain rfl := some_eq h
  exact Ends.ret1 (.inl rfl) Tryd.results44 (ResOK.tmp rfl trivial Imp.refl)

theorem ref_Touched_1_ok {g1 : Str} {c0_1 : DNode} {c1_1 : Doc} {r : Bool}  (h : ref_Touched_1 g1 c0_1 c1_1 = some r) : FSpec Tryd.prog 88 [rep g1, ref c0_1, ref c1_1] (rep r) := by
  unfold ref_Touched_1 at h
  refine FSpec.intro (n := 16) fnok88 Tryd.func88 rfl Tryd.ntmps88 rfl (fun F => ?_)
  refine .seq ?_
  refine .region [] mixed (by kernel_rfl) ?_
  refine .cons (.assign .none .bool) rfl ?_
  refine .nil ?_
  refine .then ?_
  refine .seq ?_
  refine .region [] mixed (by kernel_rfl) ?_
  refine .cons (.fieldAddr .none fd43_0 hfd43_0 (.s rfl)) rfl ?_
  refine .cons (.load .none ty9 (.s rfl)) rfl ?_
  refine .cons (.move .none (.s rfl)) rfl ?_
  refine .cons (.eqS .none (eqAt_str Tryd.underlying9) (.s rfl) (.s rfl)) rfl ?_
  refine .cons (.move .none (.s rfl)) rfl ?_
  refine .cons (.load (.at rfl rfl) ty25 (.s rfl)) rfl ?_
  refine .cons (.fieldAddr (.at rfl rfl) fd43_0 hfd43_0 (.s rfl)) rfl ?_
  refine .cons (.load (.at rfl rfl) ty9 (.tmp rfl id)) rfl ?_
  refine .cons (.move (.at rfl rfl) (.s rfl)) rfl ?_
  obtain ⟨r1, hv1, h⟩ := bind_some h
  refine .cons (.callIf (.at rfl rfl) fnok89 (fun hg => ref_IsBelow_ok ((fun hg => gd_some hv1 ((notT hg.2))) hg)) (.cons (.tmp rfl id) (.cons (.tmp rfl id) (.cons (.tmp rfl id) .nil))) (fun h => h)) rfl ?_
  refine .cons (.pickOr .none (.s rfl) (.tmp rfl id)) rfl ?_
  refine .cons (.assign .none (.s rfl)) rfl ?_
  refine .nil ?_
  refine .then ?_
  refine .ret ?_
  obtain rfl := some_eq h
  exact Ends.ret1 (.inl rfl) Tryd.results88 (ResOK.tmp rfl trivial Imp.refl)

theorem ref_Touched_ok {d1 : Doc} {ids1 : (List Str)} {r : (GMap Str Bool)}  (h : ref_Touched d1 ids1 = some r) : FSpec Tryd.prog 46 [rep d1, rep ids1] (rep r) := by
  unfold ref_Touched at h
  refine FSpec.intro (n := 24) fnok46 Tryd.func46 rfl Tryd.ntmps46 rfl (fun F => ?_)
  refine .seq ?_
  refine .region [] mixed (by kernel_rfl) ?_
  refine .cons (.box .none (.s rfl)) rfl ?_
  refine .cons (.assign .none (.const (x := (GMap.nil : (GMap Str Bool))) (fun M w => ⟨_, map_zero, rfl⟩))) rfl ?_
  refine .nil ?_
  refine .then ?_
  refine .seq ?_
  refine .region [([], [8]), ([8], [5, 8])] mixed (by kernel_rfl) ?_
  refine .consW (.makeMap (K := Str) (V := Bool) rfl) rfl rfl ?_
  refine .consW (.passRow rfl (.tmp rfl)) rfl rfl ?_
  refine .nil ?_
  refine .then ?_
  obtain ⟨m1, hv1, h⟩ := bnd_some h
  refine .reB (t := 5) rfl (congrArg mapV hv1) ?_
  refine .nameMap (t := 5) (g := 5001) rfl rfl rfl (fun s5001 => ?_)
  refine .seq ?_
  refine .seq ?_
  refine .region [] mixed (by kernel_rfl) ?_
  refine .cons (.fieldAddr .none fd25_0 hfd25_0 (.s rfl)) rfl ?_
  refine .cons (.load .none ty22 (.s rfl)) rfl ?_
  refine .cons (.len .none sl22 (.s rfl)) rfl ?_
  refine .cons (.move .none (.int (by decide))) rfl ?_
  refine .nil ?_
  refine .then ?_
  obtain ⟨j_2, h, hK2⟩ := bind_some h
  refine .thenJ (ι := (GMap Str Bool)) (fun j_2 => []) (fun j_2 => [(5001, some (CPred.at s5001 (mapV j_2)))]) (fun s => j_2 = s) (.cons (t := 5) rfl Sub.nil) SubB.nil ?_ (fun j_2' hj2 => ?_)
  · skip
    refine .block ?_
    refine .rforL h (fun p3_ => [(12, ⟨True, rep p3_.1⟩)]) (fun p3_ => [(5001, some (CPred.at s5001 (mapV p3_.2)))]) (.cons (t := 12) rfl Sub.nil) (.cons (t := 5001) rfl SubB.nil) (.cons (t := 1) rfl (.cons (t := 2) rfl (.cons (t := 5) rfl (.cons (t := 10) rfl (.cons (t := 11) rfl Sub.nil))))) SubB.nil (fun p3_ o_3 h hD3 => ?_)
    refine .seq ?_
    refine .region [] mixed (by kernel_rfl) ?_
    refine .cons (.lt .none (.s rfl) (.s rfl)) rfl ?_
    refine .nil ?_
    refine .then ?_
    refine .seq ?_
    refine .cond (t := 13) rfl trivial (fun hb4 => ?_) (fun hb4 => ?_)
    · replace h := bif_t h hb4
      refine .skip ?_
      refine .then ?_
      refine .seq ?_
      obtain ⟨j_5, h, hK5⟩ := bind_some h
      unfold ref_Touched_L1 at h
      refine .thenJ (ι := (GMap Str Bool)) (fun j_5 => []) (fun j_5 => [(5001, some (CPred.at s5001 (mapV j_5)))]) (fun s => j_5 = s) (.cons (t := 1) rfl (.cons (t := 2) rfl (.cons (t := 5) rfl (.cons (t := 10) rfl (.cons (t := 11) rfl (.cons (t := 12) rfl Sub.nil)))))) SubB.nil ?_ (fun j_5' hj5 => ?_)
      · skip
        refine .block ?_
        refine .seq ?_
        refine .region [([], []), ([], []), ([], [7]), ([7], [7])] mixed (by kernel_rfl) ?_
        obtain ⟨hn6, h⟩ := need_some h
        refine .consA (.indexAddr .none sl22 ty43 (.s rfl) (.s rfl) (fun _ => hn6)) rfl ?_
        obtain ⟨v1, hv7, h⟩ := bnd_some h
        refine .consA (.re hv7 (.load .none ty43 (.s rfl))) rfl ?_
        refine .consW (.alloc zo43 rfl) rfl rfl ?_
        refine .consN (.store ty43 rfl rfl (.s rfl)) rfl ?_
        refine .nil ?_
        refine .then ?_
        refine .freeze (t := 7) rfl rfl (.cons (t := 5001) rfl SubB.nil) rfl ?_
        refine .region [([], []), ([], []), ([], []), ([], []), ([], []), ([], []), ([5001], [5001])] mixed (by kernel_rfl) ?_
        refine .consA (.move .none (.s rfl)) rfl ?_
        refine .consA (.fieldAddr .none fd43_0 hfd43_0 (.s rfl)) rfl ?_
        refine .consA (.load .none ty9 (.s rfl)) rfl ?_
        refine .consA (.move .none (.s rfl)) rfl ?_
        refine .consA (.makeFunc (ι := Str × Bool) (pre := fun i => (fun x0 => ref_Touched_1 x0 v1 d1) i.1 = some i.2) (Ss := fun i => [rep i.1]) (S := fun i => rep i.2) .none fnok88 (fun i h => ref_Touched_1_ok h) (.cons (.s rfl) (.cons (.s rfl) .nil))) rfl ?_
        obtain ⟨r1, hv8, h⟩ := bind_some h
        refine .consA (.call .none (slices_ContainsFunc_string_ok hv8) (.cons (.s rfl) (.cons (.s rfl) .nil))) rfl ?_
        refine .consN (.mapUpdate (q := 5001) mo84 (.s rfl) rfl (.s rfl) (.s rfl)) rfl ?_
        refine .nil ?_
        refine .blkNormal ?_
        exact Ends.join _ (some_eq h) (.cons (t := 1) rfl (.cons (t := 2) rfl (.cons (t := 5) rfl (.cons (t := 10) rfl (.cons (t := 11) rfl (.cons (t := 12) rfl Sub.nil)))))) (.cons (t := 5001) rfl SubB.nil)
      · subst hj5; have h := hK5; clear hK5
        refine .region [] mixed (by kernel_rfl) ?_
        refine .cons (.addW .none (.s rfl) (.int (by decide))) rfl ?_
        refine .cons (.move .none (.s rfl)) rfl ?_
        refine .nil ?_
        exact Ends.againL (some_eq h) (.cons (t := 12) rfl (.cons (t := 1) rfl (.cons (t := 2) rfl (.cons (t := 5) rfl (.cons (t := 10) rfl (.cons (t := 11) rfl Sub.nil)))))) (.cons (t := 5001) rfl SubB.nil)
    · replace h := bif_f h hb4
      refine .exit ?_
      refine .thenExit ?_
      refine .thenExit ?_
      refine .blkExit ?_
      replace h := hD3 _ (some_eq h)
      exact Ends.join _ (some_eq h) (.cons (t := 5) rfl Sub.nil) (.cons (t := 5001) rfl SubB.nil)
  · subst hj2; have h := hK2; clear hK2
    refine .freezeAt (g := 5001) (S := rep j_2) (ts := [5]) rfl (.cons (t := 5) rfl trivial .nil) SubB.nil rfl (fun M D w h hms => mapV_rep h hms) ?_
    refine .seq ?_
    refine .region [] mixed (by kernel_rfl) ?_
    refine .cons (.move .none (.s rfl)) rfl ?_
    refine .cons (.assign .none (.s rfl)) rfl ?_
    refine .nil ?_
    refine .then ?_
    refine .ret ?_
    obtain rfl := some_eq h
    exact Ends.ret1 (.inl rfl) Tryd.results46 (ResOK.tmp rfl trivial Imp.refl)

theorem ref_Abs_ok {n1 : Int} {r : Int}  (h : ref_Abs n1 = some r) : FSpec Tryd.prog 91 [rep n1] (rep r) := by
  unfold ref_Abs at h
  refine FSpec.intro (n := 7) fnok91 Tryd.func91 rfl Tryd.ntmps91 rfl (fun F => ?_)
  refine .seq ?_
  refine .region [] mixed (by kernel_rfl) ?_
  refine .cons (.assign .none (.int (by decide))) rfl ?_
  refine .nil ?_
  refine .then ?_
  refine .seq ?_
  refine .region [] mixed (by kernel_rfl) ?_
  refine .cons (.move .none (.s rfl)) rfl ?_
  refine .cons (.move .none (.s rfl)) rfl ?_
  refine .cons (.negW .none (.s rfl)) rfl ?_
  refine .cons (.max2 .none (.s rfl) (.s rfl)) rfl ?_
  refine .cons (.assign .none (.s rfl)) rfl ?_
  refine .nil ?_
  refine .then ?_
  refine .ret ?_
  obtain rfl := some_eq h
  exact Ends.ret1 (.inl rfl) Tryd.results91 (ResOK.tmp rfl trivial Imp.refl)

theorem ref_snapped_1_ok {a1 : Int} {b1 : Int} {c0_1 : Int} {c1_1 : Bool} {c2_1 : Int} {r : (Bool × Int)} {m48 : Nat} {m49 : Nat} (h : ref_snapped_1 a1 b1 c0_1 c1_1 c2_1 = some r) : FSpecO Tryd.prog 90 [rep a1, rep b1, ref c0_1, isV (ptr m48 0), isV (ptr m49 0)] [(ptr m48 0, cont 4 c1_1), (ptr m49 0, cont 3 c2_1)] (anyV) [some (cont 4 r.1), some (cont 3 r.2)] := by
  unfold ref_snapped_1 at h
  refine FSpecO.intro (n := 48) fnok90 Tryd.func90 rfl Tryd.ntmps90 rfl (fun F => ?_)
  refine .seq ?_
  refine .seq ?_
  refine .region [] mixed (by kernel_rfl) ?_
  refine .cons (.move .none (.s rfl)) rfl ?_
  refine .cons (.move .none (.s rfl)) rfl ?_
  refine .cons (.subW .none (.s rfl) (.s rfl)) rfl ?_
  refine .cons (.rem .none (.s rfl) (.int (by decide)) (fun _ => by decide)) rfl ?_
  refine .cons (.neI .none (.s rfl) (.int (by decide))) rfl ?_
  refine .cons (.move .none (.s rfl)) rfl ?_
  refine .cons (.move (.at rfl rfl) (.s rfl)) rfl ?_
  refine .cons (.move (.at rfl rfl) (.s rfl)) rfl ?_
  refine .cons (.subW (.at rfl rfl) (.tmp rfl id) (.tmp rfl id)) rfl ?_
  obtain ⟨r1, hv1, h⟩ := bind_some h
  refine .cons (.callIf (.at rfl rfl) fnok91 (fun hg => ref_Abs_ok ((fun hg => gd_some hv1 ((notT hg.2))) hg)) (.cons (.tmp rfl id) .nil) (fun h => h)) rfl ?_
  refine .cons (.load (.at rfl rfl) ty3 (.s rfl)) rfl ?_
  refine .cons (.mulW (.at rfl rfl) (.int (by decide)) (.tmp rfl id)) rfl ?_
  refine .cons (.gt (.at rfl rfl) (.tmp rfl id) (.tmp rfl id)) rfl ?_
  refine .cons (.pickOr .none (.s rfl) (.tmp rfl id)) rfl ?_
  refine .nil ?_
  refine .then ?_
  refine .cond (t := 21) rfl trivial (fun hb2 => ?_) (fun hb2 => ?_)
  · replace h := bif_t h hb2
    refine .ret ?_
    refine .thenRet ?_
    obtain rfl := some_eq h
    exact Ends.ret0O (.inl rfl) [48, 49] Tryd.results90 (by decide) (.held rfl (.held rfl .nil)) 
  · replace h := bif_f h hb2
    refine .skip ?_
    refine .then ?_
    refine .seq ?_
    refine .region [] mixed (by kernel_rfl) ?_
    refine .cons (.move .none (.s rfl)) rfl ?_
    refine .cons (.move .none (.s rfl)) rfl ?_
    refine .cons (.subW .none (.s rfl) (.s rfl)) rfl ?_
    refine .cons (.quo .none (.s rfl) (.int (by decide)) (fun _ => by decide)) rfl ?_
    obtain ⟨s1, hv3, h⟩ := bnd_some h
    refine .cons (.re hv3 (.assign .none (.s rfl))) rfl ?_
    refine .nil ?_
    refine .then ?_
    refine .seq ?_
    refine .region [([48], []), ([], []), ([], []), ([], []), ([], []), ([49], []), ([], []), ([], []), ([], []), ([], []), ([], []), ([], []), ([49], []), ([], []), ([], []), ([], []), ([], []), ([49], []), ([], []), ([], []), ([], [])] mixed (by kernel_rfl) ?_
    refine .consA (.loadAt0 (k := 48) .none ty4 rfl (.s rfl)) rfl ?_
    refine .consA (.not .none (.s rfl)) rfl ?_
    refine .consA (.move .none (.s rfl)) rfl ?_
    refine .consA (.move (.at rfl rfl) (.s rfl)) rfl ?_
    obtain ⟨r2, hv4, h⟩ := bind_some h
    refine .consA (.callIf (.at rfl rfl) fnok91 (fun hg => ref_Abs_ok ((fun hg => gd_some hv4 ((notT hg.2))) hg)) (.cons (.tmp rfl id) .nil) (fun h => h)) rfl ?_
    refine .consA (.loadAt0 (k := 49) (.at rfl rfl) ty3 rfl (.s rfl)) rfl ?_
    obtain ⟨r3, hv5, h⟩ := bind_some h
    refine .consA (.callIf (.at rfl rfl) fnok91 (fun hg => ref_Abs_ok ((fun hg => gd_some hv5 ((notT hg.2))) hg)) (.cons (.tmp rfl id) .nil) (fun h => h)) rfl ?_
    refine .consA (.lt (.at rfl rfl) (.tmp rfl id) (.tmp rfl id)) rfl ?_
    refine .consA (.pickOr .none (.s rfl) (.tmp rfl id)) rfl ?_
    refine .consA (.move .none (.s rfl)) rfl ?_
    refine .consA (.move (.at rfl rfl) (.s rfl)) rfl ?_
    obtain ⟨r4, hv6, h⟩ := bind_some h
    refine .consA (.callIf (.at rfl rfl) fnok91 (fun hg => ref_Abs_ok ((fun hg => gd_some hv6 ((notT hg.2))) hg)) (.cons (.tmp rfl id) .nil) (fun h => h)) rfl ?_
    refine .consA (.loadAt0 (k := 49) (.at rfl rfl) ty3 rfl (.s rfl)) rfl ?_
    obtain ⟨r5, hv7, h⟩ := bind_some h
    refine .consA (.callIf (.at rfl rfl) fnok91 (fun hg => ref_Abs_ok ((fun hg => gd_some hv7 ((notT hg.2))) hg)) (.cons (.tmp rfl id) .nil) (fun h => h)) rfl ?_
    refine .consA (.eqI (.at rfl rfl) (.tmp rfl id) (.tmp rfl id)) rfl ?_
    refine .consA (.move (.at rfl rfl) (.tmp rfl id)) rfl ?_
    refine .consA (.move (.at rfl rfl) (.s rfl)) rfl ?_
    refine .consA (.loadAt0 (k := 49) (.at rfl rfl) ty3 rfl (.s rfl)) rfl ?_
    refine .consA (.gt (.at rfl rfl) (.tmp rfl id) (.tmp rfl id)) rfl ?_
    refine .consA (.pickAnd (.at rfl rfl) (.tmp rfl id) (.tmp rfl id)) rfl ?_
    refine .consA (.pickOr .none (.s rfl) (.tmp rfl id)) rfl ?_
    refine .nil ?_
    refine .then ?_
    refine .cond (t := 46) rfl trivial (fun hb8 => ?_) (fun hb8 => ?_)
    · replace h := bif_t h hb8
      refine .region [([], []), ([49], [49]), ([48], [48])] mixed (by kernel_rfl) ?_
      refine .consA (.move .none (.s rfl)) rfl ?_
      refine .consN (.storeAt0 (g := 49) ty3 rfl (.s rfl) (.s rfl)) rfl ?_
      refine .consN (.storeAt0 (g := 48) ty4 rfl (.s rfl) .bool) rfl ?_
      refine .nil ?_
      obtain rfl := some_eq h
      exact Ends.ret0O (.inr rfl) [48, 49] Tryd.results90 (by decide) (.held rfl (.held rfl .nil)) 
    · replace h := bif_f h hb8
      refine .skip ?_
      obtain rfl := some_eq h
      exact Ends.ret0O (.inr rfl) [48, 49] Tryd.results90 (by decide) (.held rfl (.held rfl .nil)) 

theorem ref_snapped_ok {mine1 : (Arr 2 Int)} {others1 : (List (Arr 2 Int))} {reach1 : Int} {r : Int}  (h : ref_snapped mine1 others1 reach1 = some r) : FSpec Tryd.prog 47 [rep mine1, rep others1, rep reach1] (rep r) := by
  unfold ref_snapped at h
  refine FSpec.intro (n := 50) fnok47 Tryd.func47 rfl Tryd.ntmps47 rfl (fun F => ?_)
  refine .seq ?_
  refine .region [] mixed (by kernel_rfl) ?_
  refine .cons (.box .none (.s rfl)) rfl ?_
  refine .cons (.box .none (.s rfl)) rfl ?_
  refine .cons (.assign .none (.int (by decide))) rfl ?_
  refine .nil ?_
  refine .then ?_
  refine .seq ?_
  refine .region [([], [7]), ([], [8]), ([7], [7]), ([8], [8])] mixed (by kernel_rfl) ?_
  refine .consW (.alloc zo3 rfl) rfl rfl ?_
  refine .consW (.alloc zo4 rfl) rfl rfl ?_
  refine .consN (.store ty3 rfl rfl (.int (by decide))) rfl ?_
  refine .consN (.store ty4 rfl rfl .bool) rfl ?_
  refine .nil ?_
  refine .then ?_
  refine .nameBox (t := 7) (g := 5001) rfl rfl (fun m5001 => ?_)
  refine .nameBox (t := 8) (g := 5002) rfl rfl (fun m5002 => ?_)
  refine .seq ?_
  refine .region [] mixed (by kernel_rfl) ?_
  refine .cons (.makeFuncC (Cs := [ref reach1, isV (ptr m5002 0), isV (ptr m5001 0)]) .none (.cons (.s rfl) (.cons (.s rfl) (.cons (.s rfl) .nil)))) rfl ?_
  refine .cons (.assign .none (.s rfl)) rfl ?_
  refine .nil ?_
  refine .then ?_
  refine .seq ?_
  refine .seq ?_
  refine .region [] mixed (by kernel_rfl) ?_
  refine .cons (.move .none (.s rfl)) rfl ?_
  refine .cons (.len .none sl86 (.s rfl)) rfl ?_
  refine .cons (.move .none (.int (by decide))) rfl ?_
  refine .nil ?_
  refine .then ?_
  obtain ⟨j_1, h, hK1⟩ := bind_some h
  refine .thenJ (ι := (Int × Bool)) (fun j_1 => []) (fun j_1 => [(5001, some (boxAt m5001 3 j_1.1)), (5002, some (boxAt m5002 4 j_1.2))]) (fun s => j_1 = s) (.cons (t := 7) rfl (.cons (t := 8) rfl Sub.nil)) SubB.nil ?_ (fun j_1' hj1 => ?_)
  · skip
    refine .block ?_
    refine .rforL h (fun p2_ => [(17, ⟨True, rep p2_.1⟩)]) (fun p2_ => [(5001, some (boxAt m5001 3 p2_.2.1)), (5002, some (boxAt m5002 4 p2_.2.2))]) (.cons (t := 17) rfl Sub.nil) (.cons (t := 5001) rfl (.cons (t := 5002) rfl SubB.nil)) (.cons (t := 3) rfl (.cons (t := 5) rfl (.cons (t := 7) rfl (.cons (t := 8) rfl (.cons (t := 9) rfl (.cons (t := 15) rfl (.cons (t := 16) rfl Sub.nil))))))) SubB.nil (fun p2_ o_2 h hD2 => ?_)
    refine .seq ?_
    refine .region [] mixed (by kernel_rfl) ?_
    refine .cons (.lt .none (.s rfl) (.s rfl)) rfl ?_
    refine .nil ?_
    refine .then ?_
    refine .seq ?_
    refine .cond (t := 18) rfl trivial (fun hb3 => ?_) (fun hb3 => ?_)
    · replace h := bif_t h hb3
      refine .skip ?_
      refine .then ?_
      refine .seq ?_
      obtain ⟨j_4, h, hK4⟩ := bind_some h
      unfold ref_snapped_L1 at h
      refine .thenJ (ι := (Int × Bool)) (fun j_4 => []) (fun j_4 => [(5001, some (boxAt m5001 3 j_4.1)), (5002, some (boxAt m5002 4 j_4.2))]) (fun s => j_4 = s) (.cons (t := 3) rfl (.cons (t := 5) rfl (.cons (t := 7) rfl (.cons (t := 8) rfl (.cons (t := 9) rfl (.cons (t := 15) rfl (.cons (t := 16) rfl (.cons (t := 17) rfl Sub.nil)))))))) SubB.nil ?_ (fun j_4' hj4 => ?_)
      · skip
        refine .block ?_
        refine .seq ?_
        refine .region [([], []), ([], []), ([], [11]), ([11], [11])] mixed (by kernel_rfl) ?_
        obtain ⟨hn5, h⟩ := need_some h
        refine .consA (.indexAddr .none sl86 ty87 (.s rfl) (.s rfl) (fun _ => hn5)) rfl ?_
        obtain ⟨v1, hv6, h⟩ := bnd_some h
        refine .consA (.re hv6 (.load .none ty87 (.s rfl))) rfl ?_
        refine .consW (.alloc zo87 rfl) rfl rfl ?_
        refine .consN (.store ty87 rfl rfl (.s rfl)) rfl ?_
        refine .nil ?_
        refine .then ?_
        refine .freeze (t := 11) rfl rfl (.cons (t := 5001) rfl (.cons (t := 5002) rfl SubB.nil)) rfl ?_
        refine .seq ?_
        refine .seq ?_
        refine .region [] mixed (by kernel_rfl) ?_
        refine .cons (.indexAddrA .none ao87 ty3 (.s rfl) (.int (by decide)) (fun _ => by decide)) rfl ?_
        refine .cons (.load .none ty3 (.s rfl)) rfl ?_
        refine .cons (.indexAddrA .none ao87 ty3 (.s rfl) (.int (by decide)) (fun _ => by decide)) rfl ?_
        refine .cons (.load .none ty3 (.s rfl)) rfl ?_
        obtain ⟨v2, hv7, h⟩ := bnd_some h
        refine .cons (.re hv7 (.buildSlice (xs := [_, _]) .none sl59 ty3 hz3 (.cons (.s rfl) (.cons (.s rfl) .nil)) rfl (by decide))) rfl ?_
        refine .cons (.len .none sl59 (.s rfl)) rfl ?_
        refine .cons (.move .none (.int (by decide))) rfl ?_
        refine .nil ?_
        refine .then ?_
        obtain ⟨j_8, h, hK8⟩ := bind_some h
        refine .thenJ (ι := (Int × Bool)) (fun j_8 => []) (fun j_8 => [(5001, some (boxAt m5001 3 j_8.1)), (5002, some (boxAt m5002 4 j_8.2))]) (fun s => j_8 = s) (.cons (t := 3) rfl (.cons (t := 5) rfl (.cons (t := 7) rfl (.cons (t := 8) rfl (.cons (t := 9) rfl (.cons (t := 11) rfl (.cons (t := 15) rfl (.cons (t := 16) rfl (.cons (t := 17) rfl Sub.nil))))))))) SubB.nil ?_ (fun j_8' hj8 => ?_)
        · skip
          refine .block ?_
          refine .rforL h (fun p9_ => [(27, ⟨True, rep p9_.1⟩)]) (fun p9_ => [(5001, some (boxAt m5001 3 p9_.2.1)), (5002, some (boxAt m5002 4 p9_.2.2))]) (.cons (t := 27) rfl Sub.nil) (.cons (t := 5001) rfl (.cons (t := 5002) rfl SubB.nil)) (.cons (t := 3) rfl (.cons (t := 5) rfl (.cons (t := 7) rfl (.cons (t := 8) rfl (.cons (t := 9) rfl (.cons (t := 11) rfl (.cons (t := 15) rfl (.cons (t := 16) rfl (.cons (t := 17) rfl (.cons (t := 25) rfl (.cons (t := 26) rfl Sub.nil))))))))))) SubB.nil (fun p9_ o_9 h hD9 => ?_)
          refine .seq ?_
          refine .region [] mixed (by kernel_rfl) ?_
          refine .cons (.lt .none (.s rfl) (.s rfl)) rfl ?_
          refine .nil ?_
          refine .then ?_
          refine .seq ?_
          refine .cond (t := 28) rfl trivial (fun hb10 => ?_) (fun hb10 => ?_)
          · replace h := bif_t h hb10
            refine .skip ?_
            refine .then ?_
            refine .seq ?_
            obtain ⟨j_11, h, hK11⟩ := bind_some h
            unfold ref_snapped_L2 at h
            refine .thenJ (ι := (Int × Bool)) (fun j_11 => []) (fun j_11 => [(5001, some (boxAt m5001 3 j_11.1)), (5002, some (boxAt m5002 4 j_11.2))]) (fun s => j_11 = s) (.cons (t := 3) rfl (.cons (t := 5) rfl (.cons (t := 7) rfl (.cons (t := 8) rfl (.cons (t := 9) rfl (.cons (t := 11) rfl (.cons (t := 15) rfl (.cons (t := 16) rfl (.cons (t := 17) rfl (.cons (t := 25) rfl (.cons (t := 26) rfl (.cons (t := 27) rfl Sub.nil)))))))))))) SubB.nil ?_ (fun j_11' hj11 => ?_)
            · skip
              refine .block ?_
              refine .seq ?_
              refine .region [] mixed (by kernel_rfl) ?_
              obtain ⟨hn12, h⟩ := need_some h
              refine .cons (.indexAddr .none sl59 ty3 (.s rfl) (.s rfl) (fun _ => hn12)) rfl ?_
              refine .cons (.load .none ty3 (.s rfl)) rfl ?_
              obtain ⟨a1, hv13, h⟩ := bnd_some h
              refine .cons (.re hv13 (.assign .none (.s rfl))) rfl ?_
              refine .nil ?_
              refine .then ?_
              refine .seq ?_
              refine .region [([], []), ([], []), ([], []), ([], []), ([5002, 5001], [5002, 5001])] mixed (by kernel_rfl) ?_
              refine .consA (.move .none (.s rfl)) rfl ?_
              refine .consA (.move .none (.s rfl)) rfl ?_
              refine .consA (.indexAddrA .none ao87 ty3 (.s rfl) (.int (by decide)) (fun _ => by decide)) rfl ?_
              refine .consA (.load .none ty3 (.s rfl)) rfl ?_
              obtain ⟨r1, hv14, h⟩ := bind_some h
              refine .consW (.callClo [5002, 5001] (Ss := [rep a1, rep (gx v1.l 0)]) (Cs := [ref reach1, isV (ptr m5002 0), isV (ptr m5001 0)]) (.s rfl) (ref_snapped_1_ok hv14) (.cons (.s rfl) (.cons (.s rfl) .nil)) (.cons (k := 5002) rfl (.cons (k := 5001) rfl .nil)) rfl (by decide) (by decide) (by intro d h; cases h; decide)) rfl rfl ?_
              refine .nil ?_
              refine .then ?_
              refine .region [([], []), ([], []), ([], []), ([], []), ([5002, 5001], [5002, 5001])] mixed (by kernel_rfl) ?_
              refine .consA (.move .none (.s rfl)) rfl ?_
              refine .consA (.move .none (.s rfl)) rfl ?_
              refine .consA (.indexAddrA .none ao87 ty3 (.s rfl) (.int (by decide)) (fun _ => by decide)) rfl ?_
              refine .consA (.load .none ty3 (.s rfl)) rfl ?_
              obtain ⟨r2, hv15, h⟩ := bind_some h
              refine .consW (.callClo [5002, 5001] (Ss := [rep a1, rep (gx v1.l 2)]) (Cs := [ref reach1, isV (ptr m5002 0), isV (ptr m5001 0)]) (.s rfl) (ref_snapped_1_ok hv15) (.cons (.s rfl) (.cons (.s rfl) .nil)) (.cons (k := 5002) rfl (.cons (k := 5001) rfl .nil)) rfl (by decide) (by decide) (by intro d h; cases h; decide)) rfl rfl ?_
              refine .nil ?_
              refine .blkNormal ?_
              exact Ends.join _ (some_eq h) (.cons (t := 3) rfl (.cons (t := 5) rfl (.cons (t := 7) rfl (.cons (t := 8) rfl (.cons (t := 9) rfl (.cons (t := 11) rfl (.cons (t := 15) rfl (.cons (t := 16) rfl (.cons (t := 17) rfl (.cons (t := 25) rfl (.cons (t := 26) rfl (.cons (t := 27) rfl Sub.nil)))))))))))) (.cons (t := 5001) rfl (.cons (t := 5002) rfl SubB.nil))
            · subst hj11; have h := hK11; clear hK11
              refine .region [] mixed (by kernel_rfl) ?_
              refine .cons (.addW .none (.s rfl) (.int (by decide))) rfl ?_
              refine .cons (.move .none (.s rfl)) rfl ?_
              refine .nil ?_
              exact Ends.againL (some_eq h) (.cons (t := 27) rfl (.cons (t := 3) rfl (.cons (t := 5) rfl (.cons (t := 7) rfl (.cons (t := 8) rfl (.cons (t := 9) rfl (.cons (t := 11) rfl (.cons (t := 15) rfl (.cons (t := 16) rfl (.cons (t := 17) rfl (.cons (t := 25) rfl (.cons (t := 26) rfl Sub.nil)))))))))))) (.cons (t := 5001) rfl (.cons (t := 5002) rfl SubB.nil))
          · replace h := bif_f h hb10
            refine .exit ?_
            refine .thenExit ?_
            refine .thenExit ?_
            refine .blkExit ?_
            replace h := hD9 _ (some_eq h)
            exact Ends.join _ (some_eq h) (.cons (t := 3) rfl (.cons (t := 5) rfl (.cons (t := 7) rfl (.cons (t := 8) rfl (.cons (t := 9) rfl (.cons (t := 11) rfl (.cons (t := 15) rfl (.cons (t := 16) rfl (.cons (t := 17) rfl Sub.nil))))))))) (.cons (t := 5001) rfl (.cons (t := 5002) rfl SubB.nil))
        · subst hj8; have h := hK8; clear hK8
          refine .region [([], []), ([], []), ([], []), ([], []), ([], []), ([5002, 5001], [5002, 5001])] mixed (by kernel_rfl) ?_
          refine .consA (.move .none (.s rfl)) rfl ?_
          refine .consA (.indexAddrA .none ao87 ty3 (.s rfl) (.int (by decide)) (fun _ => by decide)) rfl ?_
          refine .consA (.load .none ty3 (.s rfl)) rfl ?_
          refine .consA (.indexAddrA .none ao87 ty3 (.s rfl) (.int (by decide)) (fun _ => by decide)) rfl ?_
          refine .consA (.load .none ty3 (.s rfl)) rfl ?_
          obtain ⟨r3, hv16, h⟩ := bind_some h
          refine .consW (.callClo [5002, 5001] (Ss := [rep (gx mine1.l 1), rep (gx v1.l 1)]) (Cs := [ref reach1, isV (ptr m5002 0), isV (ptr m5001 0)]) (.s rfl) (ref_snapped_1_ok hv16) (.cons (.s rfl) (.cons (.s rfl) .nil)) (.cons (k := 5002) rfl (.cons (k := 5001) rfl .nil)) rfl (by decide) (by decide) (by intro d h; cases h; decide)) rfl rfl ?_
          refine .nil ?_
          refine .blkNormal ?_
          exact Ends.join _ (some_eq h) (.cons (t := 3) rfl (.cons (t := 5) rfl (.cons (t := 7) rfl (.cons (t := 8) rfl (.cons (t := 9) rfl (.cons (t := 15) rfl (.cons (t := 16) rfl (.cons (t := 17) rfl Sub.nil)))))))) (.cons (t := 5001) rfl (.cons (t := 5002) rfl SubB.nil))
      · subst hj4; have h := hK4; clear hK4
        refine .region [] mixed (by kernel_rfl) ?_
        refine .cons (.addW .none (.s rfl) (.int (by decide))) rfl ?_
        refine .cons (.move .none (.s rfl)) rfl ?_
        refine .nil ?_
        exact Ends.againL (some_eq h) (.cons (t := 17) rfl (.cons (t := 3) rfl (.cons (t := 5) rfl (.cons (t := 7) rfl (.cons (t := 8) rfl (.cons (t := 9) rfl (.cons (t := 15) rfl (.cons (t := 16) rfl Sub.nil)))))))) (.cons (t := 5001) rfl (.cons (t := 5002) rfl SubB.nil))
    · replace h := bif_f h hb3
      refine .exit ?_
      refine .thenExit ?_
      refine .thenExit ?_
      refine .blkExit ?_
      replace h := hD2 _ (some_eq h)
      exact Ends.join _ (some_eq h) (.cons (t := 7) rfl (.cons (t := 8) rfl Sub.nil)) (.cons (t := 5001) rfl (.cons (t := 5002) rfl SubB.nil))
  · subst hj1; have h := hK1; clear hK1
    refine .freezeBox (g := 5001) (ts := [7]) rfl (.cons (t := 7) rfl trivial .nil) SubB.nil rfl ?_
    refine .seq ?_
    refine .region [] mixed (by kernel_rfl) ?_
    refine .cons (.load .none ty3 (.s rfl)) rfl ?_
    refine .cons (.assign .none (.s rfl)) rfl ?_
    refine .nil ?_
    refine .then ?_
    refine .ret ?_
    obtain rfl := some_eq h
    exact Ends.ret1 (.inl rfl) Tryd.results47 (ResOK.tmp rfl trivial Imp.refl)

theorem ref_GuideOf_ok {d1 : Doc} {ids1 : (List Str)} {dx1 : Int} {dy1 : Int} {reach1 : Int} {r : (Int × Int × Int)}  (h : ref_GuideOf d1 ids1 dx1 dy1 reach1 = some r) : FSpec Tryd.prog 15 [rep d1, rep ids1, rep dx1, rep dy1, rep reach1] (tup [rep r.1, rep r.2.1, rep r.2.2]) := by
  unfold ref_GuideOf at h
  refine FSpec.intro (n := 149) fnok15 Tryd.func15 rfl Tryd.ntmps15 rfl (fun F => ?_)
  refine .seq ?_
  refine .region [] mixed (by kernel_rfl) ?_
  refine .cons (.box .none (.s rfl)) rfl ?_
  refine .cons (.assign .none (.int (by decide))) rfl ?_
  refine .cons (.assign .none (.int (by decide))) rfl ?_
  refine .cons (.assign .none (.int (by decide))) rfl ?_
  refine .nil ?_
  refine .then ?_
  refine .seq ?_
  refine .region [([], []), ([], []), ([], []), ([], []), ([], []), ([], []), ([], []), ([], [14]), ([], []), ([14], [14]), ([], [])] mixed (by kernel_rfl) ?_
  refine .consA (.load .none ty25 (.s rfl)) rfl ?_
  refine .consA (.move .none (.s rfl)) rfl ?_
  obtain ⟨r1, hv1, h⟩ := bind_some h
  refine .consA (.call .none (ref_RootBoxes_ok hv1) (.cons (.s rfl) (.cons (.s rfl) .nil))) rfl ?_
  refine .consA (.move .none (.s rfl)) rfl ?_
  refine .consA (.extract .none (.s rfl) rfl) rfl ?_
  refine .consA (.extract .none (.s rfl) rfl) rfl ?_
  refine .consA (.extract .none (.s rfl) rfl) rfl ?_
  refine .consW (.alloc zo41 rfl) rfl rfl ?_
  refine .consA (.assign .none (.s rfl)) rfl ?_
  refine .consN (.store ty41 rfl rfl (.s rfl)) rfl ?_
  refine .consA (.assign .none (.s rfl)) rfl ?_
  refine .nil ?_
  refine .then ?_
  refine .freeze (t := 14) rfl rfl SubB.nil rfl ?_
  refine .seq ?_
  refine .seq ?_
  refine .region [] mixed (by kernel_rfl) ?_
  refine .cons (.move .none (.s rfl)) rfl ?_
  refine .cons (.move .none (.s rfl)) rfl ?_
  refine .cons (.move .none (.s rfl)) rfl ?_
  obtain ⟨r2, hv2, h⟩ := bind_some h
  refine .cons (.call .none (ref_StepError_ok hv2) (.cons (.s rfl) (.cons (.s rfl) .nil))) rfl ?_
  refine .cons (.move .none (.s rfl)) rfl ?_
  obtain ⟨r3, hv3, h⟩ := bind_some h
  refine .cons (.call .none (ref_In_ok hv3) (.cons (.s rfl) (.cons (.int (by decide)) (.cons (.int (by decide)) .nil)))) rfl ?_
  refine .cons (.not .none (.s rfl)) rfl ?_
  obtain ⟨r4, hv4, h⟩ := bind_some h
  refine .cons (.call .none (ref_When_ok hv4) (.cons (.s rfl) (.cons (.int (by decide)) .nil))) rfl ?_
  refine .cons (.buildSlice (xs := [_, _, _]) .none sl136 ty26 hz26 (.cons (.s rfl) (.cons (.s rfl) (.cons (.s rfl) .nil))) rfl (by decide)) rfl ?_
  obtain ⟨e1, hv5, h⟩ := bind_some h
  refine .cons (.call .none (ref_First_ok hv5) (.cons (.s rfl) .nil)) rfl ?_
  refine .cons (.assign .none (.s rfl)) rfl ?_
  refine .nil ?_
  refine .then ?_
  refine .seq ?_
  refine .region [] mixed (by kernel_rfl) ?_
  refine .cons (.move .none (.s rfl)) rfl ?_
  refine .cons (.neI .none (.s rfl) (.int (by decide))) rfl ?_
  refine .nil ?_
  refine .then ?_
  refine .cond (t := 42) rfl trivial (fun hb6 => ?_) (fun hb6 => ?_)
  · replace h := bif_t h hb6
    refine .seq ?_
    refine .region [] mixed (by kernel_rfl) ?_
    refine .cons (.move .none (.s rfl)) rfl ?_
    refine .cons (.assign .none (.int (by decide))) rfl ?_
    refine .cons (.assign .none (.int (by decide))) rfl ?_
    refine .cons (.assign .none (.s rfl)) rfl ?_
    refine .nil ?_
    refine .then ?_
    refine .ret ?_
    refine .thenRet ?_
    obtain rfl := some_eq h
    exact Ends.ret3 (.inl rfl) Tryd.results15 (ResOK.tmp rfl trivial Imp.refl) (ResOK.tmp rfl trivial Imp.refl) (ResOK.tmp rfl trivial Imp.refl)
  · replace h := bif_f h hb6
    refine .skip ?_
    refine .then ?_
    refine .seq ?_
    refine .region [] mixed (by kernel_rfl) ?_
    refine .cons (.load .none ty25 (.s rfl)) rfl ?_
    refine .cons (.move .none (.s rfl)) rfl ?_
    obtain ⟨in1, hv7, h⟩ := bind_some h
    refine .cons (.call .none (ref_Touched_ok hv7) (.cons (.s rfl) (.cons (.s rfl) .nil))) rfl ?_
    refine .cons (.assign .none (.s rfl)) rfl ?_
    refine .nil ?_
    refine .then ?_
    refine .seq ?_
    refine .region [([], [17]), ([], [18])] mixed (by kernel_rfl) ?_
    refine .consW (.nilRow (T := 87) (α := (Arr 2 Int)) rfl) rfl rfl ?_
    refine .consW (.nilRow (T := 87) (α := (Arr 2 Int)) rfl) rfl rfl ?_
    refine .nil ?_
    refine .then ?_
    refine .nameRow (t := 17) (g := 5001) rfl rfl rfl (fun s5001 => ?_)
    refine .nameRow (t := 18) (g := 5002) rfl rfl rfl (fun s5002 => ?_)
    refine .seq ?_
    refine .seq ?_
    refine .region [] mixed (by kernel_rfl) ?_
    refine .cons (.fieldAddr .none fd25_0 hfd25_0 (.s rfl)) rfl ?_
    refine .cons (.load .none ty22 (.s rfl)) rfl ?_
    refine .cons (.len .none sl22 (.s rfl)) rfl ?_
    refine .cons (.move .none (.int (by decide))) rfl ?_
    refine .nil ?_
    refine .then ?_
    obtain ⟨j_8, h, hK8⟩ := bind_some h
    refine .thenJ (ι := ((List (Arr 2 Int)) × (List (Arr 2 Int)))) (fun j_8 => []) (fun j_8 => [(17, some (rowV 87 j_8.1)), (18, some (rowV 87 j_8.2))]) (fun s => j_8 = s) (.cons (t := 2) rfl (.cons (t := 3) rfl (.cons (t := 4) rfl (.cons (t := 14) rfl Sub.nil)))) SubB.nil ?_ (fun j_8' hj8 => ?_)
    · skip
      refine .block ?_
      refine .anon (t := 17) (g := 5001) rfl rfl trivial rfl ?_
      refine .anon (t := 18) (g := 5002) rfl rfl trivial rfl ?_
      refine .rforL h (fun p9_ => [(50, ⟨True, rep p9_.1⟩)]) (fun p9_ => [(17, some (rowV 87 p9_.2.1)), (18, some (rowV 87 p9_.2.2))]) (.cons (t := 50) rfl Sub.nil) (.cons (t := 17) rfl (.cons (t := 18) rfl SubB.nil)) (.cons (t := 2) rfl (.cons (t := 3) rfl (.cons (t := 4) rfl (.cons (t := 14) rfl (.cons (t := 16) rfl (.cons (t := 48) rfl (.cons (t := 49) rfl Sub.nil))))))) SubB.nil (fun p9_ o_9 h hD9 => ?_)
      refine .nameRow (t := 17) (g := 5003) rfl rfl rfl (fun s5003 => ?_)
      refine .nameRow (t := 18) (g := 5004) rfl rfl rfl (fun s5004 => ?_)
      refine .seq ?_
      refine .region [] mixed (by kernel_rfl) ?_
      refine .cons (.lt .none (.s rfl) (.s rfl)) rfl ?_
      refine .nil ?_
      refine .then ?_
      refine .seq ?_
      refine .cond (t := 51) rfl trivial (fun hb10 => ?_) (fun hb10 => ?_)
      · replace h := bif_t h hb10
        refine .skip ?_
        refine .then ?_
        refine .seq ?_
        obtain ⟨j_11, h, hK11⟩ := bind_some h
        unfold ref_GuideOf_L1 at h
        refine .thenJ (ι := ((List (Arr 2 Int)) × (List (Arr 2 Int)))) (fun j_11 => []) (fun j_11 => [(17, some (rowV 87 j_11.1)), (18, some (rowV 87 j_11.2))]) (fun s => j_11 = s) (.cons (t := 2) rfl (.cons (t := 3) rfl (.cons (t := 4) rfl (.cons (t := 14) rfl (.cons (t := 16) rfl (.cons (t := 48) rfl (.cons (t := 49) rfl (.cons (t := 50) rfl Sub.nil)))))))) SubB.nil ?_ (fun j_11' hj11 => ?_)
        · skip
          refine .block ?_
          refine .seq ?_
          refine .region [([], []), ([], []), ([], [20]), ([20], [20])] mixed (by kernel_rfl) ?_
          obtain ⟨hn12, h⟩ := need_some h
          refine .consA (.indexAddr .none sl22 ty43 (.s rfl) (.s rfl) (fun _ => hn12)) rfl ?_
          obtain ⟨v1, hv13, h⟩ := bnd_some h
          refine .consA (.re hv13 (.load .none ty43 (.s rfl))) rfl ?_
          refine .consW (.alloc zo43 rfl) rfl rfl ?_
          refine .consN (.store ty43 rfl rfl (.s rfl)) rfl ?_
          refine .nil ?_
          refine .then ?_
          refine .freeze (t := 20) rfl rfl (.cons (t := 5003) rfl (.cons (t := 5004) rfl SubB.nil)) rfl ?_
          refine .seq ?_
          refine .region [] mixed (by kernel_rfl) ?_
          refine .cons (.fieldAddr .none fd43_1 hfd43_1 (.s rfl)) rfl ?_
          refine .cons (.load .none ty3 (.s rfl)) rfl ?_
          refine .cons (.neI .none (.s rfl) (.int (by decide))) rfl ?_
          refine .cons (.move .none (.s rfl)) rfl ?_
          refine .cons (.move (.at rfl rfl) (.s rfl)) rfl ?_
          refine .cons (.fieldAddr (.at rfl rfl) fd43_0 hfd43_0 (.s rfl)) rfl ?_
          refine .cons (.load (.at rfl rfl) ty9 (.tmp rfl id)) rfl ?_
          refine .cons (.lookup (.at rfl rfl) mo84 zo4 (.tmp rfl id) (.tmp rfl id)) rfl ?_
          refine .cons (.not (.at rfl rfl) (.tmp rfl id)) rfl ?_
          refine .cons (.pickAnd .none (.s rfl) (.tmp rfl id)) rfl ?_
          refine .nil ?_
          refine .then ?_
          refine .cond (t := 63) rfl trivial (fun hb14 => ?_) (fun hb14 => ?_)
          · replace h := bif_t h hb14
            refine .seq ?_
            refine .region [([], []), ([], []), ([], [21]), ([21], [21])] mixed (by kernel_rfl) ?_
            refine .consA (.fieldAddr .none fd43_2 hfd43_2 (.s rfl)) rfl ?_
            refine .consA (.load .none ty41 (.s rfl)) rfl ?_
            refine .consW (.alloc zo41 rfl) rfl rfl ?_
            refine .consN (.store ty41 rfl rfl (.s rfl)) rfl ?_
            refine .nil ?_
            refine .then ?_
            refine .freeze (t := 21) rfl rfl (.cons (t := 5003) rfl (.cons (t := 5004) rfl SubB.nil)) rfl ?_
            refine .seq ?_
            refine .region [([], []), ([], []), ([], []), ([], []), ([], []), ([], []), ([], []), ([], []), ([], []), ([], []), ([], []), ([], []), ([], []), ([], []), ([], []), ([], []), ([], []), ([], []), ([], []), ([5003], [85, 5003]), ([85], [17, 85])] mixed (by kernel_rfl) ?_
            refine .consA (.move .none (.s rfl)) rfl ?_
            refine .consA (.fieldAddr .none fd41_0 hfd41_0 (.s rfl)) rfl ?_
            refine .consA (.load .none ty3 (.s rfl)) rfl ?_
            refine .consA (.mulW .none (.int (by decide)) (.s rfl)) rfl ?_
            refine .consA (.fieldAddr .none fd41_0 hfd41_0 (.s rfl)) rfl ?_
            refine .consA (.load .none ty3 (.s rfl)) rfl ?_
            refine .consA (.mulW .none (.int (by decide)) (.s rfl)) rfl ?_
            refine .consA (.fieldAddr .none fd41_2 hfd41_2 (.s rfl)) rfl ?_
            refine .consA (.load .none ty3 (.s rfl)) rfl ?_
            refine .consA (.addW .none (.s rfl) (.s rfl)) rfl ?_
            refine .consA (.fieldAddr .none fd41_0 hfd41_0 (.s rfl)) rfl ?_
            refine .consA (.load .none ty3 (.s rfl)) rfl ?_
            refine .consA (.mulW .none (.int (by decide)) (.s rfl)) rfl ?_
            refine .consA (.fieldAddr .none fd41_2 hfd41_2 (.s rfl)) rfl ?_
            refine .consA (.load .none ty3 (.s rfl)) rfl ?_
            refine .consA (.mulW .none (.int (by decide)) (.s rfl)) rfl ?_
            refine .consA (.addW .none (.s rfl) (.s rfl)) rfl ?_
            refine .consA (.buildArr (xs := [_, _, _]) .none ao87 ty3 az87 (.cons (.s rfl) (.cons (.s rfl) (.cons (.s rfl) .nil))) rfl) rfl ?_
            refine .consA (.buildSlice (xs := [_]) .none sl86 ty87 hz87 (.cons (.s rfl) .nil) rfl (by decide)) rfl ?_
            obtain ⟨hn15, h⟩ := need_some h
            refine .consW (.append (k := 5003) rk86 rfl (.told (.s rfl) rfl) (.s rfl) hn15) rfl rfl ?_
            refine .consW (.passRow rfl (.tmp rfl)) rfl rfl ?_
            refine .nil ?_
            refine .then ?_
            obtain ⟨xs1, hv16, h⟩ := bnd_some h
            refine .reB (t := 17) rfl (congrArg (rowV 87) hv16) ?_
            refine .nameRow (t := 17) (g := 5005) rfl rfl rfl (fun s5005 => ?_)
            refine .region [([], []), ([], []), ([], []), ([], []), ([], []), ([], []), ([], []), ([], []), ([], []), ([], []), ([], []), ([], []), ([], []), ([], []), ([], []), ([], []), ([], []), ([], []), ([], []), ([5004], [105, 5004]), ([105], [18, 105])] mixed (by kernel_rfl) ?_
            refine .consA (.move .none (.s rfl)) rfl ?_
            refine .consA (.fieldAddr .none fd41_1 hfd41_1 (.s rfl)) rfl ?_
            refine .consA (.load .none ty3 (.s rfl)) rfl ?_
            refine .consA (.mulW .none (.int (by decide)) (.s rfl)) rfl ?_
            refine .consA (.fieldAddr .none fd41_1 hfd41_1 (.s rfl)) rfl ?_
            refine .consA (.load .none ty3 (.s rfl)) rfl ?_
            refine .consA (.mulW .none (.int (by decide)) (.s rfl)) rfl ?_
            refine .consA (.fieldAddr .none fd41_3 hfd41_3 (.s rfl)) rfl ?_
            refine .consA (.load .none ty3 (.s rfl)) rfl ?_
            refine .consA (.addW .none (.s rfl) (.s rfl)) rfl ?_
            refine .consA (.fieldAddr .none fd41_1 hfd41_1 (.s rfl)) rfl ?_
            refine .consA (.load .none ty3 (.s rfl)) rfl ?_
            refine .consA (.mulW .none (.int (by decide)) (.s rfl)) rfl ?_
            refine .consA (.fieldAddr .none fd41_3 hfd41_3 (.s rfl)) rfl ?_
            refine .consA (.load .none ty3 (.s rfl)) rfl ?_
            refine .consA (.mulW .none (.int (by decide)) (.s rfl)) rfl ?_
            refine .consA (.addW .none (.s rfl) (.s rfl)) rfl ?_
            refine .consA (.buildArr (xs := [_, _, _]) .none ao87 ty3 az87 (.cons (.s rfl) (.cons (.s rfl) (.cons (.s rfl) .nil))) rfl) rfl ?_
            refine .consA (.buildSlice (xs := [_]) .none sl86 ty87 hz87 (.cons (.s rfl) .nil) rfl (by decide)) rfl ?_
            obtain ⟨hn17, h⟩ := need_some h
            refine .consW (.append (k := 5004) rk86 rfl (.told (.s rfl) rfl) (.s rfl) hn17) rfl rfl ?_
            refine .consW (.passRow rfl (.tmp rfl)) rfl rfl ?_
            refine .nil ?_
            refine .blkNormal ?_
            refine .anon (t := 17) (g := 5005) rfl rfl trivial rfl ?_
            exact Ends.join _ (some_eq h) (.cons (t := 2) rfl (.cons (t := 3) rfl (.cons (t := 4) rfl (.cons (t := 14) rfl (.cons (t := 16) rfl (.cons (t := 48) rfl (.cons (t := 49) rfl (.cons (t := 50) rfl Sub.nil)))))))) (.cons (t := 17) rfl (.cons (t := 18) rfl SubB.nil))
          · replace h := bif_f h hb14
            refine .skip ?_
            refine .blkNormal ?_
            refine .anon (t := 17) (g := 5003) rfl rfl trivial rfl ?_
            refine .anon (t := 18) (g := 5004) rfl rfl trivial rfl ?_
            exact Ends.join _ (some_eq h) (.cons (t := 2) rfl (.cons (t := 3) rfl (.cons (t := 4) rfl (.cons (t := 14) rfl (.cons (t := 16) rfl (.cons (t := 48) rfl (.cons (t := 49) rfl (.cons (t := 50) rfl Sub.nil)))))))) (.cons (t := 17) rfl (.cons (t := 18) rfl SubB.nil))
        · subst hj11; have h := hK11; clear hK11
          refine .nameRow (t := 17) (g := 5006) rfl rfl rfl (fun s5006 => ?_)
          refine .nameRow (t := 18) (g := 5007) rfl rfl rfl (fun s5007 => ?_)
          refine .region [] mixed (by kernel_rfl) ?_
          refine .cons (.addW .none (.s rfl) (.int (by decide))) rfl ?_
          refine .cons (.move .none (.s rfl)) rfl ?_
          refine .nil ?_
          refine .anon (t := 17) (g := 5006) rfl rfl trivial rfl ?_
          refine .anon (t := 18) (g := 5007) rfl rfl trivial rfl ?_
          exact Ends.againL (some_eq h) (.cons (t := 50) rfl (.cons (t := 2) rfl (.cons (t := 3) rfl (.cons (t := 4) rfl (.cons (t := 14) rfl (.cons (t := 16) rfl (.cons (t := 48) rfl (.cons (t := 49) rfl Sub.nil)))))))) (.cons (t := 17) rfl (.cons (t := 18) rfl SubB.nil))
      · replace h := bif_f h hb10
        refine .exit ?_
        refine .thenExit ?_
        refine .thenExit ?_
        refine .blkExit ?_
        refine .anon (t := 17) (g := 5003) rfl rfl trivial rfl ?_
        refine .anon (t := 18) (g := 5004) rfl rfl trivial rfl ?_
        replace h := hD9 _ (some_eq h)
        exact Ends.join _ (some_eq h) (.cons (t := 2) rfl (.cons (t := 3) rfl (.cons (t := 4) rfl (.cons (t := 14) rfl Sub.nil)))) (.cons (t := 17) rfl (.cons (t := 18) rfl SubB.nil))
    · subst hj8; have h := hK8; clear hK8
      refine .freezeRowA (t := 17) rfl rfl (.cons (t := 18) rfl SubB.nil) rfl ?_
      refine .freezeRowA (t := 18) rfl rfl SubB.nil rfl ?_
      refine .seq ?_
      refine .region [] mixed (by kernel_rfl) ?_
      refine .cons (.fieldAddr .none fd41_0 hfd41_0 (.s rfl)) rfl ?_
      refine .cons (.load .none ty3 (.s rfl)) rfl ?_
      refine .cons (.move .none (.s rfl)) rfl ?_
      refine .cons (.addW .none (.s rfl) (.s rfl)) rfl ?_
      refine .cons (.mulW .none (.int (by decide)) (.s rfl)) rfl ?_
      refine .cons (.fieldAddr .none fd41_1 hfd41_1 (.s rfl)) rfl ?_
      refine .cons (.load .none ty3 (.s rfl)) rfl ?_
      refine .cons (.move .none (.s rfl)) rfl ?_
      refine .cons (.addW .none (.s rfl) (.s rfl)) rfl ?_
      refine .cons (.mulW .none (.int (by decide)) (.s rfl)) rfl ?_
      obtain ⟨x1, hv18, h⟩ := bnd_some h
      refine .cons (.re hv18 (.assign .none (.s rfl))) rfl ?_
      obtain ⟨y1, hv19, h⟩ := bnd_some h
      refine .cons (.re hv19 (.assign .none (.s rfl))) rfl ?_
      refine .nil ?_
      refine .then ?_
      refine .seq ?_
      refine .region [] mixed (by kernel_rfl) ?_
      refine .cons (.move .none (.s rfl)) rfl ?_
      refine .cons (.move .none (.s rfl)) rfl ?_
      refine .cons (.move .none (.s rfl)) rfl ?_
      refine .cons (.fieldAddr .none fd41_2 hfd41_2 (.s rfl)) rfl ?_
      refine .cons (.load .none ty3 (.s rfl)) rfl ?_
      refine .cons (.addW .none (.s rfl) (.s rfl)) rfl ?_
      refine .cons (.move .none (.s rfl)) rfl ?_
      refine .cons (.fieldAddr .none fd41_2 hfd41_2 (.s rfl)) rfl ?_
      refine .cons (.load .none ty3 (.s rfl)) rfl ?_
      refine .cons (.mulW .none (.int (by decide)) (.s rfl)) rfl ?_
      refine .cons (.addW .none (.s rfl) (.s rfl)) rfl ?_
      refine .cons (.buildArr (xs := [_, _, _]) .none ao87 ty3 az87 (.cons (.s rfl) (.cons (.s rfl) (.cons (.s rfl) .nil))) rfl) rfl ?_
      refine .cons (.move .none (.s rfl)) rfl ?_
      refine .cons (.move .none (.s rfl)) rfl ?_
      obtain ⟨r5, hv20, h⟩ := bind_some h
      refine .cons (.call .none (ref_snapped_ok hv20) (.cons (.s rfl) (.cons (.s rfl) (.cons (.s rfl) .nil)))) rfl ?_
      refine .cons (.addW .none (.s rfl) (.s rfl)) rfl ?_
      refine .cons (.move .none (.s rfl)) rfl ?_
      refine .cons (.move .none (.s rfl)) rfl ?_
      refine .cons (.move .none (.s rfl)) rfl ?_
      refine .cons (.fieldAddr .none fd41_3 hfd41_3 (.s rfl)) rfl ?_
      refine .cons (.load .none ty3 (.s rfl)) rfl ?_
      refine .cons (.addW .none (.s rfl) (.s rfl)) rfl ?_
      refine .cons (.move .none (.s rfl)) rfl ?_
      refine .cons (.fieldAddr .none fd41_3 hfd41_3 (.s rfl)) rfl ?_
      refine .cons (.load .none ty3 (.s rfl)) rfl ?_
      refine .cons (.mulW .none (.int (by decide)) (.s rfl)) rfl ?_
      refine .cons (.addW .none (.s rfl) (.s rfl)) rfl ?_
      refine .cons (.buildArr (xs := [_, _, _]) .none ao87 ty3 az87 (.cons (.s rfl) (.cons (.s rfl) (.cons (.s rfl) .nil))) rfl) rfl ?_
      refine .cons (.move .none (.s rfl)) rfl ?_
      refine .cons (.move .none (.s rfl)) rfl ?_
      obtain ⟨r6, hv21, h⟩ := bind_some h
      refine .cons (.call .none (ref_snapped_ok hv21) (.cons (.s rfl) (.cons (.s rfl) (.cons (.s rfl) .nil)))) rfl ?_
      refine .cons (.addW .none (.s rfl) (.s rfl)) rfl ?_
      refine .cons (.assign .none (.s rfl)) rfl ?_
      refine .cons (.assign .none (.s rfl)) rfl ?_
      refine .cons (.assign .none (.int (by decide))) rfl ?_
      refine .nil ?_
      refine .then ?_
      refine .ret ?_
      obtain rfl := some_eq h
      exact Ends.ret3 (.inl rfl) Tryd.results15 (ResOK.tmp rfl trivial Imp.refl) (ResOK.tmp rfl trivial Imp.refl) (ResOK.tmp rfl trivial Imp.refl)

theorem law_pages_ok  {r : Bool}  (h : law_pages  = some r) : FSpec Tryd.prog 11 [] (rep r) := by
  unfold law_pages at h
  refine FSpec.intro (n := 11) fnok11 Tryd.func11 rfl Tryd.ntmps11 rfl (fun F => ?_)
  refine .seq ?_
  refine .region [] mixed (by kernel_rfl) ?_
  refine .cons (.assign .none .bool) rfl ?_
  refine .nil ?_
  refine .then ?_
  refine .seq ?_
  refine .region [] mixed (by kernel_rfl) ?_
  refine .cons (.buildF (y := (⟨([] : (List DNode)), ([] : (List DEdge))⟩ : Doc)) .none bu25 zc25 rfl .nil .nil) rfl ?_
  obtain ⟨r1, hv1, h⟩ := bind_some h
  refine .cons (.call .none (page_Check_ok hv1) (.cons (.s rfl) .nil)) rfl ?_
  refine .cons (.eqI .none (.s rfl) (.int (by decide))) rfl ?_
  refine .cons (.move .none (.s rfl)) rfl ?_
  refine .cons (.buildF (y := (⟨Str.nil, (0 : Int), (⟨(0 : Int), (0 : Int), (0 : Int), (0 : Int)⟩ : Box), Str.nil, Str.nil, Str.nil, false⟩ : DNode)) (.at rfl rfl) bu43 zc43 rfl .nil .nil) rfl ?_
  refine .cons (.buildSlice (xs := [_]) (.at rfl rfl) sl22 ty43 hz43 (.cons (.tmp rfl id) .nil) rfl (by decide)) rfl ?_
  refine .cons (.buildF (y := (⟨[(⟨Str.nil, (0 : Int), (⟨(0 : Int), (0 : Int), (0 : Int), (0 : Int)⟩ : Box), Str.nil, Str.nil, Str.nil, false⟩ : DNode)], ([] : (List DEdge))⟩ : Doc)) (.at rfl rfl) bu25 zc25 rfl (.cons (.tmp rfl id) .nil) (.cons rfl sf25_0 .nil)) rfl ?_
  obtain ⟨r2, hv2, h⟩ := bind_some h
  refine .cons (.callIf (.at rfl rfl) fnok16 (fun hg => page_Check_ok ((fun hg => gd_some hv2 (hg.2)) hg)) (.cons (.tmp rfl id) .nil) (fun h => h)) rfl ?_
  refine .cons (.eqI (.at rfl rfl) (.tmp rfl id) (.int (by decide))) rfl ?_
  refine .cons (.pickAnd .none (.s rfl) (.tmp rfl id)) rfl ?_
  refine .cons (.assign .none (.s rfl)) rfl ?_
  refine .nil ?_
  refine .then ?_
  refine .ret ?_
  obtain rfl := some_eq h
  exact Ends.ret1 (.inl rfl) Tryd.results11 (ResOK.tmp rfl trivial Imp.refl)

theorem law_GuidesMatch_ok {d1 : Doc} {ids1 : (List Str)} {dx1 : Int} {dy1 : Int} {reach1 : Int} {r : Bool}  (h : law_GuidesMatch d1 ids1 dx1 dy1 reach1 = some r) : FSpec Tryd.prog 4 [rep d1, rep ids1, rep dx1, rep dy1, rep reach1] (rep r) := by
  unfold law_GuidesMatch at h
  refine FSpec.intro (n := 58) fnok4 Tryd.func4 rfl Tryd.ntmps4 rfl (fun F => ?_)
  refine .seq ?_
  refine .region [] mixed (by kernel_rfl) ?_
  refine .cons (.box .none (.s rfl)) rfl ?_
  refine .cons (.assign .none .bool) rfl ?_
  refine .nil ?_
  refine .then ?_
  refine .seq ?_
  refine .region [] mixed (by kernel_rfl) ?_
  refine .cons (.load .none ty25 (.s rfl)) rfl ?_
  refine .cons (.move .none (.s rfl)) rfl ?_
  refine .cons (.move .none (.s rfl)) rfl ?_
  refine .cons (.move .none (.s rfl)) rfl ?_
  refine .cons (.move .none (.s rfl)) rfl ?_
  obtain ⟨r1, hv1, h⟩ := bind_some h
  refine .cons (.call .none (page_Guide_ok hv1) (.cons (.s rfl) (.cons (.s rfl) (.cons (.s rfl) (.cons (.s rfl) (.cons (.s rfl) .nil)))))) rfl ?_
  refine .cons (.move .none (.s rfl)) rfl ?_
  refine .cons (.extract .none (.s rfl) rfl) rfl ?_
  refine .cons (.extract .none (.s rfl) rfl) rfl ?_
  refine .cons (.extract .none (.s rfl) rfl) rfl ?_
  refine .cons (.assign .none (.s rfl)) rfl ?_
  refine .cons (.assign .none (.s rfl)) rfl ?_
  refine .cons (.assign .none (.s rfl)) rfl ?_
  refine .nil ?_
  refine .then ?_
  refine .seq ?_
  refine .region [] mixed (by kernel_rfl) ?_
  refine .cons (.load .none ty25 (.s rfl)) rfl ?_
  refine .cons (.move .none (.s rfl)) rfl ?_
  obtain ⟨want1, hv2, h⟩ := bind_some h
  refine .cons (.call .none (law_selected_ok hv2) (.cons (.s rfl) (.cons (.s rfl) .nil))) rfl ?_
  refine .cons (.assign .none (.s rfl)) rfl ?_
  refine .nil ?_
  refine .then ?_
  refine .seq ?_
  refine .region [] mixed (by kernel_rfl) ?_
  refine .cons (.assign .none (.int (by decide))) rfl ?_
  refine .cons (.assign .none (.int (by decide))) rfl ?_
  refine .nil ?_
  refine .then ?_
  refine .seq ?_
  refine .seq ?_
  refine .region [] mixed (by kernel_rfl) ?_
  refine .cons (.move .none (.s rfl)) rfl ?_
  refine .cons (.eqI .none (.s rfl) (.int (by decide))) rfl ?_
  refine .nil ?_
  refine .then ?_
  obtain ⟨j_3, h, hK3⟩ := bind_some h
  refine .thenJ (ι := (Int × Int × Int)) (fun j_3 => [(14, ⟨True, rep j_3.1⟩), (15, ⟨True, rep j_3.2.1⟩), (16, ⟨True, rep j_3.2.2⟩)]) (fun j_3 => []) (fun s => j_3 = s) (.cons (t := 11) rfl (.cons (t := 12) rfl (.cons (t := 13) rfl Sub.nil))) SubB.nil ?_ (fun j_3' hj3 => ?_)
  · skip
    refine .cond (t := 31) rfl trivial (fun hb4 => ?_) (fun hb4 => ?_)
    · replace h := bif_t h hb4
      refine .region [] mixed (by kernel_rfl) ?_
      refine .cons (.load .none ty25 (.s rfl)) rfl ?_
      refine .cons (.move .none (.s rfl)) rfl ?_
      refine .cons (.move .none (.s rfl)) rfl ?_
      refine .cons (.move .none (.s rfl)) rfl ?_
      refine .cons (.move .none (.s rfl)) rfl ?_
      obtain ⟨r2, hv5, h⟩ := bind_some h
      refine .cons (.call .none (ref_GuideOf_ok hv5) (.cons (.s rfl) (.cons (.s rfl) (.cons (.s rfl) (.cons (.s rfl) (.cons (.s rfl) .nil)))))) rfl ?_
      refine .cons (.move .none (.s rfl)) rfl ?_
      refine .cons (.extract .none (.s rfl) rfl) rfl ?_
      refine .cons (.extract .none (.s rfl) rfl) rfl ?_
      refine .cons (.extract .none (.s rfl) rfl) rfl ?_
      refine .cons (.assign .none (.s rfl)) rfl ?_
      refine .cons (.assign .none (.s rfl)) rfl ?_
      refine .cons (.assign .none (.s rfl)) rfl ?_
      refine .nil ?_
      exact Ends.join _ (some_eq h) (.cons (t := 14) rfl (.cons (t := 15) rfl (.cons (t := 16) rfl (.cons (t := 11) rfl (.cons (t := 12) rfl (.cons (t := 13) rfl Sub.nil)))))) SubB.nil
    · replace h := bif_f h hb4
      refine .skip ?_
      exact Ends.join _ (some_eq h) (.cons (t := 14) rfl (.cons (t := 15) rfl (.cons (t := 16) rfl (.cons (t := 11) rfl (.cons (t := 12) rfl (.cons (t := 13) rfl Sub.nil)))))) SubB.nil
  · subst hj3; have h := hK3; clear hK3
    refine .seq ?_
    refine .region [] mixed (by kernel_rfl) ?_
    obtain ⟨r3, hv6, h⟩ := bind_some h
    refine .cons (.call .none (law_pages_ok hv6) .nil) rfl ?_
    refine .cons (.move .none (.s rfl)) rfl ?_
    refine .cons (.move (.at rfl rfl) (.s rfl)) rfl ?_
    refine .cons (.move (.at rfl rfl) (.s rfl)) rfl ?_
    refine .cons (.eqI (.at rfl rfl) (.tmp rfl id) (.tmp rfl id)) rfl ?_
    refine .cons (.pickAnd .none (.s rfl) (.tmp rfl id)) rfl ?_
    refine .cons (.move .none (.s rfl)) rfl ?_
    refine .cons (.move (.at rfl rfl) (.s rfl)) rfl ?_
    refine .cons (.move (.at rfl rfl) (.s rfl)) rfl ?_
    refine .cons (.eqI (.at rfl rfl) (.tmp rfl id) (.tmp rfl id)) rfl ?_
    refine .cons (.pickAnd .none (.s rfl) (.tmp rfl id)) rfl ?_
    refine .cons (.move .none (.s rfl)) rfl ?_
    refine .cons (.move (.at rfl rfl) (.s rfl)) rfl ?_
    refine .cons (.move (.at rfl rfl) (.s rfl)) rfl ?_
    refine .cons (.eqI (.at rfl rfl) (.tmp rfl id) (.tmp rfl id)) rfl ?_
    refine .cons (.pickAnd .none (.s rfl) (.tmp rfl id)) rfl ?_
    refine .cons (.assign .none (.s rfl)) rfl ?_
    refine .nil ?_
    refine .then ?_
    refine .ret ?_
    obtain rfl := some_eq h
    exact Ends.ret1 (.inl rfl) Tryd.results4 (ResOK.tmp rfl trivial Imp.refl)


end Go.Proofs.YtclcheggnlhamaaDoor
