/-
  The walks: what a function computes is what its plain function says (printed by a program of one's own).
-/
import Derived.Test.YtbahnfkccdlpnaaNeaWa1
set_option maxRecDepth 100000
set_option linter.unusedSimpArgs false
set_option linter.unusedVariables false
namespace Go.Proofs.Ytbahnfkccdlpnaa
open Go Go.DB Go.RowKit

theorem law_NearsMatch_ok {want1 : (List Int)} {size1 : (List Int)} {gap1 : Int} {move1 : Int} {other1 : (List Int)} {r : Bool}  (h : law_NearsMatch want1 size1 gap1 move1 other1 = some r) : FSpec Try.prog 5 [rep want1, rep size1, rep gap1, rep move1, rep other1] (rep r) := by
  unfold law_NearsMatch at h
  refine FSpec.intro (n := 160) fnok5 Try.func5 rfl Try.ntmps5 rfl (fun F => ?_)
  refine .seq ?_
  refine .region [] mixed (by kernel_rfl) ?_
  refine .cons (.box .none (.s rfl)) rfl ?_
  refine .cons (.assign .none .bool) rfl ?_
  refine .nil ?_
  refine .then ?_
  refine .seq ?_
  refine .region [([], []), ([], []), ([], []), ([], []), ([], []), ([], []), ([], []), ([], [11]), ([11], [11]), ([], [])] mixed (by kernel_rfl) ?_
  refine .consA (.move .none (.s rfl)) rfl ?_
  refine .consA (.move .none (.s rfl)) rfl ?_
  refine .consA (.move .none (.s rfl)) rfl ?_
  obtain ⟨r1, hv1, h⟩ := bind_some h
  refine .consA (.call .none (layer_Near_ok hv1) (.cons (.s rfl) (.cons (.s rfl) (.cons (.s rfl) .nil)))) rfl ?_
  refine .consA (.move .none (.s rfl)) rfl ?_
  refine .consA (.extract .none (.s rfl) rfl) rfl ?_
  refine .consA (.extract .none (.s rfl) rfl) rfl ?_
  refine .consW (.alloc zo32 rfl) rfl rfl ?_
  refine .consN (.store ty32 rfl rfl (.s rfl)) rfl ?_
  refine .consA (.assign .none (.s rfl)) rfl ?_
  refine .nil ?_
  refine .then ?_
  refine .freeze (t := 11) rfl rfl SubB.nil rfl ?_
  refine .seq ?_
  refine .region [] mixed (by kernel_rfl) ?_
  refine .cons (.move .none (.s rfl)) rfl ?_
  refine .cons (.move .none (.s rfl)) rfl ?_
  refine .cons (.move .none (.s rfl)) rfl ?_
  obtain ⟨own1, hv2, h⟩ := bind_some h
  refine .cons (.call .none (ref_NearError_ok hv2) (.cons (.s rfl) (.cons (.s rfl) (.cons (.s rfl) .nil)))) rfl ?_
  refine .cons (.assign .none (.s rfl)) rfl ?_
  refine .nil ?_
  refine .then ?_
  refine .seq ?_
  refine .seq ?_
  refine .region [] mixed (by kernel_rfl) ?_
  obtain ⟨r2, hv3, h⟩ := bind_some h
  refine .cons (.call .none (law_layers_ok hv3) .nil) rfl ?_
  refine .cons (.not .none (.s rfl)) rfl ?_
  refine .cons (.move .none (.s rfl)) rfl ?_
  refine .cons (.move (.at rfl rfl) (.s rfl)) rfl ?_
  refine .cons (.neI (.at rfl rfl) (.tmp rfl id) (.int (by decide))) rfl ?_
  refine .cons (.pickOr .none (.s rfl) (.tmp rfl id)) rfl ?_
  refine .nil ?_
  refine .then ?_
  refine .cond (t := 35) rfl trivial (fun hb4 => ?_) (fun hb4 => ?_)
  · replace h := bif_t h hb4
    refine .seq ?_
    refine .region [] mixed (by kernel_rfl) ?_
    obtain ⟨r3, hv5, h⟩ := bind_some h
    refine .cons (.call .none (law_layers_ok hv5) .nil) rfl ?_
    refine .cons (.move .none (.s rfl)) rfl ?_
    refine .cons (.load (.at rfl rfl) ty32 (.s rfl)) rfl ?_
    refine .cons (.len (.at rfl rfl) sl32 (.tmp rfl id)) rfl ?_
    refine .cons (.eqI (.at rfl rfl) (.tmp rfl id) (.int (by decide))) rfl ?_
    refine .cons (.pickAnd .none (.s rfl) (.tmp rfl id)) rfl ?_
    refine .cons (.move .none (.s rfl)) rfl ?_
    refine .cons (.move (.at rfl rfl) (.s rfl)) rfl ?_
    refine .cons (.move (.at rfl rfl) (.s rfl)) rfl ?_
    refine .cons (.eqI (.at rfl rfl) (.tmp rfl id) (.tmp rfl id)) rfl ?_
    refine .cons (.pickAnd .none (.s rfl) (.tmp rfl id)) rfl ?_
    refine .cons (.assign .none (.s rfl)) rfl ?_
    refine .nil ?_
    refine .then ?_
    refine .ret ?_
    refine .thenRet ?_
    obtain rfl := some_eq h
    exact Ends.ret1 (.inl rfl) Try.results5 (ResOK.tmp rfl trivial Imp.refl)
  · replace h := bif_f h hb4
    refine .skip ?_
    refine .then ?_
    refine .seq ?_
    refine .seq ?_
    refine .region [] mixed (by kernel_rfl) ?_
    refine .cons (.move .none (.s rfl)) rfl ?_
    refine .cons (.len .none sl32 (.s rfl)) rfl ?_
    refine .cons (.gt .none (.s rfl) (.int (by decide))) rfl ?_
    refine .nil ?_
    refine .then ?_
    refine .cond (t := 49) rfl trivial (fun hb6 => ?_) (fun hb6 => ?_)
    · replace h := bif_t h hb6
      refine .seq ?_
      refine .region [] mixed (by kernel_rfl) ?_
      refine .cons (.move .none (.s rfl)) rfl ?_
      refine .cons (.eqI .none (.s rfl) (.int (by decide))) rfl ?_
      refine .cons (.move .none (.s rfl)) rfl ?_
      refine .cons (.load (.at rfl rfl) ty32 (.s rfl)) rfl ?_
      refine .cons (.len (.at rfl rfl) sl32 (.tmp rfl id)) rfl ?_
      refine .cons (.move (.at rfl rfl) (.s rfl)) rfl ?_
      refine .cons (.len (.at rfl rfl) sl32 (.tmp rfl id)) rfl ?_
      refine .cons (.eqI (.at rfl rfl) (.tmp rfl id) (.tmp rfl id)) rfl ?_
      refine .cons (.pickAnd .none (.s rfl) (.tmp rfl id)) rfl ?_
      refine .cons (.assign .none (.s rfl)) rfl ?_
      refine .nil ?_
      refine .then ?_
      refine .ret ?_
      refine .thenRet ?_
      obtain rfl := some_eq h
      exact Ends.ret1 (.inl rfl) Try.results5 (ResOK.tmp rfl trivial Imp.refl)
    · replace h := bif_f h hb6
      refine .skip ?_
      refine .then ?_
      refine .seq ?_
      refine .seq ?_
      refine .region [] mixed (by kernel_rfl) ?_
      refine .cons (.move .none (.s rfl)) rfl ?_
      refine .cons (.neI .none (.s rfl) (.int (by decide))) rfl ?_
      refine .cons (.move .none (.s rfl)) rfl ?_
      refine .cons (.load (.at rfl rfl) ty32 (.s rfl)) rfl ?_
      refine .cons (.move (.at rfl rfl) (.s rfl)) rfl ?_
      refine .cons (.move (.at rfl rfl) (.s rfl)) rfl ?_
      refine .cons (.move (.at rfl rfl) (.s rfl)) rfl ?_
      obtain ⟨r4, hv7, h⟩ := bind_some h
      refine .cons (.callIf (.at rfl rfl) fnok26 (fun hg => ref_NearOf_ok ((fun hg => gd_some hv7 ((notT hg.2))) hg)) (.cons (.tmp rfl id) (.cons (.tmp rfl id) (.cons (.tmp rfl id) .nil))) (fun h => h)) rfl ?_
      obtain ⟨r5, hv8, h⟩ := bind_some h
      refine .cons (.callIf (.at rfl rfl) fnok16 (fun hg => slices_Equal_int_ok ((fun hg => gd_some hv8 ((notT hg.2))) hg)) (.cons (.tmp rfl id) (.cons (.tmp rfl id) .nil)) (fun h => h)) rfl ?_
      refine .cons (.not (.at rfl rfl) (.tmp rfl id)) rfl ?_
      refine .cons (.pickOr .none (.s rfl) (.tmp rfl id)) rfl ?_
      refine .nil ?_
      refine .then ?_
      refine .cond (t := 69) rfl trivial (fun hb9 => ?_) (fun hb9 => ?_)
      · replace h := bif_t h hb9
        refine .seq ?_
        refine .region [] mixed (by kernel_rfl) ?_
        refine .cons (.assign .none .bool) rfl ?_
        refine .nil ?_
        refine .then ?_
        refine .ret ?_
        refine .thenRet ?_
        obtain rfl := some_eq h
        exact Ends.ret1 (.inl rfl) Try.results5 (ResOK.tmp rfl trivial Imp.refl)
      · replace h := bif_f h hb9
        refine .skip ?_
        refine .then ?_
        refine .seq ?_
        refine .region [([], []), ([], [71]), ([71], [14, 71])] mixed (by kernel_rfl) ?_
        refine .consA (.move .none (.s rfl)) rfl ?_
        obtain ⟨all1, hv10, h⟩ := bind_some h
        refine .consW (.callO [] (slices_Clone_int_ok hv10) (.cons (.s rfl) .nil) .nil rfl (by decide) (by decide) (by intro d h; cases h; decide)) rfl rfl ?_
        refine .consW (.passRow rfl (.tmp rfl)) rfl rfl ?_
        refine .nil ?_
        refine .then ?_
        refine .nameRow (t := 14) (g := 5001) rfl rfl rfl (fun s5001 => ?_)
        refine .seq ?_
        refine .seq ?_
        refine .region [([], []), ([5001], []), ([], [])] mixed (by kernel_rfl) ?_
        refine .consA (.move .none (.s rfl)) rfl ?_
        refine .consA (.lenO (k := 5001) sl32 (.told (.s rfl) rfl)) rfl ?_
        refine .consA (.move .none (.int (by decide))) rfl ?_
        refine .nil ?_
        refine .then ?_
        obtain ⟨o_11, h, hK11⟩ := bindR_some h
        refine .thenJ (ι := (List Int)) (fun j_11 => []) (fun j_11 => [(5001, some (CPred.at s5001 (rowV 3 j_11)))]) (fun s => o_11 = Res.nx s) (.cons (t := 0) rfl (.cons (t := 1) rfl (.cons (t := 2) rfl (.cons (t := 4) rfl (.cons (t := 8) rfl (.cons (t := 11) rfl (.cons (t := 14) rfl Sub.nil))))))) SubB.nil ?_ (fun j_11 hj11 => ?_)
        · skip
          refine .block ?_
          refine .rforEL h (fun p12_ => [(74, ⟨True, rep p12_.1⟩)]) (fun p12_ => [(5001, some (CPred.at s5001 (rowV 3 p12_.2)))]) (.cons (t := 74) rfl Sub.nil) (.cons (t := 5001) rfl SubB.nil) (.cons (t := 0) rfl (.cons (t := 1) rfl (.cons (t := 2) rfl (.cons (t := 4) rfl (.cons (t := 8) rfl (.cons (t := 11) rfl (.cons (t := 14) rfl (.cons (t := 73) rfl Sub.nil)))))))) SubB.nil (fun p12_ o_12 h hD12 => ?_)
          refine .seq ?_
          refine .region [] mixed (by kernel_rfl) ?_
          refine .cons (.lt .none (.s rfl) (.s rfl)) rfl ?_
          refine .nil ?_
          refine .then ?_
          refine .seq ?_
          refine .cond (t := 75) rfl trivial (fun hb13 => ?_) (fun hb13 => ?_)
          · replace h := bif_t h hb13
            refine .skip ?_
            refine .then ?_
            refine .seq ?_
            obtain ⟨o_14, h, hK14⟩ := bindD_some h
            unfold law_NearsMatch_L1 at h
            refine .thenJ (ι := (List Int)) (fun j_14 => []) (fun j_14 => [(5001, some (CPred.at s5001 (rowV 3 j_14)))]) (fun s => o_14 = Res.nx s) (.cons (t := 0) rfl (.cons (t := 1) rfl (.cons (t := 2) rfl (.cons (t := 4) rfl (.cons (t := 8) rfl (.cons (t := 11) rfl (.cons (t := 14) rfl (.cons (t := 73) rfl (.cons (t := 74) rfl Sub.nil))))))))) SubB.nil ?_ (fun j_14 hj14 => ?_)
            · skip
              refine .block ?_
              refine .seq ?_
              refine .region [] mixed (by kernel_rfl) ?_
              refine .cons (.move .none (.s rfl)) rfl ?_
              refine .cons (.assign .none (.s rfl)) rfl ?_
              refine .nil ?_
              refine .then ?_
              refine .seq ?_
              refine .region [([], []), ([], []), ([5001], []), ([5001], []), ([], []), ([], []), ([5001], []), ([5001], [5001])] mixed (by kernel_rfl) ?_
              refine .consA (.move .none (.s rfl)) rfl ?_
              refine .consA (.move .none (.s rfl)) rfl ?_
              obtain ⟨hn15, h⟩ := need_some h
              refine .consA (.indexAddrO (k := 5001) .none sl32 ty3 (.s rfl) rfl (.s rfl) (fun _ => hn15)) rfl ?_
              refine .consA (.loadElem0 (k := 5001) .none ty3 (.s rfl) rfl (fun _ => hn15)) rfl ?_
              refine .consA (.load .none ty3 (.s rfl)) rfl ?_
              obtain ⟨v1, hv16, h⟩ := bnd_some h
              refine .consA (.re hv16 (.addW .none (.s rfl) (.s rfl))) rfl ?_
              obtain ⟨hn17, h⟩ := need_some h
              refine .consA (.indexAddrO (k := 5001) .none sl32 ty3 (.s rfl) rfl (.s rfl) (fun _ => hn17)) rfl ?_
              refine .consN (.storeElem0 (k := 5001) ty3 (.s rfl) rfl (.s rfl) hn17) rfl ?_
              refine .nil ?_
              refine .then ?_
              obtain ⟨all2, hv18, h⟩ := bnd_some h
              refine .reB (t := 5001) rfl (congrArg (fun y => CPred.at s5001 (rowV 3 y)) hv18) ?_
              refine .seq ?_
              refine .region [([], []), ([], []), ([5001], []), ([5001], []), ([], []), ([], [])] mixed (by kernel_rfl) ?_
              refine .consA (.move .none (.s rfl)) rfl ?_
              refine .consA (.move .none (.s rfl)) rfl ?_
              obtain ⟨hn19, h⟩ := need_some h
              refine .consA (.indexAddrO (k := 5001) .none sl32 ty3 (.s rfl) rfl (.s rfl) (fun _ => hn19)) rfl ?_
              refine .consA (.loadElem0 (k := 5001) .none ty3 (.s rfl) rfl (fun _ => hn19)) rfl ?_
              obtain ⟨r6, hv20, h⟩ := bind_some h
              refine .consA (.call .none (ref_In_ok hv20) (.cons (.s rfl) (.cons (.int (by decide)) (.cons (.int (by decide)) .nil)))) rfl ?_
              refine .consA (.not .none (.s rfl)) rfl ?_
              refine .nil ?_
              refine .then ?_
              refine .cond (t := 89) rfl trivial (fun hb21 => ?_) (fun hb21 => ?_)
              · replace h := bif_t h hb21
                refine .seq ?_
                refine .region [] mixed (by kernel_rfl) ?_
                refine .cons (.assign .none .bool) rfl ?_
                refine .nil ?_
                refine .then ?_
                refine .ret ?_
                refine .blkRet ?_
                refine .thenRet ?_
                refine .thenRet ?_
                refine .blkRet ?_
                refine .thenRet ?_
                replace h := resd_ab hK14 (some_eq h)
                replace h := hD12 _ (some_eq h)
                replace h := resb_ab hK11 (some_eq h)
                obtain rfl := some_eq h
                exact Ends.ret1 (.inl rfl) Try.results5 (ResOK.tmp rfl trivial Imp.refl)
              · replace h := bif_f h hb21
                refine .skip ?_
                refine .blkNormal ?_
                exact Ends.join _ (some_eq h) (.cons (t := 0) rfl (.cons (t := 1) rfl (.cons (t := 2) rfl (.cons (t := 4) rfl (.cons (t := 8) rfl (.cons (t := 11) rfl (.cons (t := 14) rfl (.cons (t := 73) rfl (.cons (t := 74) rfl Sub.nil))))))))) (.cons (t := 5001) rfl SubB.nil)
            · have h := resd_nx hK14 hj14
              refine .region [] mixed (by kernel_rfl) ?_
              refine .cons (.addW .none (.s rfl) (.int (by decide))) rfl ?_
              refine .cons (.move .none (.s rfl)) rfl ?_
              refine .nil ?_
              exact Ends.againL (some_eq h) (.cons (t := 74) rfl (.cons (t := 0) rfl (.cons (t := 1) rfl (.cons (t := 2) rfl (.cons (t := 4) rfl (.cons (t := 8) rfl (.cons (t := 11) rfl (.cons (t := 14) rfl (.cons (t := 73) rfl Sub.nil))))))))) (.cons (t := 5001) rfl SubB.nil)
          · replace h := bif_f h hb13
            refine .exit ?_
            refine .thenExit ?_
            refine .thenExit ?_
            refine .blkExit ?_
            replace h := hD12 _ (some_eq h)
            exact Ends.join _ (some_eq h) (.cons (t := 0) rfl (.cons (t := 1) rfl (.cons (t := 2) rfl (.cons (t := 4) rfl (.cons (t := 8) rfl (.cons (t := 11) rfl (.cons (t := 14) rfl Sub.nil))))))) (.cons (t := 5001) rfl SubB.nil)
        · have h := resb_nx hK11 hj11
          refine .freezeRow (g := 5001) (ts := [14]) rfl (.cons (t := 14) rfl trivial .nil) SubB.nil rfl ?_
          refine .seq ?_
          refine .seq ?_
          refine .region [([], []), ([], []), ([], []), ([], []), ([], []), ([], []), ([], []), ([], [16]), ([16], [16]), ([], [])] mixed (by kernel_rfl) ?_
          refine .consA (.move .none (.s rfl)) rfl ?_
          refine .consA (.move .none (.s rfl)) rfl ?_
          refine .consA (.move .none (.s rfl)) rfl ?_
          obtain ⟨r7, hv22, h⟩ := bind_some h
          refine .consA (.call .none (layer_Near_ok hv22) (.cons (.s rfl) (.cons (.s rfl) (.cons (.s rfl) .nil)))) rfl ?_
          refine .consA (.move .none (.s rfl)) rfl ?_
          refine .consA (.extract .none (.s rfl) rfl) rfl ?_
          refine .consA (.extract .none (.s rfl) rfl) rfl ?_
          refine .consW (.alloc zo32 rfl) rfl rfl ?_
          refine .consN (.store ty32 rfl rfl (.s rfl)) rfl ?_
          refine .consA (.assign .none (.s rfl)) rfl ?_
          refine .nil ?_
          refine .then ?_
          refine .freeze (t := 16) rfl rfl SubB.nil rfl ?_
          refine .seq ?_
          refine .region [] mixed (by kernel_rfl) ?_
          refine .cons (.move .none (.s rfl)) rfl ?_
          refine .cons (.neI .none (.s rfl) (.int (by decide))) rfl ?_
          refine .cons (.move .none (.s rfl)) rfl ?_
          refine .cons (.load (.at rfl rfl) ty32 (.s rfl)) rfl ?_
          refine .cons (.len (.at rfl rfl) sl32 (.tmp rfl id)) rfl ?_
          refine .cons (.load (.at rfl rfl) ty32 (.s rfl)) rfl ?_
          refine .cons (.len (.at rfl rfl) sl32 (.tmp rfl id)) rfl ?_
          refine .cons (.neI (.at rfl rfl) (.tmp rfl id) (.tmp rfl id)) rfl ?_
          refine .cons (.pickOr .none (.s rfl) (.tmp rfl id)) rfl ?_
          refine .cons (.move .none (.s rfl)) rfl ?_
          refine .cons (.load (.at rfl rfl) ty32 (.s rfl)) rfl ?_
          refine .cons (.makeFunc (ι := Int × Bool) (pre := fun i => (fun x0 => law_NearsMatch_1 x0 r1.1 r7.1 move1) i.1 = some i.2) (Ss := fun i => [rep i.1]) (S := fun i => rep i.2) (.at rfl rfl) fnok30 (fun i h => law_NearsMatch_1_ok h) (.cons (.s rfl) (.cons (.s rfl) (.cons (.s rfl) .nil)))) rfl ?_
          obtain ⟨r8, hv23, h⟩ := bind_some h
          refine .cons (.callIf (.at rfl rfl) fnok29 (fun hg => slices_ContainsFunc_int_ok ((fun hg => gd_some hv23 ((notT hg.2))) hg)) (.cons (.tmp rfl id) (.cons (.tmp rfl id) .nil)) (fun h => h)) rfl ?_
          refine .cons (.pickOr .none (.s rfl) (.tmp rfl id)) rfl ?_
          refine .nil ?_
          refine .then ?_
          refine .cond (t := 111) rfl trivial (fun hb24 => ?_) (fun hb24 => ?_)
          · replace h := bif_t h hb24
            refine .seq ?_
            refine .region [] mixed (by kernel_rfl) ?_
            refine .cons (.assign .none .bool) rfl ?_
            refine .nil ?_
            refine .then ?_
            refine .ret ?_
            refine .thenRet ?_
            obtain rfl := some_eq h
            exact Ends.ret1 (.inl rfl) Try.results5 (ResOK.tmp rfl trivial Imp.refl)
          · replace h := bif_f h hb24
            refine .skip ?_
            refine .then ?_
            refine .seq ?_
            refine .seq ?_
            refine .region [] mixed (by kernel_rfl) ?_
            refine .cons (.move .none (.s rfl)) rfl ?_
            refine .cons (.len .none sl32 (.s rfl)) rfl ?_
            refine .cons (.move .none (.s rfl)) rfl ?_
            refine .cons (.len .none sl32 (.s rfl)) rfl ?_
            refine .cons (.neI .none (.s rfl) (.s rfl)) rfl ?_
            refine .nil ?_
            refine .then ?_
            refine .cond (t := 116) rfl trivial (fun hb25 => ?_) (fun hb25 => ?_)
            · replace h := bif_t h hb25
              refine .seq ?_
              refine .region [] mixed (by kernel_rfl) ?_
              refine .cons (.assign .none .bool) rfl ?_
              refine .nil ?_
              refine .then ?_
              refine .ret ?_
              refine .thenRet ?_
              obtain rfl := some_eq h
              exact Ends.ret1 (.inl rfl) Try.results5 (ResOK.tmp rfl trivial Imp.refl)
            · replace h := bif_f h hb25
              refine .skip ?_
              refine .then ?_
              refine .seq ?_
              refine .seq ?_
              refine .region [] mixed (by kernel_rfl) ?_
              refine .cons (.move .none (.s rfl)) rfl ?_
              refine .cons (.len .none sl32 (.s rfl)) rfl ?_
              refine .cons (.move .none (.int (by decide))) rfl ?_
              refine .nil ?_
              refine .then ?_
              obtain ⟨o_26, h, hK26⟩ := bindR_some h
              refine .thenJ (ι := Unit) (fun j_26 => []) (fun j_26 => []) (fun s => o_26 = Res.nx s) (.cons (t := 0) rfl (.cons (t := 4) rfl (.cons (t := 11) rfl Sub.nil))) SubB.nil ?_ (fun j_26 hj26 => ?_)
              · skip
                refine .block ?_
                refine .rforEL h (fun p27_ => [(119, ⟨True, rep p27_.1⟩)]) (fun p27_ => []) (.cons (t := 119) rfl Sub.nil) SubB.nil (.cons (t := 0) rfl (.cons (t := 1) rfl (.cons (t := 2) rfl (.cons (t := 4) rfl (.cons (t := 11) rfl (.cons (t := 118) rfl Sub.nil)))))) SubB.nil (fun p27_ o_27 h hD27 => ?_)
                refine .seq ?_
                refine .region [] mixed (by kernel_rfl) ?_
                refine .cons (.lt .none (.s rfl) (.s rfl)) rfl ?_
                refine .nil ?_
                refine .then ?_
                refine .seq ?_
                refine .cond (t := 120) rfl trivial (fun hb28 => ?_) (fun hb28 => ?_)
                · replace h := bif_t h hb28
                  refine .skip ?_
                  refine .then ?_
                  refine .seq ?_
                  obtain ⟨o_29, h, hK29⟩ := bindD_some h
                  unfold law_NearsMatch_L2 at h
                  refine .thenJ (ι := Unit) (fun j_29 => []) (fun j_29 => []) (fun s => o_29 = Res.nx s) (.cons (t := 0) rfl (.cons (t := 1) rfl (.cons (t := 2) rfl (.cons (t := 4) rfl (.cons (t := 11) rfl (.cons (t := 118) rfl (.cons (t := 119) rfl Sub.nil))))))) SubB.nil ?_ (fun j_29 hj29 => ?_)
                  · skip
                    refine .block ?_
                    refine .seq ?_
                    refine .region [] mixed (by kernel_rfl) ?_
                    refine .cons (.move .none (.s rfl)) rfl ?_
                    refine .cons (.assign .none (.s rfl)) rfl ?_
                    refine .nil ?_
                    refine .then ?_
                    refine .seq ?_
                    refine .region [] mixed (by kernel_rfl) ?_
                    refine .cons (.move .none (.s rfl)) rfl ?_
                    refine .cons (.move .none (.s rfl)) rfl ?_
                    obtain ⟨hn30, h⟩ := need_some h
                    refine .cons (.indexAddr .none sl32 ty3 (.s rfl) (.s rfl) (fun _ => hn30)) rfl ?_
                    refine .cons (.load .none ty3 (.s rfl)) rfl ?_
                    obtain ⟨r9, hv31, h⟩ := bind_some h
                    refine .cons (.call .none (ref_In_ok hv31) (.cons (.s rfl) (.cons (.int (by decide)) (.cons (.int (by decide)) .nil)))) rfl ?_
                    refine .cons (.not .none (.s rfl)) rfl ?_
                    refine .cons (.move .none (.s rfl)) rfl ?_
                    refine .cons (.move (.at rfl rfl) (.s rfl)) rfl ?_
                    refine .cons (.gt (.at rfl rfl) (.tmp rfl id) (.int (by decide))) rfl ?_
                    refine .cons (.move (.at rfl rfl) (.tmp rfl id)) rfl ?_
                    refine .cons (.move (.at rfl rfl) (.s rfl)) rfl ?_
                    refine .cons (.move (.at rfl rfl) (.s rfl)) rfl ?_
                    obtain ⟨hn32, h⟩ := need_some h
                    refine .cons (.indexAddr (.at rfl rfl) sl32 ty3 (.tmp rfl id) (.tmp rfl id) (fun hg => hn32 hg.1.2 hg.2)) rfl ?_
                    refine .cons (.load (.at rfl rfl) ty3 (.tmp rfl id)) rfl ?_
                    refine .cons (.move (.at rfl rfl) (.s rfl)) rfl ?_
                    refine .cons (.move (.at rfl rfl) (.s rfl)) rfl ?_
                    refine .cons (.subW (.at rfl rfl) (.tmp rfl id) (.int (by decide))) rfl ?_
                    obtain ⟨hn33, h⟩ := need_some h
                    refine .cons (.indexAddr (.at rfl rfl) sl32 ty3 (.tmp rfl id) (.tmp rfl id) (fun hg => hn33 hg.1.2 hg.2)) rfl ?_
                    refine .cons (.load (.at rfl rfl) ty3 (.tmp rfl id)) rfl ?_
                    refine .cons (.move (.at rfl rfl) (.s rfl)) rfl ?_
                    refine .cons (.move (.at rfl rfl) (.s rfl)) rfl ?_
                    refine .cons (.subW (.at rfl rfl) (.tmp rfl id) (.int (by decide))) rfl ?_
                    obtain ⟨hn34, h⟩ := need_some h
                    refine .cons (.indexAddr (.at rfl rfl) sl32 ty3 (.tmp rfl id) (.tmp rfl id) (fun hg => hn34 hg.1.2 hg.2)) rfl ?_
                    refine .cons (.load (.at rfl rfl) ty3 (.tmp rfl id)) rfl ?_
                    refine .cons (.addW (.at rfl rfl) (.tmp rfl id) (.tmp rfl id)) rfl ?_
                    refine .cons (.move (.at rfl rfl) (.s rfl)) rfl ?_
                    refine .cons (.addW (.at rfl rfl) (.tmp rfl id) (.tmp rfl id)) rfl ?_
                    refine .cons (.lt (.at rfl rfl) (.tmp rfl id) (.tmp rfl id)) rfl ?_
                    refine .cons (.pickAnd (.at rfl rfl) (.tmp rfl id) (.tmp rfl id)) rfl ?_
                    refine .cons (.pickOr .none (.s rfl) (.tmp rfl id)) rfl ?_
                    refine .nil ?_
                    refine .then ?_
                    refine .cond (t := 151) rfl trivial (fun hb35 => ?_) (fun hb35 => ?_)
                    · replace h := bif_t h hb35
                      refine .seq ?_
                      refine .region [] mixed (by kernel_rfl) ?_
                      refine .cons (.assign .none .bool) rfl ?_
                      refine .nil ?_
                      refine .then ?_
                      refine .ret ?_
                      refine .blkRet ?_
                      refine .thenRet ?_
                      refine .thenRet ?_
                      refine .blkRet ?_
                      refine .thenRet ?_
                      replace h := resd_ab hK29 (some_eq h)
                      replace h := hD27 _ (some_eq h)
                      replace h := resb_ab hK26 (some_eq h)
                      obtain rfl := some_eq h
                      exact Ends.ret1 (.inl rfl) Try.results5 (ResOK.tmp rfl trivial Imp.refl)
                    · replace h := bif_f h hb35
                      refine .skip ?_
                      refine .blkNormal ?_
                      exact Ends.join _ (some_eq h) (.cons (t := 0) rfl (.cons (t := 1) rfl (.cons (t := 2) rfl (.cons (t := 4) rfl (.cons (t := 11) rfl (.cons (t := 118) rfl (.cons (t := 119) rfl Sub.nil))))))) SubB.nil
                  · have h := resd_nx hK29 hj29
                    refine .region [] mixed (by kernel_rfl) ?_
                    refine .cons (.addW .none (.s rfl) (.int (by decide))) rfl ?_
                    refine .cons (.move .none (.s rfl)) rfl ?_
                    refine .nil ?_
                    exact Ends.againL (some_eq h) (.cons (t := 119) rfl (.cons (t := 0) rfl (.cons (t := 1) rfl (.cons (t := 2) rfl (.cons (t := 4) rfl (.cons (t := 11) rfl (.cons (t := 118) rfl Sub.nil))))))) SubB.nil
                · replace h := bif_f h hb28
                  refine .exit ?_
                  refine .thenExit ?_
                  refine .thenExit ?_
                  refine .blkExit ?_
                  replace h := hD27 _ (some_eq h)
                  exact Ends.join _ (some_eq h) (.cons (t := 0) rfl (.cons (t := 4) rfl (.cons (t := 11) rfl Sub.nil))) SubB.nil
              · have h := resb_nx hK26 hj26
                refine .seq ?_
                refine .region [] mixed (by kernel_rfl) ?_
                refine .cons (.move .none (.s rfl)) rfl ?_
                refine .cons (.move .none (.s rfl)) rfl ?_
                obtain ⟨r10, hv36, h⟩ := bind_some h
                refine .cons (.call .none (ref_Sum_ok hv36) (.cons (.s rfl) (.cons (.s rfl) .nil))) rfl ?_
                refine .cons (.move .none (.s rfl)) rfl ?_
                refine .cons (.load .none ty32 (.s rfl)) rfl ?_
                obtain ⟨r11, hv37, h⟩ := bind_some h
                refine .cons (.call .none (ref_Sum_ok hv37) (.cons (.s rfl) (.cons (.s rfl) .nil))) rfl ?_
                refine .cons (.ge .none (.s rfl) (.s rfl)) rfl ?_
                refine .cons (.assign .none (.s rfl)) rfl ?_
                refine .nil ?_
                refine .then ?_
                refine .ret ?_
                obtain rfl := some_eq h
                exact Ends.ret1 (.inl rfl) Try.results5 (ResOK.tmp rfl trivial Imp.refl)


end Go.Proofs.Ytbahnfkccdlpnaa
