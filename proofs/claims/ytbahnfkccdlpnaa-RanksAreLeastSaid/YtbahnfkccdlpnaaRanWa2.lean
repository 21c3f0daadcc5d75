/-
  The walks: what a function computes is what its plain function says (printed by a program of one's own).
-/
import Derived.Test.YtbahnfkccdlpnaaRanWa1
set_option maxRecDepth 100000
set_option linter.unusedSimpArgs false
set_option linter.unusedVariables false
namespace Go.Proofs.Ytbahnfkccdlpnaa
open Go Go.DB Go.RowKit

theorem ref_pieces_ok {n1 : Int} {l1 : (List Link)} {r : (List Int)}  (h : ref_pieces n1 l1 = some r) : FSpec Try.prog 76 [rep n1, rep l1] (rep r) := by
  unfold ref_pieces at h
  refine FSpec.intro (n := 69) fnok76 Try.func76 rfl Try.ntmps76 rfl (fun F => ?_)
  refine .seq ?_
  refine .region [] mixed (by kernel_rfl) ?_
  refine .cons (.assign .none (.const (x := ([] : (List Int))) (fun M w => ⟨_, ⟨none, 0, rfl, Nat.le_refl _, by decide, rfl⟩, rfl⟩))) rfl ?_
  refine .nil ?_
  refine .then ?_
  refine .seq ?_
  refine .region [([], []), ([], [12]), ([12], [5, 12])] mixed (by kernel_rfl) ?_
  refine .consA (.move .none (.s rfl)) rfl ?_
  obtain ⟨hn1, h⟩ := need_some h
  refine .consW (.makeSlice rk32 zo3 rfl (.s rfl) (.s rfl) hn1) rfl rfl ?_
  refine .consW (.passRow rfl (.tmp rfl)) rfl rfl ?_
  refine .nil ?_
  refine .then ?_
  obtain ⟨p1, hv2, h⟩ := bnd_some h
  refine .reB (t := 5) rfl (congrArg (rowV 3) hv2) ?_
  refine .nameRow (t := 5) (g := 5001) rfl rfl rfl (fun s5001 => ?_)
  refine .seq ?_
  refine .seq ?_
  refine .region [([], []), ([5001], []), ([], [])] mixed (by kernel_rfl) ?_
  refine .consA (.move .none (.s rfl)) rfl ?_
  refine .consA (.lenO (k := 5001) sl32 (.told (.s rfl) rfl)) rfl ?_
  refine .consA (.move .none (.int (by decide))) rfl ?_
  refine .nil ?_
  refine .then ?_
  obtain ⟨j_3, h, hK3⟩ := bind_some h
  refine .thenJ (ι := (List Int)) (fun j_3 => []) (fun j_3 => [(5001, some (CPred.at s5001 (rowV 3 j_3)))]) (fun s => j_3 = s) (.cons (t := 1) rfl (.cons (t := 5) rfl Sub.nil)) SubB.nil ?_ (fun j_3' hj3 => ?_)
  · skip
    refine .block ?_
    refine .rforL h (fun p4_ => [(15, ⟨True, rep p4_.1⟩)]) (fun p4_ => [(5001, some (CPred.at s5001 (rowV 3 p4_.2)))]) (.cons (t := 15) rfl Sub.nil) (.cons (t := 5001) rfl SubB.nil) (.cons (t := 1) rfl (.cons (t := 5) rfl (.cons (t := 14) rfl Sub.nil))) SubB.nil (fun p4_ o_4 h hD4 => ?_)
    refine .seq ?_
    refine .region [] mixed (by kernel_rfl) ?_
    refine .cons (.lt .none (.s rfl) (.s rfl)) rfl ?_
    refine .nil ?_
    refine .then ?_
    refine .seq ?_
    refine .cond (t := 16) rfl trivial (fun hb5 => ?_) (fun hb5 => ?_)
    · replace h := bif_t h hb5
      refine .skip ?_
      refine .then ?_
      refine .seq ?_
      obtain ⟨j_6, h, hK6⟩ := bind_some h
      unfold ref_pieces_L1 at h
      refine .thenJ (ι := (List Int)) (fun j_6 => []) (fun j_6 => [(5001, some (CPred.at s5001 (rowV 3 j_6)))]) (fun s => j_6 = s) (.cons (t := 1) rfl (.cons (t := 5) rfl (.cons (t := 14) rfl (.cons (t := 15) rfl Sub.nil)))) SubB.nil ?_ (fun j_6' hj6 => ?_)
      · skip
        refine .block ?_
        refine .seq ?_
        refine .region [] mixed (by kernel_rfl) ?_
        refine .cons (.move .none (.s rfl)) rfl ?_
        refine .cons (.assign .none (.s rfl)) rfl ?_
        refine .nil ?_
        refine .then ?_
        refine .region [([], []), ([], []), ([], []), ([5001], []), ([5001], [5001])] mixed (by kernel_rfl) ?_
        refine .consA (.move .none (.s rfl)) rfl ?_
        refine .consA (.move .none (.s rfl)) rfl ?_
        refine .consA (.move .none (.s rfl)) rfl ?_
        obtain ⟨hn7, h⟩ := need_some h
        refine .consA (.indexAddrO (k := 5001) .none sl32 ty3 (.s rfl) rfl (.s rfl) (fun _ => hn7)) rfl ?_
        refine .consN (.storeElem0 (k := 5001) ty3 (.s rfl) rfl (.s rfl) hn7) rfl ?_
        refine .nil ?_
        refine .blkNormal ?_
        exact Ends.join _ (some_eq h) (.cons (t := 1) rfl (.cons (t := 5) rfl (.cons (t := 14) rfl (.cons (t := 15) rfl Sub.nil)))) (.cons (t := 5001) rfl SubB.nil)
      · subst hj6; have h := hK6; clear hK6
        refine .region [] mixed (by kernel_rfl) ?_
        refine .cons (.addW .none (.s rfl) (.int (by decide))) rfl ?_
        refine .cons (.move .none (.s rfl)) rfl ?_
        refine .nil ?_
        exact Ends.againL (some_eq h) (.cons (t := 15) rfl (.cons (t := 1) rfl (.cons (t := 5) rfl (.cons (t := 14) rfl Sub.nil)))) (.cons (t := 5001) rfl SubB.nil)
    · replace h := bif_f h hb5
      refine .exit ?_
      refine .thenExit ?_
      refine .thenExit ?_
      refine .blkExit ?_
      replace h := hD4 _ (some_eq h)
      exact Ends.join _ (some_eq h) (.cons (t := 1) rfl (.cons (t := 5) rfl Sub.nil)) (.cons (t := 5001) rfl SubB.nil)
  · subst hj3; have h := hK3; clear hK3
    refine .seq ?_
    refine .seq ?_
    refine .region [] mixed (by kernel_rfl) ?_
    refine .cons (.assign .none .bool) rfl ?_
    refine .nil ?_
    refine .then ?_
    obtain ⟨j_8, h, hK8⟩ := bind_some h
    refine .thenJ (ι := (List Int)) (fun j_8 => []) (fun j_8 => [(5001, some (CPred.at s5001 (rowV 3 j_8)))]) (fun s => j_8 = s) (.cons (t := 5) rfl Sub.nil) SubB.nil ?_ (fun j_8' hj8 => ?_)
    · skip
      refine .block ?_
      refine .loopL h (fun s9_ => [(7, ⟨True, rep s9_.1⟩)]) (fun s9_ => [(5001, some (CPred.at s5001 (rowV 3 s9_.2)))]) (.cons (t := 7) rfl Sub.nil) (.cons (t := 5001) rfl SubB.nil) (.cons (t := 1) rfl (.cons (t := 5) rfl Sub.nil)) SubB.nil (fun s9_ o_9 h hD9 => ?_)
      unfold ref_pieces_L2 at h
      refine .seq ?_
      refine .seq ?_
      refine .region [] mixed (by kernel_rfl) ?_
      refine .cons (.move .none (.s rfl)) rfl ?_
      refine .nil ?_
      refine .then ?_
      refine .cond (t := 23) rfl trivial (fun hb10 => ?_) (fun hb10 => ?_)
      · replace h := bif_t h hb10
        refine .skip ?_
        refine .then ?_
        refine .block ?_
        refine .seq ?_
        refine .region [] mixed (by kernel_rfl) ?_
        refine .cons (.assign .none .bool) rfl ?_
        refine .nil ?_
        refine .then ?_
        refine .seq ?_
        refine .region [] mixed (by kernel_rfl) ?_
        refine .cons (.move .none (.s rfl)) rfl ?_
        refine .cons (.len .none sl23 (.s rfl)) rfl ?_
        refine .cons (.move .none (.int (by decide))) rfl ?_
        refine .nil ?_
        refine .then ?_
        obtain ⟨j_11, h, hK11⟩ := bind_some h
        refine .tailJ (ι := (Bool × (List Int))) (fun j_11 => [(7, ⟨True, rep j_11.1⟩)]) (fun j_11 => [(5001, some (CPred.at s5001 (rowV 3 j_11.2)))]) (fun s => j_11 = s) (.cons (t := 1) rfl (.cons (t := 5) rfl Sub.nil)) SubB.nil ?_ (fun j_11' hj11 => ?_)
        · skip
          refine .block ?_
          refine .rforL h (fun p12_ => [(26, ⟨True, rep p12_.1⟩), (7, ⟨True, rep p12_.2.1⟩)]) (fun p12_ => [(5001, some (CPred.at s5001 (rowV 3 p12_.2.2)))]) (.cons (t := 26) rfl (.cons (t := 7) rfl Sub.nil)) (.cons (t := 5001) rfl SubB.nil) (.cons (t := 1) rfl (.cons (t := 5) rfl (.cons (t := 24) rfl (.cons (t := 25) rfl Sub.nil)))) SubB.nil (fun p12_ o_12 h hD12 => ?_)
          refine .seq ?_
          refine .region [] mixed (by kernel_rfl) ?_
          refine .cons (.lt .none (.s rfl) (.s rfl)) rfl ?_
          refine .nil ?_
          refine .then ?_
          refine .seq ?_
          refine .cond (t := 27) rfl trivial (fun hb13 => ?_) (fun hb13 => ?_)
          · replace h := bif_t h hb13
            refine .skip ?_
            refine .then ?_
            refine .seq ?_
            obtain ⟨j_14, h, hK14⟩ := bind_some h
            unfold ref_pieces_L3 at h
            refine .thenJ (ι := (Bool × (List Int))) (fun j_14 => [(7, ⟨True, rep j_14.1⟩)]) (fun j_14 => [(5001, some (CPred.at s5001 (rowV 3 j_14.2)))]) (fun s => j_14 = s) (.cons (t := 1) rfl (.cons (t := 5) rfl (.cons (t := 24) rfl (.cons (t := 25) rfl (.cons (t := 26) rfl Sub.nil))))) SubB.nil ?_ (fun j_14' hj14 => ?_)
            · skip
              refine .block ?_
              refine .seq ?_
              refine .region [([], []), ([], []), ([], [9]), ([9], [9])] mixed (by kernel_rfl) ?_
              obtain ⟨hn15, h⟩ := need_some h
              refine .consA (.indexAddr .none sl23 ty79 (.s rfl) (.s rfl) (fun _ => hn15)) rfl ?_
              obtain ⟨v1, hv16, h⟩ := bnd_some h
              refine .consA (.re hv16 (.load .none ty79 (.s rfl))) rfl ?_
              refine .consW (.alloc zo79 rfl) rfl rfl ?_
              refine .consN (.store ty79 rfl rfl (.s rfl)) rfl ?_
              refine .nil ?_
              refine .then ?_
              refine .freeze (t := 9) rfl rfl (.cons (t := 5001) rfl SubB.nil) rfl ?_
              refine .seq ?_
              refine .region [([], []), ([], []), ([], []), ([5001], []), ([5001], []), ([], []), ([], []), ([], []), ([5001], []), ([5001], []), ([], []), ([], [])] mixed (by kernel_rfl) ?_
              refine .consA (.move .none (.s rfl)) rfl ?_
              refine .consA (.fieldAddr .none fd79_0 hfd79_0 (.s rfl)) rfl ?_
              refine .consA (.load .none ty3 (.s rfl)) rfl ?_
              obtain ⟨hn17, h⟩ := need_some h
              refine .consA (.indexAddrO (k := 5001) .none sl32 ty3 (.s rfl) rfl (.s rfl) (fun _ => hn17)) rfl ?_
              refine .consA (.loadElem0 (k := 5001) .none ty3 (.s rfl) rfl (fun _ => hn17)) rfl ?_
              refine .consA (.move .none (.s rfl)) rfl ?_
              refine .consA (.fieldAddr .none fd79_1 hfd79_1 (.s rfl)) rfl ?_
              refine .consA (.load .none ty3 (.s rfl)) rfl ?_
              obtain ⟨hn18, h⟩ := need_some h
              refine .consA (.indexAddrO (k := 5001) .none sl32 ty3 (.s rfl) rfl (.s rfl) (fun _ => hn18)) rfl ?_
              refine .consA (.loadElem0 (k := 5001) .none ty3 (.s rfl) rfl (fun _ => hn18)) rfl ?_
              refine .consA (.min2 .none (.s rfl) (.s rfl)) rfl ?_
              obtain ⟨k1, hv19, h⟩ := bnd_some h
              refine .consA (.re hv19 (.assign .none (.s rfl))) rfl ?_
              refine .nil ?_
              refine .then ?_
              refine .seq ?_
              refine .region [([], []), ([], []), ([], []), ([5001], []), ([5001], []), ([], []), ([], []), ([], []), ([], []), ([], []), ([], []), ([5001], []), ([5001], []), ([], []), ([], []), ([], [])] mixed (by kernel_rfl) ?_
              refine .consA (.move .none (.s rfl)) rfl ?_
              refine .consA (.fieldAddr .none fd79_0 hfd79_0 (.s rfl)) rfl ?_
              refine .consA (.load .none ty3 (.s rfl)) rfl ?_
              obtain ⟨hn20, h⟩ := need_some h
              refine .consA (.indexAddrO (k := 5001) .none sl32 ty3 (.s rfl) rfl (.s rfl) (fun _ => hn20)) rfl ?_
              refine .consA (.loadElem0 (k := 5001) .none ty3 (.s rfl) rfl (fun _ => hn20)) rfl ?_
              refine .consA (.move .none (.s rfl)) rfl ?_
              refine .consA (.neI .none (.s rfl) (.s rfl)) rfl ?_
              refine .consA (.move .none (.s rfl)) rfl ?_
              refine .consA (.move (.at rfl rfl) (.s rfl)) rfl ?_
              refine .consA (.fieldAddr (.at rfl rfl) fd79_1 hfd79_1 (.s rfl)) rfl ?_
              refine .consA (.load (.at rfl rfl) ty3 (.tmp rfl id)) rfl ?_
              obtain ⟨hn21, h⟩ := need_some h
              refine .consA (.indexAddrO (k := 5001) (.at rfl rfl) sl32 ty3 (.tmp rfl id) rfl (.tmp rfl id) (fun hg => hn21 hg.2)) rfl ?_
              refine .consA (.loadElem0 (k := 5001) (.at rfl rfl) ty3 (.tmp rfl id) rfl (fun hg => hn21 hg.2)) rfl ?_
              refine .consA (.move (.at rfl rfl) (.s rfl)) rfl ?_
              refine .consA (.neI (.at rfl rfl) (.tmp rfl id) (.tmp rfl id)) rfl ?_
              refine .consA (.pickOr .none (.s rfl) (.tmp rfl id)) rfl ?_
              refine .nil ?_
              refine .then ?_
              refine .cond (t := 56) rfl trivial (fun hb22 => ?_) (fun hb22 => ?_)
              · replace h := bif_t h hb22
                refine .region [([], []), ([], []), ([], []), ([], []), ([], []), ([], []), ([], []), ([], []), ([5001], []), ([5001], [5001]), ([5001], []), ([5001], [5001]), ([], [])] mixed (by kernel_rfl) ?_
                refine .consA (.move .none (.s rfl)) rfl ?_
                refine .consA (.fieldAddr .none fd79_0 hfd79_0 (.s rfl)) rfl ?_
                refine .consA (.load .none ty3 (.s rfl)) rfl ?_
                refine .consA (.move .none (.s rfl)) rfl ?_
                refine .consA (.fieldAddr .none fd79_1 hfd79_1 (.s rfl)) rfl ?_
                refine .consA (.load .none ty3 (.s rfl)) rfl ?_
                refine .consA (.move .none (.s rfl)) rfl ?_
                refine .consA (.move .none (.s rfl)) rfl ?_
                obtain ⟨hn23, h⟩ := need_some h
                refine .consA (.indexAddrO (k := 5001) .none sl32 ty3 (.s rfl) rfl (.s rfl) (fun _ => hn23)) rfl ?_
                refine .consN (.storeElem0 (k := 5001) ty3 (.s rfl) rfl (.s rfl) hn23) rfl ?_
                obtain ⟨hn24, h⟩ := need_some h
                refine .consA (.indexAddrO (k := 5001) .none sl32 ty3 (.s rfl) rfl (.s rfl) (fun _ => hn24)) rfl ?_
                refine .consN (.storeElem0 (k := 5001) ty3 (.s rfl) rfl (.s rfl) hn24) rfl ?_
                refine .consA (.assign .none .bool) rfl ?_
                refine .nil ?_
                refine .blkNormal ?_
                exact Ends.join _ (some_eq h) (.cons (t := 7) rfl (.cons (t := 1) rfl (.cons (t := 5) rfl (.cons (t := 24) rfl (.cons (t := 25) rfl (.cons (t := 26) rfl Sub.nil)))))) (.cons (t := 5001) rfl SubB.nil)
              · replace h := bif_f h hb22
                refine .skip ?_
                refine .blkNormal ?_
                exact Ends.join _ (some_eq h) (.cons (t := 7) rfl (.cons (t := 1) rfl (.cons (t := 5) rfl (.cons (t := 24) rfl (.cons (t := 25) rfl (.cons (t := 26) rfl Sub.nil)))))) (.cons (t := 5001) rfl SubB.nil)
            · subst hj14; have h := hK14; clear hK14
              refine .region [] mixed (by kernel_rfl) ?_
              refine .cons (.addW .none (.s rfl) (.int (by decide))) rfl ?_
              refine .cons (.move .none (.s rfl)) rfl ?_
              refine .nil ?_
              exact Ends.againL (some_eq h) (.cons (t := 26) rfl (.cons (t := 7) rfl (.cons (t := 1) rfl (.cons (t := 5) rfl (.cons (t := 24) rfl (.cons (t := 25) rfl Sub.nil)))))) (.cons (t := 5001) rfl SubB.nil)
          · replace h := bif_f h hb13
            refine .exit ?_
            refine .thenExit ?_
            refine .thenExit ?_
            refine .blkExit ?_
            replace h := hD12 _ (some_eq h)
            exact Ends.join _ (some_eq h) (.cons (t := 7) rfl (.cons (t := 1) rfl (.cons (t := 5) rfl Sub.nil))) (.cons (t := 5001) rfl SubB.nil)
        · subst hj11; have h := hK11; clear hK11
          refine .blkNormal ?_
          exact Ends.againL (some_eq h) (.cons (t := 7) rfl (.cons (t := 1) rfl (.cons (t := 5) rfl Sub.nil))) (.cons (t := 5001) rfl SubB.nil)
      · replace h := bif_f h hb10
        refine .exit ?_
        refine .thenExit ?_
        refine .thenExit ?_
        refine .blkExit ?_
        replace h := hD9 _ (some_eq h)
        exact Ends.join _ (some_eq h) (.cons (t := 5) rfl Sub.nil) (.cons (t := 5001) rfl SubB.nil)
    · subst hj8; have h := hK8; clear hK8
      refine .freezeRow (g := 5001) (ts := [5]) rfl (.cons (t := 5) rfl trivial .nil) SubB.nil rfl ?_
      refine .seq ?_
      refine .region [] mixed (by kernel_rfl) ?_
      refine .cons (.move .none (.s rfl)) rfl ?_
      refine .cons (.assign .none (.s rfl)) rfl ?_
      refine .nil ?_
      refine .then ?_
      refine .ret ?_
      obtain rfl := some_eq h
      exact Ends.ret1 (.inl rfl) Try.results76 (ResOK.tmp rfl trivial Imp.refl)

theorem ref_AreRanks_ok {n1 : Int} {l1 : (List Link)} {ranks1 : (List Int)} {r : Bool}  (h : ref_AreRanks n1 l1 ranks1 = some r) : FSpec Try.prog 35 [rep n1, rep l1, rep ranks1] (rep r) := by
  unfold ref_AreRanks at h
  refine FSpec.intro (n := 54) fnok35 Try.func35 rfl Try.ntmps35 rfl (fun F => ?_)
  refine .seq ?_
  refine .region [] mixed (by kernel_rfl) ?_
  refine .cons (.box .none (.s rfl)) rfl ?_
  refine .cons (.assign .none .bool) rfl ?_
  refine .nil ?_
  refine .then ?_
  refine .seq ?_
  refine .seq ?_
  refine .region [] mixed (by kernel_rfl) ?_
  refine .cons (.load .none ty32 (.s rfl)) rfl ?_
  refine .cons (.len .none sl32 (.s rfl)) rfl ?_
  refine .cons (.move .none (.s rfl)) rfl ?_
  refine .cons (.neI .none (.s rfl) (.s rfl)) rfl ?_
  refine .cons (.move .none (.s rfl)) rfl ?_
  refine .cons (.move (.at rfl rfl) (.s rfl)) rfl ?_
  refine .cons (.makeFunc (ι := Link × Bool) (pre := fun i => (fun x0 => ref_AreRanks_1 x0 ranks1) i.1 = some i.2) (Ss := fun i => [rep i.1]) (S := fun i => rep i.2) (.at rfl rfl) fnok75 (fun i h => ref_AreRanks_1_ok h) (.cons (.s rfl) .nil)) rfl ?_
  obtain ⟨r1, hv1, h⟩ := bind_some h
  refine .cons (.callIf (.at rfl rfl) fnok74 (fun hg => slices_ContainsFunc_Link_ok ((fun hg => gd_some hv1 ((notT hg.2))) hg)) (.cons (.tmp rfl id) (.cons (.tmp rfl id) .nil)) (fun h => h)) rfl ?_
  refine .cons (.pickOr .none (.s rfl) (.tmp rfl id)) rfl ?_
  refine .nil ?_
  refine .then ?_
  refine .cond (t := 19) rfl trivial (fun hb2 => ?_) (fun hb2 => ?_)
  · replace h := bif_t h hb2
    refine .seq ?_
    refine .region [] mixed (by kernel_rfl) ?_
    refine .cons (.assign .none .bool) rfl ?_
    refine .nil ?_
    refine .then ?_
    refine .ret ?_
    refine .thenRet ?_
    obtain rfl := some_eq h
    exact Ends.ret1 (.inl rfl) Try.results35 (ResOK.tmp rfl trivial Imp.refl)
  · replace h := bif_f h hb2
    refine .skip ?_
    refine .then ?_
    refine .seq ?_
    refine .region [] mixed (by kernel_rfl) ?_
    refine .cons (.move .none (.s rfl)) rfl ?_
    refine .cons (.move .none (.s rfl)) rfl ?_
    obtain ⟨p1, hv3, h⟩ := bind_some h
    refine .cons (.call .none (ref_pieces_ok hv3) (.cons (.s rfl) (.cons (.s rfl) .nil))) rfl ?_
    refine .cons (.assign .none (.s rfl)) rfl ?_
    refine .nil ?_
    refine .then ?_
    refine .seq ?_
    refine .seq ?_
    refine .region [] mixed (by kernel_rfl) ?_
    refine .cons (.move .none (.s rfl)) rfl ?_
    refine .cons (.move .none (.int (by decide))) rfl ?_
    refine .nil ?_
    refine .then ?_
    obtain ⟨o_4, h, hK4⟩ := bindR_some h
    refine .thenJ (ι := Unit) (fun j_4 => []) (fun j_4 => []) (fun s => o_4 = Res.nx s) Sub.nil SubB.nil ?_ (fun j_4 hj4 => ?_)
    · skip
      refine .block ?_
      refine .rforEL h (fun p5_ => [(24, ⟨True, rep p5_.1⟩)]) (fun p5_ => []) (.cons (t := 24) rfl Sub.nil) SubB.nil (.cons (t := 0) rfl (.cons (t := 5) rfl (.cons (t := 7) rfl (.cons (t := 23) rfl Sub.nil)))) SubB.nil (fun p5_ o_5 h hD5 => ?_)
      refine .seq ?_
      refine .region [] mixed (by kernel_rfl) ?_
      refine .cons (.lt .none (.s rfl) (.s rfl)) rfl ?_
      refine .nil ?_
      refine .then ?_
      refine .seq ?_
      refine .cond (t := 25) rfl trivial (fun hb6 => ?_) (fun hb6 => ?_)
      · replace h := bif_t h hb6
        refine .skip ?_
        refine .then ?_
        refine .seq ?_
        obtain ⟨o_7, h, hK7⟩ := bindD_some h
        unfold ref_AreRanks_L1 at h
        refine .thenJ (ι := Unit) (fun j_7 => []) (fun j_7 => []) (fun s => o_7 = Res.nx s) (.cons (t := 0) rfl (.cons (t := 5) rfl (.cons (t := 7) rfl (.cons (t := 23) rfl (.cons (t := 24) rfl Sub.nil))))) SubB.nil ?_ (fun j_7 hj7 => ?_)
        · skip
          refine .block ?_
          refine .seq ?_
          refine .region [] mixed (by kernel_rfl) ?_
          refine .cons (.move .none (.s rfl)) rfl ?_
          refine .cons (.assign .none (.s rfl)) rfl ?_
          refine .nil ?_
          refine .then ?_
          refine .seq ?_
          refine .region [] mixed (by kernel_rfl) ?_
          refine .cons (.load .none ty32 (.s rfl)) rfl ?_
          refine .cons (.move .none (.s rfl)) rfl ?_
          obtain ⟨hn8, h⟩ := need_some h
          refine .cons (.indexAddr .none sl32 ty3 (.s rfl) (.s rfl) (fun _ => hn8)) rfl ?_
          refine .cons (.load .none ty3 (.s rfl)) rfl ?_
          obtain ⟨low1, hv9, h⟩ := bnd_some h
          refine .cons (.re hv9 (.assign .none (.s rfl))) rfl ?_
          refine .nil ?_
          refine .then ?_
          refine .seq ?_
          refine .seq ?_
          refine .region [] mixed (by kernel_rfl) ?_
          refine .cons (.move .none (.s rfl)) rfl ?_
          refine .cons (.move .none (.int (by decide))) rfl ?_
          refine .nil ?_
          refine .then ?_
          obtain ⟨j_10, h, hK10⟩ := bind_some h
          refine .thenJ (ι := Int) (fun j_10 => [(9, ⟨True, rep j_10⟩)]) (fun j_10 => []) (fun s => j_10 = s) (.cons (t := 0) rfl (.cons (t := 5) rfl (.cons (t := 7) rfl (.cons (t := 23) rfl (.cons (t := 24) rfl Sub.nil))))) SubB.nil ?_ (fun j_10' hj10 => ?_)
          · skip
            refine .block ?_
            refine .rforL h (fun p11_ => [(32, ⟨True, rep p11_.1⟩), (9, ⟨True, rep p11_.2⟩)]) (fun p11_ => []) (.cons (t := 32) rfl (.cons (t := 9) rfl Sub.nil)) SubB.nil (.cons (t := 0) rfl (.cons (t := 5) rfl (.cons (t := 7) rfl (.cons (t := 8) rfl (.cons (t := 23) rfl (.cons (t := 24) rfl (.cons (t := 31) rfl Sub.nil))))))) SubB.nil (fun p11_ o_11 h hD11 => ?_)
            refine .seq ?_
            refine .region [] mixed (by kernel_rfl) ?_
            refine .cons (.lt .none (.s rfl) (.s rfl)) rfl ?_
            refine .nil ?_
            refine .then ?_
            refine .seq ?_
            refine .cond (t := 33) rfl trivial (fun hb12 => ?_) (fun hb12 => ?_)
            · replace h := bif_t h hb12
              refine .skip ?_
              refine .then ?_
              refine .seq ?_
              obtain ⟨j_13, h, hK13⟩ := bind_some h
              unfold ref_AreRanks_L2 at h
              refine .thenJ (ι := Int) (fun j_13 => [(9, ⟨True, rep j_13⟩)]) (fun j_13 => []) (fun s => j_13 = s) (.cons (t := 0) rfl (.cons (t := 5) rfl (.cons (t := 7) rfl (.cons (t := 8) rfl (.cons (t := 23) rfl (.cons (t := 24) rfl (.cons (t := 31) rfl (.cons (t := 32) rfl Sub.nil)))))))) SubB.nil ?_ (fun j_13' hj13 => ?_)
              · skip
                refine .block ?_
                refine .seq ?_
                refine .region [] mixed (by kernel_rfl) ?_
                refine .cons (.move .none (.s rfl)) rfl ?_
                refine .cons (.assign .none (.s rfl)) rfl ?_
                refine .nil ?_
                refine .then ?_
                refine .seq ?_
                refine .region [] mixed (by kernel_rfl) ?_
                refine .cons (.move .none (.s rfl)) rfl ?_
                refine .cons (.move .none (.s rfl)) rfl ?_
                obtain ⟨hn14, h⟩ := need_some h
                refine .cons (.indexAddr .none sl32 ty3 (.s rfl) (.s rfl) (fun _ => hn14)) rfl ?_
                refine .cons (.load .none ty3 (.s rfl)) rfl ?_
                refine .cons (.move .none (.s rfl)) rfl ?_
                refine .cons (.move .none (.s rfl)) rfl ?_
                obtain ⟨hn15, h⟩ := need_some h
                refine .cons (.indexAddr .none sl32 ty3 (.s rfl) (.s rfl) (fun _ => hn15)) rfl ?_
                refine .cons (.load .none ty3 (.s rfl)) rfl ?_
                refine .cons (.eqI .none (.s rfl) (.s rfl)) rfl ?_
                refine .nil ?_
                refine .then ?_
                refine .cond (t := 43) rfl trivial (fun hb16 => ?_) (fun hb16 => ?_)
                · replace h := bif_t h hb16
                  refine .region [] mixed (by kernel_rfl) ?_
                  refine .cons (.move .none (.s rfl)) rfl ?_
                  refine .cons (.load .none ty32 (.s rfl)) rfl ?_
                  refine .cons (.move .none (.s rfl)) rfl ?_
                  obtain ⟨hn17, h⟩ := need_some h
                  refine .cons (.indexAddr .none sl32 ty3 (.s rfl) (.s rfl) (fun _ => hn17)) rfl ?_
                  refine .cons (.load .none ty3 (.s rfl)) rfl ?_
                  refine .cons (.min2 .none (.s rfl) (.s rfl)) rfl ?_
                  obtain ⟨low2, hv18, h⟩ := bnd_some h
                  refine .cons (.re hv18 (.assign .none (.s rfl))) rfl ?_
                  refine .nil ?_
                  refine .blkNormal ?_
                  exact Ends.join _ (some_eq h) (.cons (t := 9) rfl (.cons (t := 0) rfl (.cons (t := 5) rfl (.cons (t := 7) rfl (.cons (t := 8) rfl (.cons (t := 23) rfl (.cons (t := 24) rfl (.cons (t := 31) rfl (.cons (t := 32) rfl Sub.nil))))))))) SubB.nil
                · replace h := bif_f h hb16
                  refine .skip ?_
                  refine .blkNormal ?_
                  exact Ends.join _ (some_eq h) (.cons (t := 9) rfl (.cons (t := 0) rfl (.cons (t := 5) rfl (.cons (t := 7) rfl (.cons (t := 8) rfl (.cons (t := 23) rfl (.cons (t := 24) rfl (.cons (t := 31) rfl (.cons (t := 32) rfl Sub.nil))))))))) SubB.nil
              · subst hj13; have h := hK13; clear hK13
                refine .region [] mixed (by kernel_rfl) ?_
                refine .cons (.addW .none (.s rfl) (.int (by decide))) rfl ?_
                refine .cons (.move .none (.s rfl)) rfl ?_
                refine .nil ?_
                exact Ends.againL (some_eq h) (.cons (t := 32) rfl (.cons (t := 9) rfl (.cons (t := 0) rfl (.cons (t := 5) rfl (.cons (t := 7) rfl (.cons (t := 8) rfl (.cons (t := 23) rfl (.cons (t := 24) rfl (.cons (t := 31) rfl Sub.nil))))))))) SubB.nil
            · replace h := bif_f h hb12
              refine .exit ?_
              refine .thenExit ?_
              refine .thenExit ?_
              refine .blkExit ?_
              replace h := hD11 _ (some_eq h)
              exact Ends.join _ (some_eq h) (.cons (t := 9) rfl (.cons (t := 0) rfl (.cons (t := 5) rfl (.cons (t := 7) rfl (.cons (t := 23) rfl (.cons (t := 24) rfl Sub.nil)))))) SubB.nil
          · subst hj10; have h := hK10; clear hK10
            refine .seq ?_
            refine .region [] mixed (by kernel_rfl) ?_
            refine .cons (.move .none (.s rfl)) rfl ?_
            refine .cons (.neI .none (.s rfl) (.int (by decide))) rfl ?_
            refine .nil ?_
            refine .then ?_
            refine .cond (t := 52) rfl trivial (fun hb19 => ?_) (fun hb19 => ?_)
            · replace h := bif_t h hb19
              refine .seq ?_
              refine .region [] mixed (by kernel_rfl) ?_
              refine .cons (.assign .none .bool) rfl ?_
              refine .nil ?_
              refine .then ?_
              refine .ret ?_
              refine .blkRet ?_
              refine .thenRet ?_
              refine .thenRet ?_
              refine .blkRet ?_
              refine .thenRet ?_
              replace h := resd_ab hK7 (some_eq h)
              replace h := hD5 _ (some_eq h)
              replace h := resb_ab hK4 (some_eq h)
              obtain rfl := some_eq h
              exact Ends.ret1 (.inl rfl) Try.results35 (ResOK.tmp rfl trivial Imp.refl)
            · replace h := bif_f h hb19
              refine .skip ?_
              refine .blkNormal ?_
              exact Ends.join _ (some_eq h) (.cons (t := 0) rfl (.cons (t := 5) rfl (.cons (t := 7) rfl (.cons (t := 23) rfl (.cons (t := 24) rfl Sub.nil))))) SubB.nil
        · have h := resd_nx hK7 hj7
          refine .region [] mixed (by kernel_rfl) ?_
          refine .cons (.addW .none (.s rfl) (.int (by decide))) rfl ?_
          refine .cons (.move .none (.s rfl)) rfl ?_
          refine .nil ?_
          exact Ends.againL (some_eq h) (.cons (t := 24) rfl (.cons (t := 0) rfl (.cons (t := 5) rfl (.cons (t := 7) rfl (.cons (t := 23) rfl Sub.nil))))) SubB.nil
      · replace h := bif_f h hb6
        refine .exit ?_
        refine .thenExit ?_
        refine .thenExit ?_
        refine .blkExit ?_
        replace h := hD5 _ (some_eq h)
        exact Ends.join _ (some_eq h) Sub.nil SubB.nil
    · have h := resb_nx hK4 hj4
      refine .seq ?_
      refine .region [] mixed (by kernel_rfl) ?_
      refine .cons (.assign .none .bool) rfl ?_
      refine .nil ?_
      refine .then ?_
      refine .ret ?_
      obtain rfl := some_eq h
      exact Ends.ret1 (.inl rfl) Try.results35 (ResOK.tmp rfl trivial Imp.refl)

theorem ref_bring_ok {to1 : Int} {l1 : (List Link)} {ranks1 : (List Int)} {need1 : (List Int)} {flow1 : (List Int)} {r : (Bool × (List Int) × (List Int))} {s143 : Value} {s144 : Value} (h : ref_bring to1 l1 ranks1 need1 flow1 = some r) : FSpecO Try.prog 77 [rep to1, rep l1, rep ranks1, isV s143, isV s144] [(s143, rowV 3 need1), (s144, rowV 3 flow1)] (rep r.1) [some (rowV 3 r.2.1), some (rowV 3 r.2.2)] := by
  unfold ref_bring at h
  refine FSpecO.intro (n := 143) fnok77 Try.func77 rfl Try.ntmps77 rfl (fun F => ?_)
  refine .seq ?_
  refine .region [] mixed (by kernel_rfl) ?_
  refine .cons (.assign .none .bool) rfl ?_
  refine .nil ?_
  refine .then ?_
  refine .seq ?_
  refine .region [([], [20]), ([], []), ([20], [20]), ([20], [22, 20]), ([22], [11, 22])] mixed (by kernel_rfl) ?_
  refine .consW (.makeMap (K := Int) (V := Int) rfl) rfl rfl ?_
  refine .consA (.move .none (.s rfl)) rfl ?_
  refine .consN (.mapInsert (q := 20) mo88 rfl (.s rfl) (.int (by decide))) rfl ?_
  refine .consW (.passRowM rfl (.tmp rfl)) rfl rfl ?_
  refine .consW (.passRow rfl (.tmp rfl)) rfl rfl ?_
  refine .nil ?_
  refine .then ?_
  obtain ⟨came1, hv1, h⟩ := bnd_some h
  refine .reB (t := 11) rfl (congrArg mapV hv1) ?_
  refine .nameMap (t := 11) (g := 5001) rfl rfl rfl (fun s5001 => ?_)
  refine .seq ?_
  refine .seq ?_
  refine .region [([], []), ([], [24]), ([24], [12, 24])] mixed (by kernel_rfl) ?_
  refine .consA (.move .none (.s rfl)) rfl ?_
  refine .consW (.buildSliceO (xs := [_]) rfl sl32 ty3 hz3 (.cons (.s rfl) .nil) rfl (by decide)) rfl rfl ?_
  refine .consW (.passRow rfl (.tmp rfl)) rfl rfl ?_
  refine .nil ?_
  refine .then ?_
  obtain ⟨queue1, hv2, h⟩ := bnd_some h
  refine .reB (t := 12) rfl (congrArg (rowV 3) hv2) ?_
  refine .nameRow (t := 12) (g := 5002) rfl rfl rfl (fun s5002 => ?_)
  obtain ⟨o_3, h, hK3⟩ := bindR_some h
  refine .thenJ (ι := Unit) (fun j_3 => []) (fun j_3 => []) (fun s => o_3 = Res.nx s) Sub.nil (.cons (t := 143) rfl (.cons (t := 144) rfl SubB.nil)) ?_ (fun j_3 hj3 => ?_)
  · skip
    refine .block ?_
    refine .anon (t := 12) (g := 5002) rfl rfl trivial rfl ?_
    refine .loopL h (fun s4_ => []) (fun s4_ => [(12, some (rowV 3 s4_.1)), (5001, some (CPred.at s5001 (mapV s4_.2)))]) Sub.nil (.cons (t := 12) rfl (.cons (t := 5001) rfl SubB.nil)) (.cons (t := 0) rfl (.cons (t := 1) rfl (.cons (t := 2) rfl (.cons (t := 3) rfl (.cons (t := 4) rfl (.cons (t := 11) rfl Sub.nil)))))) (.cons (t := 143) rfl (.cons (t := 144) rfl SubB.nil)) (fun s4_ o_4 h hD4 => ?_)
    unfold ref_bring_L1 at h
    refine .nameRow (t := 12) (g := 5003) rfl rfl rfl (fun s5003 => ?_)
    refine .seq ?_
    refine .seq ?_
    refine .region [([], []), ([5003], []), ([], [])] mixed (by kernel_rfl) ?_
    refine .consA (.move .none (.s rfl)) rfl ?_
    refine .consA (.lenO (k := 5003) sl32 (.told (.s rfl) rfl)) rfl ?_
    refine .consA (.gt .none (.s rfl) (.int (by decide))) rfl ?_
    refine .nil ?_
    refine .then ?_
    refine .cond (t := 27) rfl trivial (fun hb5 => ?_) (fun hb5 => ?_)
    · replace h := bif_t h hb5
      refine .skip ?_
      refine .then ?_
      refine .seq ?_
      obtain ⟨o_6, h, hK6⟩ := bindR_some h
      refine .thenJ (ι := ((List Int) × (GMap Int Int))) (fun j_6 => []) (fun j_6 => [(12, some (rowV 3 j_6.1)), (5001, some (CPred.at s5001 (mapV j_6.2)))]) (fun s => o_6 = Res.nx s) (.cons (t := 0) rfl (.cons (t := 1) rfl (.cons (t := 2) rfl (.cons (t := 3) rfl (.cons (t := 4) rfl (.cons (t := 11) rfl Sub.nil)))))) (.cons (t := 143) rfl (.cons (t := 144) rfl SubB.nil)) ?_ (fun j_6 hj6 => ?_)
      · skip
        refine .block ?_
        refine .seq ?_
        refine .region [([], []), ([5003], []), ([5003], []), ([], [])] mixed (by kernel_rfl) ?_
        refine .consA (.move .none (.s rfl)) rfl ?_
        obtain ⟨hn7, h⟩ := need_some h
        refine .consA (.indexAddrO (k := 5003) .none sl32 ty3 (.s rfl) rfl (.int (by decide)) (fun _ => hn7)) rfl ?_
        refine .consA (.loadElem0 (k := 5003) .none ty3 (.s rfl) rfl (fun _ => hn7)) rfl ?_
        obtain ⟨v1, hv8, h⟩ := bnd_some h
        refine .consA (.re hv8 (.assign .none (.s rfl))) rfl ?_
        refine .nil ?_
        refine .then ?_
        refine .seq ?_
        refine .seq ?_
        refine .region [([], []), ([], []), ([143], []), ([143], []), ([], [])] mixed (by kernel_rfl) ?_
        refine .consA (.move .none (.s rfl)) rfl ?_
        refine .consA (.move .none (.s rfl)) rfl ?_
        obtain ⟨hn9, h⟩ := need_some h
        refine .consA (.indexAddrO (k := 143) .none sl32 ty3 (.s rfl) rfl (.s rfl) (fun _ => hn9)) rfl ?_
        refine .consA (.loadElem0 (k := 143) .none ty3 (.s rfl) rfl (fun _ => hn9)) rfl ?_
        refine .consA (.lt .none (.s rfl) (.int (by decide))) rfl ?_
        refine .nil ?_
        refine .then ?_
        obtain ⟨o_10, h, hK10⟩ := bindR_some h
        refine .thenJ (ι := Unit) (fun j_10 => []) (fun j_10 => []) (fun s => o_10 = Res.nx s) (.cons (t := 0) rfl (.cons (t := 1) rfl (.cons (t := 2) rfl (.cons (t := 3) rfl (.cons (t := 4) rfl (.cons (t := 11) rfl (.cons (t := 12) rfl (.cons (t := 13) rfl Sub.nil)))))))) (.cons (t := 143) rfl (.cons (t := 144) rfl (.cons (t := 5001) rfl (.cons (t := 5003) rfl SubB.nil)))) ?_ (fun j_10 hj10 => ?_)
        · skip
          refine .cond (t := 37) rfl trivial (fun hb11 => ?_) (fun hb11 => ?_)
          · replace h := bif_t h hb11
            refine .seq ?_
            refine .region [([], []), ([], []), ([143], []), ([143], []), ([], []), ([143], []), ([143], [143])] mixed (by kernel_rfl) ?_
            refine .consA (.move .none (.s rfl)) rfl ?_
            refine .consA (.move .none (.s rfl)) rfl ?_
            obtain ⟨hn12, h⟩ := need_some h
            refine .consA (.indexAddrO (k := 143) .none sl32 ty3 (.s rfl) rfl (.s rfl) (fun _ => hn12)) rfl ?_
            refine .consA (.loadElem0 (k := 143) .none ty3 (.s rfl) rfl (fun _ => hn12)) rfl ?_
            obtain ⟨v2, hv13, h⟩ := bnd_some h
            refine .consA (.re hv13 (.addW .none (.s rfl) (.int (by decide)))) rfl ?_
            obtain ⟨hn14, h⟩ := need_some h
            refine .consA (.indexAddrO (k := 143) .none sl32 ty3 (.s rfl) rfl (.s rfl) (fun _ => hn14)) rfl ?_
            refine .consN (.storeElem0 (k := 143) ty3 (.s rfl) rfl (.s rfl) hn14) rfl ?_
            refine .nil ?_
            refine .then ?_
            refine .freezeAt (g := 5001) (S := rep s4_.2) (ts := [11]) rfl (.cons (t := 11) rfl trivial .nil) (.cons (t := 143) rfl (.cons (t := 144) rfl SubB.nil)) rfl (fun M D w h hms => mapV_rep h hms) ?_
            obtain ⟨need2, hv15, h⟩ := bnd_some h
            refine .reB (t := 143) rfl (congrArg (fun y => CPred.at s143 (rowV 3 y)) hv15) ?_
            refine .seq ?_
            refine .region [([], []), ([], []), ([143], []), ([143], []), ([], []), ([143], []), ([143], [143])] mixed (by kernel_rfl) ?_
            refine .consA (.move .none (.s rfl)) rfl ?_
            refine .consA (.move .none (.s rfl)) rfl ?_
            obtain ⟨hn16, h⟩ := need_some h
            refine .consA (.indexAddrO (k := 143) .none sl32 ty3 (.s rfl) rfl (.s rfl) (fun _ => hn16)) rfl ?_
            refine .consA (.loadElem0 (k := 143) .none ty3 (.s rfl) rfl (fun _ => hn16)) rfl ?_
            obtain ⟨v3, hv17, h⟩ := bnd_some h
            refine .consA (.re hv17 (.subW .none (.s rfl) (.int (by decide)))) rfl ?_
            obtain ⟨hn18, h⟩ := need_some h
            refine .consA (.indexAddrO (k := 143) .none sl32 ty3 (.s rfl) rfl (.s rfl) (fun _ => hn18)) rfl ?_
            refine .consN (.storeElem0 (k := 143) ty3 (.s rfl) rfl (.s rfl) hn18) rfl ?_
            refine .nil ?_
            refine .then ?_
            obtain ⟨c1, hv19, h⟩ := bnd_some h
            refine .reB (t := 143) rfl (congrArg (fun y => CPred.at s143 (rowV 3 y)) hv19) ?_
            refine .seq ?_
            obtain ⟨j_20, h, hK20⟩ := bind_some h
            refine .thenJ (ι := (List Int)) (fun j_20 => []) (fun j_20 => [(144, some (CPred.at s144 (rowV 3 j_20)))]) (fun s => j_20 = s) Sub.nil (.cons (t := 143) rfl SubB.nil) ?_ (fun j_20' hj20 => ?_)
            · skip
              refine .block ?_
              refine .loopL h (fun s21_ => [(13, ⟨True, rep s21_.1⟩)]) (fun s21_ => [(144, some (CPred.at s144 (rowV 3 s21_.2)))]) (.cons (t := 13) rfl Sub.nil) (.cons (t := 144) rfl SubB.nil) (.cons (t := 0) rfl (.cons (t := 1) rfl (.cons (t := 4) rfl (.cons (t := 11) rfl Sub.nil)))) (.cons (t := 143) rfl SubB.nil) (fun s21_ o_21 h hD21 => ?_)
              unfold ref_bring_L2 at h
              refine .seq ?_
              refine .seq ?_
              refine .region [] mixed (by kernel_rfl) ?_
              refine .cons (.move .none (.s rfl)) rfl ?_
              refine .cons (.move .none (.s rfl)) rfl ?_
              refine .cons (.neI .none (.s rfl) (.s rfl)) rfl ?_
              refine .nil ?_
              refine .then ?_
              refine .cond (t := 52) rfl trivial (fun hb22 => ?_) (fun hb22 => ?_)
              · replace h := bif_t h hb22
                refine .skip ?_
                refine .then ?_
                refine .block ?_
                refine .seq ?_
                refine .region [] mixed (by kernel_rfl) ?_
                refine .cons (.move .none (.s rfl)) rfl ?_
                refine .cons (.move .none (.s rfl)) rfl ?_
                refine .cons (.lookup .none mo88 zo3 (.s rfl) (.s rfl)) rfl ?_
                obtain ⟨i1, hv23, h⟩ := bnd_some h
                refine .cons (.re hv23 (.assign .none (.s rfl))) rfl ?_
                refine .nil ?_
                refine .then ?_
                refine .seq ?_
                refine .region [] mixed (by kernel_rfl) ?_
                refine .cons (.move .none (.s rfl)) rfl ?_
                refine .cons (.move .none (.s rfl)) rfl ?_
                obtain ⟨hn24, h⟩ := need_some h
                refine .cons (.indexAddr .none sl23 ty79 (.s rfl) (.s rfl) (fun _ => hn24)) rfl ?_
                refine .cons (.fieldAddr .none fd79_0 hfd79_0 (.s rfl)) rfl ?_
                refine .cons (.load .none ty3 (.s rfl)) rfl ?_
                refine .cons (.move .none (.s rfl)) rfl ?_
                refine .cons (.eqI .none (.s rfl) (.s rfl)) rfl ?_
                refine .nil ?_
                refine .then ?_
                refine .cond (t := 62) rfl trivial (fun hb25 => ?_) (fun hb25 => ?_)
                · replace h := bif_t h hb25
                  refine .seq ?_
                  refine .region [([], []), ([], []), ([144], []), ([144], []), ([], []), ([144], []), ([144], [144])] mixed (by kernel_rfl) ?_
                  refine .consA (.move .none (.s rfl)) rfl ?_
                  refine .consA (.move .none (.s rfl)) rfl ?_
                  obtain ⟨hn26, h⟩ := need_some h
                  refine .consA (.indexAddrO (k := 144) .none sl32 ty3 (.s rfl) rfl (.s rfl) (fun _ => hn26)) rfl ?_
                  refine .consA (.loadElem0 (k := 144) .none ty3 (.s rfl) rfl (fun _ => hn26)) rfl ?_
                  obtain ⟨v4, hv27, h⟩ := bnd_some h
                  refine .consA (.re hv27 (.addW .none (.s rfl) (.int (by decide)))) rfl ?_
                  obtain ⟨hn28, h⟩ := need_some h
                  refine .consA (.indexAddrO (k := 144) .none sl32 ty3 (.s rfl) rfl (.s rfl) (fun _ => hn28)) rfl ?_
                  refine .consN (.storeElem0 (k := 144) ty3 (.s rfl) rfl (.s rfl) hn28) rfl ?_
                  refine .nil ?_
                  refine .then ?_
                  obtain ⟨flow2, hv29, h⟩ := bnd_some h
                  refine .reB (t := 144) rfl (congrArg (fun y => CPred.at s144 (rowV 3 y)) hv29) ?_
                  refine .region [] mixed (by kernel_rfl) ?_
                  refine .cons (.move .none (.s rfl)) rfl ?_
                  refine .cons (.move .none (.s rfl)) rfl ?_
                  obtain ⟨hn30, h⟩ := need_some h
                  refine .cons (.indexAddr .none sl23 ty79 (.s rfl) (.s rfl) (fun _ => hn30)) rfl ?_
                  refine .cons (.fieldAddr .none fd79_1 hfd79_1 (.s rfl)) rfl ?_
                  refine .cons (.load .none ty3 (.s rfl)) rfl ?_
                  obtain ⟨v5, hv31, h⟩ := bnd_some h
                  refine .cons (.re hv31 (.assign .none (.s rfl))) rfl ?_
                  refine .nil ?_
                  refine .blkNormal ?_
                  exact Ends.againL (some_eq h) (.cons (t := 13) rfl (.cons (t := 0) rfl (.cons (t := 1) rfl (.cons (t := 4) rfl (.cons (t := 11) rfl Sub.nil))))) (.cons (t := 144) rfl (.cons (t := 143) rfl SubB.nil))
                · replace h := bif_f h hb25
                  refine .seq ?_
                  refine .region [([], []), ([], []), ([144], []), ([144], []), ([], []), ([144], []), ([144], [144])] mixed (by kernel_rfl) ?_
                  refine .consA (.move .none (.s rfl)) rfl ?_
                  refine .consA (.move .none (.s rfl)) rfl ?_
                  obtain ⟨hn32, h⟩ := need_some h
                  refine .consA (.indexAddrO (k := 144) .none sl32 ty3 (.s rfl) rfl (.s rfl) (fun _ => hn32)) rfl ?_
                  refine .consA (.loadElem0 (k := 144) .none ty3 (.s rfl) rfl (fun _ => hn32)) rfl ?_
                  obtain ⟨v6, hv33, h⟩ := bnd_some h
                  refine .consA (.re hv33 (.subW .none (.s rfl) (.int (by decide)))) rfl ?_
                  obtain ⟨hn34, h⟩ := need_some h
                  refine .consA (.indexAddrO (k := 144) .none sl32 ty3 (.s rfl) rfl (.s rfl) (fun _ => hn34)) rfl ?_
                  refine .consN (.storeElem0 (k := 144) ty3 (.s rfl) rfl (.s rfl) hn34) rfl ?_
                  refine .nil ?_
                  refine .then ?_
                  obtain ⟨flow3, hv35, h⟩ := bnd_some h
                  refine .reB (t := 144) rfl (congrArg (fun y => CPred.at s144 (rowV 3 y)) hv35) ?_
                  refine .region [] mixed (by kernel_rfl) ?_
                  refine .cons (.move .none (.s rfl)) rfl ?_
                  refine .cons (.move .none (.s rfl)) rfl ?_
                  obtain ⟨hn36, h⟩ := need_some h
                  refine .cons (.indexAddr .none sl23 ty79 (.s rfl) (.s rfl) (fun _ => hn36)) rfl ?_
                  refine .cons (.fieldAddr .none fd79_0 hfd79_0 (.s rfl)) rfl ?_
                  refine .cons (.load .none ty3 (.s rfl)) rfl ?_
                  obtain ⟨v7, hv37, h⟩ := bnd_some h
                  refine .cons (.re hv37 (.assign .none (.s rfl))) rfl ?_
                  refine .nil ?_
                  refine .blkNormal ?_
                  exact Ends.againL (some_eq h) (.cons (t := 13) rfl (.cons (t := 0) rfl (.cons (t := 1) rfl (.cons (t := 4) rfl (.cons (t := 11) rfl Sub.nil))))) (.cons (t := 144) rfl (.cons (t := 143) rfl SubB.nil))
              · replace h := bif_f h hb22
                refine .exit ?_
                refine .thenExit ?_
                refine .thenExit ?_
                refine .blkExit ?_
                replace h := hD21 _ (some_eq h)
                exact Ends.join _ (some_eq h) Sub.nil (.cons (t := 144) rfl (.cons (t := 143) rfl SubB.nil))
            · subst hj20; have h := hK20; clear hK20
              refine .seq ?_
              refine .region [] mixed (by kernel_rfl) ?_
              refine .cons (.assign .none .bool) rfl ?_
              refine .nil ?_
              refine .then ?_
              refine .ret ?_
              refine .thenRet ?_
              refine .blkRet ?_
              refine .thenRet ?_
              refine .thenRet ?_
              refine .blkRet ?_
              refine .thenRet ?_
              replace h := resb_ab hK10 (some_eq h)
              replace h := resb_ab hK6 (some_eq h)
              replace h := hD4 _ (some_eq h)
              replace h := resb_ab hK3 (some_eq h)
              obtain rfl := some_eq h
              exact Ends.ret1O (.inl rfl) [143, 144] Try.results77 (by decide) (.held rfl (.held rfl .nil)) (ResOK.tmp rfl trivial Imp.refl)
          · replace h := bif_f h hb11
            refine .skip ?_
            exact Ends.join _ (some_eq h) (.cons (t := 0) rfl (.cons (t := 1) rfl (.cons (t := 2) rfl (.cons (t := 3) rfl (.cons (t := 4) rfl (.cons (t := 11) rfl (.cons (t := 12) rfl (.cons (t := 13) rfl Sub.nil)))))))) (.cons (t := 143) rfl (.cons (t := 144) rfl (.cons (t := 5001) rfl (.cons (t := 5003) rfl SubB.nil))))
        · have h := resb_nx hK10 hj10
          refine .seq ?_
          refine .region [] mixed (by kernel_rfl) ?_
          refine .cons (.move .none (.s rfl)) rfl ?_
          refine .cons (.len .none sl23 (.s rfl)) rfl ?_
          refine .cons (.move .none (.int (by decide))) rfl ?_
          refine .nil ?_
          refine .then ?_
          obtain ⟨j_38, h, hK38⟩ := bind_some h
          refine .tailJ (ι := ((List Int) × (GMap Int Int))) (fun j_38 => []) (fun j_38 => [(12, some (rowV 3 j_38.1)), (5001, some (CPred.at s5001 (mapV j_38.2)))]) (fun s => j_38 = s) (.cons (t := 0) rfl (.cons (t := 1) rfl (.cons (t := 2) rfl (.cons (t := 3) rfl (.cons (t := 4) rfl (.cons (t := 11) rfl Sub.nil)))))) (.cons (t := 143) rfl (.cons (t := 144) rfl SubB.nil)) ?_ (fun j_38' hj38 => ?_)
          · skip
            refine .block ?_
            refine .anon (t := 12) (g := 5003) rfl rfl trivial rfl ?_
            refine .rforL h (fun p39_ => [(87, ⟨True, rep p39_.1⟩)]) (fun p39_ => [(12, some (rowV 3 p39_.2.1)), (5001, some (CPred.at s5001 (mapV p39_.2.2)))]) (.cons (t := 87) rfl Sub.nil) (.cons (t := 12) rfl (.cons (t := 5001) rfl SubB.nil)) (.cons (t := 0) rfl (.cons (t := 1) rfl (.cons (t := 2) rfl (.cons (t := 3) rfl (.cons (t := 4) rfl (.cons (t := 11) rfl (.cons (t := 13) rfl (.cons (t := 85) rfl (.cons (t := 86) rfl Sub.nil))))))))) (.cons (t := 143) rfl (.cons (t := 144) rfl SubB.nil)) (fun p39_ o_39 h hD39 => ?_)
            refine .nameRow (t := 12) (g := 5004) rfl rfl rfl (fun s5004 => ?_)
            refine .seq ?_
            refine .region [] mixed (by kernel_rfl) ?_
            refine .cons (.lt .none (.s rfl) (.s rfl)) rfl ?_
            refine .nil ?_
            refine .then ?_
            refine .seq ?_
            refine .cond (t := 88) rfl trivial (fun hb40 => ?_) (fun hb40 => ?_)
            · replace h := bif_t h hb40
              refine .skip ?_
              refine .then ?_
              refine .seq ?_
              obtain ⟨j_41, h, hK41⟩ := bind_some h
              unfold ref_bring_L3 at h
              refine .thenJ (ι := ((List Int) × (GMap Int Int))) (fun j_41 => []) (fun j_41 => [(12, some (rowV 3 j_41.1)), (5001, some (CPred.at s5001 (mapV j_41.2)))]) (fun s => j_41 = s) (.cons (t := 0) rfl (.cons (t := 1) rfl (.cons (t := 2) rfl (.cons (t := 3) rfl (.cons (t := 4) rfl (.cons (t := 11) rfl (.cons (t := 13) rfl (.cons (t := 85) rfl (.cons (t := 86) rfl (.cons (t := 87) rfl Sub.nil)))))))))) (.cons (t := 143) rfl (.cons (t := 144) rfl SubB.nil)) ?_ (fun j_41' hj41 => ?_)
              · skip
                refine .block ?_
                refine .seq ?_
                refine .region [([], []), ([], []), ([], []), ([], [16]), ([], []), ([16], [16])] mixed (by kernel_rfl) ?_
                refine .consA (.move .none (.s rfl)) rfl ?_
                obtain ⟨hn42, h⟩ := need_some h
                refine .consA (.indexAddr .none sl23 ty79 (.s rfl) (.s rfl) (fun _ => hn42)) rfl ?_
                obtain ⟨v8, hv43, h⟩ := bnd_some h
                refine .consA (.re hv43 (.load .none ty79 (.s rfl))) rfl ?_
                refine .consW (.alloc zo79 rfl) rfl rfl ?_
                refine .consA (.assign .none (.s rfl)) rfl ?_
                refine .consN (.store ty79 rfl rfl (.s rfl)) rfl ?_
                refine .nil ?_
                refine .then ?_
                refine .freeze (t := 16) rfl rfl (.cons (t := 143) rfl (.cons (t := 144) rfl (.cons (t := 5001) rfl (.cons (t := 5004) rfl SubB.nil)))) rfl ?_
                refine .seq ?_
                refine .region [] mixed (by kernel_rfl) ?_
                refine .cons (.assign .none (.int (by decide))) rfl ?_
                refine .nil ?_
                refine .then ?_
                refine .seq ?_
                refine .seq ?_
                refine .region [] mixed (by kernel_rfl) ?_
                refine .cons (.fieldAddr .none fd79_1 hfd79_1 (.s rfl)) rfl ?_
                refine .cons (.load .none ty3 (.s rfl)) rfl ?_
                refine .cons (.move .none (.s rfl)) rfl ?_
                refine .cons (.eqI .none (.s rfl) (.s rfl)) rfl ?_
                refine .cons (.move .none (.s rfl)) rfl ?_
                refine .cons (.move (.at rfl rfl) (.s rfl)) rfl ?_
                refine .cons (.fieldAddr (.at rfl rfl) fd79_1 hfd79_1 (.s rfl)) rfl ?_
                refine .cons (.load (.at rfl rfl) ty3 (.tmp rfl id)) rfl ?_
                obtain ⟨hn44, h⟩ := need_some h
                refine .cons (.indexAddr (.at rfl rfl) sl32 ty3 (.tmp rfl id) (.tmp rfl id) (fun hg => hn44 hg.2)) rfl ?_
                refine .cons (.load (.at rfl rfl) ty3 (.tmp rfl id)) rfl ?_
                refine .cons (.move (.at rfl rfl) (.s rfl)) rfl ?_
                refine .cons (.fieldAddr (.at rfl rfl) fd79_0 hfd79_0 (.s rfl)) rfl ?_
                refine .cons (.load (.at rfl rfl) ty3 (.tmp rfl id)) rfl ?_
                obtain ⟨hn45, h⟩ := need_some h
                refine .cons (.indexAddr (.at rfl rfl) sl32 ty3 (.tmp rfl id) (.tmp rfl id) (fun hg => hn45 hg.2)) rfl ?_
                refine .cons (.load (.at rfl rfl) ty3 (.tmp rfl id)) rfl ?_
                refine .cons (.addW (.at rfl rfl) (.tmp rfl id) (.int (by decide))) rfl ?_
                refine .cons (.eqI (.at rfl rfl) (.tmp rfl id) (.tmp rfl id)) rfl ?_
                refine .cons (.pickAnd .none (.s rfl) (.tmp rfl id)) rfl ?_
                refine .nil ?_
                refine .then ?_
                obtain ⟨j_46, h, hK46⟩ := bind_some h
                refine .thenJ (ι := Int) (fun j_46 => [(17, ⟨True, rep j_46⟩)]) (fun j_46 => []) (fun s => j_46 = s) (.cons (t := 0) rfl (.cons (t := 1) rfl (.cons (t := 2) rfl (.cons (t := 3) rfl (.cons (t := 4) rfl (.cons (t := 11) rfl (.cons (t := 12) rfl (.cons (t := 13) rfl (.cons (t := 15) rfl (.cons (t := 85) rfl (.cons (t := 86) rfl (.cons (t := 87) rfl Sub.nil)))))))))))) (.cons (t := 143) rfl (.cons (t := 144) rfl (.cons (t := 5001) rfl (.cons (t := 5004) rfl SubB.nil)))) ?_ (fun j_46' hj46 => ?_)
                · skip
                  refine .cond (t := 109) rfl trivial (fun hb47 => ?_) (fun hb47 => ?_)
                  · replace h := bif_t h hb47
                    refine .region [] mixed (by kernel_rfl) ?_
                    refine .cons (.fieldAddr .none fd79_0 hfd79_0 (.s rfl)) rfl ?_
                    refine .cons (.load .none ty3 (.s rfl)) rfl ?_
                    refine .cons (.assign .none (.s rfl)) rfl ?_
                    refine .nil ?_
                    exact Ends.join _ (some_eq h) (.cons (t := 17) rfl (.cons (t := 0) rfl (.cons (t := 1) rfl (.cons (t := 2) rfl (.cons (t := 3) rfl (.cons (t := 4) rfl (.cons (t := 11) rfl (.cons (t := 12) rfl (.cons (t := 13) rfl (.cons (t := 15) rfl (.cons (t := 85) rfl (.cons (t := 86) rfl (.cons (t := 87) rfl Sub.nil))))))))))))) (.cons (t := 143) rfl (.cons (t := 144) rfl (.cons (t := 5001) rfl (.cons (t := 5004) rfl SubB.nil))))
                  · replace h := bif_f h hb47
                    refine .seq ?_
                    refine .region [([], []), ([], []), ([], []), ([], []), ([], []), ([], []), ([], []), ([144], []), ([144], []), ([], []), ([], [])] mixed (by kernel_rfl) ?_
                    refine .consA (.fieldAddr .none fd79_0 hfd79_0 (.s rfl)) rfl ?_
                    refine .consA (.load .none ty3 (.s rfl)) rfl ?_
                    refine .consA (.move .none (.s rfl)) rfl ?_
                    refine .consA (.eqI .none (.s rfl) (.s rfl)) rfl ?_
                    refine .consA (.move .none (.s rfl)) rfl ?_
                    refine .consA (.move (.at rfl rfl) (.s rfl)) rfl ?_
                    refine .consA (.move (.at rfl rfl) (.s rfl)) rfl ?_
                    obtain ⟨hn48, h⟩ := need_some h
                    refine .consA (.indexAddrO (k := 144) (.at rfl rfl) sl32 ty3 (.tmp rfl id) rfl (.tmp rfl id) (fun hg => hn48 hg.2)) rfl ?_
                    refine .consA (.loadElem0 (k := 144) (.at rfl rfl) ty3 (.tmp rfl id) rfl (fun hg => hn48 hg.2)) rfl ?_
                    refine .consA (.gt (.at rfl rfl) (.tmp rfl id) (.int (by decide))) rfl ?_
                    refine .consA (.pickAnd .none (.s rfl) (.tmp rfl id)) rfl ?_
                    refine .nil ?_
                    refine .then ?_
                    refine .cond (t := 122) rfl trivial (fun hb49 => ?_) (fun hb49 => ?_)
                    · replace h := bif_t h hb49
                      refine .region [] mixed (by kernel_rfl) ?_
                      refine .cons (.fieldAddr .none fd79_1 hfd79_1 (.s rfl)) rfl ?_
                      refine .cons (.load .none ty3 (.s rfl)) rfl ?_
                      refine .cons (.assign .none (.s rfl)) rfl ?_
                      refine .nil ?_
                      exact Ends.join _ (some_eq h) (.cons (t := 17) rfl (.cons (t := 0) rfl (.cons (t := 1) rfl (.cons (t := 2) rfl (.cons (t := 3) rfl (.cons (t := 4) rfl (.cons (t := 11) rfl (.cons (t := 12) rfl (.cons (t := 13) rfl (.cons (t := 15) rfl (.cons (t := 85) rfl (.cons (t := 86) rfl (.cons (t := 87) rfl Sub.nil))))))))))))) (.cons (t := 143) rfl (.cons (t := 144) rfl (.cons (t := 5001) rfl (.cons (t := 5004) rfl SubB.nil))))
                    · replace h := bif_f h hb49
                      refine .skip ?_
                      exact Ends.join _ (some_eq h) (.cons (t := 17) rfl (.cons (t := 0) rfl (.cons (t := 1) rfl (.cons (t := 2) rfl (.cons (t := 3) rfl (.cons (t := 4) rfl (.cons (t := 11) rfl (.cons (t := 12) rfl (.cons (t := 13) rfl (.cons (t := 15) rfl (.cons (t := 85) rfl (.cons (t := 86) rfl (.cons (t := 87) rfl Sub.nil))))))))))))) (.cons (t := 143) rfl (.cons (t := 144) rfl (.cons (t := 5001) rfl (.cons (t := 5004) rfl SubB.nil))))
                · subst hj46; have h := hK46; clear hK46
                  refine .seq ?_
                  refine .region [] mixed (by kernel_rfl) ?_
                  refine .cons (.move .none (.s rfl)) rfl ?_
                  refine .cons (.ge .none (.s rfl) (.int (by decide))) rfl ?_
                  refine .nil ?_
                  refine .then ?_
                  refine .cond (t := 126) rfl trivial (fun hb50 => ?_) (fun hb50 => ?_)
                  · replace h := bif_t h hb50
                    refine .seq ?_
                    refine .region [([], []), ([], []), ([5001], []), ([], []), ([], []), ([], []), ([], []), ([], [])] mixed (by kernel_rfl) ?_
                    refine .consA (.move .none (.s rfl)) rfl ?_
                    refine .consA (.move .none (.s rfl)) rfl ?_
                    refine .consA (.lookupOkO (q := 5001) .none mo88 zo3 ownMap_self (.told (.s rfl) rfl) (.s rfl)) rfl ?_
                    refine .consA (.move .none (.s rfl)) rfl ?_
                    refine .consA (.extract .none (.s rfl) rfl) rfl ?_
                    refine .consA (.extract .none (.s rfl) rfl) rfl ?_
                    refine .consA (.assign .none (.s rfl)) rfl ?_
                    refine .consA (.assign .none (.s rfl)) rfl ?_
                    refine .nil ?_
                    refine .then ?_
                    refine .seq ?_
                    refine .region [] mixed (by kernel_rfl) ?_
                    refine .cons (.move .none (.s rfl)) rfl ?_
                    refine .cons (.not .none (.s rfl)) rfl ?_
                    refine .nil ?_
                    refine .then ?_
                    refine .cond (t := 134) rfl trivial (fun hb51 => ?_) (fun hb51 => ?_)
                    · replace h := bif_t h hb51
                      refine .seq ?_
                      refine .region [([], []), ([], []), ([], []), ([5001], [5001])] mixed (by kernel_rfl) ?_
                      refine .consA (.move .none (.s rfl)) rfl ?_
                      refine .consA (.move .none (.s rfl)) rfl ?_
                      refine .consA (.move .none (.s rfl)) rfl ?_
                      refine .consN (.mapUpdate (q := 5001) mo88 (.s rfl) rfl (.s rfl) (.s rfl)) rfl ?_
                      refine .nil ?_
                      refine .then ?_
                      obtain ⟨came2, hv52, h⟩ := bnd_some h
                      refine .reB (t := 5001) rfl (congrArg (fun y => CPred.at s5001 (mapV y)) hv52) ?_
                      refine .region [([], []), ([], []), ([], []), ([5004], [141, 5004]), ([141], [12, 141])] mixed (by kernel_rfl) ?_
                      refine .consA (.move .none (.s rfl)) rfl ?_
                      refine .consA (.move .none (.s rfl)) rfl ?_
                      refine .consA (.buildSlice (xs := [_]) .none sl32 ty3 hz3 (.cons (.s rfl) .nil) rfl (by decide)) rfl ?_
                      obtain ⟨hn53, h⟩ := need_some h
                      refine .consW (.append (k := 5004) rk32 rfl (.told (.s rfl) rfl) (.s rfl) hn53) rfl rfl ?_
                      refine .consW (.passRow rfl (.tmp rfl)) rfl rfl ?_
                      refine .nil ?_
                      refine .blkNormal ?_
                      exact Ends.join _ (some_eq h) (.cons (t := 0) rfl (.cons (t := 1) rfl (.cons (t := 2) rfl (.cons (t := 3) rfl (.cons (t := 4) rfl (.cons (t := 11) rfl (.cons (t := 13) rfl (.cons (t := 85) rfl (.cons (t := 86) rfl (.cons (t := 87) rfl Sub.nil)))))))))) (.cons (t := 12) rfl (.cons (t := 5001) rfl (.cons (t := 143) rfl (.cons (t := 144) rfl SubB.nil))))
                    · replace h := bif_f h hb51
                      refine .skip ?_
                      refine .blkNormal ?_
                      refine .anon (t := 12) (g := 5004) rfl rfl trivial rfl ?_
                      exact Ends.join _ (some_eq h) (.cons (t := 0) rfl (.cons (t := 1) rfl (.cons (t := 2) rfl (.cons (t := 3) rfl (.cons (t := 4) rfl (.cons (t := 11) rfl (.cons (t := 13) rfl (.cons (t := 85) rfl (.cons (t := 86) rfl (.cons (t := 87) rfl Sub.nil)))))))))) (.cons (t := 12) rfl (.cons (t := 5001) rfl (.cons (t := 143) rfl (.cons (t := 144) rfl SubB.nil))))
                  · replace h := bif_f h hb50
                    refine .skip ?_
                    refine .blkNormal ?_
                    refine .anon (t := 12) (g := 5004) rfl rfl trivial rfl ?_
                    exact Ends.join _ (some_eq h) (.cons (t := 0) rfl (.cons (t := 1) rfl (.cons (t := 2) rfl (.cons (t := 3) rfl (.cons (t := 4) rfl (.cons (t := 11) rfl (.cons (t := 13) rfl (.cons (t := 85) rfl (.cons (t := 86) rfl (.cons (t := 87) rfl Sub.nil)))))))))) (.cons (t := 12) rfl (.cons (t := 5001) rfl (.cons (t := 143) rfl (.cons (t := 144) rfl SubB.nil))))
              · subst hj41; have h := hK41; clear hK41
                refine .nameRow (t := 12) (g := 5005) rfl rfl rfl (fun s5005 => ?_)
                refine .region [] mixed (by kernel_rfl) ?_
                refine .cons (.addW .none (.s rfl) (.int (by decide))) rfl ?_
                refine .cons (.move .none (.s rfl)) rfl ?_
                refine .nil ?_
                refine .anon (t := 12) (g := 5005) rfl rfl trivial rfl ?_
                exact Ends.againL (some_eq h) (.cons (t := 87) rfl (.cons (t := 0) rfl (.cons (t := 1) rfl (.cons (t := 2) rfl (.cons (t := 3) rfl (.cons (t := 4) rfl (.cons (t := 11) rfl (.cons (t := 13) rfl (.cons (t := 85) rfl (.cons (t := 86) rfl Sub.nil)))))))))) (.cons (t := 12) rfl (.cons (t := 5001) rfl (.cons (t := 143) rfl (.cons (t := 144) rfl SubB.nil))))
            · replace h := bif_f h hb40
              refine .exit ?_
              refine .thenExit ?_
              refine .thenExit ?_
              refine .blkExit ?_
              refine .anon (t := 12) (g := 5004) rfl rfl trivial rfl ?_
              replace h := hD39 _ (some_eq h)
              exact Ends.join _ (some_eq h) (.cons (t := 0) rfl (.cons (t := 1) rfl (.cons (t := 2) rfl (.cons (t := 3) rfl (.cons (t := 4) rfl (.cons (t := 11) rfl Sub.nil)))))) (.cons (t := 12) rfl (.cons (t := 5001) rfl (.cons (t := 143) rfl (.cons (t := 144) rfl SubB.nil))))
          · subst hj38; have h := hK38; clear hK38
            refine .blkNormal ?_
            exact Ends.join _ (some_eq h) (.cons (t := 0) rfl (.cons (t := 1) rfl (.cons (t := 2) rfl (.cons (t := 3) rfl (.cons (t := 4) rfl (.cons (t := 11) rfl Sub.nil)))))) (.cons (t := 12) rfl (.cons (t := 5001) rfl (.cons (t := 143) rfl (.cons (t := 144) rfl SubB.nil))))
      · have h := resb_nx hK6 hj6
        refine .nameRow (t := 12) (g := 5006) rfl rfl rfl (fun s5006 => ?_)
        refine .region [([], []), ([5006], [29, 5006]), ([29], [12, 29])] mixed (by kernel_rfl) ?_
        refine .consA (.move .none (.s rfl)) rfl ?_
        obtain ⟨hn54, h⟩ := need_some h
        refine .consW (.sliceRow (k := 5006) sl32 ty3 rfl (.s rfl) rfl (.int (by decide)) rfl hn54) rfl rfl ?_
        refine .consWD (.passRow rfl (.tmp rfl)) rfl rfl ?_
        refine .nil ?_
        exact Ends.againL (some_eq h) (.cons (t := 0) rfl (.cons (t := 1) rfl (.cons (t := 2) rfl (.cons (t := 3) rfl (.cons (t := 4) rfl (.cons (t := 11) rfl Sub.nil)))))) (.cons (t := 12) rfl (.cons (t := 5001) rfl (.cons (t := 143) rfl (.cons (t := 144) rfl SubB.nil))))
    · replace h := bif_f h hb5
      refine .exit ?_
      refine .thenExit ?_
      refine .thenExit ?_
      refine .blkExit ?_
      replace h := hD4 _ (some_eq h)
      exact Ends.join _ (some_eq h) Sub.nil (.cons (t := 143) rfl (.cons (t := 144) rfl SubB.nil))
  · have h := resb_nx hK3 hj3
    refine .seq ?_
    refine .region [] mixed (by kernel_rfl) ?_
    refine .cons (.assign .none .bool) rfl ?_
    refine .nil ?_
    refine .then ?_
    refine .ret ?_
    obtain rfl := some_eq h
    exact Ends.ret1O (.inl rfl) [143, 144] Try.results77 (by decide) (.held rfl (.held rfl .nil)) (ResOK.tmp rfl trivial Imp.refl)

theorem ref_AreLeast_ok {n1 : Int} {l1 : (List Link)} {ranks1 : (List Int)} {r : Bool}  (h : ref_AreLeast n1 l1 ranks1 = some r) : FSpec Try.prog 36 [rep n1, rep l1, rep ranks1] (rep r) := by
  unfold ref_AreLeast at h
  refine FSpec.intro (n := 55) fnok36 Try.func36 rfl Try.ntmps36 rfl (fun F => ?_)
  refine .seq ?_
  refine .region [] mixed (by kernel_rfl) ?_
  refine .cons (.assign .none .bool) rfl ?_
  refine .nil ?_
  refine .then ?_
  refine .seq ?_
  refine .region [([], []), ([], [13]), ([13], [7, 13])] mixed (by kernel_rfl) ?_
  refine .consA (.move .none (.s rfl)) rfl ?_
  obtain ⟨hn1, h⟩ := need_some h
  refine .consW (.makeSlice rk32 zo3 rfl (.s rfl) (.s rfl) hn1) rfl rfl ?_
  refine .consW (.passRow rfl (.tmp rfl)) rfl rfl ?_
  refine .nil ?_
  refine .then ?_
  obtain ⟨need1, hv2, h⟩ := bnd_some h
  refine .reB (t := 7) rfl (congrArg (rowV 3) hv2) ?_
  refine .nameRow (t := 7) (g := 5001) rfl rfl rfl (fun s5001 => ?_)
  refine .seq ?_
  refine .seq ?_
  refine .region [] mixed (by kernel_rfl) ?_
  refine .cons (.move .none (.s rfl)) rfl ?_
  refine .cons (.len .none sl23 (.s rfl)) rfl ?_
  refine .cons (.move .none (.int (by decide))) rfl ?_
  refine .nil ?_
  refine .then ?_
  obtain ⟨j_3, h, hK3⟩ := bind_some h
  refine .thenJ (ι := (List Int)) (fun j_3 => []) (fun j_3 => [(5001, some (CPred.at s5001 (rowV 3 j_3)))]) (fun s => j_3 = s) (.cons (t := 0) rfl (.cons (t := 1) rfl (.cons (t := 2) rfl (.cons (t := 7) rfl Sub.nil)))) SubB.nil ?_ (fun j_3' hj3 => ?_)
  · skip
    refine .block ?_
    refine .rforL h (fun p4_ => [(16, ⟨True, rep p4_.1⟩)]) (fun p4_ => [(5001, some (CPred.at s5001 (rowV 3 p4_.2)))]) (.cons (t := 16) rfl Sub.nil) (.cons (t := 5001) rfl SubB.nil) (.cons (t := 0) rfl (.cons (t := 1) rfl (.cons (t := 2) rfl (.cons (t := 7) rfl (.cons (t := 14) rfl (.cons (t := 15) rfl Sub.nil)))))) SubB.nil (fun p4_ o_4 h hD4 => ?_)
    refine .seq ?_
    refine .region [] mixed (by kernel_rfl) ?_
    refine .cons (.lt .none (.s rfl) (.s rfl)) rfl ?_
    refine .nil ?_
    refine .then ?_
    refine .seq ?_
    refine .cond (t := 17) rfl trivial (fun hb5 => ?_) (fun hb5 => ?_)
    · replace h := bif_t h hb5
      refine .skip ?_
      refine .then ?_
      refine .seq ?_
      obtain ⟨j_6, h, hK6⟩ := bind_some h
      unfold ref_AreLeast_L1 at h
      refine .thenJ (ι := (List Int)) (fun j_6 => []) (fun j_6 => [(5001, some (CPred.at s5001 (rowV 3 j_6)))]) (fun s => j_6 = s) (.cons (t := 0) rfl (.cons (t := 1) rfl (.cons (t := 2) rfl (.cons (t := 7) rfl (.cons (t := 14) rfl (.cons (t := 15) rfl (.cons (t := 16) rfl Sub.nil))))))) SubB.nil ?_ (fun j_6' hj6 => ?_)
      · skip
        refine .block ?_
        refine .seq ?_
        refine .region [([], []), ([], []), ([], [9]), ([9], [9])] mixed (by kernel_rfl) ?_
        obtain ⟨hn7, h⟩ := need_some h
        refine .consA (.indexAddr .none sl23 ty79 (.s rfl) (.s rfl) (fun _ => hn7)) rfl ?_
        obtain ⟨v1, hv8, h⟩ := bnd_some h
        refine .consA (.re hv8 (.load .none ty79 (.s rfl))) rfl ?_
        refine .consW (.alloc zo79 rfl) rfl rfl ?_
        refine .consN (.store ty79 rfl rfl (.s rfl)) rfl ?_
        refine .nil ?_
        refine .then ?_
        refine .freeze (t := 9) rfl rfl (.cons (t := 5001) rfl SubB.nil) rfl ?_
        refine .seq ?_
        refine .region [([], []), ([], []), ([], []), ([5001], []), ([5001], []), ([], []), ([5001], []), ([5001], [5001])] mixed (by kernel_rfl) ?_
        refine .consA (.move .none (.s rfl)) rfl ?_
        refine .consA (.fieldAddr .none fd79_1 hfd79_1 (.s rfl)) rfl ?_
        refine .consA (.load .none ty3 (.s rfl)) rfl ?_
        obtain ⟨hn9, h⟩ := need_some h
        refine .consA (.indexAddrO (k := 5001) .none sl32 ty3 (.s rfl) rfl (.s rfl) (fun _ => hn9)) rfl ?_
        refine .consA (.loadElem0 (k := 5001) .none ty3 (.s rfl) rfl (fun _ => hn9)) rfl ?_
        obtain ⟨v2, hv10, h⟩ := bnd_some h
        refine .consA (.re hv10 (.addW .none (.s rfl) (.int (by decide)))) rfl ?_
        obtain ⟨hn11, h⟩ := need_some h
        refine .consA (.indexAddrO (k := 5001) .none sl32 ty3 (.s rfl) rfl (.s rfl) (fun _ => hn11)) rfl ?_
        refine .consN (.storeElem0 (k := 5001) ty3 (.s rfl) rfl (.s rfl) hn11) rfl ?_
        refine .nil ?_
        refine .then ?_
        obtain ⟨need2, hv12, h⟩ := bnd_some h
        refine .reB (t := 5001) rfl (congrArg (fun y => CPred.at s5001 (rowV 3 y)) hv12) ?_
        refine .region [([], []), ([], []), ([], []), ([5001], []), ([5001], []), ([], []), ([5001], []), ([5001], [5001])] mixed (by kernel_rfl) ?_
        refine .consA (.move .none (.s rfl)) rfl ?_
        refine .consA (.fieldAddr .none fd79_0 hfd79_0 (.s rfl)) rfl ?_
        refine .consA (.load .none ty3 (.s rfl)) rfl ?_
        obtain ⟨hn13, h⟩ := need_some h
        refine .consA (.indexAddrO (k := 5001) .none sl32 ty3 (.s rfl) rfl (.s rfl) (fun _ => hn13)) rfl ?_
        refine .consA (.loadElem0 (k := 5001) .none ty3 (.s rfl) rfl (fun _ => hn13)) rfl ?_
        obtain ⟨v3, hv14, h⟩ := bnd_some h
        refine .consA (.re hv14 (.subW .none (.s rfl) (.int (by decide)))) rfl ?_
        obtain ⟨hn15, h⟩ := need_some h
        refine .consA (.indexAddrO (k := 5001) .none sl32 ty3 (.s rfl) rfl (.s rfl) (fun _ => hn15)) rfl ?_
        refine .consN (.storeElem0 (k := 5001) ty3 (.s rfl) rfl (.s rfl) hn15) rfl ?_
        refine .nil ?_
        refine .blkNormal ?_
        exact Ends.join _ (some_eq h) (.cons (t := 0) rfl (.cons (t := 1) rfl (.cons (t := 2) rfl (.cons (t := 7) rfl (.cons (t := 14) rfl (.cons (t := 15) rfl (.cons (t := 16) rfl Sub.nil))))))) (.cons (t := 5001) rfl SubB.nil)
      · subst hj6; have h := hK6; clear hK6
        refine .region [] mixed (by kernel_rfl) ?_
        refine .cons (.addW .none (.s rfl) (.int (by decide))) rfl ?_
        refine .cons (.move .none (.s rfl)) rfl ?_
        refine .nil ?_
        exact Ends.againL (some_eq h) (.cons (t := 16) rfl (.cons (t := 0) rfl (.cons (t := 1) rfl (.cons (t := 2) rfl (.cons (t := 7) rfl (.cons (t := 14) rfl (.cons (t := 15) rfl Sub.nil))))))) (.cons (t := 5001) rfl SubB.nil)
    · replace h := bif_f h hb5
      refine .exit ?_
      refine .thenExit ?_
      refine .thenExit ?_
      refine .blkExit ?_
      replace h := hD4 _ (some_eq h)
      exact Ends.join _ (some_eq h) (.cons (t := 0) rfl (.cons (t := 1) rfl (.cons (t := 2) rfl (.cons (t := 7) rfl Sub.nil)))) (.cons (t := 5001) rfl SubB.nil)
  · subst hj3; have h := hK3; clear hK3
    refine .seq ?_
    refine .region [([], []), ([], []), ([], [37]), ([37], [10, 37])] mixed (by kernel_rfl) ?_
    refine .consA (.move .none (.s rfl)) rfl ?_
    obtain ⟨v4, hv16, h⟩ := bnd_some h
    refine .consA (.re hv16 (.len .none sl23 (.s rfl))) rfl ?_
    obtain ⟨hn17, h⟩ := need_some h
    refine .consW (.makeSlice rk32 zo3 rfl (.s rfl) (.s rfl) hn17) rfl rfl ?_
    refine .consW (.passRow rfl (.tmp rfl)) rfl rfl ?_
    refine .nil ?_
    refine .then ?_
    obtain ⟨flow1, hv18, h⟩ := bnd_some h
    refine .reB (t := 10) rfl (congrArg (rowV 3) hv18) ?_
    refine .nameRow (t := 10) (g := 5002) rfl rfl rfl (fun s5002 => ?_)
    refine .seq ?_
    refine .seq ?_
    refine .region [] mixed (by kernel_rfl) ?_
    refine .cons (.move .none (.s rfl)) rfl ?_
    refine .cons (.move .none (.int (by decide))) rfl ?_
    refine .nil ?_
    refine .then ?_
    obtain ⟨o_19, h, hK19⟩ := bindR_some h
    refine .thenJ (ι := ((List Int) × (List Int))) (fun j_19 => []) (fun j_19 => [(5001, some (CPred.at s5001 (rowV 3 j_19.1))), (5002, some (CPred.at s5002 (rowV 3 j_19.2)))]) (fun s => o_19 = Res.nx s) (.cons (t := 7) rfl (.cons (t := 10) rfl Sub.nil)) SubB.nil ?_ (fun j_19 hj19 => ?_)
    · skip
      refine .block ?_
      refine .rforEL h (fun p20_ => [(39, ⟨True, rep p20_.1⟩)]) (fun p20_ => [(5001, some (CPred.at s5001 (rowV 3 p20_.2.1))), (5002, some (CPred.at s5002 (rowV 3 p20_.2.2)))]) (.cons (t := 39) rfl Sub.nil) (.cons (t := 5001) rfl (.cons (t := 5002) rfl SubB.nil)) (.cons (t := 1) rfl (.cons (t := 2) rfl (.cons (t := 7) rfl (.cons (t := 10) rfl (.cons (t := 38) rfl Sub.nil))))) SubB.nil (fun p20_ o_20 h hD20 => ?_)
      refine .seq ?_
      refine .region [] mixed (by kernel_rfl) ?_
      refine .cons (.lt .none (.s rfl) (.s rfl)) rfl ?_
      refine .nil ?_
      refine .then ?_
      refine .seq ?_
      refine .cond (t := 40) rfl trivial (fun hb21 => ?_) (fun hb21 => ?_)
      · replace h := bif_t h hb21
        refine .skip ?_
        refine .then ?_
        refine .seq ?_
        obtain ⟨o_22, h, hK22⟩ := bindD_some h
        unfold ref_AreLeast_L2 at h
        refine .thenJ (ι := ((List Int) × (List Int))) (fun j_22 => []) (fun j_22 => [(5001, some (CPred.at s5001 (rowV 3 j_22.1))), (5002, some (CPred.at s5002 (rowV 3 j_22.2)))]) (fun s => o_22 = Res.nx s) (.cons (t := 1) rfl (.cons (t := 2) rfl (.cons (t := 7) rfl (.cons (t := 10) rfl (.cons (t := 38) rfl (.cons (t := 39) rfl Sub.nil)))))) SubB.nil ?_ (fun j_22 hj22 => ?_)
        · skip
          refine .block ?_
          refine .seq ?_
          refine .region [] mixed (by kernel_rfl) ?_
          refine .cons (.move .none (.s rfl)) rfl ?_
          refine .cons (.assign .none (.s rfl)) rfl ?_
          refine .nil ?_
          refine .then ?_
          refine .block ?_
          refine .loopL h (fun s23_ => []) (fun s23_ => [(5001, some (CPred.at s5001 (rowV 3 s23_.1))), (5002, some (CPred.at s5002 (rowV 3 s23_.2)))]) Sub.nil (.cons (t := 5001) rfl (.cons (t := 5002) rfl SubB.nil)) (.cons (t := 1) rfl (.cons (t := 2) rfl (.cons (t := 7) rfl (.cons (t := 10) rfl (.cons (t := 11) rfl (.cons (t := 38) rfl (.cons (t := 39) rfl Sub.nil))))))) SubB.nil (fun s23_ o_23 h hD23 => ?_)
          unfold ref_AreLeast_L3 at h
          refine .seq ?_
          refine .seq ?_
          refine .region [([], []), ([], []), ([5001], []), ([5001], []), ([], [])] mixed (by kernel_rfl) ?_
          refine .consA (.move .none (.s rfl)) rfl ?_
          refine .consA (.move .none (.s rfl)) rfl ?_
          obtain ⟨hn24, h⟩ := need_some h
          refine .consA (.indexAddrO (k := 5001) .none sl32 ty3 (.s rfl) rfl (.s rfl) (fun _ => hn24)) rfl ?_
          refine .consA (.loadElem0 (k := 5001) .none ty3 (.s rfl) rfl (fun _ => hn24)) rfl ?_
          refine .consA (.gt .none (.s rfl) (.int (by decide))) rfl ?_
          refine .nil ?_
          refine .then ?_
          refine .cond (t := 46) rfl trivial (fun hb25 => ?_) (fun hb25 => ?_)
          · replace h := bif_t h hb25
            refine .skip ?_
            refine .then ?_
            refine .block ?_
            refine .seq ?_
            refine .region [([], []), ([], []), ([], []), ([], []), ([], []), ([5001, 5002], [5001, 5002]), ([], [])] mixed (by kernel_rfl) ?_
            refine .consA (.move .none (.s rfl)) rfl ?_
            refine .consA (.move .none (.s rfl)) rfl ?_
            refine .consA (.move .none (.s rfl)) rfl ?_
            refine .consA (.move .none (.s rfl)) rfl ?_
            refine .consA (.move .none (.s rfl)) rfl ?_
            obtain ⟨r1, hv26, h⟩ := bind_some h
            refine .consW (.callO [5001, 5002] (ref_bring_ok hv26) (.cons (.s rfl) (.cons (.s rfl) (.cons (.s rfl) (.cons (.s rfl) (.cons (.s rfl) .nil))))) (.cons (k := 5001) rfl (.cons (k := 5002) rfl .nil)) rfl (by decide) (by decide) (by intro d h; cases h; decide)) rfl rfl ?_
            refine .consA (.not .none (.s rfl)) rfl ?_
            refine .nil ?_
            refine .then ?_
            refine .cond (t := 53) rfl trivial (fun hb27 => ?_) (fun hb27 => ?_)
            · replace h := bif_t h hb27
              refine .seq ?_
              refine .region [] mixed (by kernel_rfl) ?_
              refine .cons (.assign .none .bool) rfl ?_
              refine .nil ?_
              refine .then ?_
              refine .ret ?_
              refine .blkRet ?_
              refine .thenRet ?_
              refine .blkRet ?_
              refine .blkRet ?_
              refine .thenRet ?_
              refine .thenRet ?_
              refine .blkRet ?_
              refine .thenRet ?_
              replace h := hD23 _ (some_eq h)
              replace h := resd_ab hK22 (some_eq h)
              replace h := hD20 _ (some_eq h)
              replace h := resb_ab hK19 (some_eq h)
              obtain rfl := some_eq h
              exact Ends.ret1 (.inl rfl) Try.results36 (ResOK.tmp rfl trivial Imp.refl)
            · replace h := bif_f h hb27
              refine .skip ?_
              refine .blkNormal ?_
              exact Ends.againL (some_eq h) (.cons (t := 1) rfl (.cons (t := 2) rfl (.cons (t := 7) rfl (.cons (t := 10) rfl (.cons (t := 11) rfl (.cons (t := 38) rfl (.cons (t := 39) rfl Sub.nil))))))) (.cons (t := 5001) rfl (.cons (t := 5002) rfl SubB.nil))
          · replace h := bif_f h hb25
            refine .exit ?_
            refine .thenExit ?_
            refine .thenExit ?_
            refine .blkExit ?_
            refine .blkNormal ?_
            replace h := hD23 _ (some_eq h)
            exact Ends.join _ (some_eq h) (.cons (t := 1) rfl (.cons (t := 2) rfl (.cons (t := 7) rfl (.cons (t := 10) rfl (.cons (t := 38) rfl (.cons (t := 39) rfl Sub.nil)))))) (.cons (t := 5001) rfl (.cons (t := 5002) rfl SubB.nil))
        · have h := resd_nx hK22 hj22
          refine .region [] mixed (by kernel_rfl) ?_
          refine .cons (.addW .none (.s rfl) (.int (by decide))) rfl ?_
          refine .cons (.move .none (.s rfl)) rfl ?_
          refine .nil ?_
          exact Ends.againL (some_eq h) (.cons (t := 39) rfl (.cons (t := 1) rfl (.cons (t := 2) rfl (.cons (t := 7) rfl (.cons (t := 10) rfl (.cons (t := 38) rfl Sub.nil)))))) (.cons (t := 5001) rfl (.cons (t := 5002) rfl SubB.nil))
      · replace h := bif_f h hb21
        refine .exit ?_
        refine .thenExit ?_
        refine .thenExit ?_
        refine .blkExit ?_
        replace h := hD20 _ (some_eq h)
        exact Ends.join _ (some_eq h) (.cons (t := 7) rfl (.cons (t := 10) rfl Sub.nil)) (.cons (t := 5001) rfl (.cons (t := 5002) rfl SubB.nil))
    · have h := resb_nx hK19 hj19
      refine .seq ?_
      refine .region [] mixed (by kernel_rfl) ?_
      refine .cons (.assign .none .bool) rfl ?_
      refine .nil ?_
      refine .then ?_
      refine .ret ?_
      obtain rfl := some_eq h
      exact Ends.ret1 (.inl rfl) Try.results36 (ResOK.tmp rfl trivial Imp.refl)

theorem layer_Total_ok {n1 : Int} {l1 : (List Link)} {ranks1 : (List Int)} {r : (Int × Int)}  (h : layer_Total n1 l1 ranks1 = some r) : FSpec Try.prog 37 [rep n1, rep l1, rep ranks1] (tup [rep r.1, rep r.2]) := by
  unfold layer_Total at h
  refine FSpec.intro (n := 62) fnok37 Try.func37 rfl Try.ntmps37 rfl (fun F => ?_)
  refine .seq ?_
  refine .region [] mixed (by kernel_rfl) ?_
  refine .cons (.assign .none (.int (by decide))) rfl ?_
  refine .cons (.assign .none (.int (by decide))) rfl ?_
  refine .nil ?_
  refine .then ?_
  refine .seq ?_
  refine .seq ?_
  refine .region [] mixed (by kernel_rfl) ?_
  refine .cons (.move .none (.s rfl)) rfl ?_
  refine .cons (.move .none (.s rfl)) rfl ?_
  obtain ⟨e1, hv1, h⟩ := bind_some h
  refine .cons (.call .none (layer_Check_ok hv1) (.cons (.s rfl) (.cons (.s rfl) .nil))) rfl ?_
  refine .cons (.assign .none (.s rfl)) rfl ?_
  refine .nil ?_
  refine .then ?_
  refine .seq ?_
  refine .region [] mixed (by kernel_rfl) ?_
  refine .cons (.move .none (.s rfl)) rfl ?_
  refine .cons (.neI .none (.s rfl) (.int (by decide))) rfl ?_
  refine .nil ?_
  refine .then ?_
  refine .cond (t := 19) rfl trivial (fun hb2 => ?_) (fun hb2 => ?_)
  · replace h := bif_t h hb2
    refine .seq ?_
    refine .region [] mixed (by kernel_rfl) ?_
    refine .cons (.move .none (.s rfl)) rfl ?_
    refine .cons (.assign .none (.int (by decide))) rfl ?_
    refine .cons (.assign .none (.s rfl)) rfl ?_
    refine .nil ?_
    refine .then ?_
    refine .ret ?_
    refine .thenRet ?_
    obtain rfl := some_eq h
    exact Ends.ret2 (.inl rfl) Try.results37 (ResOK.tmp rfl trivial Imp.refl) (ResOK.tmp rfl trivial Imp.refl)
  · replace h := bif_f h hb2
    refine .skip ?_
    refine .then ?_
    refine .seq ?_
    refine .seq ?_
    refine .region [] mixed (by kernel_rfl) ?_
    refine .cons (.move .none (.s rfl)) rfl ?_
    refine .cons (.len .none sl32 (.s rfl)) rfl ?_
    refine .cons (.move .none (.s rfl)) rfl ?_
    refine .cons (.neI .none (.s rfl) (.s rfl)) rfl ?_
    refine .nil ?_
    refine .then ?_
    refine .cond (t := 24) rfl trivial (fun hb3 => ?_) (fun hb3 => ?_)
    · replace h := bif_t h hb3
      refine .seq ?_
      refine .region [] mixed (by kernel_rfl) ?_
      refine .cons (.assign .none (.int (by decide))) rfl ?_
      refine .cons (.assign .none (.int (by decide))) rfl ?_
      refine .nil ?_
      refine .then ?_
      refine .ret ?_
      refine .thenRet ?_
      obtain rfl := some_eq h
      exact Ends.ret2 (.inl rfl) Try.results37 (ResOK.tmp rfl trivial Imp.refl) (ResOK.tmp rfl trivial Imp.refl)
    · replace h := bif_f h hb3
      refine .skip ?_
      refine .then ?_
      refine .seq ?_
      refine .seq ?_
      refine .region [] mixed (by kernel_rfl) ?_
      refine .cons (.move .none (.s rfl)) rfl ?_
      refine .cons (.len .none sl32 (.s rfl)) rfl ?_
      refine .cons (.move .none (.int (by decide))) rfl ?_
      refine .nil ?_
      refine .then ?_
      obtain ⟨o_4, h, hK4⟩ := bindR_some h
      refine .thenJ (ι := Unit) (fun j_4 => []) (fun j_4 => []) (fun s => o_4 = Res.nx s) (.cons (t := 1) rfl (.cons (t := 2) rfl Sub.nil)) SubB.nil ?_ (fun j_4 hj4 => ?_)
      · skip
        refine .block ?_
        refine .rforEL h (fun p5_ => [(27, ⟨True, rep p5_.1⟩)]) (fun p5_ => []) (.cons (t := 27) rfl Sub.nil) SubB.nil (.cons (t := 1) rfl (.cons (t := 2) rfl (.cons (t := 25) rfl (.cons (t := 26) rfl Sub.nil)))) SubB.nil (fun p5_ o_5 h hD5 => ?_)
        refine .seq ?_
        refine .region [] mixed (by kernel_rfl) ?_
        refine .cons (.lt .none (.s rfl) (.s rfl)) rfl ?_
        refine .nil ?_
        refine .then ?_
        refine .seq ?_
        refine .cond (t := 28) rfl trivial (fun hb6 => ?_) (fun hb6 => ?_)
        · replace h := bif_t h hb6
          refine .skip ?_
          refine .then ?_
          refine .seq ?_
          obtain ⟨o_7, h, hK7⟩ := bindD_some h
          unfold layer_Total_L1 at h
          refine .thenJ (ι := Unit) (fun j_7 => []) (fun j_7 => []) (fun s => o_7 = Res.nx s) (.cons (t := 1) rfl (.cons (t := 2) rfl (.cons (t := 25) rfl (.cons (t := 26) rfl (.cons (t := 27) rfl Sub.nil))))) SubB.nil ?_ (fun j_7 hj7 => ?_)
          · skip
            refine .block ?_
            refine .seq ?_
            refine .region [] mixed (by kernel_rfl) ?_
            obtain ⟨hn8, h⟩ := need_some h
            refine .cons (.indexAddr .none sl32 ty3 (.s rfl) (.s rfl) (fun _ => hn8)) rfl ?_
            refine .cons (.load .none ty3 (.s rfl)) rfl ?_
            obtain ⟨r1, hv9, h⟩ := bnd_some h
            refine .cons (.re hv9 (.assign .none (.s rfl))) rfl ?_
            refine .nil ?_
            refine .then ?_
            refine .seq ?_
            refine .region [] mixed (by kernel_rfl) ?_
            refine .cons (.move .none (.s rfl)) rfl ?_
            refine .cons (.lt .none (.s rfl) (.int (by decide))) rfl ?_
            refine .cons (.move .none (.s rfl)) rfl ?_
            refine .cons (.move (.at rfl rfl) (.s rfl)) rfl ?_
            refine .cons (.gt (.at rfl rfl) (.tmp rfl id) (.int (by decide))) rfl ?_
            refine .cons (.pickOr .none (.s rfl) (.tmp rfl id)) rfl ?_
            refine .nil ?_
            refine .then ?_
            refine .cond (t := 36) rfl trivial (fun hb10 => ?_) (fun hb10 => ?_)
            · replace h := bif_t h hb10
              refine .seq ?_
              refine .region [] mixed (by kernel_rfl) ?_
              refine .cons (.assign .none (.int (by decide))) rfl ?_
              refine .cons (.assign .none (.int (by decide))) rfl ?_
              refine .nil ?_
              refine .then ?_
              refine .ret ?_
              refine .blkRet ?_
              refine .thenRet ?_
              refine .thenRet ?_
              refine .blkRet ?_
              refine .thenRet ?_
              replace h := resd_ab hK7 (some_eq h)
              replace h := hD5 _ (some_eq h)
              replace h := resb_ab hK4 (some_eq h)
              obtain rfl := some_eq h
              exact Ends.ret2 (.inl rfl) Try.results37 (ResOK.tmp rfl trivial Imp.refl) (ResOK.tmp rfl trivial Imp.refl)
            · replace h := bif_f h hb10
              refine .skip ?_
              refine .blkNormal ?_
              exact Ends.join _ (some_eq h) (.cons (t := 1) rfl (.cons (t := 2) rfl (.cons (t := 25) rfl (.cons (t := 26) rfl (.cons (t := 27) rfl Sub.nil))))) SubB.nil
          · have h := resd_nx hK7 hj7
            refine .region [] mixed (by kernel_rfl) ?_
            refine .cons (.addW .none (.s rfl) (.int (by decide))) rfl ?_
            refine .cons (.move .none (.s rfl)) rfl ?_
            refine .nil ?_
            exact Ends.againL (some_eq h) (.cons (t := 27) rfl (.cons (t := 1) rfl (.cons (t := 2) rfl (.cons (t := 25) rfl (.cons (t := 26) rfl Sub.nil))))) SubB.nil
        · replace h := bif_f h hb6
          refine .exit ?_
          refine .thenExit ?_
          refine .thenExit ?_
          refine .blkExit ?_
          replace h := hD5 _ (some_eq h)
          exact Ends.join _ (some_eq h) (.cons (t := 1) rfl (.cons (t := 2) rfl Sub.nil)) SubB.nil
      · have h := resb_nx hK4 hj4
        refine .seq ?_
        refine .region [] mixed (by kernel_rfl) ?_
        refine .cons (.assign .none (.int (by decide))) rfl ?_
        refine .nil ?_
        refine .then ?_
        refine .seq ?_
        refine .seq ?_
        refine .region [] mixed (by kernel_rfl) ?_
        refine .cons (.move .none (.s rfl)) rfl ?_
        refine .cons (.len .none sl23 (.s rfl)) rfl ?_
        refine .cons (.move .none (.int (by decide))) rfl ?_
        refine .nil ?_
        refine .then ?_
        obtain ⟨o_11, h, hK11⟩ := bindR_some h
        refine .thenJ (ι := Int) (fun j_11 => [(11, ⟨True, rep j_11⟩)]) (fun j_11 => []) (fun s => o_11 = Res.nx s) Sub.nil SubB.nil ?_ (fun j_11 hj11 => ?_)
        · skip
          refine .block ?_
          refine .rforEL h (fun p12_ => [(40, ⟨True, rep p12_.1⟩), (11, ⟨True, rep p12_.2⟩)]) (fun p12_ => []) (.cons (t := 40) rfl (.cons (t := 11) rfl Sub.nil)) SubB.nil (.cons (t := 2) rfl (.cons (t := 38) rfl (.cons (t := 39) rfl Sub.nil))) SubB.nil (fun p12_ o_12 h hD12 => ?_)
          refine .seq ?_
          refine .region [] mixed (by kernel_rfl) ?_
          refine .cons (.lt .none (.s rfl) (.s rfl)) rfl ?_
          refine .nil ?_
          refine .then ?_
          refine .seq ?_
          refine .cond (t := 41) rfl trivial (fun hb13 => ?_) (fun hb13 => ?_)
          · replace h := bif_t h hb13
            refine .skip ?_
            refine .then ?_
            refine .seq ?_
            obtain ⟨o_14, h, hK14⟩ := bindD_some h
            unfold layer_Total_L2 at h
            refine .thenJ (ι := Int) (fun j_14 => [(11, ⟨True, rep j_14⟩)]) (fun j_14 => []) (fun s => o_14 = Res.nx s) (.cons (t := 2) rfl (.cons (t := 38) rfl (.cons (t := 39) rfl (.cons (t := 40) rfl Sub.nil)))) SubB.nil ?_ (fun j_14 hj14 => ?_)
            · skip
              refine .block ?_
              refine .seq ?_
              refine .region [([], []), ([], []), ([], [13]), ([13], [13])] mixed (by kernel_rfl) ?_
              obtain ⟨hn15, h⟩ := need_some h
              refine .consA (.indexAddr .none sl23 ty79 (.s rfl) (.s rfl) (fun _ => hn15)) rfl ?_
              obtain ⟨v1, hv16, h⟩ := bnd_some h
              refine .consA (.re hv16 (.load .none ty79 (.s rfl))) rfl ?_
              refine .consW (.alloc zo79 rfl) rfl rfl ?_
              refine .consN (.store ty79 rfl rfl (.s rfl)) rfl ?_
              refine .nil ?_
              refine .then ?_
              refine .freeze (t := 13) rfl rfl SubB.nil rfl ?_
              refine .seq ?_
              refine .region [] mixed (by kernel_rfl) ?_
              refine .cons (.move .none (.s rfl)) rfl ?_
              refine .cons (.fieldAddr .none fd79_1 hfd79_1 (.s rfl)) rfl ?_
              refine .cons (.load .none ty3 (.s rfl)) rfl ?_
              obtain ⟨hn17, h⟩ := need_some h
              refine .cons (.indexAddr .none sl32 ty3 (.s rfl) (.s rfl) (fun _ => hn17)) rfl ?_
              refine .cons (.load .none ty3 (.s rfl)) rfl ?_
              refine .cons (.move .none (.s rfl)) rfl ?_
              refine .cons (.fieldAddr .none fd79_0 hfd79_0 (.s rfl)) rfl ?_
              refine .cons (.load .none ty3 (.s rfl)) rfl ?_
              obtain ⟨hn18, h⟩ := need_some h
              refine .cons (.indexAddr .none sl32 ty3 (.s rfl) (.s rfl) (fun _ => hn18)) rfl ?_
              refine .cons (.load .none ty3 (.s rfl)) rfl ?_
              refine .cons (.subW .none (.s rfl) (.s rfl)) rfl ?_
              obtain ⟨d1, hv19, h⟩ := bnd_some h
              refine .cons (.re hv19 (.assign .none (.s rfl))) rfl ?_
              refine .nil ?_
              refine .then ?_
              refine .seq ?_
              refine .seq ?_
              refine .region [] mixed (by kernel_rfl) ?_
              refine .cons (.move .none (.s rfl)) rfl ?_
              refine .cons (.lt .none (.s rfl) (.int (by decide))) rfl ?_
              refine .nil ?_
              refine .then ?_
              refine .cond (t := 56) rfl trivial (fun hb20 => ?_) (fun hb20 => ?_)
              · replace h := bif_t h hb20
                refine .seq ?_
                refine .region [] mixed (by kernel_rfl) ?_
                refine .cons (.assign .none (.int (by decide))) rfl ?_
                refine .cons (.assign .none (.int (by decide))) rfl ?_
                refine .nil ?_
                refine .then ?_
                refine .ret ?_
                refine .thenRet ?_
                refine .blkRet ?_
                refine .thenRet ?_
                refine .thenRet ?_
                refine .blkRet ?_
                refine .thenRet ?_
                replace h := resd_ab hK14 (some_eq h)
                replace h := hD12 _ (some_eq h)
                replace h := resb_ab hK11 (some_eq h)
                obtain rfl := some_eq h
                exact Ends.ret2 (.inl rfl) Try.results37 (ResOK.tmp rfl trivial Imp.refl) (ResOK.tmp rfl trivial Imp.refl)
              · replace h := bif_f h hb20
                refine .skip ?_
                refine .then ?_
                refine .region [] mixed (by kernel_rfl) ?_
                refine .cons (.move .none (.s rfl)) rfl ?_
                refine .cons (.move .none (.s rfl)) rfl ?_
                refine .cons (.addW .none (.s rfl) (.s rfl)) rfl ?_
                obtain ⟨sum1, hv21, h⟩ := bnd_some h
                refine .cons (.re hv21 (.assign .none (.s rfl))) rfl ?_
                refine .nil ?_
                refine .blkNormal ?_
                exact Ends.join _ (some_eq h) (.cons (t := 11) rfl (.cons (t := 2) rfl (.cons (t := 38) rfl (.cons (t := 39) rfl (.cons (t := 40) rfl Sub.nil))))) SubB.nil
            · have h := resd_nx hK14 hj14
              refine .region [] mixed (by kernel_rfl) ?_
              refine .cons (.addW .none (.s rfl) (.int (by decide))) rfl ?_
              refine .cons (.move .none (.s rfl)) rfl ?_
              refine .nil ?_
              exact Ends.againL (some_eq h) (.cons (t := 40) rfl (.cons (t := 11) rfl (.cons (t := 2) rfl (.cons (t := 38) rfl (.cons (t := 39) rfl Sub.nil))))) SubB.nil
          · replace h := bif_f h hb13
            refine .exit ?_
            refine .thenExit ?_
            refine .thenExit ?_
            refine .blkExit ?_
            replace h := hD12 _ (some_eq h)
            exact Ends.join _ (some_eq h) (.cons (t := 11) rfl Sub.nil) SubB.nil
        · have h := resb_nx hK11 hj11
          refine .seq ?_
          refine .region [] mixed (by kernel_rfl) ?_
          refine .cons (.move .none (.s rfl)) rfl ?_
          refine .cons (.assign .none (.s rfl)) rfl ?_
          refine .cons (.assign .none (.int (by decide))) rfl ?_
          refine .nil ?_
          refine .then ?_
          refine .ret ?_
          obtain rfl := some_eq h
          exact Ends.ret2 (.inl rfl) Try.results37 (ResOK.tmp rfl trivial Imp.refl) (ResOK.tmp rfl trivial Imp.refl)

theorem law_RanksAreLeast_ok {n1 : Int} {l1 : (List Link)} {other1 : (List Int)} {r : Bool}  (h : law_RanksAreLeast n1 l1 other1 = some r) : FSpec Try.prog 6 [rep n1, rep l1, rep other1] (rep r) := by
  unfold law_RanksAreLeast at h
  refine FSpec.intro (n := 109) fnok6 Try.func6 rfl Try.ntmps6 rfl (fun F => ?_)
  refine .seq ?_
  refine .region [] mixed (by kernel_rfl) ?_
  refine .cons (.assign .none .bool) rfl ?_
  refine .nil ?_
  refine .then ?_
  refine .seq ?_
  refine .region [] mixed (by kernel_rfl) ?_
  refine .cons (.move .none (.s rfl)) rfl ?_
  refine .cons (.move .none (.s rfl)) rfl ?_
  obtain ⟨own1, hv1, h⟩ := bind_some h
  refine .cons (.call .none (ref_GraphError_ok hv1) (.cons (.s rfl) (.cons (.s rfl) .nil))) rfl ?_
  refine .cons (.assign .none (.s rfl)) rfl ?_
  refine .nil ?_
  refine .then ?_
  refine .seq ?_
  refine .seq ?_
  refine .region [] mixed (by kernel_rfl) ?_
  refine .cons (.move .none (.s rfl)) rfl ?_
  refine .cons (.eqI .none (.s rfl) (.int (by decide))) rfl ?_
  refine .cons (.move .none (.s rfl)) rfl ?_
  refine .cons (.move (.at rfl rfl) (.s rfl)) rfl ?_
  refine .cons (.move (.at rfl rfl) (.s rfl)) rfl ?_
  obtain ⟨r1, hv2, h⟩ := bind_some h
  refine .cons (.callIf (.at rfl rfl) fnok22 (fun hg => ref_TurnedOf_ok ((fun hg => gd_some hv2 (hg.2)) hg)) (.cons (.tmp rfl id) (.cons (.tmp rfl id) .nil)) (fun h => h)) rfl ?_
  refine .cons (.len (.at rfl rfl) sl32 (.tmp rfl id)) rfl ?_
  refine .cons (.gt (.at rfl rfl) (.tmp rfl id) (.int (by decide))) rfl ?_
  refine .cons (.pickAnd .none (.s rfl) (.tmp rfl id)) rfl ?_
  refine .nil ?_
  refine .then ?_
  obtain ⟨j_3, h, hK3⟩ := bind_some h
  refine .thenJ (ι := Int) (fun j_3 => [(7, ⟨True, rep j_3⟩)]) (fun j_3 => []) (fun s => j_3 = s) (.cons (t := 0) rfl (.cons (t := 1) rfl (.cons (t := 2) rfl Sub.nil))) SubB.nil ?_ (fun j_3' hj3 => ?_)
  · skip
    refine .cond (t := 25) rfl trivial (fun hb4 => ?_) (fun hb4 => ?_)
    · replace h := bif_t h hb4
      refine .region [] mixed (by kernel_rfl) ?_
      refine .cons (.assign .none (.int (by decide))) rfl ?_
      refine .nil ?_
      exact Ends.join _ (some_eq h) (.cons (t := 7) rfl (.cons (t := 0) rfl (.cons (t := 1) rfl (.cons (t := 2) rfl Sub.nil)))) SubB.nil
    · replace h := bif_f h hb4
      refine .skip ?_
      exact Ends.join _ (some_eq h) (.cons (t := 7) rfl (.cons (t := 0) rfl (.cons (t := 1) rfl (.cons (t := 2) rfl Sub.nil)))) SubB.nil
  · subst hj3; have h := hK3; clear hK3
    refine .seq ?_
    refine .region [] mixed (by kernel_rfl) ?_
    refine .cons (.move .none (.s rfl)) rfl ?_
    refine .cons (.move .none (.s rfl)) rfl ?_
    obtain ⟨r2, hv5, h⟩ := bind_some h
    refine .cons (.call .none (layer_Ranks_ok hv5) (.cons (.s rfl) (.cons (.s rfl) .nil))) rfl ?_
    refine .cons (.move .none (.s rfl)) rfl ?_
    refine .cons (.extract .none (.s rfl) rfl) rfl ?_
    refine .cons (.extract .none (.s rfl) rfl) rfl ?_
    refine .cons (.assign .none (.s rfl)) rfl ?_
    refine .cons (.assign .none (.s rfl)) rfl ?_
    refine .nil ?_
    refine .then ?_
    refine .seq ?_
    refine .seq ?_
    refine .region [] mixed (by kernel_rfl) ?_
    obtain ⟨r3, hv6, h⟩ := bind_some h
    refine .cons (.call .none (law_layers_ok hv6) .nil) rfl ?_
    refine .cons (.not .none (.s rfl)) rfl ?_
    refine .cons (.move .none (.s rfl)) rfl ?_
    refine .cons (.move (.at rfl rfl) (.s rfl)) rfl ?_
    refine .cons (.neI (.at rfl rfl) (.tmp rfl id) (.int (by decide))) rfl ?_
    refine .cons (.pickOr .none (.s rfl) (.tmp rfl id)) rfl ?_
    refine .nil ?_
    refine .then ?_
    refine .cond (t := 37) rfl trivial (fun hb7 => ?_) (fun hb7 => ?_)
    · replace h := bif_t h hb7
      refine .seq ?_
      refine .region [] mixed (by kernel_rfl) ?_
      obtain ⟨r4, hv8, h⟩ := bind_some h
      refine .cons (.call .none (law_layers_ok hv8) .nil) rfl ?_
      refine .cons (.move .none (.s rfl)) rfl ?_
      refine .cons (.move (.at rfl rfl) (.s rfl)) rfl ?_
      refine .cons (.len (.at rfl rfl) sl32 (.tmp rfl id)) rfl ?_
      refine .cons (.eqI (.at rfl rfl) (.tmp rfl id) (.int (by decide))) rfl ?_
      refine .cons (.pickAnd .none (.s rfl) (.tmp rfl id)) rfl ?_
      refine .cons (.move .none (.s rfl)) rfl ?_
      refine .cons (.move (.at rfl rfl) (.s rfl)) rfl ?_
      refine .cons (.move (.at rfl rfl) (.s rfl)) rfl ?_
      refine .cons (.eqI (.at rfl rfl) (.tmp rfl id) (.tmp rfl id)) rfl ?_
      refine .cons (.pickAnd .none (.s rfl) (.tmp rfl id)) rfl ?_
      refine .cons (.assign .none (.s rfl)) rfl ?_
      refine .nil ?_
      refine .then ?_
      refine .ret ?_
      refine .thenRet ?_
      obtain rfl := some_eq h
      exact Ends.ret1 (.inl rfl) Try.results6 (ResOK.tmp rfl trivial Imp.refl)
    · replace h := bif_f h hb7
      refine .skip ?_
      refine .then ?_
      refine .seq ?_
      refine .seq ?_
      refine .region [] mixed (by kernel_rfl) ?_
      refine .cons (.move .none (.s rfl)) rfl ?_
      refine .cons (.neI .none (.s rfl) (.int (by decide))) rfl ?_
      refine .cons (.move .none (.s rfl)) rfl ?_
      refine .cons (.move (.at rfl rfl) (.s rfl)) rfl ?_
      refine .cons (.len (.at rfl rfl) sl32 (.tmp rfl id)) rfl ?_
      refine .cons (.move (.at rfl rfl) (.s rfl)) rfl ?_
      refine .cons (.neI (.at rfl rfl) (.tmp rfl id) (.tmp rfl id)) rfl ?_
      refine .cons (.pickOr .none (.s rfl) (.tmp rfl id)) rfl ?_
      refine .cons (.move .none (.s rfl)) rfl ?_
      refine .cons (.move (.at rfl rfl) (.s rfl)) rfl ?_
      obtain ⟨r5, hv9, h⟩ := bind_some h
      refine .cons (.callIf (.at rfl rfl) fnok34 (fun hg => slices_Min_int_ok ((fun hg => gd_some hv9 ((notT hg.2))) hg)) (.cons (.tmp rfl id) .nil) (fun h => h)) rfl ?_
      refine .cons (.lt (.at rfl rfl) (.tmp rfl id) (.int (by decide))) rfl ?_
      refine .cons (.pickOr .none (.s rfl) (.tmp rfl id)) rfl ?_
      refine .cons (.move .none (.s rfl)) rfl ?_
      refine .cons (.move (.at rfl rfl) (.s rfl)) rfl ?_
      refine .cons (.move (.at rfl rfl) (.s rfl)) rfl ?_
      refine .cons (.move (.at rfl rfl) (.s rfl)) rfl ?_
      obtain ⟨r6, hv10, h⟩ := bind_some h
      refine .cons (.callIf (.at rfl rfl) fnok35 (fun hg => ref_AreRanks_ok ((fun hg => gd_some hv10 ((notT hg.2))) hg)) (.cons (.tmp rfl id) (.cons (.tmp rfl id) (.cons (.tmp rfl id) .nil))) (fun h => h)) rfl ?_
      refine .cons (.not (.at rfl rfl) (.tmp rfl id)) rfl ?_
      refine .cons (.pickOr .none (.s rfl) (.tmp rfl id)) rfl ?_
      refine .cons (.move .none (.s rfl)) rfl ?_
      refine .cons (.move (.at rfl rfl) (.s rfl)) rfl ?_
      refine .cons (.move (.at rfl rfl) (.s rfl)) rfl ?_
      refine .cons (.move (.at rfl rfl) (.s rfl)) rfl ?_
      obtain ⟨r7, hv11, h⟩ := bind_some h
      refine .cons (.callIf (.at rfl rfl) fnok36 (fun hg => ref_AreLeast_ok ((fun hg => gd_some hv11 ((notT hg.2))) hg)) (.cons (.tmp rfl id) (.cons (.tmp rfl id) (.cons (.tmp rfl id) .nil))) (fun h => h)) rfl ?_
      refine .cons (.not (.at rfl rfl) (.tmp rfl id)) rfl ?_
      refine .cons (.pickOr .none (.s rfl) (.tmp rfl id)) rfl ?_
      refine .nil ?_
      refine .then ?_
      refine .cond (t := 75) rfl trivial (fun hb12 => ?_) (fun hb12 => ?_)
      · replace h := bif_t h hb12
        refine .seq ?_
        refine .region [] mixed (by kernel_rfl) ?_
        refine .cons (.assign .none .bool) rfl ?_
        refine .nil ?_
        refine .then ?_
        refine .ret ?_
        refine .thenRet ?_
        obtain rfl := some_eq h
        exact Ends.ret1 (.inl rfl) Try.results6 (ResOK.tmp rfl trivial Imp.refl)
      · replace h := bif_f h hb12
        refine .skip ?_
        refine .then ?_
        refine .seq ?_
        refine .region [] mixed (by kernel_rfl) ?_
        refine .cons (.move .none (.s rfl)) rfl ?_
        refine .cons (.move .none (.s rfl)) rfl ?_
        refine .cons (.move .none (.s rfl)) rfl ?_
        obtain ⟨r8, hv13, h⟩ := bind_some h
        refine .cons (.call .none (layer_Total_ok hv13) (.cons (.s rfl) (.cons (.s rfl) (.cons (.s rfl) .nil)))) rfl ?_
        refine .cons (.move .none (.s rfl)) rfl ?_
        refine .cons (.extract .none (.s rfl) rfl) rfl ?_
        refine .cons (.extract .none (.s rfl) rfl) rfl ?_
        refine .cons (.assign .none (.s rfl)) rfl ?_
        refine .cons (.assign .none (.s rfl)) rfl ?_
        refine .nil ?_
        refine .then ?_
        refine .seq ?_
        refine .region [] mixed (by kernel_rfl) ?_
        refine .cons (.move .none (.s rfl)) rfl ?_
        refine .cons (.move .none (.s rfl)) rfl ?_
        refine .cons (.move .none (.s rfl)) rfl ?_
        obtain ⟨r9, hv14, h⟩ := bind_some h
        refine .cons (.call .none (layer_Total_ok hv14) (.cons (.s rfl) (.cons (.s rfl) (.cons (.s rfl) .nil)))) rfl ?_
        refine .cons (.move .none (.s rfl)) rfl ?_
        refine .cons (.extract .none (.s rfl) rfl) rfl ?_
        refine .cons (.extract .none (.s rfl) rfl) rfl ?_
        refine .cons (.assign .none (.s rfl)) rfl ?_
        refine .cons (.assign .none (.s rfl)) rfl ?_
        refine .nil ?_
        refine .then ?_
        refine .seq ?_
        refine .region [] mixed (by kernel_rfl) ?_
        refine .cons (.move .none (.s rfl)) rfl ?_
        refine .cons (.eqI .none (.s rfl) (.int (by decide))) rfl ?_
        refine .cons (.move .none (.s rfl)) rfl ?_
        refine .cons (.move (.at rfl rfl) (.s rfl)) rfl ?_
        refine .cons (.neI (.at rfl rfl) (.tmp rfl id) (.int (by decide))) rfl ?_
        refine .cons (.move (.at rfl rfl) (.tmp rfl id)) rfl ?_
        refine .cons (.move (.at rfl rfl) (.s rfl)) rfl ?_
        refine .cons (.eqI (.at rfl rfl) (.tmp rfl id) (.int (by decide))) rfl ?_
        refine .cons (.pickAnd (.at rfl rfl) (.tmp rfl id) (.tmp rfl id)) rfl ?_
        refine .cons (.move (.at rfl rfl) (.tmp rfl id)) rfl ?_
        refine .cons (.move (.at rfl rfl) (.s rfl)) rfl ?_
        refine .cons (.eqI (.at rfl rfl) (.tmp rfl id) (.int (by decide))) rfl ?_
        refine .cons (.move (.at rfl rfl) (.tmp rfl id)) rfl ?_
        refine .cons (.move (.at rfl rfl) (.s rfl)) rfl ?_
        refine .cons (.move (.at rfl rfl) (.s rfl)) rfl ?_
        refine .cons (.ge (.at rfl rfl) (.tmp rfl id) (.tmp rfl id)) rfl ?_
        refine .cons (.pickAnd (.at rfl rfl) (.tmp rfl id) (.tmp rfl id)) rfl ?_
        refine .cons (.pickOr (.at rfl rfl) (.tmp rfl id) (.tmp rfl id)) rfl ?_
        refine .cons (.pickAnd .none (.s rfl) (.tmp rfl id)) rfl ?_
        refine .cons (.assign .none (.s rfl)) rfl ?_
        refine .nil ?_
        refine .then ?_
        refine .ret ?_
        obtain rfl := some_eq h
        exact Ends.ret1 (.inl rfl) Try.results6 (ResOK.tmp rfl trivial Imp.refl)


end Go.Proofs.Ytbahnfkccdlpnaa
