/-
  The walks: what a function computes is what its plain function says (printed by a program of one's own).
-/
import Derived.Test.YtegjicmejjfgfaaLabFa
set_option maxRecDepth 100000
set_option linter.unusedSimpArgs false
set_option linter.unusedVariables false
namespace Go.Proofs.Ytegjicmejjfgfaa
open Go Go.DB Go.RowKit

theorem geom_out_ok {n1 : Int} {r : Bool}  (h : geom_out n1 = some r) : FSpec Try.prog 94 [rep n1] (rep r) := by
  unfold geom_out at h
  refine FSpec.intro (n := 9) fnok94 Try.func94 rfl Try.ntmps94 rfl (fun F => ?_)
  refine Cod.seq ?_
  refine Cod.region [] mixed (by kernel_rfl) ?_
  refine Chain.cons (StepOK.assign .none .bool) rfl ?_
  refine Chain.nil ?_
  refine Ends.then ?_
  refine Cod.seq ?_
  refine Cod.region [] mixed (by kernel_rfl) ?_
  refine Chain.cons (StepOK.move .none (.tmp rfl (fun _ => trivial))) rfl ?_
  refine Chain.cons (StepOK.lt .none (.tmp rfl (fun _ => trivial)) (.int (by decide))) rfl ?_
  refine Chain.cons (StepOK.move .none (.tmp rfl (fun _ => trivial))) rfl ?_
  refine Chain.cons (StepOK.move (.at rfl rfl) (.tmp rfl (fun _ => trivial))) rfl ?_
  refine Chain.cons (StepOK.gt (.at rfl rfl) (.tmp rfl id) (.int (by decide))) rfl ?_
  refine Chain.cons (StepOK.pickOr .none (.tmp rfl (fun _ => trivial)) (.tmp rfl id)) rfl ?_
  refine Chain.cons (StepOK.assign .none (.tmp rfl (fun _ => trivial))) rfl ?_
  refine Chain.nil ?_
  refine Ends.then ?_
  refine Cod.ret ?_
  obtain rfl := some_eq h
  exact Ends.ret1 (.inl rfl) Try.results94 (ResOK.tmp rfl trivial Imp.refl)

theorem geom_CheckPoint_ok {p1 : Point} {r : Int}  (h : geom_CheckPoint p1 = some r) : FSpec Try.prog 71 [rep p1] (rep r) := by
  unfold geom_CheckPoint at h
  refine FSpec.intro (n := 11) fnok71 Try.func71 rfl Try.ntmps71 rfl (fun F => ?_)
  refine Cod.seq ?_
  refine Cod.region [] mixed (by kernel_rfl) ?_
  refine Chain.cons (StepOK.box .none (.tmp rfl (fun _ => trivial))) rfl ?_
  refine Chain.cons (StepOK.assign .none (.int (by decide))) rfl ?_
  refine Chain.nil ?_
  refine Ends.then ?_
  refine Cod.seq ?_
  refine Cod.seq ?_
  refine Cod.region [] mixed (by kernel_rfl) ?_
  refine Chain.cons (StepOK.fieldAddr .none fd53_0 hfd53_0 (.tmp rfl (fun _ => trivial))) rfl ?_
  refine Chain.cons (StepOK.load .none ty3 (.tmp rfl (fun _ => trivial))) rfl ?_
  obtain ⟨r1, hv1, h⟩ := bind_some h
  refine Chain.cons (StepOK.call .none (geom_out_ok hv1) (.cons (.tmp rfl (fun _ => trivial)) .nil)) rfl ?_
  refine Chain.cons (StepOK.move .none (.tmp rfl (fun _ => trivial))) rfl ?_
  refine Chain.cons (StepOK.fieldAddr (.at rfl rfl) fd53_1 hfd53_1 (.tmp rfl (fun _ => trivial))) rfl ?_
  refine Chain.cons (StepOK.load (.at rfl rfl) ty3 (.tmp rfl id)) rfl ?_
  obtain ⟨r2, hv2, h⟩ := bind_some h
  refine Chain.cons (StepOK.callIf (.at rfl rfl) fnok94 (fun hg => geom_out_ok ((fun hg => gd_some hv2 (by simp [hg.2])) hg)) (.cons (.tmp rfl id) .nil) (fun h => h)) rfl ?_
  refine Chain.cons (StepOK.pickOr .none (.tmp rfl (fun _ => trivial)) (.tmp rfl id)) rfl ?_
  refine Chain.nil ?_
  refine Ends.then ?_
  refine Cod.cond (t := 10) rfl trivial (fun hb3 => ?_) (fun hb3 => ?_)
  · replace h := bif_t h hb3
    refine Cod.seq ?_
    refine Cod.region [] mixed (by kernel_rfl) ?_
    refine Chain.cons (StepOK.assign .none (.int (by decide))) rfl ?_
    refine Chain.nil ?_
    refine Ends.then ?_
    refine Cod.ret ?_
    refine Ends.thenRet ?_
    obtain rfl := some_eq h
    exact Ends.ret1 (.inl rfl) Try.results71 (ResOK.tmp rfl trivial Imp.refl)
  · replace h := bif_f h hb3
    refine Cod.skip ?_
    refine Ends.then ?_
    refine Cod.seq ?_
    refine Cod.region [] mixed (by kernel_rfl) ?_
    refine Chain.cons (StepOK.assign .none (.int (by decide))) rfl ?_
    refine Chain.nil ?_
    refine Ends.then ?_
    refine Cod.ret ?_
    obtain rfl := some_eq h
    exact Ends.ret1 (.inl rfl) Try.results71 (ResOK.tmp rfl trivial Imp.refl)

theorem geom_points_ok {l1 : (List Point)} {r : Int}  (h : geom_points l1 = some r) : FSpec Try.prog 100 [rep l1] (rep r) := by
  unfold geom_points at h
  refine FSpec.intro (n := 18) fnok100 Try.func100 rfl Try.ntmps100 rfl (fun F => ?_)
  refine Cod.seq ?_
  refine Cod.region [] mixed (by kernel_rfl) ?_
  refine Chain.cons (StepOK.assign .none (.int (by decide))) rfl ?_
  refine Chain.nil ?_
  refine Ends.then ?_
  refine Cod.seq ?_
  refine Cod.seq ?_
  refine Cod.region [] mixed (by kernel_rfl) ?_
  refine Chain.cons (StepOK.move .none (.tmp rfl (fun _ => trivial))) rfl ?_
  refine Chain.cons (StepOK.len .none sl22 (.tmp rfl (fun _ => trivial))) rfl ?_
  refine Chain.cons (StepOK.move .none (.int (by decide))) rfl ?_
  refine Chain.nil ?_
  refine Ends.then ?_
  obtain ⟨o_1, h, hK1⟩ := bindR_some h
  refine Cod.thenJ (ι := Unit) (fun j_1 => []) (fun j_1 => []) (fun s => o_1 = Res.nx s) Sub.nil SubB.nil ?_ (fun j_1 hj1 => ?_)
  · skip
    refine Cod.block ?_
    refine Cod.rforEL h (fun p2_ => [(8, ⟨True, rep p2_.1⟩)]) (fun p2_ => []) (.cons (t := 8) rfl Sub.nil) SubB.nil (.cons (t := 6) rfl (.cons (t := 7) rfl Sub.nil)) SubB.nil (fun p2_ o_2 h hD2 => ?_)
    refine Cod.seq ?_
    refine Cod.region [] mixed (by kernel_rfl) ?_
    refine Chain.cons (StepOK.lt .none (.tmp rfl (fun _ => trivial)) (.tmp rfl (fun _ => trivial))) rfl ?_
    refine Chain.nil ?_
    refine Ends.then ?_
    refine Cod.seq ?_
    refine Cod.cond (t := 9) rfl trivial (fun hb3 => ?_) (fun hb3 => ?_)
    · replace h := bif_t h hb3
      refine Cod.skip ?_
      refine Ends.then ?_
      refine Cod.seq ?_
      obtain ⟨o_4, h, hK4⟩ := bindD_some h
      unfold geom_points_L1 at h
      refine Cod.thenJ (ι := Unit) (fun j_4 => []) (fun j_4 => []) (fun s => o_4 = Res.nx s) (.cons (t := 6) rfl (.cons (t := 7) rfl (.cons (t := 8) rfl Sub.nil))) SubB.nil ?_ (fun j_4 hj4 => ?_)
      · skip
        refine Cod.block ?_
        refine Cod.seq ?_
        refine Cod.region [([], []), ([], []), ([], [4]), ([4], [4])] mixed (by kernel_rfl) ?_
        obtain ⟨hn5, h⟩ := need_some h
        refine Chain.consA (StepOK.indexAddr .none sl22 ty53 (.tmp rfl (fun _ => trivial)) (.tmp rfl (fun _ => trivial)) (fun _ => hn5)) rfl ?_
        obtain ⟨v1, hv6, h⟩ := bnd_some h
        refine Chain.consA (StepOK.re hv6 (StepOK.load .none ty53 (.tmp rfl (fun _ => trivial)))) rfl ?_
        refine Chain.consW (StepOK.alloc zo53 rfl) rfl rfl ?_
        refine Chain.consN (StepOK.store ty53 rfl rfl (.tmp rfl (fun _ => trivial))) rfl ?_
        refine Chain.nil ?_
        refine Ends.then ?_
        refine Cod.freeze (t := 4) rfl rfl SubB.nil rfl ?_
        refine Cod.seq ?_
        refine Cod.region [] mixed (by kernel_rfl) ?_
        refine Chain.cons (StepOK.load .none ty53 (.tmp rfl (fun _ => trivial))) rfl ?_
        obtain ⟨e1, hv7, h⟩ := bind_some h
        refine Chain.cons (StepOK.call .none (geom_CheckPoint_ok hv7) (.cons (.tmp rfl (fun _ => trivial)) .nil)) rfl ?_
        refine Chain.cons (StepOK.assign .none (.tmp rfl (fun _ => trivial))) rfl ?_
        refine Chain.nil ?_
        refine Ends.then ?_
        refine Cod.seq ?_
        refine Cod.region [] mixed (by kernel_rfl) ?_
        refine Chain.cons (StepOK.move .none (.tmp rfl (fun _ => trivial))) rfl ?_
        refine Chain.cons (StepOK.neI .none (.tmp rfl (fun _ => trivial)) (.int (by decide))) rfl ?_
        refine Chain.nil ?_
        refine Ends.then ?_
        refine Cod.cond (t := 15) rfl trivial (fun hb8 => ?_) (fun hb8 => ?_)
        · replace h := bif_t h hb8
          refine Cod.seq ?_
          refine Cod.region [] mixed (by kernel_rfl) ?_
          refine Chain.cons (StepOK.move .none (.tmp rfl (fun _ => trivial))) rfl ?_
          refine Chain.cons (StepOK.assign .none (.tmp rfl (fun _ => trivial))) rfl ?_
          refine Chain.nil ?_
          refine Ends.then ?_
          refine Cod.ret ?_
          refine Ends.blkRet ?_
          refine Ends.thenRet ?_
          refine Ends.thenRet ?_
          refine Ends.blkRet ?_
          refine Ends.thenRet ?_
          replace h := resd_ab hK4 (some_eq h)
          replace h := hD2 _ (some_eq h)
          replace h := resb_ab hK1 (some_eq h)
          obtain rfl := some_eq h
          exact Ends.ret1 (.inl rfl) Try.results100 (ResOK.tmp rfl trivial Imp.refl)
        · replace h := bif_f h hb8
          refine Cod.skip ?_
          refine Ends.blkNormal ?_
          exact Ends.join _ (some_eq h) (.cons (t := 6) rfl (.cons (t := 7) rfl (.cons (t := 8) rfl Sub.nil))) SubB.nil
      · have h := resd_nx hK4 hj4
        refine Cod.region [] mixed (by kernel_rfl) ?_
        refine Chain.cons (StepOK.addW .none (.tmp rfl (fun _ => trivial)) (.int (by decide))) rfl ?_
        refine Chain.cons (StepOK.move .none (.tmp rfl (fun _ => trivial))) rfl ?_
        refine Chain.nil ?_
        exact Ends.againL (some_eq h) (.cons (t := 8) rfl (.cons (t := 6) rfl (.cons (t := 7) rfl Sub.nil))) SubB.nil
    · replace h := bif_f h hb3
      refine Cod.exit ?_
      refine Ends.thenExit ?_
      refine Ends.thenExit ?_
      refine Ends.blkExit ?_
      replace h := hD2 _ (some_eq h)
      exact Ends.join _ (some_eq h) Sub.nil SubB.nil
  · have h := resb_nx hK1 hj1
    refine Cod.seq ?_
    refine Cod.region [] mixed (by kernel_rfl) ?_
    refine Chain.cons (StepOK.assign .none (.int (by decide))) rfl ?_
    refine Chain.nil ?_
    refine Ends.then ?_
    refine Cod.ret ?_
    obtain rfl := some_eq h
    exact Ends.ret1 (.inl rfl) Try.results100 (ResOK.tmp rfl trivial Imp.refl)

theorem geom_CheckPoints_ok {l1 : (List Point)} {r : Int}  (h : geom_CheckPoints l1 = some r) : FSpec Try.prog 69 [rep l1] (rep r) := by
  unfold geom_CheckPoints at h
  refine FSpec.intro (n := 8) fnok69 Try.func69 rfl Try.ntmps69 rfl (fun F => ?_)
  refine Cod.seq ?_
  refine Cod.region [] mixed (by kernel_rfl) ?_
  refine Chain.cons (StepOK.assign .none (.int (by decide))) rfl ?_
  refine Chain.nil ?_
  refine Ends.then ?_
  refine Cod.seq ?_
  refine Cod.seq ?_
  refine Cod.region [] mixed (by kernel_rfl) ?_
  refine Chain.cons (StepOK.move .none (.tmp rfl (fun _ => trivial))) rfl ?_
  refine Chain.cons (StepOK.len .none sl22 (.tmp rfl (fun _ => trivial))) rfl ?_
  refine Chain.cons (StepOK.gt .none (.tmp rfl (fun _ => trivial)) (.int (by decide))) rfl ?_
  refine Chain.nil ?_
  refine Ends.then ?_
  refine Cod.cond (t := 5) rfl trivial (fun hb1 => ?_) (fun hb1 => ?_)
  · replace h := bif_t h hb1
    refine Cod.seq ?_
    refine Cod.region [] mixed (by kernel_rfl) ?_
    refine Chain.cons (StepOK.assign .none (.int (by decide))) rfl ?_
    refine Chain.nil ?_
    refine Ends.then ?_
    refine Cod.ret ?_
    refine Ends.thenRet ?_
    obtain rfl := some_eq h
    exact Ends.ret1 (.inl rfl) Try.results69 (ResOK.tmp rfl trivial Imp.refl)
  · replace h := bif_f h hb1
    refine Cod.skip ?_
    refine Ends.then ?_
    refine Cod.seq ?_
    refine Cod.region [] mixed (by kernel_rfl) ?_
    refine Chain.cons (StepOK.move .none (.tmp rfl (fun _ => trivial))) rfl ?_
    obtain ⟨r1, hv2, h⟩ := bind_some h
    refine Chain.cons (StepOK.call .none (geom_points_ok hv2) (.cons (.tmp rfl (fun _ => trivial)) .nil)) rfl ?_
    refine Chain.cons (StepOK.assign .none (.tmp rfl (fun _ => trivial))) rfl ?_
    refine Chain.nil ?_
    refine Ends.then ?_
    refine Cod.ret ?_
    obtain rfl := some_eq h
    exact Ends.ret1 (.inl rfl) Try.results69 (ResOK.tmp rfl trivial Imp.refl)

theorem geom_CheckPath_ok {l1 : (List Point)} {r : Int}  (h : geom_CheckPath l1 = some r) : FSpec Try.prog 87 [rep l1] (rep r) := by
  unfold geom_CheckPath at h
  refine FSpec.intro (n := 44) fnok87 Try.func87 rfl Try.ntmps87 rfl (fun F => ?_)
  refine Cod.seq ?_
  refine Cod.region [] mixed (by kernel_rfl) ?_
  refine Chain.cons (StepOK.assign .none (.int (by decide))) rfl ?_
  refine Chain.nil ?_
  refine Ends.then ?_
  refine Cod.seq ?_
  refine Cod.seq ?_
  refine Cod.region [] mixed (by kernel_rfl) ?_
  refine Chain.cons (StepOK.move .none (.tmp rfl (fun _ => trivial))) rfl ?_
  obtain ⟨e1, hv1, h⟩ := bind_some h
  refine Chain.cons (StepOK.call .none (geom_CheckPoints_ok hv1) (.cons (.tmp rfl (fun _ => trivial)) .nil)) rfl ?_
  refine Chain.cons (StepOK.assign .none (.tmp rfl (fun _ => trivial))) rfl ?_
  refine Chain.nil ?_
  refine Ends.then ?_
  refine Cod.seq ?_
  refine Cod.region [] mixed (by kernel_rfl) ?_
  refine Chain.cons (StepOK.move .none (.tmp rfl (fun _ => trivial))) rfl ?_
  refine Chain.cons (StepOK.neI .none (.tmp rfl (fun _ => trivial)) (.int (by decide))) rfl ?_
  refine Chain.nil ?_
  refine Ends.then ?_
  refine Cod.cond (t := 8) rfl trivial (fun hb2 => ?_) (fun hb2 => ?_)
  · replace h := bif_t h hb2
    refine Cod.seq ?_
    refine Cod.region [] mixed (by kernel_rfl) ?_
    refine Chain.cons (StepOK.move .none (.tmp rfl (fun _ => trivial))) rfl ?_
    refine Chain.cons (StepOK.assign .none (.tmp rfl (fun _ => trivial))) rfl ?_
    refine Chain.nil ?_
    refine Ends.then ?_
    refine Cod.ret ?_
    refine Ends.thenRet ?_
    obtain rfl := some_eq h
    exact Ends.ret1 (.inl rfl) Try.results87 (ResOK.tmp rfl trivial Imp.refl)
  · replace h := bif_f h hb2
    refine Cod.skip ?_
    refine Ends.then ?_
    refine Cod.seq ?_
    refine Cod.seq ?_
    refine Cod.region [] mixed (by kernel_rfl) ?_
    refine Chain.cons (StepOK.move .none (.tmp rfl (fun _ => trivial))) rfl ?_
    refine Chain.cons (StepOK.len .none sl22 (.tmp rfl (fun _ => trivial))) rfl ?_
    refine Chain.cons (StepOK.lt .none (.tmp rfl (fun _ => trivial)) (.int (by decide))) rfl ?_
    refine Chain.nil ?_
    refine Ends.then ?_
    refine Cod.cond (t := 12) rfl trivial (fun hb3 => ?_) (fun hb3 => ?_)
    · replace h := bif_t h hb3
      refine Cod.seq ?_
      refine Cod.region [] mixed (by kernel_rfl) ?_
      refine Chain.cons (StepOK.assign .none (.int (by decide))) rfl ?_
      refine Chain.nil ?_
      refine Ends.then ?_
      refine Cod.ret ?_
      refine Ends.thenRet ?_
      obtain rfl := some_eq h
      exact Ends.ret1 (.inl rfl) Try.results87 (ResOK.tmp rfl trivial Imp.refl)
    · replace h := bif_f h hb3
      refine Cod.skip ?_
      refine Ends.then ?_
      refine Cod.seq ?_
      refine Cod.seq ?_
      refine Cod.region [] mixed (by kernel_rfl) ?_
      refine Chain.cons (StepOK.assign .none (.int (by decide))) rfl ?_
      refine Chain.nil ?_
      refine Ends.then ?_
      obtain ⟨o_4, h, hK4⟩ := bindR_some h
      refine Cod.thenJ (ι := Unit) (fun j_4 => []) (fun j_4 => []) (fun s => o_4 = Res.nx s) Sub.nil SubB.nil ?_ (fun j_4 hj4 => ?_)
      · skip
        refine Cod.block ?_
        refine Cod.loopL h (fun s5_ => [(4, ⟨True, rep s5_⟩)]) (fun s5_ => []) (.cons (t := 4) rfl Sub.nil) SubB.nil (.cons (t := 0) rfl Sub.nil) SubB.nil (fun s5_ o_5 h hD5 => ?_)
        unfold geom_CheckPath_L1 at h
        refine Cod.seq ?_
        refine Cod.seq ?_
        refine Cod.region [] mixed (by kernel_rfl) ?_
        refine Chain.cons (StepOK.move .none (.tmp rfl (fun _ => trivial))) rfl ?_
        refine Chain.cons (StepOK.move .none (.tmp rfl (fun _ => trivial))) rfl ?_
        refine Chain.cons (StepOK.len .none sl22 (.tmp rfl (fun _ => trivial))) rfl ?_
        refine Chain.cons (StepOK.lt .none (.tmp rfl (fun _ => trivial)) (.tmp rfl (fun _ => trivial))) rfl ?_
        refine Chain.nil ?_
        refine Ends.then ?_
        refine Cod.cond (t := 16) rfl trivial (fun hb6 => ?_) (fun hb6 => ?_)
        · replace h := bif_t h hb6
          refine Cod.skip ?_
          refine Ends.then ?_
          refine Cod.seq ?_
          refine Cod.block ?_
          refine Cod.seq ?_
          refine Cod.region [] mixed (by kernel_rfl) ?_
          refine Chain.cons (StepOK.move .none (.tmp rfl (fun _ => trivial))) rfl ?_
          refine Chain.cons (StepOK.move .none (.tmp rfl (fun _ => trivial))) rfl ?_
          obtain ⟨hn7, h⟩ := need_some h
          refine Chain.cons (StepOK.indexAddr .none sl22 ty53 (.tmp rfl (fun _ => trivial)) (.tmp rfl (fun _ => trivial)) (fun _ => hn7)) rfl ?_
          refine Chain.cons (StepOK.fieldAddr .none fd53_0 hfd53_0 (.tmp rfl (fun _ => trivial))) rfl ?_
          refine Chain.cons (StepOK.load .none ty3 (.tmp rfl (fun _ => trivial))) rfl ?_
          refine Chain.cons (StepOK.move .none (.tmp rfl (fun _ => trivial))) rfl ?_
          refine Chain.cons (StepOK.move .none (.tmp rfl (fun _ => trivial))) rfl ?_
          refine Chain.cons (StepOK.subW .none (.tmp rfl (fun _ => trivial)) (.int (by decide))) rfl ?_
          obtain ⟨hn8, h⟩ := need_some h
          refine Chain.cons (StepOK.indexAddr .none sl22 ty53 (.tmp rfl (fun _ => trivial)) (.tmp rfl (fun _ => trivial)) (fun _ => hn8)) rfl ?_
          refine Chain.cons (StepOK.fieldAddr .none fd53_0 hfd53_0 (.tmp rfl (fun _ => trivial))) rfl ?_
          refine Chain.cons (StepOK.load .none ty3 (.tmp rfl (fun _ => trivial))) rfl ?_
          refine Chain.cons (StepOK.eqI .none (.tmp rfl (fun _ => trivial)) (.tmp rfl (fun _ => trivial))) rfl ?_
          refine Chain.cons (StepOK.move .none (.tmp rfl (fun _ => trivial))) rfl ?_
          refine Chain.cons (StepOK.move .none (.tmp rfl (fun _ => trivial))) rfl ?_
          obtain ⟨hn9, h⟩ := need_some h
          refine Chain.cons (StepOK.indexAddr .none sl22 ty53 (.tmp rfl (fun _ => trivial)) (.tmp rfl (fun _ => trivial)) (fun _ => hn9)) rfl ?_
          refine Chain.cons (StepOK.fieldAddr .none fd53_1 hfd53_1 (.tmp rfl (fun _ => trivial))) rfl ?_
          refine Chain.cons (StepOK.load .none ty3 (.tmp rfl (fun _ => trivial))) rfl ?_
          refine Chain.cons (StepOK.move .none (.tmp rfl (fun _ => trivial))) rfl ?_
          refine Chain.cons (StepOK.move .none (.tmp rfl (fun _ => trivial))) rfl ?_
          refine Chain.cons (StepOK.subW .none (.tmp rfl (fun _ => trivial)) (.int (by decide))) rfl ?_
          obtain ⟨hn10, h⟩ := need_some h
          refine Chain.cons (StepOK.indexAddr .none sl22 ty53 (.tmp rfl (fun _ => trivial)) (.tmp rfl (fun _ => trivial)) (fun _ => hn10)) rfl ?_
          refine Chain.cons (StepOK.fieldAddr .none fd53_1 hfd53_1 (.tmp rfl (fun _ => trivial))) rfl ?_
          refine Chain.cons (StepOK.load .none ty3 (.tmp rfl (fun _ => trivial))) rfl ?_
          refine Chain.cons (StepOK.eqI .none (.tmp rfl (fun _ => trivial)) (.tmp rfl (fun _ => trivial))) rfl ?_
          refine Chain.cons (StepOK.eqS .none (eqAt_bool Try.underlying4) (.tmp rfl (fun _ => trivial)) (.tmp rfl (fun _ => trivial))) rfl ?_
          refine Chain.nil ?_
          refine Ends.then ?_
          refine Cod.cond (t := 43) rfl trivial (fun hb11 => ?_) (fun hb11 => ?_)
          · replace h := bif_t h hb11
            refine Cod.seq ?_
            refine Cod.region [] mixed (by kernel_rfl) ?_
            refine Chain.cons (StepOK.assign .none (.int (by decide))) rfl ?_
            refine Chain.nil ?_
            refine Ends.then ?_
            refine Cod.ret ?_
            refine Ends.blkRet ?_
            refine Ends.thenRet ?_
            refine Ends.thenRet ?_
            refine Ends.blkRet ?_
            refine Ends.thenRet ?_
            replace h := hD5 _ (some_eq h)
            replace h := resb_ab hK4 (some_eq h)
            obtain rfl := some_eq h
            exact Ends.ret1 (.inl rfl) Try.results87 (ResOK.tmp rfl trivial Imp.refl)
          · replace h := bif_f h hb11
            refine Cod.skip ?_
            refine Ends.blkNormal ?_
            refine Ends.then ?_
            refine Cod.region [] mixed (by kernel_rfl) ?_
            refine Chain.cons (StepOK.move .none (.tmp rfl (fun _ => trivial))) rfl ?_
            refine Chain.cons (StepOK.addW .none (.tmp rfl (fun _ => trivial)) (.int (by decide))) rfl ?_
            obtain ⟨i1, hv12, h⟩ := bnd_some h
            refine Chain.cons (StepOK.re hv12 (StepOK.assign .none (.tmp rfl (fun _ => trivial)))) rfl ?_
            refine Chain.nil ?_
            exact Ends.againL (some_eq h) (.cons (t := 4) rfl (.cons (t := 0) rfl Sub.nil)) SubB.nil
        · replace h := bif_f h hb6
          refine Cod.exit ?_
          refine Ends.thenExit ?_
          refine Ends.thenExit ?_
          refine Ends.blkExit ?_
          replace h := hD5 _ (some_eq h)
          exact Ends.join _ (some_eq h) Sub.nil SubB.nil
      · have h := resb_nx hK4 hj4
        refine Cod.seq ?_
        refine Cod.region [] mixed (by kernel_rfl) ?_
        refine Chain.cons (StepOK.assign .none (.int (by decide))) rfl ?_
        refine Chain.nil ?_
        refine Ends.then ?_
        refine Cod.ret ?_
        obtain rfl := some_eq h
        exact Ends.ret1 (.inl rfl) Try.results87 (ResOK.tmp rfl trivial Imp.refl)

theorem geom_apart_ok {a1 : Point} {b1 : Point} {r : Int}  (h : geom_apart a1 b1 = some r) : FSpec Try.prog 93 [rep a1, rep b1] (rep r) := by
  unfold geom_apart at h
  refine FSpec.intro (n := 26) fnok93 Try.func93 rfl Try.ntmps93 rfl (fun F => ?_)
  refine Cod.seq ?_
  refine Cod.region [] mixed (by kernel_rfl) ?_
  refine Chain.cons (StepOK.box .none (.tmp rfl (fun _ => trivial))) rfl ?_
  refine Chain.cons (StepOK.box .none (.tmp rfl (fun _ => trivial))) rfl ?_
  refine Chain.cons (StepOK.assign .none (.int (by decide))) rfl ?_
  refine Chain.nil ?_
  refine Ends.then ?_
  refine Cod.seq ?_
  refine Cod.region [] mixed (by kernel_rfl) ?_
  refine Chain.cons (StepOK.fieldAddr .none fd53_0 hfd53_0 (.tmp rfl (fun _ => trivial))) rfl ?_
  refine Chain.cons (StepOK.load .none ty3 (.tmp rfl (fun _ => trivial))) rfl ?_
  refine Chain.cons (StepOK.fieldAddr .none fd53_0 hfd53_0 (.tmp rfl (fun _ => trivial))) rfl ?_
  refine Chain.cons (StepOK.load .none ty3 (.tmp rfl (fun _ => trivial))) rfl ?_
  refine Chain.cons (StepOK.subW .none (.tmp rfl (fun _ => trivial)) (.tmp rfl (fun _ => trivial))) rfl ?_
  refine Chain.cons (StepOK.fieldAddr .none fd53_1 hfd53_1 (.tmp rfl (fun _ => trivial))) rfl ?_
  refine Chain.cons (StepOK.load .none ty3 (.tmp rfl (fun _ => trivial))) rfl ?_
  refine Chain.cons (StepOK.fieldAddr .none fd53_1 hfd53_1 (.tmp rfl (fun _ => trivial))) rfl ?_
  refine Chain.cons (StepOK.load .none ty3 (.tmp rfl (fun _ => trivial))) rfl ?_
  refine Chain.cons (StepOK.subW .none (.tmp rfl (fun _ => trivial)) (.tmp rfl (fun _ => trivial))) rfl ?_
  obtain ⟨x1, hv1, h⟩ := bnd_some h
  refine Chain.cons (StepOK.re hv1 (StepOK.assign .none (.tmp rfl (fun _ => trivial)))) rfl ?_
  obtain ⟨y1, hv2, h⟩ := bnd_some h
  refine Chain.cons (StepOK.re hv2 (StepOK.assign .none (.tmp rfl (fun _ => trivial)))) rfl ?_
  refine Chain.nil ?_
  refine Ends.then ?_
  refine Cod.seq ?_
  refine Cod.region [] mixed (by kernel_rfl) ?_
  refine Chain.cons (StepOK.move .none (.tmp rfl (fun _ => trivial))) rfl ?_
  refine Chain.cons (StepOK.move .none (.tmp rfl (fun _ => trivial))) rfl ?_
  refine Chain.cons (StepOK.negW .none (.tmp rfl (fun _ => trivial))) rfl ?_
  refine Chain.cons (StepOK.max2 .none (.tmp rfl (fun _ => trivial)) (.tmp rfl (fun _ => trivial))) rfl ?_
  refine Chain.cons (StepOK.move .none (.tmp rfl (fun _ => trivial))) rfl ?_
  refine Chain.cons (StepOK.move .none (.tmp rfl (fun _ => trivial))) rfl ?_
  refine Chain.cons (StepOK.negW .none (.tmp rfl (fun _ => trivial))) rfl ?_
  refine Chain.cons (StepOK.max2 .none (.tmp rfl (fun _ => trivial)) (.tmp rfl (fun _ => trivial))) rfl ?_
  refine Chain.cons (StepOK.addW .none (.tmp rfl (fun _ => trivial)) (.tmp rfl (fun _ => trivial))) rfl ?_
  refine Chain.cons (StepOK.assign .none (.tmp rfl (fun _ => trivial))) rfl ?_
  refine Chain.nil ?_
  refine Ends.then ?_
  refine Cod.ret ?_
  obtain rfl := some_eq h
  exact Ends.ret1 (.inl rfl) Try.results93 (ResOK.tmp rfl trivial Imp.refl)

theorem geom_length_ok {l1 : (List Point)} {r : Int}  (h : geom_length l1 = some r) : FSpec Try.prog 88 [rep l1] (rep r) := by
  unfold geom_length at h
  refine FSpec.intro (n := 24) fnok88 Try.func88 rfl Try.ntmps88 rfl (fun F => ?_)
  refine Cod.seq ?_
  refine Cod.region [] mixed (by kernel_rfl) ?_
  refine Chain.cons (StepOK.assign .none (.int (by decide))) rfl ?_
  refine Chain.nil ?_
  refine Ends.then ?_
  refine Cod.seq ?_
  refine Cod.region [] mixed (by kernel_rfl) ?_
  refine Chain.cons (StepOK.assign .none (.int (by decide))) rfl ?_
  refine Chain.nil ?_
  refine Ends.then ?_
  refine Cod.seq ?_
  refine Cod.seq ?_
  refine Cod.region [] mixed (by kernel_rfl) ?_
  refine Chain.cons (StepOK.assign .none (.int (by decide))) rfl ?_
  refine Chain.nil ?_
  refine Ends.then ?_
  obtain ⟨j_1, h, hK1⟩ := bind_some h
  refine Cod.thenJ (ι := Int) (fun j_1 => [(3, ⟨True, rep j_1⟩)]) (fun j_1 => []) (fun s => j_1 = s) Sub.nil SubB.nil ?_ (fun j_1' hj1 => ?_)
  · skip
    refine Cod.block ?_
    refine Cod.loopL h (fun s2_ => [(3, ⟨True, rep s2_.1⟩), (4, ⟨True, rep s2_.2⟩)]) (fun s2_ => []) (.cons (t := 3) rfl (.cons (t := 4) rfl Sub.nil)) SubB.nil (.cons (t := 0) rfl Sub.nil) SubB.nil (fun s2_ o_2 h hD2 => ?_)
    unfold geom_length_L1 at h
    refine Cod.seq ?_
    refine Cod.seq ?_
    refine Cod.region [] mixed (by kernel_rfl) ?_
    refine Chain.cons (StepOK.move .none (.tmp rfl (fun _ => trivial))) rfl ?_
    refine Chain.cons (StepOK.move .none (.tmp rfl (fun _ => trivial))) rfl ?_
    refine Chain.cons (StepOK.len .none sl22 (.tmp rfl (fun _ => trivial))) rfl ?_
    refine Chain.cons (StepOK.lt .none (.tmp rfl (fun _ => trivial)) (.tmp rfl (fun _ => trivial))) rfl ?_
    refine Chain.nil ?_
    refine Ends.then ?_
    refine Cod.cond (t := 8) rfl trivial (fun hb3 => ?_) (fun hb3 => ?_)
    · replace h := bif_t h hb3
      refine Cod.skip ?_
      refine Ends.then ?_
      refine Cod.seq ?_
      refine Cod.block ?_
      refine Cod.region [] mixed (by kernel_rfl) ?_
      refine Chain.cons (StepOK.move .none (.tmp rfl (fun _ => trivial))) rfl ?_
      refine Chain.cons (StepOK.move .none (.tmp rfl (fun _ => trivial))) rfl ?_
      refine Chain.cons (StepOK.move .none (.tmp rfl (fun _ => trivial))) rfl ?_
      refine Chain.cons (StepOK.subW .none (.tmp rfl (fun _ => trivial)) (.int (by decide))) rfl ?_
      obtain ⟨hn4, h⟩ := need_some h
      refine Chain.cons (StepOK.indexAddr .none sl22 ty53 (.tmp rfl (fun _ => trivial)) (.tmp rfl (fun _ => trivial)) (fun _ => hn4)) rfl ?_
      refine Chain.cons (StepOK.load .none ty53 (.tmp rfl (fun _ => trivial))) rfl ?_
      refine Chain.cons (StepOK.move .none (.tmp rfl (fun _ => trivial))) rfl ?_
      refine Chain.cons (StepOK.move .none (.tmp rfl (fun _ => trivial))) rfl ?_
      obtain ⟨hn5, h⟩ := need_some h
      refine Chain.cons (StepOK.indexAddr .none sl22 ty53 (.tmp rfl (fun _ => trivial)) (.tmp rfl (fun _ => trivial)) (fun _ => hn5)) rfl ?_
      refine Chain.cons (StepOK.load .none ty53 (.tmp rfl (fun _ => trivial))) rfl ?_
      obtain ⟨r1, hv6, h⟩ := bind_some h
      refine Chain.cons (StepOK.call .none (geom_apart_ok hv6) (.cons (.tmp rfl (fun _ => trivial)) (.cons (.tmp rfl (fun _ => trivial)) .nil))) rfl ?_
      refine Chain.cons (StepOK.addW .none (.tmp rfl (fun _ => trivial)) (.tmp rfl (fun _ => trivial))) rfl ?_
      obtain ⟨n1, hv7, h⟩ := bnd_some h
      refine Chain.cons (StepOK.re hv7 (StepOK.assign .none (.tmp rfl (fun _ => trivial)))) rfl ?_
      refine Chain.nil ?_
      refine Ends.blkNormal ?_
      refine Ends.then ?_
      refine Cod.region [] mixed (by kernel_rfl) ?_
      refine Chain.cons (StepOK.move .none (.tmp rfl (fun _ => trivial))) rfl ?_
      refine Chain.cons (StepOK.addW .none (.tmp rfl (fun _ => trivial)) (.int (by decide))) rfl ?_
      obtain ⟨i1, hv8, h⟩ := bnd_some h
      refine Chain.cons (StepOK.re hv8 (StepOK.assign .none (.tmp rfl (fun _ => trivial)))) rfl ?_
      refine Chain.nil ?_
      exact Ends.againL (some_eq h) (.cons (t := 3) rfl (.cons (t := 4) rfl (.cons (t := 0) rfl Sub.nil))) SubB.nil
    · replace h := bif_f h hb3
      refine Cod.exit ?_
      refine Ends.thenExit ?_
      refine Ends.thenExit ?_
      refine Ends.blkExit ?_
      replace h := hD2 _ (some_eq h)
      exact Ends.join _ (some_eq h) (.cons (t := 3) rfl Sub.nil) SubB.nil
  · subst hj1; have h := hK1; clear hK1
    refine Cod.seq ?_
    refine Cod.region [] mixed (by kernel_rfl) ?_
    refine Chain.cons (StepOK.move .none (.tmp rfl (fun _ => trivial))) rfl ?_
    refine Chain.cons (StepOK.assign .none (.tmp rfl (fun _ => trivial))) rfl ?_
    refine Chain.nil ?_
    refine Ends.then ?_
    refine Cod.ret ?_
    obtain rfl := some_eq h
    exact Ends.ret1 (.inl rfl) Try.results88 (ResOK.tmp rfl trivial Imp.refl)

theorem geom_Length_ok {l1 : (List Point)} {r : (Int × Int)}  (h : geom_Length l1 = some r) : FSpec Try.prog 33 [rep l1] (tup [rep r.1, rep r.2]) := by
  unfold geom_Length at h
  refine FSpec.intro (n := 12) fnok33 Try.func33 rfl Try.ntmps33 rfl (fun F => ?_)
  refine Cod.seq ?_
  refine Cod.region [] mixed (by kernel_rfl) ?_
  refine Chain.cons (StepOK.assign .none (.int (by decide))) rfl ?_
  refine Chain.cons (StepOK.assign .none (.int (by decide))) rfl ?_
  refine Chain.nil ?_
  refine Ends.then ?_
  refine Cod.seq ?_
  refine Cod.seq ?_
  refine Cod.region [] mixed (by kernel_rfl) ?_
  refine Chain.cons (StepOK.move .none (.tmp rfl (fun _ => trivial))) rfl ?_
  obtain ⟨e1, hv1, h⟩ := bind_some h
  refine Chain.cons (StepOK.call .none (geom_CheckPath_ok hv1) (.cons (.tmp rfl (fun _ => trivial)) .nil)) rfl ?_
  refine Chain.cons (StepOK.assign .none (.tmp rfl (fun _ => trivial))) rfl ?_
  refine Chain.nil ?_
  refine Ends.then ?_
  refine Cod.seq ?_
  refine Cod.region [] mixed (by kernel_rfl) ?_
  refine Chain.cons (StepOK.move .none (.tmp rfl (fun _ => trivial))) rfl ?_
  refine Chain.cons (StepOK.neI .none (.tmp rfl (fun _ => trivial)) (.int (by decide))) rfl ?_
  refine Chain.nil ?_
  refine Ends.then ?_
  refine Cod.cond (t := 8) rfl trivial (fun hb2 => ?_) (fun hb2 => ?_)
  · replace h := bif_t h hb2
    refine Cod.seq ?_
    refine Cod.region [] mixed (by kernel_rfl) ?_
    refine Chain.cons (StepOK.move .none (.tmp rfl (fun _ => trivial))) rfl ?_
    refine Chain.cons (StepOK.assign .none (.int (by decide))) rfl ?_
    refine Chain.cons (StepOK.assign .none (.tmp rfl (fun _ => trivial))) rfl ?_
    refine Chain.nil ?_
    refine Ends.then ?_
    refine Cod.ret ?_
    refine Ends.thenRet ?_
    obtain rfl := some_eq h
    exact Ends.ret2 (.inl rfl) Try.results33 (ResOK.tmp rfl trivial Imp.refl) (ResOK.tmp rfl trivial Imp.refl)
  · replace h := bif_f h hb2
    refine Cod.skip ?_
    refine Ends.then ?_
    refine Cod.seq ?_
    refine Cod.region [] mixed (by kernel_rfl) ?_
    refine Chain.cons (StepOK.move .none (.tmp rfl (fun _ => trivial))) rfl ?_
    obtain ⟨r1, hv3, h⟩ := bind_some h
    refine Chain.cons (StepOK.call .none (geom_length_ok hv3) (.cons (.tmp rfl (fun _ => trivial)) .nil)) rfl ?_
    refine Chain.cons (StepOK.assign .none (.tmp rfl (fun _ => trivial))) rfl ?_
    refine Chain.cons (StepOK.assign .none (.int (by decide))) rfl ?_
    refine Chain.nil ?_
    refine Ends.then ?_
    refine Cod.ret ?_
    obtain rfl := some_eq h
    exact Ends.ret2 (.inl rfl) Try.results33 (ResOK.tmp rfl trivial Imp.refl) (ResOK.tmp rfl trivial Imp.refl)

theorem geom_CheckBox_ok {b1 : Box} {r : Int}  (h : geom_CheckBox b1 = some r) : FSpec Try.prog 41 [rep b1] (rep r) := by
  unfold geom_CheckBox at h
  refine FSpec.intro (n := 31) fnok41 Try.func41 rfl Try.ntmps41 rfl (fun F => ?_)
  refine Cod.seq ?_
  refine Cod.region [] mixed (by kernel_rfl) ?_
  refine Chain.cons (StepOK.box .none (.tmp rfl (fun _ => trivial))) rfl ?_
  refine Chain.cons (StepOK.assign .none (.int (by decide))) rfl ?_
  refine Chain.nil ?_
  refine Ends.then ?_
  refine Cod.seq ?_
  refine Cod.seq ?_
  refine Cod.region [] mixed (by kernel_rfl) ?_
  refine Chain.cons (StepOK.fieldAddr .none fd25_0 hfd25_0 (.tmp rfl (fun _ => trivial))) rfl ?_
  refine Chain.cons (StepOK.load .none ty3 (.tmp rfl (fun _ => trivial))) rfl ?_
  obtain ⟨r1, hv1, h⟩ := bind_some h
  refine Chain.cons (StepOK.call .none (geom_out_ok hv1) (.cons (.tmp rfl (fun _ => trivial)) .nil)) rfl ?_
  refine Chain.cons (StepOK.move .none (.tmp rfl (fun _ => trivial))) rfl ?_
  refine Chain.cons (StepOK.fieldAddr (.at rfl rfl) fd25_1 hfd25_1 (.tmp rfl (fun _ => trivial))) rfl ?_
  refine Chain.cons (StepOK.load (.at rfl rfl) ty3 (.tmp rfl id)) rfl ?_
  obtain ⟨r2, hv2, h⟩ := bind_some h
  refine Chain.cons (StepOK.callIf (.at rfl rfl) fnok94 (fun hg => geom_out_ok ((fun hg => gd_some hv2 (by simp [hg.2])) hg)) (.cons (.tmp rfl id) .nil) (fun h => h)) rfl ?_
  refine Chain.cons (StepOK.pickOr .none (.tmp rfl (fun _ => trivial)) (.tmp rfl id)) rfl ?_
  refine Chain.cons (StepOK.move .none (.tmp rfl (fun _ => trivial))) rfl ?_
  refine Chain.cons (StepOK.fieldAddr (.at rfl rfl) fd25_2 hfd25_2 (.tmp rfl (fun _ => trivial))) rfl ?_
  refine Chain.cons (StepOK.load (.at rfl rfl) ty3 (.tmp rfl id)) rfl ?_
  refine Chain.cons (StepOK.lt (.at rfl rfl) (.tmp rfl id) (.int (by decide))) rfl ?_
  refine Chain.cons (StepOK.pickOr .none (.tmp rfl (fun _ => trivial)) (.tmp rfl id)) rfl ?_
  refine Chain.cons (StepOK.move .none (.tmp rfl (fun _ => trivial))) rfl ?_
  refine Chain.cons (StepOK.fieldAddr (.at rfl rfl) fd25_2 hfd25_2 (.tmp rfl (fun _ => trivial))) rfl ?_
  refine Chain.cons (StepOK.load (.at rfl rfl) ty3 (.tmp rfl id)) rfl ?_
  refine Chain.cons (StepOK.gt (.at rfl rfl) (.tmp rfl id) (.int (by decide))) rfl ?_
  refine Chain.cons (StepOK.pickOr .none (.tmp rfl (fun _ => trivial)) (.tmp rfl id)) rfl ?_
  refine Chain.cons (StepOK.move .none (.tmp rfl (fun _ => trivial))) rfl ?_
  refine Chain.cons (StepOK.fieldAddr (.at rfl rfl) fd25_3 hfd25_3 (.tmp rfl (fun _ => trivial))) rfl ?_
  refine Chain.cons (StepOK.load (.at rfl rfl) ty3 (.tmp rfl id)) rfl ?_
  refine Chain.cons (StepOK.lt (.at rfl rfl) (.tmp rfl id) (.int (by decide))) rfl ?_
  refine Chain.cons (StepOK.pickOr .none (.tmp rfl (fun _ => trivial)) (.tmp rfl id)) rfl ?_
  refine Chain.cons (StepOK.move .none (.tmp rfl (fun _ => trivial))) rfl ?_
  refine Chain.cons (StepOK.fieldAddr (.at rfl rfl) fd25_3 hfd25_3 (.tmp rfl (fun _ => trivial))) rfl ?_
  refine Chain.cons (StepOK.load (.at rfl rfl) ty3 (.tmp rfl id)) rfl ?_
  refine Chain.cons (StepOK.gt (.at rfl rfl) (.tmp rfl id) (.int (by decide))) rfl ?_
  refine Chain.cons (StepOK.pickOr .none (.tmp rfl (fun _ => trivial)) (.tmp rfl id)) rfl ?_
  refine Chain.nil ?_
  refine Ends.then ?_
  refine Cod.cond (t := 30) rfl trivial (fun hb3 => ?_) (fun hb3 => ?_)
  · replace h := bif_t h hb3
    refine Cod.seq ?_
    refine Cod.region [] mixed (by kernel_rfl) ?_
    refine Chain.cons (StepOK.assign .none (.int (by decide))) rfl ?_
    refine Chain.nil ?_
    refine Ends.then ?_
    refine Cod.ret ?_
    refine Ends.thenRet ?_
    obtain rfl := some_eq h
    exact Ends.ret1 (.inl rfl) Try.results41 (ResOK.tmp rfl trivial Imp.refl)
  · replace h := bif_f h hb3
    refine Cod.skip ?_
    refine Ends.then ?_
    refine Cod.seq ?_
    refine Cod.region [] mixed (by kernel_rfl) ?_
    refine Chain.cons (StepOK.assign .none (.int (by decide))) rfl ?_
    refine Chain.nil ?_
    refine Ends.then ?_
    refine Cod.ret ?_
    obtain rfl := some_eq h
    exact Ends.ret1 (.inl rfl) Try.results41 (ResOK.tmp rfl trivial Imp.refl)

theorem route_Label_1_ok {d1 : Int} {c0_1 : Int} {r : Int}  (h : route_Label_1 d1 c0_1 = some r) : FSpec Try.prog 42 [rep d1, ref c0_1] (rep r) := by
  unfold route_Label_1 at h
  refine FSpec.intro (n := 13) fnok42 Try.func42 rfl Try.ntmps42 rfl (fun F => ?_)
  refine Cod.seq ?_
  refine Cod.region [] mixed (by kernel_rfl) ?_
  refine Chain.cons (StepOK.assign .none (.int (by decide))) rfl ?_
  refine Chain.nil ?_
  refine Ends.then ?_
  refine Cod.seq ?_
  refine Cod.region [] mixed (by kernel_rfl) ?_
  refine Chain.cons (StepOK.move .none (.tmp rfl (fun _ => trivial))) rfl ?_
  refine Chain.cons (StepOK.mulW .none (.int (by decide)) (.tmp rfl (fun _ => trivial))) rfl ?_
  refine Chain.cons (StepOK.load .none ty3 (.tmp rfl (fun _ => trivial))) rfl ?_
  refine Chain.cons (StepOK.subW .none (.tmp rfl (fun _ => trivial)) (.tmp rfl (fun _ => trivial))) rfl ?_
  refine Chain.cons (StepOK.load .none ty3 (.tmp rfl (fun _ => trivial))) rfl ?_
  refine Chain.cons (StepOK.move .none (.tmp rfl (fun _ => trivial))) rfl ?_
  refine Chain.cons (StepOK.mulW .none (.int (by decide)) (.tmp rfl (fun _ => trivial))) rfl ?_
  refine Chain.cons (StepOK.subW .none (.tmp rfl (fun _ => trivial)) (.tmp rfl (fun _ => trivial))) rfl ?_
  refine Chain.cons (StepOK.max2 .none (.tmp rfl (fun _ => trivial)) (.tmp rfl (fun _ => trivial))) rfl ?_
  refine Chain.cons (StepOK.assign .none (.tmp rfl (fun _ => trivial))) rfl ?_
  refine Chain.nil ?_
  refine Ends.then ?_
  refine Cod.ret ?_
  obtain rfl := some_eq h
  exact Ends.ret1 (.inl rfl) Try.results42 (ResOK.tmp rfl trivial Imp.refl)

theorem route_heading_1_ok {n1 : Int} {r : Int}  (h : route_heading_1 n1 = some r) : FSpec Try.prog 95 [rep n1] (rep r) := by
  unfold route_heading_1 at h
  refine FSpec.intro (n := 6) fnok95 Try.func95 rfl Try.ntmps95 rfl (fun F => ?_)
  refine Cod.seq ?_
  refine Cod.region [] mixed (by kernel_rfl) ?_
  refine Chain.cons (StepOK.assign .none (.int (by decide))) rfl ?_
  refine Chain.nil ?_
  refine Ends.then ?_
  refine Cod.seq ?_
  refine Cod.region [] mixed (by kernel_rfl) ?_
  refine Chain.cons (StepOK.move .none (.tmp rfl (fun _ => trivial))) rfl ?_
  refine Chain.cons (StepOK.max2 .none (.tmp rfl (fun _ => trivial)) (.int (by decide))) rfl ?_
  refine Chain.cons (StepOK.min2 .none (.tmp rfl (fun _ => trivial)) (.int (by decide))) rfl ?_
  refine Chain.cons (StepOK.assign .none (.tmp rfl (fun _ => trivial))) rfl ?_
  refine Chain.nil ?_
  refine Ends.then ?_
  refine Cod.ret ?_
  obtain rfl := some_eq h
  exact Ends.ret1 (.inl rfl) Try.results95 (ResOK.tmp rfl trivial Imp.refl)

theorem route_heading_ok {a1 : Point} {b1 : Point} {r : Point}  (h : route_heading a1 b1 = some r) : FSpec Try.prog 43 [rep a1, rep b1] (rep r) := by
  unfold route_heading at h
  refine FSpec.intro (n := 21) fnok43 Try.func43 rfl Try.ntmps43 rfl (fun F => ?_)
  refine Cod.seq ?_
  refine Cod.region [([], []), ([], []), ([], [4])] mixed (by kernel_rfl) ?_
  refine Chain.consA (StepOK.box .none (.tmp rfl (fun _ => trivial))) rfl ?_
  refine Chain.consA (StepOK.box .none (.tmp rfl (fun _ => trivial))) rfl ?_
  refine Chain.consW (StepOK.alloc zo53 rfl) rfl rfl ?_
  refine Chain.nil ?_
  refine Ends.then ?_
  obtain ⟨v1, hv1, h⟩ := bnd_some h
  refine Cod.reB (t := 4) rfl (congrArg (cont 53) hv1) ?_
  refine Cod.nameBox (t := 4) (g := 5001) rfl rfl (fun m5001 => ?_)
  refine Cod.seq ?_
  refine Cod.region [] mixed (by kernel_rfl) ?_
  refine Chain.cons (StepOK.assign .none (Opd.func (ι := Int × Int) (pre := fun i => route_heading_1 i.1 = some i.2) (Ss := fun i => [rep i.1]) (S := fun i => rep i.2) fnok95 (fun i h => route_heading_1_ok h))) rfl ?_
  refine Chain.nil ?_
  refine Ends.then ?_
  refine Cod.seq ?_
  refine Cod.region [([], []), ([], []), ([], []), ([], []), ([], []), ([], []), ([], []), ([], []), ([], []), ([], []), ([], []), ([], []), ([], []), ([], []), ([], []), ([5001], [5001])] mixed (by kernel_rfl) ?_
  refine Chain.consA (StepOK.move .none (.tmp rfl (fun _ => trivial))) rfl ?_
  refine Chain.consA (StepOK.fieldAddr .none fd53_0 hfd53_0 (.tmp rfl (fun _ => trivial))) rfl ?_
  refine Chain.consA (StepOK.load .none ty3 (.tmp rfl (fun _ => trivial))) rfl ?_
  refine Chain.consA (StepOK.fieldAddr .none fd53_0 hfd53_0 (.tmp rfl (fun _ => trivial))) rfl ?_
  refine Chain.consA (StepOK.load .none ty3 (.tmp rfl (fun _ => trivial))) rfl ?_
  refine Chain.consA (StepOK.subW .none (.tmp rfl (fun _ => trivial)) (.tmp rfl (fun _ => trivial))) rfl ?_
  obtain ⟨r1, hv2, h⟩ := bind_some h
  refine Chain.consA (StepOK.callV (_, _) .none (.tmp rfl (fun _ => trivial)) (fun _ => hv2) (.cons (.tmp rfl (fun _ => trivial)) .nil)) rfl ?_
  refine Chain.consA (StepOK.move .none (.tmp rfl (fun _ => trivial))) rfl ?_
  refine Chain.consA (StepOK.fieldAddr .none fd53_1 hfd53_1 (.tmp rfl (fun _ => trivial))) rfl ?_
  refine Chain.consA (StepOK.load .none ty3 (.tmp rfl (fun _ => trivial))) rfl ?_
  refine Chain.consA (StepOK.fieldAddr .none fd53_1 hfd53_1 (.tmp rfl (fun _ => trivial))) rfl ?_
  refine Chain.consA (StepOK.load .none ty3 (.tmp rfl (fun _ => trivial))) rfl ?_
  refine Chain.consA (StepOK.subW .none (.tmp rfl (fun _ => trivial)) (.tmp rfl (fun _ => trivial))) rfl ?_
  obtain ⟨r2, hv3, h⟩ := bind_some h
  refine Chain.consA (StepOK.callV (_, _) .none (.tmp rfl (fun _ => trivial)) (fun _ => hv3) (.cons (.tmp rfl (fun _ => trivial)) .nil)) rfl ?_
  obtain ⟨v2, hv4, h⟩ := bnd_some h
  refine Chain.consA (StepOK.re hv4 (StepOK.buildF (y := (⟨r1, r2⟩ : Point)) .none bu53 zc53 rfl (.cons (.tmp rfl (fun _ => trivial)) (.cons (.tmp rfl (fun _ => trivial)) .nil)) (.cons rfl sf53_0 (.cons rfl sf53_1 .nil)))) rfl ?_
  refine Chain.consN (StepOK.storeAt0 (g := 5001) ty53 rfl (.tmp rfl (fun _ => trivial)) (.tmp rfl (fun _ => trivial))) rfl ?_
  refine Chain.nil ?_
  refine Ends.then ?_
  refine Cod.freezeBox (g := 5001) (ts := [4]) rfl (.cons (t := 4) rfl trivial .nil) SubB.nil rfl ?_
  refine Cod.ret ?_
  obtain rfl := some_eq h
  exact Ends.ret1 (.inl rfl) Try.results43 (ResOK.cellR ty53 rfl trivial Imp.refl)

theorem route_tag_changes_ok {t1 : Route_tag} {a1 : Point} {b1 : Point} {r : (List Int)}  (h : route_tag_changes t1 a1 b1 = some r) : FSpecO Try.prog 44 [rep t1, rep a1, rep b1] [] (anyV) [some (rowV 3 r)] := by
  unfold route_tag_changes at h
  refine FSpecO.intro (n := 106) fnok44 Try.func44 rfl Try.ntmps44 rfl (fun F => ?_)
  refine Cod.seq ?_
  refine Cod.region [] mixed (by kernel_rfl) ?_
  refine Chain.cons (StepOK.box .none (.tmp rfl (fun _ => trivial))) rfl ?_
  refine Chain.cons (StepOK.box .none (.tmp rfl (fun _ => trivial))) rfl ?_
  refine Chain.cons (StepOK.box .none (.tmp rfl (fun _ => trivial))) rfl ?_
  refine Chain.cons (StepOK.assign .none (.const (x := ([] : (List Int))) (fun M w => ⟨_, ⟨none, 0, rfl, Nat.le_refl _, by decide, rfl⟩, rfl⟩))) rfl ?_
  refine Chain.nil ?_
  refine Ends.then ?_
  refine Cod.seq ?_
  refine Cod.region [([], []), ([], []), ([], []), ([], [7]), ([7], [7])] mixed (by kernel_rfl) ?_
  refine Chain.consA (StepOK.load .none ty53 (.tmp rfl (fun _ => trivial))) rfl ?_
  refine Chain.consA (StepOK.load .none ty53 (.tmp rfl (fun _ => trivial))) rfl ?_
  obtain ⟨r1, hv1, h⟩ := bind_some h
  refine Chain.consA (StepOK.call .none (route_heading_ok hv1) (.cons (.tmp rfl (fun _ => trivial)) (.cons (.tmp rfl (fun _ => trivial)) .nil))) rfl ?_
  refine Chain.consW (StepOK.alloc zo53 rfl) rfl rfl ?_
  refine Chain.consN (StepOK.store ty53 rfl rfl (.tmp rfl (fun _ => trivial))) rfl ?_
  refine Chain.nil ?_
  refine Ends.then ?_
  refine Cod.freeze (t := 7) rfl rfl SubB.nil rfl ?_
  refine Cod.seq ?_
  refine Cod.region [] mixed (by kernel_rfl) ?_
  refine Chain.cons (StepOK.fieldAddr .none fd53_0 hfd53_0 (.tmp rfl (fun _ => trivial))) rfl ?_
  refine Chain.cons (StepOK.load .none ty3 (.tmp rfl (fun _ => trivial))) rfl ?_
  refine Chain.cons (StepOK.fieldAddr .none fd74_0 hfd74_0 (.tmp rfl (fun _ => trivial))) rfl ?_
  refine Chain.cons (StepOK.load .none ty3 (.tmp rfl (fun _ => trivial))) rfl ?_
  refine Chain.cons (StepOK.quo .none (.tmp rfl (fun _ => trivial)) (.int (by decide)) (fun _ => by decide)) rfl ?_
  refine Chain.cons (StepOK.fieldAddr .none fd74_0 hfd74_0 (.tmp rfl (fun _ => trivial))) rfl ?_
  refine Chain.cons (StepOK.load .none ty3 (.tmp rfl (fun _ => trivial))) rfl ?_
  refine Chain.cons (StepOK.assign .none (.tmp rfl (fun _ => trivial))) rfl ?_
  obtain ⟨half1, hv2, h⟩ := bnd_some h
  refine Chain.cons (StepOK.re hv2 (StepOK.assign .none (.tmp rfl (fun _ => trivial)))) rfl ?_
  refine Chain.cons (StepOK.assign .none (.tmp rfl (fun _ => trivial))) rfl ?_
  refine Chain.nil ?_
  refine Ends.then ?_
  refine Cod.seq ?_
  refine Cod.seq ?_
  refine Cod.region [] mixed (by kernel_rfl) ?_
  refine Chain.cons (StepOK.fieldAddr .none fd53_0 hfd53_0 (.tmp rfl (fun _ => trivial))) rfl ?_
  refine Chain.cons (StepOK.load .none ty3 (.tmp rfl (fun _ => trivial))) rfl ?_
  refine Chain.cons (StepOK.eqI .none (.tmp rfl (fun _ => trivial)) (.int (by decide))) rfl ?_
  refine Chain.nil ?_
  refine Ends.then ?_
  obtain ⟨j_3, h, hK3⟩ := bind_some h
  refine Cod.thenJ (ι := (Int × Int × Int)) (fun j_3 => [(8, ⟨True, rep j_3.1⟩), (9, ⟨True, rep j_3.2.1⟩), (10, ⟨True, rep j_3.2.2⟩)]) (fun j_3 => []) (fun s => j_3 = s) (.cons (t := 3) rfl (.cons (t := 7) rfl Sub.nil)) SubB.nil ?_ (fun j_3' hj3 => ?_)
  · skip
    refine Cod.cond (t := 32) rfl trivial (fun hb4 => ?_) (fun hb4 => ?_)
    · replace h := bif_t h hb4
      refine Cod.region [] mixed (by kernel_rfl) ?_
      refine Chain.cons (StepOK.fieldAddr .none fd53_1 hfd53_1 (.tmp rfl (fun _ => trivial))) rfl ?_
      refine Chain.cons (StepOK.load .none ty3 (.tmp rfl (fun _ => trivial))) rfl ?_
      refine Chain.cons (StepOK.fieldAddr .none fd74_1 hfd74_1 (.tmp rfl (fun _ => trivial))) rfl ?_
      refine Chain.cons (StepOK.load .none ty3 (.tmp rfl (fun _ => trivial))) rfl ?_
      refine Chain.cons (StepOK.quo .none (.tmp rfl (fun _ => trivial)) (.int (by decide)) (fun _ => by decide)) rfl ?_
      refine Chain.cons (StepOK.fieldAddr .none fd74_1 hfd74_1 (.tmp rfl (fun _ => trivial))) rfl ?_
      refine Chain.cons (StepOK.load .none ty3 (.tmp rfl (fun _ => trivial))) rfl ?_
      refine Chain.cons (StepOK.assign .none (.tmp rfl (fun _ => trivial))) rfl ?_
      obtain ⟨half2, hv5, h⟩ := bnd_some h
      refine Chain.cons (StepOK.re hv5 (StepOK.assign .none (.tmp rfl (fun _ => trivial)))) rfl ?_
      refine Chain.cons (StepOK.assign .none (.tmp rfl (fun _ => trivial))) rfl ?_
      refine Chain.nil ?_
      exact Ends.join _ (some_eq h) (.cons (t := 8) rfl (.cons (t := 9) rfl (.cons (t := 10) rfl (.cons (t := 3) rfl (.cons (t := 7) rfl Sub.nil))))) SubB.nil
    · replace h := bif_f h hb4
      refine Cod.skip ?_
      exact Ends.join _ (some_eq h) (.cons (t := 8) rfl (.cons (t := 9) rfl (.cons (t := 10) rfl (.cons (t := 3) rfl (.cons (t := 7) rfl Sub.nil))))) SubB.nil
  · subst hj3; have h := hK3; clear hK3
    refine Cod.seq ?_
    refine Cod.region [([], []), ([], []), ([], []), ([], []), ([], [44]), ([44], [11, 44])] mixed (by kernel_rfl) ?_
    refine Chain.consA (StepOK.move .none (.tmp rfl (fun _ => trivial))) rfl ?_
    refine Chain.consA (StepOK.addW .none (.int (by decide)) (.tmp rfl (fun _ => trivial))) rfl ?_
    refine Chain.consA (StepOK.move .none (.tmp rfl (fun _ => trivial))) rfl ?_
    refine Chain.consA (StepOK.addW .none (.int (by decide)) (.tmp rfl (fun _ => trivial))) rfl ?_
    refine Chain.consW (StepOK.buildSliceO (xs := [_, _]) rfl sl42 ty3 hz3 (.cons (.tmp rfl (fun _ => trivial)) (.cons (.tmp rfl (fun _ => trivial)) .nil)) rfl (by decide)) rfl rfl ?_
    refine Chain.consW (StepOK.passRow rfl (.tmp rfl)) rfl rfl ?_
    refine Chain.nil ?_
    refine Ends.then ?_
    obtain ⟨places1, hv6, h⟩ := bnd_some h
    refine Cod.reB (t := 11) rfl (congrArg (rowV 3) hv6) ?_
    refine Cod.nameRow (t := 11) (g := 5001) rfl rfl rfl (fun s5001 => ?_)
    refine Cod.seq ?_
    refine Cod.seq ?_
    refine Cod.region [] mixed (by kernel_rfl) ?_
    refine Chain.cons (StepOK.fieldAddr .none fd74_2 hfd74_2 (.tmp rfl (fun _ => trivial))) rfl ?_
    refine Chain.cons (StepOK.load .none ty23 (.tmp rfl (fun _ => trivial))) rfl ?_
    refine Chain.cons (StepOK.len .none sl23 (.tmp rfl (fun _ => trivial))) rfl ?_
    refine Chain.cons (StepOK.move .none (.int (by decide))) rfl ?_
    refine Chain.nil ?_
    refine Ends.then ?_
    obtain ⟨j_7, h, hK7⟩ := bind_some h
    refine Cod.thenJ (ι := (List Int)) (fun j_7 => []) (fun j_7 => [(11, some (rowV 3 j_7))]) (fun s => j_7 = s) (.cons (t := 7) rfl (.cons (t := 8) rfl Sub.nil)) SubB.nil ?_ (fun j_7' hj7 => ?_)
    · skip
      refine Cod.block ?_
      refine Cod.anon (t := 11) (g := 5001) rfl rfl trivial rfl ?_
      refine Cod.rforL h (fun p8_ => [(48, ⟨True, rep p8_.1⟩)]) (fun p8_ => [(11, some (rowV 3 p8_.2))]) (.cons (t := 48) rfl Sub.nil) (.cons (t := 11) rfl SubB.nil) (.cons (t := 7) rfl (.cons (t := 8) rfl (.cons (t := 9) rfl (.cons (t := 10) rfl (.cons (t := 46) rfl (.cons (t := 47) rfl Sub.nil)))))) SubB.nil (fun p8_ o_8 h hD8 => ?_)
      refine Cod.nameRow (t := 11) (g := 5002) rfl rfl rfl (fun s5002 => ?_)
      refine Cod.seq ?_
      refine Cod.region [] mixed (by kernel_rfl) ?_
      refine Chain.cons (StepOK.lt .none (.tmp rfl (fun _ => trivial)) (.tmp rfl (fun _ => trivial))) rfl ?_
      refine Chain.nil ?_
      refine Ends.then ?_
      refine Cod.seq ?_
      refine Cod.cond (t := 49) rfl trivial (fun hb9 => ?_) (fun hb9 => ?_)
      · replace h := bif_t h hb9
        refine Cod.skip ?_
        refine Ends.then ?_
        refine Cod.seq ?_
        obtain ⟨j_10, h, hK10⟩ := bind_some h
        unfold route_tag_changes_L1 at h
        refine Cod.thenJ (ι := (List Int)) (fun j_10 => []) (fun j_10 => [(11, some (rowV 3 j_10))]) (fun s => j_10 = s) (.cons (t := 7) rfl (.cons (t := 8) rfl (.cons (t := 9) rfl (.cons (t := 10) rfl (.cons (t := 46) rfl (.cons (t := 47) rfl (.cons (t := 48) rfl Sub.nil))))))) SubB.nil ?_ (fun j_10' hj10 => ?_)
        · skip
          refine Cod.block ?_
          refine Cod.seq ?_
          refine Cod.region [([], []), ([], []), ([], [13]), ([13], [13])] mixed (by kernel_rfl) ?_
          obtain ⟨hn11, h⟩ := need_some h
          refine Chain.consA (StepOK.indexAddr .none sl23 ty25 (.tmp rfl (fun _ => trivial)) (.tmp rfl (fun _ => trivial)) (fun _ => hn11)) rfl ?_
          obtain ⟨v1, hv12, h⟩ := bnd_some h
          refine Chain.consA (StepOK.re hv12 (StepOK.load .none ty25 (.tmp rfl (fun _ => trivial)))) rfl ?_
          refine Chain.consW (StepOK.alloc zo25 rfl) rfl rfl ?_
          refine Chain.consN (StepOK.store ty25 rfl rfl (.tmp rfl (fun _ => trivial))) rfl ?_
          refine Chain.nil ?_
          refine Ends.then ?_
          refine Cod.freeze (t := 13) rfl rfl (.cons (t := 5002) rfl SubB.nil) rfl ?_
          refine Cod.seq ?_
          refine Cod.region [] mixed (by kernel_rfl) ?_
          refine Chain.cons (StepOK.fieldAddr .none fd25_0 hfd25_0 (.tmp rfl (fun _ => trivial))) rfl ?_
          refine Chain.cons (StepOK.load .none ty3 (.tmp rfl (fun _ => trivial))) rfl ?_
          refine Chain.cons (StepOK.fieldAddr .none fd25_0 hfd25_0 (.tmp rfl (fun _ => trivial))) rfl ?_
          refine Chain.cons (StepOK.load .none ty3 (.tmp rfl (fun _ => trivial))) rfl ?_
          refine Chain.cons (StepOK.fieldAddr .none fd25_2 hfd25_2 (.tmp rfl (fun _ => trivial))) rfl ?_
          refine Chain.cons (StepOK.load .none ty3 (.tmp rfl (fun _ => trivial))) rfl ?_
          refine Chain.cons (StepOK.addW .none (.tmp rfl (fun _ => trivial)) (.tmp rfl (fun _ => trivial))) rfl ?_
          refine Chain.cons (StepOK.assign .none (.tmp rfl (fun _ => trivial))) rfl ?_
          refine Chain.cons (StepOK.assign .none (.tmp rfl (fun _ => trivial))) rfl ?_
          refine Chain.nil ?_
          refine Ends.then ?_
          refine Cod.seq ?_
          refine Cod.seq ?_
          refine Cod.region [] mixed (by kernel_rfl) ?_
          refine Chain.cons (StepOK.fieldAddr .none fd53_0 hfd53_0 (.tmp rfl (fun _ => trivial))) rfl ?_
          refine Chain.cons (StepOK.load .none ty3 (.tmp rfl (fun _ => trivial))) rfl ?_
          refine Chain.cons (StepOK.eqI .none (.tmp rfl (fun _ => trivial)) (.int (by decide))) rfl ?_
          refine Chain.nil ?_
          refine Ends.then ?_
          obtain ⟨j_13, h, hK13⟩ := bind_some h
          refine Cod.thenJ (ι := (Int × Int)) (fun j_13 => [(14, ⟨True, rep j_13.1⟩), (15, ⟨True, rep j_13.2⟩)]) (fun j_13 => []) (fun s => j_13 = s) (.cons (t := 7) rfl (.cons (t := 8) rfl (.cons (t := 9) rfl (.cons (t := 10) rfl (.cons (t := 11) rfl (.cons (t := 46) rfl (.cons (t := 47) rfl (.cons (t := 48) rfl Sub.nil)))))))) (.cons (t := 5002) rfl SubB.nil) ?_ (fun j_13' hj13 => ?_)
          · skip
            refine Cod.cond (t := 61) rfl trivial (fun hb14 => ?_) (fun hb14 => ?_)
            · replace h := bif_t h hb14
              refine Cod.region [] mixed (by kernel_rfl) ?_
              refine Chain.cons (StepOK.fieldAddr .none fd25_1 hfd25_1 (.tmp rfl (fun _ => trivial))) rfl ?_
              refine Chain.cons (StepOK.load .none ty3 (.tmp rfl (fun _ => trivial))) rfl ?_
              refine Chain.cons (StepOK.fieldAddr .none fd25_1 hfd25_1 (.tmp rfl (fun _ => trivial))) rfl ?_
              refine Chain.cons (StepOK.load .none ty3 (.tmp rfl (fun _ => trivial))) rfl ?_
              refine Chain.cons (StepOK.fieldAddr .none fd25_3 hfd25_3 (.tmp rfl (fun _ => trivial))) rfl ?_
              refine Chain.cons (StepOK.load .none ty3 (.tmp rfl (fun _ => trivial))) rfl ?_
              refine Chain.cons (StepOK.addW .none (.tmp rfl (fun _ => trivial)) (.tmp rfl (fun _ => trivial))) rfl ?_
              refine Chain.cons (StepOK.assign .none (.tmp rfl (fun _ => trivial))) rfl ?_
              refine Chain.cons (StepOK.assign .none (.tmp rfl (fun _ => trivial))) rfl ?_
              refine Chain.nil ?_
              exact Ends.join _ (some_eq h) (.cons (t := 14) rfl (.cons (t := 15) rfl (.cons (t := 7) rfl (.cons (t := 8) rfl (.cons (t := 9) rfl (.cons (t := 10) rfl (.cons (t := 11) rfl (.cons (t := 46) rfl (.cons (t := 47) rfl (.cons (t := 48) rfl Sub.nil)))))))))) (.cons (t := 5002) rfl SubB.nil)
            · replace h := bif_f h hb14
              refine Cod.skip ?_
              exact Ends.join _ (some_eq h) (.cons (t := 14) rfl (.cons (t := 15) rfl (.cons (t := 7) rfl (.cons (t := 8) rfl (.cons (t := 9) rfl (.cons (t := 10) rfl (.cons (t := 11) rfl (.cons (t := 46) rfl (.cons (t := 47) rfl (.cons (t := 48) rfl Sub.nil)))))))))) (.cons (t := 5002) rfl SubB.nil)
          · subst hj13; have h := hK13; clear hK13
            refine Cod.region [([], []), ([], []), ([], []), ([], []), ([], []), ([], []), ([], []), ([], []), ([], []), ([], []), ([5002], [79, 5002]), ([79], [11, 79])] mixed (by kernel_rfl) ?_
            refine Chain.consA (StepOK.move .none (.tmp rfl (fun _ => trivial))) rfl ?_
            refine Chain.consA (StepOK.move .none (.tmp rfl (fun _ => trivial))) rfl ?_
            refine Chain.consA (StepOK.move .none (.tmp rfl (fun _ => trivial))) rfl ?_
            refine Chain.consA (StepOK.subW .none (.tmp rfl (fun _ => trivial)) (.tmp rfl (fun _ => trivial))) rfl ?_
            refine Chain.consA (StepOK.move .none (.tmp rfl (fun _ => trivial))) rfl ?_
            refine Chain.consA (StepOK.addW .none (.tmp rfl (fun _ => trivial)) (.tmp rfl (fun _ => trivial))) rfl ?_
            refine Chain.consA (StepOK.move .none (.tmp rfl (fun _ => trivial))) rfl ?_
            refine Chain.consA (StepOK.move .none (.tmp rfl (fun _ => trivial))) rfl ?_
            refine Chain.consA (StepOK.addW .none (.tmp rfl (fun _ => trivial)) (.tmp rfl (fun _ => trivial))) rfl ?_
            refine Chain.consA (StepOK.buildSlice (xs := [_, _]) .none sl42 ty3 hz3 (.cons (.tmp rfl (fun _ => trivial)) (.cons (.tmp rfl (fun _ => trivial)) .nil)) rfl (by decide)) rfl ?_
            obtain ⟨hn15, h⟩ := need_some h
            refine Chain.consW (StepOK.append (k := 5002) rk42 rfl (.told (.tmp rfl (fun _ => trivial)) rfl) (.tmp rfl (fun _ => trivial)) hn15) rfl rfl ?_
            refine Chain.consW (StepOK.passRow rfl (.tmp rfl)) rfl rfl ?_
            refine Chain.nil ?_
            refine Ends.blkNormal ?_
            exact Ends.join _ (some_eq h) (.cons (t := 7) rfl (.cons (t := 8) rfl (.cons (t := 9) rfl (.cons (t := 10) rfl (.cons (t := 46) rfl (.cons (t := 47) rfl (.cons (t := 48) rfl Sub.nil))))))) (.cons (t := 11) rfl SubB.nil)
        · subst hj10; have h := hK10; clear hK10
          refine Cod.nameRow (t := 11) (g := 5003) rfl rfl rfl (fun s5003 => ?_)
          refine Cod.region [] mixed (by kernel_rfl) ?_
          refine Chain.cons (StepOK.addW .none (.tmp rfl (fun _ => trivial)) (.int (by decide))) rfl ?_
          refine Chain.cons (StepOK.move .none (.tmp rfl (fun _ => trivial))) rfl ?_
          refine Chain.nil ?_
          refine Ends.anon (t := 11) (g := 5003) rfl rfl trivial rfl ?_
          exact Ends.againL (some_eq h) (.cons (t := 48) rfl (.cons (t := 7) rfl (.cons (t := 8) rfl (.cons (t := 9) rfl (.cons (t := 10) rfl (.cons (t := 46) rfl (.cons (t := 47) rfl Sub.nil))))))) (.cons (t := 11) rfl SubB.nil)
      · replace h := bif_f h hb9
        refine Cod.exit ?_
        refine Ends.thenExit ?_
        refine Ends.thenExit ?_
        refine Ends.blkExit ?_
        refine Ends.anon (t := 11) (g := 5002) rfl rfl trivial rfl ?_
        replace h := hD8 _ (some_eq h)
        exact Ends.join _ (some_eq h) (.cons (t := 7) rfl (.cons (t := 8) rfl Sub.nil)) (.cons (t := 11) rfl SubB.nil)
    · subst hj7; have h := hK7; clear hK7
      refine Cod.freezeRowA (t := 11) rfl rfl SubB.nil rfl ?_
      refine Cod.seq ?_
      refine Cod.region [([], [16])] mixed (by kernel_rfl) ?_
      refine Chain.consW (StepOK.nilRow (T := 3) (α := Int) rfl) rfl rfl ?_
      refine Chain.nil ?_
      refine Ends.then ?_
      refine Cod.nameRow (t := 16) (g := 5004) rfl rfl rfl (fun s5004 => ?_)
      refine Cod.seq ?_
      refine Cod.seq ?_
      refine Cod.region [] mixed (by kernel_rfl) ?_
      refine Chain.cons (StepOK.move .none (.tmp rfl (fun _ => trivial))) rfl ?_
      refine Chain.cons (StepOK.len .none sl42 (.tmp rfl (fun _ => trivial))) rfl ?_
      refine Chain.cons (StepOK.move .none (.int (by decide))) rfl ?_
      refine Chain.nil ?_
      refine Ends.then ?_
      obtain ⟨j_16, h, hK16⟩ := bind_some h
      refine Cod.thenJ (ι := (List Int)) (fun j_16 => []) (fun j_16 => [(16, some (rowV 3 j_16))]) (fun s => j_16 = s) Sub.nil SubB.nil ?_ (fun j_16' hj16 => ?_)
      · skip
        refine Cod.block ?_
        refine Cod.anon (t := 16) (g := 5004) rfl rfl trivial rfl ?_
        refine Cod.rforL h (fun p17_ => [(83, ⟨True, rep p17_.1⟩)]) (fun p17_ => [(16, some (rowV 3 p17_.2))]) (.cons (t := 83) rfl Sub.nil) (.cons (t := 16) rfl SubB.nil) (.cons (t := 7) rfl (.cons (t := 8) rfl (.cons (t := 81) rfl (.cons (t := 82) rfl Sub.nil)))) SubB.nil (fun p17_ o_17 h hD17 => ?_)
        refine Cod.nameRow (t := 16) (g := 5005) rfl rfl rfl (fun s5005 => ?_)
        refine Cod.seq ?_
        refine Cod.region [] mixed (by kernel_rfl) ?_
        refine Chain.cons (StepOK.lt .none (.tmp rfl (fun _ => trivial)) (.tmp rfl (fun _ => trivial))) rfl ?_
        refine Chain.nil ?_
        refine Ends.then ?_
        refine Cod.seq ?_
        refine Cod.cond (t := 84) rfl trivial (fun hb18 => ?_) (fun hb18 => ?_)
        · replace h := bif_t h hb18
          refine Cod.skip ?_
          refine Ends.then ?_
          refine Cod.seq ?_
          obtain ⟨j_19, h, hK19⟩ := bind_some h
          unfold route_tag_changes_L2 at h
          refine Cod.thenJ (ι := (List Int)) (fun j_19 => []) (fun j_19 => [(16, some (rowV 3 j_19))]) (fun s => j_19 = s) (.cons (t := 7) rfl (.cons (t := 8) rfl (.cons (t := 81) rfl (.cons (t := 82) rfl (.cons (t := 83) rfl Sub.nil))))) SubB.nil ?_ (fun j_19' hj19 => ?_)
          · skip
            refine Cod.block ?_
            refine Cod.seq ?_
            refine Cod.region [] mixed (by kernel_rfl) ?_
            obtain ⟨hn20, h⟩ := need_some h
            refine Chain.cons (StepOK.indexAddr .none sl42 ty3 (.tmp rfl (fun _ => trivial)) (.tmp rfl (fun _ => trivial)) (fun _ => hn20)) rfl ?_
            refine Chain.cons (StepOK.load .none ty3 (.tmp rfl (fun _ => trivial))) rfl ?_
            refine Chain.cons (StepOK.assign .none (.tmp rfl (fun _ => trivial))) rfl ?_
            refine Chain.nil ?_
            refine Ends.then ?_
            refine Cod.seq ?_
            refine Cod.region [] mixed (by kernel_rfl) ?_
            refine Chain.cons (StepOK.move .none (.tmp rfl (fun _ => trivial))) rfl ?_
            refine Chain.cons (StepOK.move .none (.tmp rfl (fun _ => trivial))) rfl ?_
            refine Chain.cons (StepOK.subW .none (.tmp rfl (fun _ => trivial)) (.tmp rfl (fun _ => trivial))) rfl ?_
            refine Chain.cons (StepOK.fieldAddr .none fd53_0 hfd53_0 (.tmp rfl (fun _ => trivial))) rfl ?_
            refine Chain.cons (StepOK.load .none ty3 (.tmp rfl (fun _ => trivial))) rfl ?_
            refine Chain.cons (StepOK.fieldAddr .none fd53_1 hfd53_1 (.tmp rfl (fun _ => trivial))) rfl ?_
            refine Chain.cons (StepOK.load .none ty3 (.tmp rfl (fun _ => trivial))) rfl ?_
            refine Chain.cons (StepOK.addW .none (.tmp rfl (fun _ => trivial)) (.tmp rfl (fun _ => trivial))) rfl ?_
            refine Chain.cons (StepOK.mulW .none (.tmp rfl (fun _ => trivial)) (.tmp rfl (fun _ => trivial))) rfl ?_
            obtain ⟨n1, hv21, h⟩ := bnd_some h
            refine Chain.cons (StepOK.re hv21 (StepOK.assign .none (.tmp rfl (fun _ => trivial)))) rfl ?_
            refine Chain.nil ?_
            refine Ends.then ?_
            refine Cod.region [([], []), ([], []), ([], []), ([], []), ([], []), ([], []), ([], []), ([5005], [103, 5005]), ([103], [16, 103])] mixed (by kernel_rfl) ?_
            refine Chain.consA (StepOK.move .none (.tmp rfl (fun _ => trivial))) rfl ?_
            refine Chain.consA (StepOK.move .none (.tmp rfl (fun _ => trivial))) rfl ?_
            refine Chain.consA (StepOK.subW .none (.tmp rfl (fun _ => trivial)) (.int (by decide))) rfl ?_
            refine Chain.consA (StepOK.move .none (.tmp rfl (fun _ => trivial))) rfl ?_
            refine Chain.consA (StepOK.move .none (.tmp rfl (fun _ => trivial))) rfl ?_
            refine Chain.consA (StepOK.addW .none (.tmp rfl (fun _ => trivial)) (.int (by decide))) rfl ?_
            refine Chain.consA (StepOK.buildSlice (xs := [_, _, _]) .none sl42 ty3 hz3 (.cons (.tmp rfl (fun _ => trivial)) (.cons (.tmp rfl (fun _ => trivial)) (.cons (.tmp rfl (fun _ => trivial)) .nil))) rfl (by decide)) rfl ?_
            obtain ⟨hn22, h⟩ := need_some h
            refine Chain.consW (StepOK.append (k := 5005) rk42 rfl (.told (.tmp rfl (fun _ => trivial)) rfl) (.tmp rfl (fun _ => trivial)) hn22) rfl rfl ?_
            refine Chain.consWD (StepOK.passRow rfl (.tmp rfl)) rfl rfl ?_
            refine Chain.nil ?_
            refine Ends.blkNormal ?_
            exact Ends.join _ (some_eq h) (.cons (t := 7) rfl (.cons (t := 8) rfl (.cons (t := 81) rfl (.cons (t := 82) rfl (.cons (t := 83) rfl Sub.nil))))) (.cons (t := 16) rfl SubB.nil)
          · subst hj19; have h := hK19; clear hK19
            refine Cod.nameRow (t := 16) (g := 5006) rfl rfl rfl (fun s5006 => ?_)
            refine Cod.region [] mixed (by kernel_rfl) ?_
            refine Chain.cons (StepOK.addW .none (.tmp rfl (fun _ => trivial)) (.int (by decide))) rfl ?_
            refine Chain.cons (StepOK.move .none (.tmp rfl (fun _ => trivial))) rfl ?_
            refine Chain.nil ?_
            refine Ends.anon (t := 16) (g := 5006) rfl rfl trivial rfl ?_
            exact Ends.againL (some_eq h) (.cons (t := 83) rfl (.cons (t := 7) rfl (.cons (t := 8) rfl (.cons (t := 81) rfl (.cons (t := 82) rfl Sub.nil))))) (.cons (t := 16) rfl SubB.nil)
        · replace h := bif_f h hb18
          refine Cod.exit ?_
          refine Ends.thenExit ?_
          refine Ends.thenExit ?_
          refine Ends.blkExit ?_
          refine Ends.anon (t := 16) (g := 5005) rfl rfl trivial rfl ?_
          replace h := hD17 _ (some_eq h)
          exact Ends.join _ (some_eq h) Sub.nil (.cons (t := 16) rfl SubB.nil)
      · subst hj16; have h := hK16; clear hK16
        refine Cod.nameRow (t := 16) (g := 5007) rfl rfl rfl (fun s5007 => ?_)
        refine Cod.seq ?_
        refine Cod.region [] mixed (by kernel_rfl) ?_
        refine Chain.cons (StepOK.move .none (.tmp rfl (fun _ => trivial))) rfl ?_
        refine Chain.cons (StepOK.assign .none (.tmp rfl (fun _ => trivial))) rfl ?_
        refine Chain.nil ?_
        refine Ends.then ?_
        refine Cod.ret ?_
        refine Ends.anon (t := 6) (g := 5007) rfl rfl trivial rfl ?_
        obtain rfl := some_eq h
        exact Ends.ret1O (.inl rfl) [6] Try.results44 (by decide) (.res rfl rfl) (ResOK.tmp rfl trivial (fun _ _ _ _ => trivial))

theorem route_away_ok {p1 : Point} {d1 : Point} {n1 : Int} {r : Point}  (h : route_away p1 d1 n1 = some r) : FSpec Try.prog 45 [rep p1, rep d1, rep n1] (rep r) := by
  unfold route_away at h
  refine FSpec.intro (n := 22) fnok45 Try.func45 rfl Try.ntmps45 rfl (fun F => ?_)
  refine Cod.seq ?_
  refine Cod.region [([], []), ([], []), ([], [6])] mixed (by kernel_rfl) ?_
  refine Chain.consA (StepOK.box .none (.tmp rfl (fun _ => trivial))) rfl ?_
  refine Chain.consA (StepOK.box .none (.tmp rfl (fun _ => trivial))) rfl ?_
  refine Chain.consW (StepOK.alloc zo53 rfl) rfl rfl ?_
  refine Chain.nil ?_
  refine Ends.then ?_
  obtain ⟨v1, hv1, h⟩ := bnd_some h
  refine Cod.reB (t := 6) rfl (congrArg (cont 53) hv1) ?_
  refine Cod.nameBox (t := 6) (g := 5001) rfl rfl (fun m5001 => ?_)
  refine Cod.seq ?_
  refine Cod.region [([], []), ([], []), ([], []), ([], []), ([], []), ([], []), ([], []), ([], []), ([], []), ([], []), ([], []), ([], []), ([], []), ([], []), ([], []), ([5001], [5001])] mixed (by kernel_rfl) ?_
  refine Chain.consA (StepOK.fieldAddr .none fd53_0 hfd53_0 (.tmp rfl (fun _ => trivial))) rfl ?_
  refine Chain.consA (StepOK.load .none ty3 (.tmp rfl (fun _ => trivial))) rfl ?_
  refine Chain.consA (StepOK.move .none (.tmp rfl (fun _ => trivial))) rfl ?_
  refine Chain.consA (StepOK.fieldAddr .none fd53_0 hfd53_0 (.tmp rfl (fun _ => trivial))) rfl ?_
  refine Chain.consA (StepOK.load .none ty3 (.tmp rfl (fun _ => trivial))) rfl ?_
  refine Chain.consA (StepOK.mulW .none (.tmp rfl (fun _ => trivial)) (.tmp rfl (fun _ => trivial))) rfl ?_
  refine Chain.consA (StepOK.addW .none (.tmp rfl (fun _ => trivial)) (.tmp rfl (fun _ => trivial))) rfl ?_
  refine Chain.consA (StepOK.fieldAddr .none fd53_1 hfd53_1 (.tmp rfl (fun _ => trivial))) rfl ?_
  refine Chain.consA (StepOK.load .none ty3 (.tmp rfl (fun _ => trivial))) rfl ?_
  refine Chain.consA (StepOK.move .none (.tmp rfl (fun _ => trivial))) rfl ?_
  refine Chain.consA (StepOK.fieldAddr .none fd53_1 hfd53_1 (.tmp rfl (fun _ => trivial))) rfl ?_
  refine Chain.consA (StepOK.load .none ty3 (.tmp rfl (fun _ => trivial))) rfl ?_
  refine Chain.consA (StepOK.mulW .none (.tmp rfl (fun _ => trivial)) (.tmp rfl (fun _ => trivial))) rfl ?_
  refine Chain.consA (StepOK.addW .none (.tmp rfl (fun _ => trivial)) (.tmp rfl (fun _ => trivial))) rfl ?_
  obtain ⟨v2, hv2, h⟩ := bnd_some h
  refine Chain.consA (StepOK.re hv2 (StepOK.buildF (y := (⟨W (p1.X + (W (n1 * d1.X))), W (p1.Y + (W (n1 * d1.Y)))⟩ : Point)) .none bu53 zc53 rfl (.cons (.tmp rfl (fun _ => trivial)) (.cons (.tmp rfl (fun _ => trivial)) .nil)) (.cons rfl sf53_0 (.cons rfl sf53_1 .nil)))) rfl ?_
  refine Chain.consN (StepOK.storeAt0 (g := 5001) ty53 rfl (.tmp rfl (fun _ => trivial)) (.tmp rfl (fun _ => trivial))) rfl ?_
  refine Chain.nil ?_
  refine Ends.then ?_
  refine Cod.freezeBox (g := 5001) (ts := [6]) rfl (.cons (t := 6) rfl trivial .nil) SubB.nil rfl ?_
  refine Cod.ret ?_
  obtain rfl := some_eq h
  exact Ends.ret1 (.inl rfl) Try.results45 (ResOK.cellR ty53 rfl trivial Imp.refl)

theorem route_tag_at_ok {t1 : Route_tag} {p1 : Point} {r : Box}  (h : route_tag_at t1 p1 = some r) : FSpec Try.prog 47 [rep t1, rep p1] (rep r) := by
  unfold route_tag_at at h
  refine FSpec.intro (n := 22) fnok47 Try.func47 rfl Try.ntmps47 rfl (fun F => ?_)
  refine Cod.seq ?_
  refine Cod.region [([], []), ([], []), ([], [4])] mixed (by kernel_rfl) ?_
  refine Chain.consA (StepOK.box .none (.tmp rfl (fun _ => trivial))) rfl ?_
  refine Chain.consA (StepOK.box .none (.tmp rfl (fun _ => trivial))) rfl ?_
  refine Chain.consW (StepOK.alloc zo25 rfl) rfl rfl ?_
  refine Chain.nil ?_
  refine Ends.then ?_
  obtain ⟨v1, hv1, h⟩ := bnd_some h
  refine Cod.reB (t := 4) rfl (congrArg (cont 25) hv1) ?_
  refine Cod.nameBox (t := 4) (g := 5001) rfl rfl (fun m5001 => ?_)
  refine Cod.seq ?_
  refine Cod.region [([], []), ([], []), ([], []), ([], []), ([], []), ([], []), ([], []), ([], []), ([], []), ([], []), ([], []), ([], []), ([], []), ([], []), ([], []), ([], []), ([], []), ([5001], [5001])] mixed (by kernel_rfl) ?_
  refine Chain.consA (StepOK.fieldAddr .none fd53_0 hfd53_0 (.tmp rfl (fun _ => trivial))) rfl ?_
  refine Chain.consA (StepOK.load .none ty3 (.tmp rfl (fun _ => trivial))) rfl ?_
  refine Chain.consA (StepOK.fieldAddr .none fd74_0 hfd74_0 (.tmp rfl (fun _ => trivial))) rfl ?_
  refine Chain.consA (StepOK.load .none ty3 (.tmp rfl (fun _ => trivial))) rfl ?_
  refine Chain.consA (StepOK.quo .none (.tmp rfl (fun _ => trivial)) (.int (by decide)) (fun _ => by decide)) rfl ?_
  refine Chain.consA (StepOK.subW .none (.tmp rfl (fun _ => trivial)) (.tmp rfl (fun _ => trivial))) rfl ?_
  refine Chain.consA (StepOK.fieldAddr .none fd53_1 hfd53_1 (.tmp rfl (fun _ => trivial))) rfl ?_
  refine Chain.consA (StepOK.load .none ty3 (.tmp rfl (fun _ => trivial))) rfl ?_
  refine Chain.consA (StepOK.fieldAddr .none fd74_1 hfd74_1 (.tmp rfl (fun _ => trivial))) rfl ?_
  refine Chain.consA (StepOK.load .none ty3 (.tmp rfl (fun _ => trivial))) rfl ?_
  refine Chain.consA (StepOK.quo .none (.tmp rfl (fun _ => trivial)) (.int (by decide)) (fun _ => by decide)) rfl ?_
  refine Chain.consA (StepOK.subW .none (.tmp rfl (fun _ => trivial)) (.tmp rfl (fun _ => trivial))) rfl ?_
  refine Chain.consA (StepOK.fieldAddr .none fd74_0 hfd74_0 (.tmp rfl (fun _ => trivial))) rfl ?_
  refine Chain.consA (StepOK.load .none ty3 (.tmp rfl (fun _ => trivial))) rfl ?_
  refine Chain.consA (StepOK.fieldAddr .none fd74_1 hfd74_1 (.tmp rfl (fun _ => trivial))) rfl ?_
  refine Chain.consA (StepOK.load .none ty3 (.tmp rfl (fun _ => trivial))) rfl ?_
  obtain ⟨v2, hv2, h⟩ := bnd_some h
  refine Chain.consA (StepOK.re hv2 (StepOK.buildF (y := (⟨W (p1.X - (t1.w_.tdiv 2)), W (p1.Y - (t1.h_.tdiv 2)), t1.w_, t1.h_⟩ : Box)) .none bu25 zc25 rfl (.cons (.tmp rfl (fun _ => trivial)) (.cons (.tmp rfl (fun _ => trivial)) (.cons (.tmp rfl (fun _ => trivial)) (.cons (.tmp rfl (fun _ => trivial)) .nil)))) (.cons rfl sf25_0 (.cons rfl sf25_1 (.cons rfl sf25_2 (.cons rfl sf25_3 .nil)))))) rfl ?_
  refine Chain.consN (StepOK.storeAt0 (g := 5001) ty25 rfl (.tmp rfl (fun _ => trivial)) (.tmp rfl (fun _ => trivial))) rfl ?_
  refine Chain.nil ?_
  refine Ends.then ?_
  refine Cod.freezeBox (g := 5001) (ts := [4]) rfl (.cons (t := 4) rfl trivial .nil) SubB.nil rfl ?_
  refine Cod.ret ?_
  obtain rfl := some_eq h
  exact Ends.ret1 (.inl rfl) Try.results47 (ResOK.cellR ty25 rfl trivial Imp.refl)

theorem route_tag_fits_1_ok {w1 : Box} {c0_1 : Box} {r : Bool}  (h : route_tag_fits_1 w1 c0_1 = some r) : FSpec Try.prog 96 [rep w1, ref c0_1] (rep r) := by
  unfold route_tag_fits_1 at h
  refine FSpec.intro (n := 42) fnok96 Try.func96 rfl Try.ntmps96 rfl (fun F => ?_)
  refine Cod.seq ?_
  refine Cod.region [] mixed (by kernel_rfl) ?_
  refine Chain.cons (StepOK.box .none (.tmp rfl (fun _ => trivial))) rfl ?_
  refine Chain.cons (StepOK.assign .none .bool) rfl ?_
  refine Chain.nil ?_
  refine Ends.then ?_
  refine Cod.seq ?_
  refine Cod.region [] mixed (by kernel_rfl) ?_
  refine Chain.cons (StepOK.fieldAddr .none fd25_0 hfd25_0 (.tmp rfl (fun _ => trivial))) rfl ?_
  refine Chain.cons (StepOK.load .none ty3 (.tmp rfl (fun _ => trivial))) rfl ?_
  refine Chain.cons (StepOK.fieldAddr .none fd25_0 hfd25_0 (.tmp rfl (fun _ => trivial))) rfl ?_
  refine Chain.cons (StepOK.load .none ty3 (.tmp rfl (fun _ => trivial))) rfl ?_
  refine Chain.cons (StepOK.fieldAddr .none fd25_2 hfd25_2 (.tmp rfl (fun _ => trivial))) rfl ?_
  refine Chain.cons (StepOK.load .none ty3 (.tmp rfl (fun _ => trivial))) rfl ?_
  refine Chain.cons (StepOK.addW .none (.tmp rfl (fun _ => trivial)) (.tmp rfl (fun _ => trivial))) rfl ?_
  refine Chain.cons (StepOK.lt .none (.tmp rfl (fun _ => trivial)) (.tmp rfl (fun _ => trivial))) rfl ?_
  refine Chain.cons (StepOK.move .none (.tmp rfl (fun _ => trivial))) rfl ?_
  refine Chain.cons (StepOK.fieldAddr (.at rfl rfl) fd25_0 hfd25_0 (.tmp rfl (fun _ => trivial))) rfl ?_
  refine Chain.cons (StepOK.load (.at rfl rfl) ty3 (.tmp rfl id)) rfl ?_
  refine Chain.cons (StepOK.fieldAddr (.at rfl rfl) fd25_0 hfd25_0 (.tmp rfl (fun _ => trivial))) rfl ?_
  refine Chain.cons (StepOK.load (.at rfl rfl) ty3 (.tmp rfl id)) rfl ?_
  refine Chain.cons (StepOK.fieldAddr (.at rfl rfl) fd25_2 hfd25_2 (.tmp rfl (fun _ => trivial))) rfl ?_
  refine Chain.cons (StepOK.load (.at rfl rfl) ty3 (.tmp rfl id)) rfl ?_
  refine Chain.cons (StepOK.addW (.at rfl rfl) (.tmp rfl id) (.tmp rfl id)) rfl ?_
  refine Chain.cons (StepOK.lt (.at rfl rfl) (.tmp rfl id) (.tmp rfl id)) rfl ?_
  refine Chain.cons (StepOK.pickAnd .none (.tmp rfl (fun _ => trivial)) (.tmp rfl id)) rfl ?_
  refine Chain.cons (StepOK.move .none (.tmp rfl (fun _ => trivial))) rfl ?_
  refine Chain.cons (StepOK.fieldAddr (.at rfl rfl) fd25_1 hfd25_1 (.tmp rfl (fun _ => trivial))) rfl ?_
  refine Chain.cons (StepOK.load (.at rfl rfl) ty3 (.tmp rfl id)) rfl ?_
  refine Chain.cons (StepOK.fieldAddr (.at rfl rfl) fd25_1 hfd25_1 (.tmp rfl (fun _ => trivial))) rfl ?_
  refine Chain.cons (StepOK.load (.at rfl rfl) ty3 (.tmp rfl id)) rfl ?_
  refine Chain.cons (StepOK.fieldAddr (.at rfl rfl) fd25_3 hfd25_3 (.tmp rfl (fun _ => trivial))) rfl ?_
  refine Chain.cons (StepOK.load (.at rfl rfl) ty3 (.tmp rfl id)) rfl ?_
  refine Chain.cons (StepOK.addW (.at rfl rfl) (.tmp rfl id) (.tmp rfl id)) rfl ?_
  refine Chain.cons (StepOK.lt (.at rfl rfl) (.tmp rfl id) (.tmp rfl id)) rfl ?_
  refine Chain.cons (StepOK.pickAnd .none (.tmp rfl (fun _ => trivial)) (.tmp rfl id)) rfl ?_
  refine Chain.cons (StepOK.move .none (.tmp rfl (fun _ => trivial))) rfl ?_
  refine Chain.cons (StepOK.fieldAddr (.at rfl rfl) fd25_1 hfd25_1 (.tmp rfl (fun _ => trivial))) rfl ?_
  refine Chain.cons (StepOK.load (.at rfl rfl) ty3 (.tmp rfl id)) rfl ?_
  refine Chain.cons (StepOK.fieldAddr (.at rfl rfl) fd25_1 hfd25_1 (.tmp rfl (fun _ => trivial))) rfl ?_
  refine Chain.cons (StepOK.load (.at rfl rfl) ty3 (.tmp rfl id)) rfl ?_
  refine Chain.cons (StepOK.fieldAddr (.at rfl rfl) fd25_3 hfd25_3 (.tmp rfl (fun _ => trivial))) rfl ?_
  refine Chain.cons (StepOK.load (.at rfl rfl) ty3 (.tmp rfl id)) rfl ?_
  refine Chain.cons (StepOK.addW (.at rfl rfl) (.tmp rfl id) (.tmp rfl id)) rfl ?_
  refine Chain.cons (StepOK.lt (.at rfl rfl) (.tmp rfl id) (.tmp rfl id)) rfl ?_
  refine Chain.cons (StepOK.pickAnd .none (.tmp rfl (fun _ => trivial)) (.tmp rfl id)) rfl ?_
  refine Chain.cons (StepOK.assign .none (.tmp rfl (fun _ => trivial))) rfl ?_
  refine Chain.nil ?_
  refine Ends.then ?_
  refine Cod.ret ?_
  obtain rfl := some_eq h
  exact Ends.ret1 (.inl rfl) Try.results96 (ResOK.tmp rfl trivial Imp.refl)

theorem slices_IndexFunc_Box_ok {s1 : (List Box)} {f1 : Box → Option Bool} {r : Int}  (h : slices_IndexFunc_Box s1 f1 = some r) : FSpec Try.prog 97 [rep s1, fn1 Try.prog (rep (α := Bool)) f1] (rep r) := by
  unfold slices_IndexFunc_Box at h
  refine FSpec.intro (n := 19) fnok97 Try.func97 rfl Try.ntmps97 rfl (fun F => ?_)
  refine Cod.seq ?_
  refine Cod.region [] mixed (by kernel_rfl) ?_
  refine Chain.cons (StepOK.assign .none (.int (by decide))) rfl ?_
  refine Chain.nil ?_
  refine Ends.then ?_
  refine Cod.seq ?_
  refine Cod.seq ?_
  refine Cod.region [] mixed (by kernel_rfl) ?_
  refine Chain.cons (StepOK.move .none (.tmp rfl (fun _ => trivial))) rfl ?_
  refine Chain.cons (StepOK.len .none sl23 (.tmp rfl (fun _ => trivial))) rfl ?_
  refine Chain.cons (StepOK.move .none (.int (by decide))) rfl ?_
  refine Chain.nil ?_
  refine Ends.then ?_
  obtain ⟨o_1, h, hK1⟩ := bindR_some h
  refine Cod.thenJ (ι := Unit) (fun j_1 => []) (fun j_1 => []) (fun s => o_1 = Res.nx s) Sub.nil SubB.nil ?_ (fun j_1 hj1 => ?_)
  · skip
    refine Cod.block ?_
    refine Cod.rforEL h (fun p2_ => [(8, ⟨True, rep p2_.1⟩)]) (fun p2_ => []) (.cons (t := 8) rfl Sub.nil) SubB.nil (.cons (t := 0) rfl (.cons (t := 1) rfl (.cons (t := 7) rfl Sub.nil))) SubB.nil (fun p2_ o_2 h hD2 => ?_)
    refine Cod.seq ?_
    refine Cod.region [] mixed (by kernel_rfl) ?_
    refine Chain.cons (StepOK.lt .none (.tmp rfl (fun _ => trivial)) (.tmp rfl (fun _ => trivial))) rfl ?_
    refine Chain.nil ?_
    refine Ends.then ?_
    refine Cod.seq ?_
    refine Cod.cond (t := 9) rfl trivial (fun hb3 => ?_) (fun hb3 => ?_)
    · replace h := bif_t h hb3
      refine Cod.skip ?_
      refine Ends.then ?_
      refine Cod.seq ?_
      obtain ⟨o_4, h, hK4⟩ := bindD_some h
      unfold slices_IndexFunc_Box_L1 at h
      refine Cod.thenJ (ι := Unit) (fun j_4 => []) (fun j_4 => []) (fun s => o_4 = Res.nx s) (.cons (t := 0) rfl (.cons (t := 1) rfl (.cons (t := 7) rfl (.cons (t := 8) rfl Sub.nil)))) SubB.nil ?_ (fun j_4 hj4 => ?_)
      · skip
        refine Cod.block ?_
        refine Cod.seq ?_
        refine Cod.region [] mixed (by kernel_rfl) ?_
        refine Chain.cons (StepOK.move .none (.tmp rfl (fun _ => trivial))) rfl ?_
        refine Chain.cons (StepOK.assign .none (.tmp rfl (fun _ => trivial))) rfl ?_
        refine Chain.nil ?_
        refine Ends.then ?_
        refine Cod.seq ?_
        refine Cod.region [] mixed (by kernel_rfl) ?_
        refine Chain.cons (StepOK.move .none (.tmp rfl (fun _ => trivial))) rfl ?_
        refine Chain.cons (StepOK.move .none (.tmp rfl (fun _ => trivial))) rfl ?_
        refine Chain.cons (StepOK.move .none (.tmp rfl (fun _ => trivial))) rfl ?_
        obtain ⟨hn5, h⟩ := need_some h
        refine Chain.cons (StepOK.indexAddr .none sl23 ty25 (.tmp rfl (fun _ => trivial)) (.tmp rfl (fun _ => trivial)) (fun _ => hn5)) rfl ?_
        refine Chain.cons (StepOK.load .none ty25 (.tmp rfl (fun _ => trivial))) rfl ?_
        obtain ⟨r1, hv6, h⟩ := bind_some h
        refine Chain.cons (StepOK.callV (_, _) .none (.tmp rfl (fun _ => trivial)) (fun _ => hv6) (.cons (.tmp rfl (fun _ => trivial)) .nil)) rfl ?_
        refine Chain.nil ?_
        refine Ends.then ?_
        refine Cod.cond (t := 16) rfl trivial (fun hb7 => ?_) (fun hb7 => ?_)
        · replace h := bif_t h hb7
          refine Cod.seq ?_
          refine Cod.region [] mixed (by kernel_rfl) ?_
          refine Chain.cons (StepOK.move .none (.tmp rfl (fun _ => trivial))) rfl ?_
          refine Chain.cons (StepOK.assign .none (.tmp rfl (fun _ => trivial))) rfl ?_
          refine Chain.nil ?_
          refine Ends.then ?_
          refine Cod.ret ?_
          refine Ends.blkRet ?_
          refine Ends.thenRet ?_
          refine Ends.thenRet ?_
          refine Ends.blkRet ?_
          refine Ends.thenRet ?_
          replace h := resd_ab hK4 (some_eq h)
          replace h := hD2 _ (some_eq h)
          replace h := resb_ab hK1 (some_eq h)
          obtain rfl := some_eq h
          exact Ends.ret1 (.inl rfl) Try.results97 (ResOK.tmp rfl trivial Imp.refl)
        · replace h := bif_f h hb7
          refine Cod.skip ?_
          refine Ends.blkNormal ?_
          exact Ends.join _ (some_eq h) (.cons (t := 0) rfl (.cons (t := 1) rfl (.cons (t := 7) rfl (.cons (t := 8) rfl Sub.nil)))) SubB.nil
      · have h := resd_nx hK4 hj4
        refine Cod.region [] mixed (by kernel_rfl) ?_
        refine Chain.cons (StepOK.addW .none (.tmp rfl (fun _ => trivial)) (.int (by decide))) rfl ?_
        refine Chain.cons (StepOK.move .none (.tmp rfl (fun _ => trivial))) rfl ?_
        refine Chain.nil ?_
        exact Ends.againL (some_eq h) (.cons (t := 8) rfl (.cons (t := 0) rfl (.cons (t := 1) rfl (.cons (t := 7) rfl Sub.nil)))) SubB.nil
    · replace h := bif_f h hb3
      refine Cod.exit ?_
      refine Ends.thenExit ?_
      refine Ends.thenExit ?_
      refine Ends.blkExit ?_
      replace h := hD2 _ (some_eq h)
      exact Ends.join _ (some_eq h) Sub.nil SubB.nil
  · have h := resb_nx hK1 hj1
    refine Cod.seq ?_
    refine Cod.region [] mixed (by kernel_rfl) ?_
    refine Chain.cons (StepOK.assign .none (.int (by decide))) rfl ?_
    refine Chain.nil ?_
    refine Ends.then ?_
    refine Cod.ret ?_
    obtain rfl := some_eq h
    exact Ends.ret1 (.inl rfl) Try.results97 (ResOK.tmp rfl trivial Imp.refl)

theorem slices_ContainsFunc_Box_ok {s1 : (List Box)} {f1 : Box → Option Bool} {r : Bool}  (h : slices_ContainsFunc_Box s1 f1 = some r) : FSpec Try.prog 53 [rep s1, fn1 Try.prog (rep (α := Bool)) f1] (rep r) := by
  unfold slices_ContainsFunc_Box at h
  refine FSpec.intro (n := 9) fnok53 Try.func53 rfl Try.ntmps53 rfl (fun F => ?_)
  refine Cod.seq ?_
  refine Cod.region [] mixed (by kernel_rfl) ?_
  refine Chain.cons (StepOK.assign .none .bool) rfl ?_
  refine Chain.nil ?_
  refine Ends.then ?_
  refine Cod.seq ?_
  refine Cod.region [] mixed (by kernel_rfl) ?_
  refine Chain.cons (StepOK.move .none (.tmp rfl (fun _ => trivial))) rfl ?_
  refine Chain.cons (StepOK.move .none (.tmp rfl (fun _ => trivial))) rfl ?_
  obtain ⟨r1, hv1, h⟩ := bind_some h
  refine Chain.cons (StepOK.call .none (slices_IndexFunc_Box_ok hv1) (.cons (.tmp rfl (fun _ => trivial)) (.cons (.tmp rfl (fun _ => trivial)) .nil))) rfl ?_
  refine Chain.cons (StepOK.ge .none (.tmp rfl (fun _ => trivial)) (.int (by decide))) rfl ?_
  refine Chain.cons (StepOK.assign .none (.tmp rfl (fun _ => trivial))) rfl ?_
  refine Chain.nil ?_
  refine Ends.then ?_
  refine Cod.ret ?_
  obtain rfl := some_eq h
  exact Ends.ret1 (.inl rfl) Try.results53 (ResOK.tmp rfl trivial Imp.refl)

theorem route_tag_fits_ok {t1 : Route_tag} {p1 : Point} {r : Bool}  (h : route_tag_fits t1 p1 = some r) : FSpec Try.prog 46 [rep t1, rep p1] (rep r) := by
  unfold route_tag_fits at h
  refine FSpec.intro (n := 19) fnok46 Try.func46 rfl Try.ntmps46 rfl (fun F => ?_)
  refine Cod.seq ?_
  refine Cod.region [] mixed (by kernel_rfl) ?_
  refine Chain.cons (StepOK.box .none (.tmp rfl (fun _ => trivial))) rfl ?_
  refine Chain.cons (StepOK.box .none (.tmp rfl (fun _ => trivial))) rfl ?_
  refine Chain.cons (StepOK.assign .none .bool) rfl ?_
  refine Chain.nil ?_
  refine Ends.then ?_
  refine Cod.seq ?_
  refine Cod.region [([], []), ([], []), ([], []), ([], [5]), ([5], [5])] mixed (by kernel_rfl) ?_
  refine Chain.consA (StepOK.load .none ty74 (.tmp rfl (fun _ => trivial))) rfl ?_
  refine Chain.consA (StepOK.load .none ty53 (.tmp rfl (fun _ => trivial))) rfl ?_
  obtain ⟨r1, hv1, h⟩ := bind_some h
  refine Chain.consA (StepOK.call .none (route_tag_at_ok hv1) (.cons (.tmp rfl (fun _ => trivial)) (.cons (.tmp rfl (fun _ => trivial)) .nil))) rfl ?_
  refine Chain.consW (StepOK.alloc zo25 rfl) rfl rfl ?_
  refine Chain.consN (StepOK.store ty25 rfl rfl (.tmp rfl (fun _ => trivial))) rfl ?_
  refine Chain.nil ?_
  refine Ends.then ?_
  refine Cod.freeze (t := 5) rfl rfl SubB.nil rfl ?_
  refine Cod.seq ?_
  refine Cod.region [] mixed (by kernel_rfl) ?_
  refine Chain.cons (StepOK.load .none ty25 (.tmp rfl (fun _ => trivial))) rfl ?_
  obtain ⟨r2, hv2, h⟩ := bind_some h
  refine Chain.cons (StepOK.call .none (geom_CheckBox_ok hv2) (.cons (.tmp rfl (fun _ => trivial)) .nil)) rfl ?_
  refine Chain.cons (StepOK.eqI .none (.tmp rfl (fun _ => trivial)) (.int (by decide))) rfl ?_
  refine Chain.cons (StepOK.move .none (.tmp rfl (fun _ => trivial))) rfl ?_
  refine Chain.cons (StepOK.fieldAddr (.at rfl rfl) fd74_2 hfd74_2 (.tmp rfl (fun _ => trivial))) rfl ?_
  refine Chain.cons (StepOK.load (.at rfl rfl) ty23 (.tmp rfl id)) rfl ?_
  refine Chain.cons (StepOK.makeFunc (ι := Box × Bool) (pre := fun i => (fun x0 => route_tag_fits_1 x0 r1) i.1 = some i.2) (Ss := fun i => [rep i.1]) (S := fun i => rep i.2) (.at rfl rfl) fnok96 (fun i h => route_tag_fits_1_ok h) (.cons (.tmp rfl (fun _ => trivial)) .nil)) rfl ?_
  obtain ⟨r3, hv3, h⟩ := bind_some h
  refine Chain.cons (StepOK.callIf (.at rfl rfl) fnok53 (fun hg => slices_ContainsFunc_Box_ok ((fun hg => gd_some hv3 (by simp [hg.2])) hg)) (.cons (.tmp rfl id) (.cons (.tmp rfl id) .nil)) (fun h => h)) rfl ?_
  refine Chain.cons (StepOK.not (.at rfl rfl) (.tmp rfl id)) rfl ?_
  refine Chain.cons (StepOK.pickAnd .none (.tmp rfl (fun _ => trivial)) (.tmp rfl id)) rfl ?_
  refine Chain.cons (StepOK.assign .none (.tmp rfl (fun _ => trivial))) rfl ?_
  refine Chain.nil ?_
  refine Ends.then ?_
  refine Cod.ret ?_
  obtain rfl := some_eq h
  exact Ends.ret1 (.inl rfl) Try.results46 (ResOK.tmp rfl trivial Imp.refl)

theorem route_Label_ok {l1 : (List Point)} {w1 : Int} {h1 : Int} {walls1 : (List Box)} {r : (Box × Int)}  (h : route_Label l1 w1 h1 walls1 = some r) : FSpec Try.prog 9 [rep l1, rep w1, rep h1, rep walls1] (tup [rep r.1, rep r.2]) := by
  unfold route_Label at h
  refine FSpec.intro (n := 181) fnok9 Try.func9 rfl Try.ntmps9 rfl (fun F => ?_)
  refine Cod.seq ?_
  refine Cod.region [([], [8]), ([], [])] mixed (by kernel_rfl) ?_
  refine Chain.consW (StepOK.alloc zo25 rfl) rfl rfl ?_
  refine Chain.consA (StepOK.assign .none (.int (by decide))) rfl ?_
  refine Chain.nil ?_
  refine Ends.then ?_
  obtain ⟨v1, hv1, h⟩ := bnd_some h
  refine Cod.reB (t := 8) rfl (congrArg (cont 25) hv1) ?_
  refine Cod.nameBox (t := 8) (g := 5001) rfl rfl (fun m5001 => ?_)
  refine Cod.seq ?_
  refine Cod.region [([], []), ([], []), ([], []), ([], []), ([], []), ([], [10]), ([10], [10]), ([], [])] mixed (by kernel_rfl) ?_
  refine Chain.consA (StepOK.move .none (.tmp rfl (fun _ => trivial))) rfl ?_
  obtain ⟨r1, hv2, h⟩ := bind_some h
  refine Chain.consA (StepOK.call .none (geom_Length_ok hv2) (.cons (.tmp rfl (fun _ => trivial)) .nil)) rfl ?_
  refine Chain.consA (StepOK.move .none (.tmp rfl (fun _ => trivial))) rfl ?_
  refine Chain.consA (StepOK.extract .none (.tmp rfl (fun _ => trivial)) rfl) rfl ?_
  refine Chain.consA (StepOK.extract .none (.tmp rfl (fun _ => trivial)) rfl) rfl ?_
  refine Chain.consW (StepOK.alloc zo3 rfl) rfl rfl ?_
  refine Chain.consN (StepOK.store ty3 rfl rfl (.tmp rfl (fun _ => trivial))) rfl ?_
  refine Chain.consA (StepOK.assign .none (.tmp rfl (fun _ => trivial))) rfl ?_
  refine Chain.nil ?_
  refine Ends.then ?_
  refine Cod.freeze (t := 10) rfl rfl (.cons (t := 5001) rfl SubB.nil) rfl ?_
  refine Cod.seq ?_
  refine Cod.seq ?_
  refine Cod.region [] mixed (by kernel_rfl) ?_
  refine Chain.cons (StepOK.move .none (.tmp rfl (fun _ => trivial))) rfl ?_
  refine Chain.cons (StepOK.neI .none (.tmp rfl (fun _ => trivial)) (.int (by decide))) rfl ?_
  refine Chain.nil ?_
  refine Ends.then ?_
  refine Cod.cond (t := 37) rfl trivial (fun hb3 => ?_) (fun hb3 => ?_)
  · replace h := bif_t h hb3
    refine Cod.seq ?_
    refine Cod.region [([], []), ([], []), ([5001], [5001]), ([], [])] mixed (by kernel_rfl) ?_
    obtain ⟨v2, hv4, h⟩ := bnd_some h
    refine Chain.consA (StepOK.re hv4 (StepOK.buildF (y := (⟨(0 : Int), (0 : Int), (0 : Int), (0 : Int)⟩ : Box)) .none bu25 zc25 rfl .nil .nil)) rfl ?_
    refine Chain.consA (StepOK.move .none (.tmp rfl (fun _ => trivial))) rfl ?_
    refine Chain.consN (StepOK.storeAt0 (g := 5001) ty25 rfl (.tmp rfl (fun _ => trivial)) (.tmp rfl (fun _ => trivial))) rfl ?_
    refine Chain.consA (StepOK.assign .none (.tmp rfl (fun _ => trivial))) rfl ?_
    refine Chain.nil ?_
    refine Ends.then ?_
    refine Cod.freezeBox (g := 5001) (ts := [8]) rfl (.cons (t := 8) rfl trivial .nil) SubB.nil rfl ?_
    refine Cod.ret ?_
    refine Ends.thenRet ?_
    obtain rfl := some_eq h
    exact Ends.ret2 (.inl rfl) Try.results9 (ResOK.cellR ty25 rfl trivial Imp.refl) (ResOK.tmp rfl trivial Imp.refl)
  · replace h := bif_f h hb3
    refine Cod.skip ?_
    refine Ends.then ?_
    refine Cod.seq ?_
    refine Cod.block ?_
    refine Cod.seq ?_
    refine Cod.region [] mixed (by kernel_rfl) ?_
    refine Chain.cons (StepOK.move .none (.tmp rfl (fun _ => trivial))) rfl ?_
    refine Chain.cons (StepOK.lt .none (.tmp rfl (fun _ => trivial)) (.int (by decide))) rfl ?_
    refine Chain.cons (StepOK.move .none (.tmp rfl (fun _ => trivial))) rfl ?_
    refine Chain.cons (StepOK.move (.at rfl rfl) (.tmp rfl (fun _ => trivial))) rfl ?_
    refine Chain.cons (StepOK.gt (.at rfl rfl) (.tmp rfl id) (.int (by decide))) rfl ?_
    refine Chain.cons (StepOK.pickOr .none (.tmp rfl (fun _ => trivial)) (.tmp rfl id)) rfl ?_
    refine Chain.cons (StepOK.move .none (.tmp rfl (fun _ => trivial))) rfl ?_
    refine Chain.cons (StepOK.move (.at rfl rfl) (.tmp rfl (fun _ => trivial))) rfl ?_
    refine Chain.cons (StepOK.lt (.at rfl rfl) (.tmp rfl id) (.int (by decide))) rfl ?_
    refine Chain.cons (StepOK.pickOr .none (.tmp rfl (fun _ => trivial)) (.tmp rfl id)) rfl ?_
    refine Chain.cons (StepOK.move .none (.tmp rfl (fun _ => trivial))) rfl ?_
    refine Chain.cons (StepOK.move (.at rfl rfl) (.tmp rfl (fun _ => trivial))) rfl ?_
    refine Chain.cons (StepOK.gt (.at rfl rfl) (.tmp rfl id) (.int (by decide))) rfl ?_
    refine Chain.cons (StepOK.pickOr .none (.tmp rfl (fun _ => trivial)) (.tmp rfl id)) rfl ?_
    refine Chain.cons (StepOK.assign .none (.tmp rfl (fun _ => trivial))) rfl ?_
    refine Chain.nil ?_
    refine Ends.then ?_
    refine Cod.cond (t := 40) rfl trivial (fun hb5 => ?_) (fun hb5 => ?_)
    · replace h := bif_t h hb5
      refine Cod.seq ?_
      refine Cod.region [([], []), ([5001], [5001]), ([], [])] mixed (by kernel_rfl) ?_
      obtain ⟨v3, hv6, h⟩ := bnd_some h
      refine Chain.consA (StepOK.re hv6 (StepOK.buildF (y := (⟨(0 : Int), (0 : Int), (0 : Int), (0 : Int)⟩ : Box)) .none bu25 zc25 rfl .nil .nil)) rfl ?_
      refine Chain.consN (StepOK.storeAt0 (g := 5001) ty25 rfl (.tmp rfl (fun _ => trivial)) (.tmp rfl (fun _ => trivial))) rfl ?_
      refine Chain.consA (StepOK.assign .none (.int (by decide))) rfl ?_
      refine Chain.nil ?_
      refine Ends.then ?_
      refine Cod.freezeBox (g := 5001) (ts := [8]) rfl (.cons (t := 8) rfl trivial .nil) SubB.nil rfl ?_
      refine Cod.ret ?_
      refine Ends.blkRet ?_
      refine Ends.thenRet ?_
      obtain rfl := some_eq h
      exact Ends.ret2 (.inl rfl) Try.results9 (ResOK.cellR ty25 rfl trivial Imp.refl) (ResOK.tmp rfl trivial Imp.refl)
    · replace h := bif_f h hb5
      refine Cod.seq ?_
      refine Cod.region [] mixed (by kernel_rfl) ?_
      refine Chain.cons (StepOK.move .none (.tmp rfl (fun _ => trivial))) rfl ?_
      refine Chain.cons (StepOK.len .none sl23 (.tmp rfl (fun _ => trivial))) rfl ?_
      refine Chain.cons (StepOK.gt .none (.tmp rfl (fun _ => trivial)) (.int (by decide))) rfl ?_
      refine Chain.cons (StepOK.assign .none (.tmp rfl (fun _ => trivial))) rfl ?_
      refine Chain.nil ?_
      refine Ends.then ?_
      refine Cod.cond (t := 56) rfl trivial (fun hb7 => ?_) (fun hb7 => ?_)
      · replace h := bif_t h hb7
        refine Cod.seq ?_
        refine Cod.region [([], []), ([5001], [5001]), ([], [])] mixed (by kernel_rfl) ?_
        obtain ⟨v4, hv8, h⟩ := bnd_some h
        refine Chain.consA (StepOK.re hv8 (StepOK.buildF (y := (⟨(0 : Int), (0 : Int), (0 : Int), (0 : Int)⟩ : Box)) .none bu25 zc25 rfl .nil .nil)) rfl ?_
        refine Chain.consN (StepOK.storeAt0 (g := 5001) ty25 rfl (.tmp rfl (fun _ => trivial)) (.tmp rfl (fun _ => trivial))) rfl ?_
        refine Chain.consA (StepOK.assign .none (.int (by decide))) rfl ?_
        refine Chain.nil ?_
        refine Ends.then ?_
        refine Cod.freezeBox (g := 5001) (ts := [8]) rfl (.cons (t := 8) rfl trivial .nil) SubB.nil rfl ?_
        refine Cod.ret ?_
        refine Ends.blkRet ?_
        refine Ends.thenRet ?_
        obtain rfl := some_eq h
        exact Ends.ret2 (.inl rfl) Try.results9 (ResOK.cellR ty25 rfl trivial Imp.refl) (ResOK.tmp rfl trivial Imp.refl)
      · replace h := bif_f h hb7
        refine Cod.skip ?_
        refine Ends.blkNormal ?_
        refine Ends.then ?_
        refine Cod.seq ?_
        refine Cod.seq ?_
        refine Cod.region [] mixed (by kernel_rfl) ?_
        refine Chain.cons (StepOK.move .none (.tmp rfl (fun _ => trivial))) rfl ?_
        refine Chain.cons (StepOK.len .none sl23 (.tmp rfl (fun _ => trivial))) rfl ?_
        refine Chain.cons (StepOK.move .none (.int (by decide))) rfl ?_
        refine Chain.nil ?_
        refine Ends.then ?_
        obtain ⟨o_9, h, hK9⟩ := bindR_some h
        refine Cod.thenJ (ι := Unit) (fun j_9 => []) (fun j_9 => []) (fun s => o_9 = Res.nx s) (.cons (t := 0) rfl (.cons (t := 1) rfl (.cons (t := 2) rfl (.cons (t := 3) rfl (.cons (t := 8) rfl (.cons (t := 10) rfl Sub.nil)))))) (.cons (t := 5001) rfl SubB.nil) ?_ (fun j_9 hj9 => ?_)
        · skip
          refine Cod.block ?_
          refine Cod.rforEL h (fun p10_ => [(63, ⟨True, rep p10_.1⟩)]) (fun p10_ => []) (.cons (t := 63) rfl Sub.nil) SubB.nil (.cons (t := 0) rfl (.cons (t := 1) rfl (.cons (t := 2) rfl (.cons (t := 3) rfl (.cons (t := 8) rfl (.cons (t := 10) rfl (.cons (t := 61) rfl (.cons (t := 62) rfl Sub.nil)))))))) (.cons (t := 5001) rfl SubB.nil) (fun p10_ o_10 h hD10 => ?_)
          refine Cod.seq ?_
          refine Cod.region [] mixed (by kernel_rfl) ?_
          refine Chain.cons (StepOK.lt .none (.tmp rfl (fun _ => trivial)) (.tmp rfl (fun _ => trivial))) rfl ?_
          refine Chain.nil ?_
          refine Ends.then ?_
          refine Cod.seq ?_
          refine Cod.cond (t := 64) rfl trivial (fun hb11 => ?_) (fun hb11 => ?_)
          · replace h := bif_t h hb11
            refine Cod.skip ?_
            refine Ends.then ?_
            refine Cod.seq ?_
            obtain ⟨o_12, h, hK12⟩ := bindD_some h
            unfold route_Label_L1 at h
            refine Cod.thenJ (ι := Unit) (fun j_12 => []) (fun j_12 => []) (fun s => o_12 = Res.nx s) (.cons (t := 0) rfl (.cons (t := 1) rfl (.cons (t := 2) rfl (.cons (t := 3) rfl (.cons (t := 8) rfl (.cons (t := 10) rfl (.cons (t := 61) rfl (.cons (t := 62) rfl (.cons (t := 63) rfl Sub.nil))))))))) (.cons (t := 5001) rfl SubB.nil) ?_ (fun j_12 hj12 => ?_)
            · skip
              refine Cod.block ?_
              refine Cod.seq ?_
              refine Cod.region [([], []), ([], []), ([], [13]), ([13], [13])] mixed (by kernel_rfl) ?_
              obtain ⟨hn13, h⟩ := need_some h
              refine Chain.consA (StepOK.indexAddr .none sl23 ty25 (.tmp rfl (fun _ => trivial)) (.tmp rfl (fun _ => trivial)) (fun _ => hn13)) rfl ?_
              obtain ⟨v5, hv14, h⟩ := bnd_some h
              refine Chain.consA (StepOK.re hv14 (StepOK.load .none ty25 (.tmp rfl (fun _ => trivial)))) rfl ?_
              refine Chain.consW (StepOK.alloc zo25 rfl) rfl rfl ?_
              refine Chain.consN (StepOK.store ty25 rfl rfl (.tmp rfl (fun _ => trivial))) rfl ?_
              refine Chain.nil ?_
              refine Ends.then ?_
              refine Cod.freeze (t := 13) rfl rfl (.cons (t := 5001) rfl SubB.nil) rfl ?_
              refine Cod.seq ?_
              refine Cod.region [] mixed (by kernel_rfl) ?_
              refine Chain.cons (StepOK.load .none ty25 (.tmp rfl (fun _ => trivial))) rfl ?_
              obtain ⟨e1, hv15, h⟩ := bind_some h
              refine Chain.cons (StepOK.call .none (geom_CheckBox_ok hv15) (.cons (.tmp rfl (fun _ => trivial)) .nil)) rfl ?_
              refine Chain.cons (StepOK.assign .none (.tmp rfl (fun _ => trivial))) rfl ?_
              refine Chain.nil ?_
              refine Ends.then ?_
              refine Cod.seq ?_
              refine Cod.region [] mixed (by kernel_rfl) ?_
              refine Chain.cons (StepOK.move .none (.tmp rfl (fun _ => trivial))) rfl ?_
              refine Chain.cons (StepOK.neI .none (.tmp rfl (fun _ => trivial)) (.int (by decide))) rfl ?_
              refine Chain.nil ?_
              refine Ends.then ?_
              refine Cod.cond (t := 70) rfl trivial (fun hb16 => ?_) (fun hb16 => ?_)
              · replace h := bif_t h hb16
                refine Cod.seq ?_
                refine Cod.region [([], []), ([], []), ([5001], [5001]), ([], [])] mixed (by kernel_rfl) ?_
                obtain ⟨v6, hv17, h⟩ := bnd_some h
                refine Chain.consA (StepOK.re hv17 (StepOK.buildF (y := (⟨(0 : Int), (0 : Int), (0 : Int), (0 : Int)⟩ : Box)) .none bu25 zc25 rfl .nil .nil)) rfl ?_
                refine Chain.consA (StepOK.move .none (.tmp rfl (fun _ => trivial))) rfl ?_
                refine Chain.consN (StepOK.storeAt0 (g := 5001) ty25 rfl (.tmp rfl (fun _ => trivial)) (.tmp rfl (fun _ => trivial))) rfl ?_
                refine Chain.consA (StepOK.assign .none (.tmp rfl (fun _ => trivial))) rfl ?_
                refine Chain.nil ?_
                refine Ends.then ?_
                refine Cod.freezeBox (g := 5001) (ts := [8]) rfl (.cons (t := 8) rfl trivial .nil) SubB.nil rfl ?_
                refine Cod.ret ?_
                refine Ends.blkRet ?_
                refine Ends.thenRet ?_
                refine Ends.thenRet ?_
                refine Ends.blkRet ?_
                refine Ends.thenRet ?_
                replace h := resd_ab hK12 (some_eq h)
                replace h := hD10 _ (some_eq h)
                replace h := resb_ab hK9 (some_eq h)
                obtain rfl := some_eq h
                exact Ends.ret2 (.inl rfl) Try.results9 (ResOK.cellR ty25 rfl trivial Imp.refl) (ResOK.tmp rfl trivial Imp.refl)
              · replace h := bif_f h hb16
                refine Cod.skip ?_
                refine Ends.blkNormal ?_
                exact Ends.join _ (some_eq h) (.cons (t := 0) rfl (.cons (t := 1) rfl (.cons (t := 2) rfl (.cons (t := 3) rfl (.cons (t := 8) rfl (.cons (t := 10) rfl (.cons (t := 61) rfl (.cons (t := 62) rfl (.cons (t := 63) rfl Sub.nil))))))))) (.cons (t := 5001) rfl SubB.nil)
            · have h := resd_nx hK12 hj12
              refine Cod.region [] mixed (by kernel_rfl) ?_
              refine Chain.cons (StepOK.addW .none (.tmp rfl (fun _ => trivial)) (.int (by decide))) rfl ?_
              refine Chain.cons (StepOK.move .none (.tmp rfl (fun _ => trivial))) rfl ?_
              refine Chain.nil ?_
              exact Ends.againL (some_eq h) (.cons (t := 63) rfl (.cons (t := 0) rfl (.cons (t := 1) rfl (.cons (t := 2) rfl (.cons (t := 3) rfl (.cons (t := 8) rfl (.cons (t := 10) rfl (.cons (t := 61) rfl (.cons (t := 62) rfl Sub.nil))))))))) (.cons (t := 5001) rfl SubB.nil)
          · replace h := bif_f h hb11
            refine Cod.exit ?_
            refine Ends.thenExit ?_
            refine Ends.thenExit ?_
            refine Ends.blkExit ?_
            replace h := hD10 _ (some_eq h)
            exact Ends.join _ (some_eq h) (.cons (t := 0) rfl (.cons (t := 1) rfl (.cons (t := 2) rfl (.cons (t := 3) rfl (.cons (t := 8) rfl (.cons (t := 10) rfl Sub.nil)))))) (.cons (t := 5001) rfl SubB.nil)
        · have h := resb_nx hK9 hj9
          refine Cod.seq ?_
          refine Cod.region [([], []), ([], []), ([], []), ([], []), ([], [15]), ([15], [15])] mixed (by kernel_rfl) ?_
          refine Chain.consA (StepOK.move .none (.tmp rfl (fun _ => trivial))) rfl ?_
          refine Chain.consA (StepOK.move .none (.tmp rfl (fun _ => trivial))) rfl ?_
          refine Chain.consA (StepOK.move .none (.tmp rfl (fun _ => trivial))) rfl ?_
          obtain ⟨v7, hv18, h⟩ := bnd_some h
          refine Chain.consA (StepOK.re hv18 (StepOK.buildF (y := (⟨w1, h1, walls1⟩ : Route_tag)) .none bu74 zc74 rfl (.cons (.tmp rfl (fun _ => trivial)) (.cons (.tmp rfl (fun _ => trivial)) (.cons (.tmp rfl (fun _ => trivial)) .nil))) (.cons rfl sf74_0 (.cons rfl sf74_1 (.cons rfl sf74_2 .nil))))) rfl ?_
          refine Chain.consW (StepOK.alloc zo74 rfl) rfl rfl ?_
          refine Chain.consN (StepOK.store ty74 rfl rfl (.tmp rfl (fun _ => trivial))) rfl ?_
          refine Chain.nil ?_
          refine Ends.then ?_
          refine Cod.freeze (t := 15) rfl rfl (.cons (t := 5001) rfl SubB.nil) rfl ?_
          refine Cod.seq ?_
          refine Cod.region [] mixed (by kernel_rfl) ?_
          refine Chain.cons (StepOK.makeFunc (ι := Int × Int) (pre := fun i => (fun x0 => route_Label_1 x0 r1.1) i.1 = some i.2) (Ss := fun i => [rep i.1]) (S := fun i => rep i.2) .none fnok42 (fun i h => route_Label_1_ok h) (.cons (.tmp rfl (fun _ => trivial)) .nil)) rfl ?_
          refine Chain.cons (StepOK.assign .none (.tmp rfl (fun _ => trivial))) rfl ?_
          refine Chain.nil ?_
          refine Ends.then ?_
          refine Cod.seq ?_
          refine Cod.region [] mixed (by kernel_rfl) ?_
          refine Chain.cons (StepOK.assign .none (.int (by decide))) rfl ?_
          refine Chain.cons (StepOK.assign .none .bool) rfl ?_
          refine Chain.nil ?_
          refine Ends.then ?_
          refine Cod.seq ?_
          refine Cod.region [([], [19])] mixed (by kernel_rfl) ?_
          refine Chain.consW (StepOK.alloc zo25 rfl) rfl rfl ?_
          refine Chain.nil ?_
          refine Ends.then ?_
          obtain ⟨box1, hv19, h⟩ := bnd_some h
          refine Cod.reB (t := 19) rfl (congrArg (cont 25) hv19) ?_
          refine Cod.nameBox (t := 19) (g := 5002) rfl rfl (fun m5002 => ?_)
          refine Cod.seq ?_
          refine Cod.region [] mixed (by kernel_rfl) ?_
          refine Chain.cons (StepOK.assign .none (.int (by decide))) rfl ?_
          refine Chain.nil ?_
          refine Ends.then ?_
          refine Cod.seq ?_
          refine Cod.seq ?_
          refine Cod.region [] mixed (by kernel_rfl) ?_
          refine Chain.cons (StepOK.assign .none (.int (by decide))) rfl ?_
          refine Chain.nil ?_
          refine Ends.then ?_
          obtain ⟨j_20, h, hK20⟩ := bind_some h
          refine Cod.thenJ (ι := (Bool × Box)) (fun j_20 => [(18, ⟨True, rep j_20.1⟩)]) (fun j_20 => [(5002, some (boxAt m5002 25 j_20.2))]) (fun s => j_20 = s) (.cons (t := 8) rfl (.cons (t := 19) rfl Sub.nil)) (.cons (t := 5001) rfl SubB.nil) ?_ (fun j_20' hj20 => ?_)
          · skip
            refine Cod.block ?_
            refine Cod.loopL h (fun s21_ => [(17, ⟨True, rep s21_.1⟩), (18, ⟨True, rep s21_.2.1⟩), (20, ⟨True, rep s21_.2.2.1⟩), (21, ⟨True, rep s21_.2.2.2.1⟩)]) (fun s21_ => [(5002, some (boxAt m5002 25 s21_.2.2.2.2))]) (.cons (t := 17) rfl (.cons (t := 18) rfl (.cons (t := 20) rfl (.cons (t := 21) rfl Sub.nil)))) (.cons (t := 5002) rfl SubB.nil) (.cons (t := 0) rfl (.cons (t := 8) rfl (.cons (t := 10) rfl (.cons (t := 15) rfl (.cons (t := 16) rfl (.cons (t := 19) rfl Sub.nil)))))) (.cons (t := 5001) rfl SubB.nil) (fun s21_ o_21 h hD21 => ?_)
            unfold route_Label_L2 at h
            refine Cod.seq ?_
            refine Cod.seq ?_
            refine Cod.region [] mixed (by kernel_rfl) ?_
            refine Chain.cons (StepOK.move .none (.tmp rfl (fun _ => trivial))) rfl ?_
            refine Chain.cons (StepOK.move .none (.tmp rfl (fun _ => trivial))) rfl ?_
            refine Chain.cons (StepOK.len .none sl22 (.tmp rfl (fun _ => trivial))) rfl ?_
            refine Chain.cons (StepOK.lt .none (.tmp rfl (fun _ => trivial)) (.tmp rfl (fun _ => trivial))) rfl ?_
            refine Chain.nil ?_
            refine Ends.then ?_
            refine Cod.cond (t := 82) rfl trivial (fun hb22 => ?_) (fun hb22 => ?_)
            · replace h := bif_t h hb22
              refine Cod.skip ?_
              refine Ends.then ?_
              refine Cod.seq ?_
              obtain ⟨j_23, h, hK23⟩ := bind_some h
              refine Cod.thenJ (ι := (Int × Bool × Int × Box)) (fun j_23 => [(17, ⟨True, rep j_23.1⟩), (18, ⟨True, rep j_23.2.1⟩), (20, ⟨True, rep j_23.2.2.1⟩)]) (fun j_23 => [(5002, some (boxAt m5002 25 j_23.2.2.2))]) (fun s => j_23 = s) (.cons (t := 0) rfl (.cons (t := 8) rfl (.cons (t := 10) rfl (.cons (t := 15) rfl (.cons (t := 16) rfl (.cons (t := 19) rfl (.cons (t := 21) rfl Sub.nil))))))) (.cons (t := 5001) rfl SubB.nil) ?_ (fun j_23' hj23 => ?_)
              · skip
                refine Cod.block ?_
                refine Cod.seq ?_
                refine Cod.region [([], []), ([], []), ([], []), ([], []), ([], []), ([], []), ([], []), ([], []), ([], []), ([], [22]), ([], [23]), ([22], [22]), ([23], [23])] mixed (by kernel_rfl) ?_
                refine Chain.consA (StepOK.move .none (.tmp rfl (fun _ => trivial))) rfl ?_
                refine Chain.consA (StepOK.move .none (.tmp rfl (fun _ => trivial))) rfl ?_
                refine Chain.consA (StepOK.subW .none (.tmp rfl (fun _ => trivial)) (.int (by decide))) rfl ?_
                obtain ⟨hn24, h⟩ := need_some h
                refine Chain.consA (StepOK.indexAddr .none sl22 ty53 (.tmp rfl (fun _ => trivial)) (.tmp rfl (fun _ => trivial)) (fun _ => hn24)) rfl ?_
                obtain ⟨v8, hv25, h⟩ := bnd_some h
                refine Chain.consA (StepOK.re hv25 (StepOK.load .none ty53 (.tmp rfl (fun _ => trivial)))) rfl ?_
                refine Chain.consA (StepOK.move .none (.tmp rfl (fun _ => trivial))) rfl ?_
                refine Chain.consA (StepOK.move .none (.tmp rfl (fun _ => trivial))) rfl ?_
                obtain ⟨hn26, h⟩ := need_some h
                refine Chain.consA (StepOK.indexAddr .none sl22 ty53 (.tmp rfl (fun _ => trivial)) (.tmp rfl (fun _ => trivial)) (fun _ => hn26)) rfl ?_
                obtain ⟨v9, hv27, h⟩ := bnd_some h
                refine Chain.consA (StepOK.re hv27 (StepOK.load .none ty53 (.tmp rfl (fun _ => trivial)))) rfl ?_
                refine Chain.consW (StepOK.alloc zo53 rfl) rfl rfl ?_
                refine Chain.consW (StepOK.alloc zo53 rfl) rfl rfl ?_
                refine Chain.consN (StepOK.store ty53 rfl rfl (.tmp rfl (fun _ => trivial))) rfl ?_
                refine Chain.consN (StepOK.store ty53 rfl rfl (.tmp rfl (fun _ => trivial))) rfl ?_
                refine Chain.nil ?_
                refine Ends.then ?_
                refine Cod.freeze (t := 22) rfl rfl (.cons (t := 23) rfl (.cons (t := 5001) rfl (.cons (t := 5002) rfl SubB.nil))) rfl ?_
                refine Cod.freeze (t := 23) rfl rfl (.cons (t := 5001) rfl (.cons (t := 5002) rfl SubB.nil)) rfl ?_
                refine Cod.seq ?_
                refine Cod.region [] mixed (by kernel_rfl) ?_
                refine Chain.cons (StepOK.move .none (.tmp rfl (fun _ => trivial))) rfl ?_
                refine Chain.cons (StepOK.move .none (.tmp rfl (fun _ => trivial))) rfl ?_
                refine Chain.cons (StepOK.subW .none (.tmp rfl (fun _ => trivial)) (.int (by decide))) rfl ?_
                refine Chain.cons (StepOK.move .none (.tmp rfl (fun _ => trivial))) rfl ?_
                refine Chain.cons (StepOK.addW .none (.tmp rfl (fun _ => trivial)) (.int (by decide))) rfl ?_
                obtain ⟨hn28, h⟩ := need_some h
                refine Chain.cons (StepOK.slice .none sl22 ty53 (.tmp rfl (fun _ => trivial)) (.tmp rfl (fun _ => trivial)) (.tmp rfl (fun _ => trivial)) (fun _ => hn28)) rfl ?_
                obtain ⟨r2, hv29, h⟩ := bind_some h
                refine Chain.cons (StepOK.call .none (geom_Length_ok hv29) (.cons (.tmp rfl (fun _ => trivial)) .nil)) rfl ?_
                refine Chain.cons (StepOK.move .none (.tmp rfl (fun _ => trivial))) rfl ?_
                refine Chain.cons (StepOK.extract .none (.tmp rfl (fun _ => trivial)) rfl) rfl ?_
                refine Chain.cons (StepOK.extract .none (.tmp rfl (fun _ => trivial)) rfl) rfl ?_
                refine Chain.cons (StepOK.assign .none (.tmp rfl (fun _ => trivial))) rfl ?_
                refine Chain.cons (StepOK.assign .none (.tmp rfl (fun _ => trivial))) rfl ?_
                refine Chain.nil ?_
                refine Ends.then ?_
                refine Cod.seq ?_
                refine Cod.region [([], []), ([], []), ([], []), ([], [26]), ([26], [26])] mixed (by kernel_rfl) ?_
                refine Chain.consA (StepOK.load .none ty53 (.tmp rfl (fun _ => trivial))) rfl ?_
                refine Chain.consA (StepOK.load .none ty53 (.tmp rfl (fun _ => trivial))) rfl ?_
                obtain ⟨r3, hv30, h⟩ := bind_some h
                refine Chain.consA (StepOK.call .none (route_heading_ok hv30) (.cons (.tmp rfl (fun _ => trivial)) (.cons (.tmp rfl (fun _ => trivial)) .nil))) rfl ?_
                refine Chain.consW (StepOK.alloc zo53 rfl) rfl rfl ?_
                refine Chain.consN (StepOK.store ty53 rfl rfl (.tmp rfl (fun _ => trivial))) rfl ?_
                refine Chain.nil ?_
                refine Ends.then ?_
                refine Cod.freeze (t := 26) rfl rfl (.cons (t := 5001) rfl (.cons (t := 5002) rfl SubB.nil)) rfl ?_
                refine Cod.seq ?_
                refine Cod.seq ?_
                refine Cod.region [([], []), ([], []), ([], []), ([], [110]), ([], []), ([], []), ([], []), ([], []), ([], []), ([], []), ([], []), ([], []), ([], []), ([], []), ([], []), ([110], [122, 110]), ([122], []), ([], [])] mixed (by kernel_rfl) ?_
                refine Chain.consA (StepOK.load .none ty74 (.tmp rfl (fun _ => trivial))) rfl ?_
                refine Chain.consA (StepOK.load .none ty53 (.tmp rfl (fun _ => trivial))) rfl ?_
                refine Chain.consA (StepOK.load .none ty53 (.tmp rfl (fun _ => trivial))) rfl ?_
                obtain ⟨r4, hv31, h⟩ := bind_some h
                refine Chain.consW (StepOK.callO [] (route_tag_changes_ok hv31) (.cons (.tmp rfl (fun _ => trivial)) (.cons (.tmp rfl (fun _ => trivial)) (.cons (.tmp rfl (fun _ => trivial)) .nil))) .nil rfl (by decide) (by decide) (by intro d h; cases h; decide)) rfl rfl ?_
                refine Chain.consA (StepOK.move .none (.tmp rfl (fun _ => trivial))) rfl ?_
                refine Chain.consA (StepOK.load .none ty3 (.tmp rfl (fun _ => trivial))) rfl ?_
                refine Chain.consA (StepOK.quo .none (.tmp rfl (fun _ => trivial)) (.int (by decide)) (fun _ => by decide)) rfl ?_
                refine Chain.consA (StepOK.move .none (.tmp rfl (fun _ => trivial))) rfl ?_
                refine Chain.consA (StepOK.subW .none (.tmp rfl (fun _ => trivial)) (.tmp rfl (fun _ => trivial))) rfl ?_
                refine Chain.consA (StepOK.load .none ty3 (.tmp rfl (fun _ => trivial))) rfl ?_
                refine Chain.consA (StepOK.quo .none (.tmp rfl (fun _ => trivial)) (.int (by decide)) (fun _ => by decide)) rfl ?_
                refine Chain.consA (StepOK.move .none (.tmp rfl (fun _ => trivial))) rfl ?_
                refine Chain.consA (StepOK.subW .none (.tmp rfl (fun _ => trivial)) (.tmp rfl (fun _ => trivial))) rfl ?_
                refine Chain.consA (StepOK.addW .none (.tmp rfl (fun _ => trivial)) (.int (by decide))) rfl ?_
                refine Chain.consA (StepOK.buildSlice (xs := [_, _, _, _]) .none sl42 ty3 hz3 (.cons (.int (by decide)) (.cons (.tmp rfl (fun _ => trivial)) (.cons (.tmp rfl (fun _ => trivial)) (.cons (.tmp rfl (fun _ => trivial)) .nil)))) rfl (by decide)) rfl ?_
                obtain ⟨hn32, h⟩ := need_some h
                refine Chain.consW (StepOK.append (k := 110) rk42 rfl (.tmp rfl) (.tmp rfl (fun _ => trivial)) hn32) rfl rfl ?_
                refine Chain.consA (StepOK.lenO (k := 122) sl42 (.tmp rfl)) rfl ?_
                refine Chain.consA (StepOK.move .none (.int (by decide))) rfl ?_
                refine Chain.nil ?_
                refine Ends.then ?_
                refine Cod.freezeRowA (t := 122) rfl rfl (.cons (t := 5001) rfl (.cons (t := 5002) rfl SubB.nil)) rfl ?_
                obtain ⟨j_33, h, hK33⟩ := bind_some h
                refine Cod.thenJ (ι := (Int × Bool × Box)) (fun j_33 => [(17, ⟨True, rep j_33.1⟩), (18, ⟨True, rep j_33.2.1⟩)]) (fun j_33 => [(5002, some (boxAt m5002 25 j_33.2.2))]) (fun s => j_33 = s) (.cons (t := 0) rfl (.cons (t := 8) rfl (.cons (t := 10) rfl (.cons (t := 15) rfl (.cons (t := 16) rfl (.cons (t := 19) rfl (.cons (t := 20) rfl (.cons (t := 21) rfl (.cons (t := 24) rfl Sub.nil))))))))) (.cons (t := 5001) rfl SubB.nil) ?_ (fun j_33' hj33 => ?_)
                · skip
                  refine Cod.block ?_
                  refine Cod.rforL h (fun p34_ => [(124, ⟨True, rep p34_.1⟩), (17, ⟨True, rep p34_.2.1⟩), (18, ⟨True, rep p34_.2.2.1⟩)]) (fun p34_ => [(5002, some (boxAt m5002 25 p34_.2.2.2))]) (.cons (t := 124) rfl (.cons (t := 17) rfl (.cons (t := 18) rfl Sub.nil))) (.cons (t := 5002) rfl SubB.nil) (.cons (t := 0) rfl (.cons (t := 8) rfl (.cons (t := 10) rfl (.cons (t := 15) rfl (.cons (t := 16) rfl (.cons (t := 19) rfl (.cons (t := 20) rfl (.cons (t := 21) rfl (.cons (t := 22) rfl (.cons (t := 24) rfl (.cons (t := 26) rfl (.cons (t := 122) rfl (.cons (t := 123) rfl Sub.nil))))))))))))) (.cons (t := 5001) rfl SubB.nil) (fun p34_ o_34 h hD34 => ?_)
                  refine Cod.seq ?_
                  refine Cod.region [] mixed (by kernel_rfl) ?_
                  refine Chain.cons (StepOK.lt .none (.tmp rfl (fun _ => trivial)) (.tmp rfl (fun _ => trivial))) rfl ?_
                  refine Chain.nil ?_
                  refine Ends.then ?_
                  refine Cod.seq ?_
                  refine Cod.cond (t := 125) rfl trivial (fun hb35 => ?_) (fun hb35 => ?_)
                  · replace h := bif_t h hb35
                    refine Cod.skip ?_
                    refine Ends.then ?_
                    refine Cod.seq ?_
                    obtain ⟨j_36, h, hK36⟩ := bind_some h
                    unfold route_Label_L3 at h
                    refine Cod.thenJ (ι := (Int × Bool × Box)) (fun j_36 => [(17, ⟨True, rep j_36.1⟩), (18, ⟨True, rep j_36.2.1⟩)]) (fun j_36 => [(5002, some (boxAt m5002 25 j_36.2.2))]) (fun s => j_36 = s) (.cons (t := 0) rfl (.cons (t := 8) rfl (.cons (t := 10) rfl (.cons (t := 15) rfl (.cons (t := 16) rfl (.cons (t := 19) rfl (.cons (t := 20) rfl (.cons (t := 21) rfl (.cons (t := 22) rfl (.cons (t := 24) rfl (.cons (t := 26) rfl (.cons (t := 122) rfl (.cons (t := 123) rfl (.cons (t := 124) rfl Sub.nil)))))))))))))) (.cons (t := 5001) rfl SubB.nil) ?_ (fun j_36' hj36 => ?_)
                    · skip
                      refine Cod.block ?_
                      refine Cod.seq ?_
                      refine Cod.region [] mixed (by kernel_rfl) ?_
                      obtain ⟨hn37, h⟩ := need_some h
                      refine Chain.cons (StepOK.indexAddr .none sl42 ty3 (.tmp rfl (fun _ => trivial)) (.tmp rfl (fun _ => trivial)) (fun _ => hn37)) rfl ?_
                      refine Chain.cons (StepOK.load .none ty3 (.tmp rfl (fun _ => trivial))) rfl ?_
                      obtain ⟨n1, hv38, h⟩ := bnd_some h
                      refine Chain.cons (StepOK.re hv38 (StepOK.assign .none (.tmp rfl (fun _ => trivial)))) rfl ?_
                      refine Chain.nil ?_
                      refine Ends.then ?_
                      refine Cod.seq ?_
                      refine Cod.seq ?_
                      refine Cod.region [] mixed (by kernel_rfl) ?_
                      refine Chain.cons (StepOK.move .none (.tmp rfl (fun _ => trivial))) rfl ?_
                      refine Chain.cons (StepOK.lt .none (.tmp rfl (fun _ => trivial)) (.int (by decide))) rfl ?_
                      refine Chain.cons (StepOK.move .none (.tmp rfl (fun _ => trivial))) rfl ?_
                      refine Chain.cons (StepOK.move (.at rfl rfl) (.tmp rfl (fun _ => trivial))) rfl ?_
                      refine Chain.cons (StepOK.move (.at rfl rfl) (.tmp rfl (fun _ => trivial))) rfl ?_
                      refine Chain.cons (StepOK.gt (.at rfl rfl) (.tmp rfl id) (.tmp rfl id)) rfl ?_
                      refine Chain.cons (StepOK.pickOr .none (.tmp rfl (fun _ => trivial)) (.tmp rfl id)) rfl ?_
                      refine Chain.nil ?_
                      refine Ends.then ?_
                      refine Cod.cond (t := 134) rfl trivial (fun hb39 => ?_) (fun hb39 => ?_)
                      · replace h := bif_t h hb39
                        refine Cod.exit ?_
                        refine Ends.thenExit ?_
                        refine Ends.blkExit ?_
                        exact Ends.join _ (some_eq h) (.cons (t := 17) rfl (.cons (t := 18) rfl (.cons (t := 0) rfl (.cons (t := 8) rfl (.cons (t := 10) rfl (.cons (t := 15) rfl (.cons (t := 16) rfl (.cons (t := 19) rfl (.cons (t := 20) rfl (.cons (t := 21) rfl (.cons (t := 22) rfl (.cons (t := 24) rfl (.cons (t := 26) rfl (.cons (t := 122) rfl (.cons (t := 123) rfl (.cons (t := 124) rfl Sub.nil)))))))))))))))) (.cons (t := 5002) rfl (.cons (t := 5001) rfl SubB.nil))
                      · replace h := bif_f h hb39
                        refine Cod.skip ?_
                        refine Ends.then ?_
                        refine Cod.seq ?_
                        refine Cod.region [] mixed (by kernel_rfl) ?_
                        refine Chain.cons (StepOK.move .none (.tmp rfl (fun _ => trivial))) rfl ?_
                        refine Chain.cons (StepOK.move .none (.tmp rfl (fun _ => trivial))) rfl ?_
                        refine Chain.cons (StepOK.addW .none (.tmp rfl (fun _ => trivial)) (.tmp rfl (fun _ => trivial))) rfl ?_
                        obtain ⟨k1, hv40, h⟩ := bnd_some h
                        refine Chain.cons (StepOK.re hv40 (StepOK.assign .none (.tmp rfl (fun _ => trivial)))) rfl ?_
                        refine Chain.nil ?_
                        refine Ends.then ?_
                        refine Cod.seq ?_
                        refine Cod.seq ?_
                        refine Cod.region [] mixed (by kernel_rfl) ?_
                        refine Chain.cons (StepOK.move .none (.tmp rfl (fun _ => trivial))) rfl ?_
                        refine Chain.cons (StepOK.move .none (.tmp rfl (fun _ => trivial))) rfl ?_
                        refine Chain.cons (StepOK.move (.at rfl rfl) (.tmp rfl (fun _ => trivial))) rfl ?_
                        refine Chain.cons (StepOK.move (.at rfl rfl) (.tmp rfl (fun _ => trivial))) rfl ?_
                        obtain ⟨r5, hv41, h⟩ := bind_some h
                        refine Chain.cons (StepOK.callV (_, _) (.at rfl rfl) (.tmp rfl id) (fun hg => gd_some hv41 (by simp [hg.2])) (.cons (.tmp rfl id) .nil)) rfl ?_
                        refine Chain.cons (StepOK.move (.at rfl rfl) (.tmp rfl (fun _ => trivial))) rfl ?_
                        refine Chain.cons (StepOK.move (.at rfl rfl) (.tmp rfl (fun _ => trivial))) rfl ?_
                        obtain ⟨r6, hv42, h⟩ := bind_some h
                        refine Chain.cons (StepOK.callV (_, _) (.at rfl rfl) (.tmp rfl id) (fun hg => gd_some hv42 (by simp [hg.2])) (.cons (.tmp rfl id) .nil)) rfl ?_
                        refine Chain.cons (StepOK.gt (.at rfl rfl) (.tmp rfl id) (.tmp rfl id)) rfl ?_
                        refine Chain.cons (StepOK.move (.at rfl rfl) (.tmp rfl id)) rfl ?_
                        refine Chain.cons (StepOK.move (.at rfl rfl) (.tmp rfl (fun _ => trivial))) rfl ?_
                        refine Chain.cons (StepOK.move (.at rfl rfl) (.tmp rfl (fun _ => trivial))) rfl ?_
                        obtain ⟨r7, hv43, h⟩ := bind_some h
                        refine Chain.cons (StepOK.callV (_, _) (.at rfl rfl) (.tmp rfl id) (fun hg => gd_some hv43 (by simp [hg.1.2, hg.2])) (.cons (.tmp rfl id) .nil)) rfl ?_
                        refine Chain.cons (StepOK.move (.at rfl rfl) (.tmp rfl (fun _ => trivial))) rfl ?_
                        refine Chain.cons (StepOK.move (.at rfl rfl) (.tmp rfl (fun _ => trivial))) rfl ?_
                        obtain ⟨r8, hv44, h⟩ := bind_some h
                        refine Chain.cons (StepOK.callV (_, _) (.at rfl rfl) (.tmp rfl id) (fun hg => gd_some hv44 (by simp [hg.1.2, hg.2])) (.cons (.tmp rfl id) .nil)) rfl ?_
                        refine Chain.cons (StepOK.eqI (.at rfl rfl) (.tmp rfl id) (.tmp rfl id)) rfl ?_
                        refine Chain.cons (StepOK.move (.at rfl rfl) (.tmp rfl id)) rfl ?_
                        refine Chain.cons (StepOK.move (.at rfl rfl) (.tmp rfl (fun _ => trivial))) rfl ?_
                        refine Chain.cons (StepOK.move (.at rfl rfl) (.tmp rfl (fun _ => trivial))) rfl ?_
                        refine Chain.cons (StepOK.ge (.at rfl rfl) (.tmp rfl id) (.tmp rfl id)) rfl ?_
                        refine Chain.cons (StepOK.pickAnd (.at rfl rfl) (.tmp rfl id) (.tmp rfl id)) rfl ?_
                        refine Chain.cons (StepOK.pickOr (.at rfl rfl) (.tmp rfl id) (.tmp rfl id)) rfl ?_
                        refine Chain.cons (StepOK.pickAnd .none (.tmp rfl (fun _ => trivial)) (.tmp rfl id)) rfl ?_
                        refine Chain.nil ?_
                        refine Ends.then ?_
                        refine Cod.cond (t := 161) rfl trivial (fun hb45 => ?_) (fun hb45 => ?_)
                        · replace h := bif_t h hb45
                          refine Cod.exit ?_
                          refine Ends.thenExit ?_
                          refine Ends.blkExit ?_
                          exact Ends.join _ (some_eq h) (.cons (t := 17) rfl (.cons (t := 18) rfl (.cons (t := 0) rfl (.cons (t := 8) rfl (.cons (t := 10) rfl (.cons (t := 15) rfl (.cons (t := 16) rfl (.cons (t := 19) rfl (.cons (t := 20) rfl (.cons (t := 21) rfl (.cons (t := 22) rfl (.cons (t := 24) rfl (.cons (t := 26) rfl (.cons (t := 122) rfl (.cons (t := 123) rfl (.cons (t := 124) rfl Sub.nil)))))))))))))))) (.cons (t := 5002) rfl (.cons (t := 5001) rfl SubB.nil))
                        · replace h := bif_f h hb45
                          refine Cod.skip ?_
                          refine Ends.then ?_
                          refine Cod.seq ?_
                          refine Cod.region [([], []), ([], []), ([], []), ([], []), ([], [30]), ([30], [30])] mixed (by kernel_rfl) ?_
                          refine Chain.consA (StepOK.load .none ty53 (.tmp rfl (fun _ => trivial))) rfl ?_
                          refine Chain.consA (StepOK.load .none ty53 (.tmp rfl (fun _ => trivial))) rfl ?_
                          refine Chain.consA (StepOK.move .none (.tmp rfl (fun _ => trivial))) rfl ?_
                          obtain ⟨r9, hv46, h⟩ := bind_some h
                          refine Chain.consA (StepOK.call .none (route_away_ok hv46) (.cons (.tmp rfl (fun _ => trivial)) (.cons (.tmp rfl (fun _ => trivial)) (.cons (.tmp rfl (fun _ => trivial)) .nil)))) rfl ?_
                          refine Chain.consW (StepOK.alloc zo53 rfl) rfl rfl ?_
                          refine Chain.consN (StepOK.store ty53 rfl rfl (.tmp rfl (fun _ => trivial))) rfl ?_
                          refine Chain.nil ?_
                          refine Ends.then ?_
                          refine Cod.freeze (t := 30) rfl rfl (.cons (t := 5001) rfl (.cons (t := 5002) rfl SubB.nil)) rfl ?_
                          refine Cod.seq ?_
                          refine Cod.region [] mixed (by kernel_rfl) ?_
                          refine Chain.cons (StepOK.load .none ty74 (.tmp rfl (fun _ => trivial))) rfl ?_
                          refine Chain.cons (StepOK.load .none ty53 (.tmp rfl (fun _ => trivial))) rfl ?_
                          obtain ⟨r10, hv47, h⟩ := bind_some h
                          refine Chain.cons (StepOK.call .none (route_tag_fits_ok hv47) (.cons (.tmp rfl (fun _ => trivial)) (.cons (.tmp rfl (fun _ => trivial)) .nil))) rfl ?_
                          refine Chain.nil ?_
                          refine Ends.then ?_
                          refine Cod.cond (t := 168) rfl trivial (fun hb48 => ?_) (fun hb48 => ?_)
                          · replace h := bif_t h hb48
                            refine Cod.region [([], []), ([], []), ([], []), ([], []), ([], []), ([], []), ([5002], [5002])] mixed (by kernel_rfl) ?_
                            refine Chain.consA (StepOK.move .none (.tmp rfl (fun _ => trivial))) rfl ?_
                            refine Chain.consA (StepOK.load .none ty74 (.tmp rfl (fun _ => trivial))) rfl ?_
                            refine Chain.consA (StepOK.load .none ty53 (.tmp rfl (fun _ => trivial))) rfl ?_
                            obtain ⟨r11, hv49, h⟩ := bind_some h
                            refine Chain.consA (StepOK.call .none (route_tag_at_ok hv49) (.cons (.tmp rfl (fun _ => trivial)) (.cons (.tmp rfl (fun _ => trivial)) .nil))) rfl ?_
                            refine Chain.consA (StepOK.assign .none (.tmp rfl (fun _ => trivial))) rfl ?_
                            refine Chain.consA (StepOK.assign .none .bool) rfl ?_
                            refine Chain.consN (StepOK.storeAt0 (g := 5002) ty25 rfl (.tmp rfl (fun _ => trivial)) (.tmp rfl (fun _ => trivial))) rfl ?_
                            refine Chain.nil ?_
                            refine Ends.blkNormal ?_
                            exact Ends.join _ (some_eq h) (.cons (t := 17) rfl (.cons (t := 18) rfl (.cons (t := 0) rfl (.cons (t := 8) rfl (.cons (t := 10) rfl (.cons (t := 15) rfl (.cons (t := 16) rfl (.cons (t := 19) rfl (.cons (t := 20) rfl (.cons (t := 21) rfl (.cons (t := 22) rfl (.cons (t := 24) rfl (.cons (t := 26) rfl (.cons (t := 122) rfl (.cons (t := 123) rfl (.cons (t := 124) rfl Sub.nil)))))))))))))))) (.cons (t := 5002) rfl (.cons (t := 5001) rfl SubB.nil))
                          · replace h := bif_f h hb48
                            refine Cod.skip ?_
                            refine Ends.blkNormal ?_
                            exact Ends.join _ (some_eq h) (.cons (t := 17) rfl (.cons (t := 18) rfl (.cons (t := 0) rfl (.cons (t := 8) rfl (.cons (t := 10) rfl (.cons (t := 15) rfl (.cons (t := 16) rfl (.cons (t := 19) rfl (.cons (t := 20) rfl (.cons (t := 21) rfl (.cons (t := 22) rfl (.cons (t := 24) rfl (.cons (t := 26) rfl (.cons (t := 122) rfl (.cons (t := 123) rfl (.cons (t := 124) rfl Sub.nil)))))))))))))))) (.cons (t := 5002) rfl (.cons (t := 5001) rfl SubB.nil))
                    · subst hj36; have h := hK36; clear hK36
                      refine Cod.region [] mixed (by kernel_rfl) ?_
                      refine Chain.cons (StepOK.addW .none (.tmp rfl (fun _ => trivial)) (.int (by decide))) rfl ?_
                      refine Chain.cons (StepOK.move .none (.tmp rfl (fun _ => trivial))) rfl ?_
                      refine Chain.nil ?_
                      exact Ends.againL (some_eq h) (.cons (t := 124) rfl (.cons (t := 17) rfl (.cons (t := 18) rfl (.cons (t := 0) rfl (.cons (t := 8) rfl (.cons (t := 10) rfl (.cons (t := 15) rfl (.cons (t := 16) rfl (.cons (t := 19) rfl (.cons (t := 20) rfl (.cons (t := 21) rfl (.cons (t := 22) rfl (.cons (t := 24) rfl (.cons (t := 26) rfl (.cons (t := 122) rfl (.cons (t := 123) rfl Sub.nil)))))))))))))))) (.cons (t := 5002) rfl (.cons (t := 5001) rfl SubB.nil))
                  · replace h := bif_f h hb35
                    refine Cod.exit ?_
                    refine Ends.thenExit ?_
                    refine Ends.thenExit ?_
                    refine Ends.blkExit ?_
                    replace h := hD34 _ (some_eq h)
                    exact Ends.join _ (some_eq h) (.cons (t := 17) rfl (.cons (t := 18) rfl (.cons (t := 0) rfl (.cons (t := 8) rfl (.cons (t := 10) rfl (.cons (t := 15) rfl (.cons (t := 16) rfl (.cons (t := 19) rfl (.cons (t := 20) rfl (.cons (t := 21) rfl (.cons (t := 24) rfl Sub.nil))))))))))) (.cons (t := 5002) rfl (.cons (t := 5001) rfl SubB.nil))
                · subst hj33; have h := hK33; clear hK33
                  refine Cod.region [] mixed (by kernel_rfl) ?_
                  refine Chain.cons (StepOK.move .none (.tmp rfl (fun _ => trivial))) rfl ?_
                  refine Chain.cons (StepOK.move .none (.tmp rfl (fun _ => trivial))) rfl ?_
                  refine Chain.cons (StepOK.addW .none (.tmp rfl (fun _ => trivial)) (.tmp rfl (fun _ => trivial))) rfl ?_
                  obtain ⟨along1, hv50, h⟩ := bnd_some h
                  refine Chain.cons (StepOK.re hv50 (StepOK.assign .none (.tmp rfl (fun _ => trivial)))) rfl ?_
                  refine Chain.nil ?_
                  refine Ends.blkNormal ?_
                  exact Ends.join _ (some_eq h) (.cons (t := 17) rfl (.cons (t := 18) rfl (.cons (t := 20) rfl (.cons (t := 0) rfl (.cons (t := 8) rfl (.cons (t := 10) rfl (.cons (t := 15) rfl (.cons (t := 16) rfl (.cons (t := 19) rfl (.cons (t := 21) rfl Sub.nil)))))))))) (.cons (t := 5002) rfl (.cons (t := 5001) rfl SubB.nil))
              · subst hj23; have h := hK23; clear hK23
                refine Cod.region [] mixed (by kernel_rfl) ?_
                refine Chain.cons (StepOK.move .none (.tmp rfl (fun _ => trivial))) rfl ?_
                refine Chain.cons (StepOK.addW .none (.tmp rfl (fun _ => trivial)) (.int (by decide))) rfl ?_
                obtain ⟨i1, hv51, h⟩ := bnd_some h
                refine Chain.cons (StepOK.re hv51 (StepOK.assign .none (.tmp rfl (fun _ => trivial)))) rfl ?_
                refine Chain.nil ?_
                exact Ends.againL (some_eq h) (.cons (t := 17) rfl (.cons (t := 18) rfl (.cons (t := 20) rfl (.cons (t := 21) rfl (.cons (t := 0) rfl (.cons (t := 8) rfl (.cons (t := 10) rfl (.cons (t := 15) rfl (.cons (t := 16) rfl (.cons (t := 19) rfl Sub.nil)))))))))) (.cons (t := 5002) rfl (.cons (t := 5001) rfl SubB.nil))
            · replace h := bif_f h hb22
              refine Cod.exit ?_
              refine Ends.thenExit ?_
              refine Ends.thenExit ?_
              refine Ends.blkExit ?_
              replace h := hD21 _ (some_eq h)
              exact Ends.join _ (some_eq h) (.cons (t := 18) rfl (.cons (t := 8) rfl (.cons (t := 19) rfl Sub.nil))) (.cons (t := 5002) rfl (.cons (t := 5001) rfl SubB.nil))
          · subst hj20; have h := hK20; clear hK20
            refine Cod.freezeBox (g := 5002) (ts := [19]) rfl (.cons (t := 19) rfl trivial .nil) (.cons (t := 5001) rfl SubB.nil) rfl ?_
            refine Cod.seq ?_
            refine Cod.seq ?_
            refine Cod.region [] mixed (by kernel_rfl) ?_
            refine Chain.cons (StepOK.move .none (.tmp rfl (fun _ => trivial))) rfl ?_
            refine Chain.cons (StepOK.not .none (.tmp rfl (fun _ => trivial))) rfl ?_
            refine Chain.nil ?_
            refine Ends.then ?_
            refine Cod.cond (t := 178) rfl trivial (fun hb52 => ?_) (fun hb52 => ?_)
            · replace h := bif_t h hb52
              refine Cod.seq ?_
              refine Cod.region [([], []), ([5001], [5001]), ([], [])] mixed (by kernel_rfl) ?_
              obtain ⟨v10, hv53, h⟩ := bnd_some h
              refine Chain.consA (StepOK.re hv53 (StepOK.buildF (y := (⟨(0 : Int), (0 : Int), (0 : Int), (0 : Int)⟩ : Box)) .none bu25 zc25 rfl .nil .nil)) rfl ?_
              refine Chain.consN (StepOK.storeAt0 (g := 5001) ty25 rfl (.tmp rfl (fun _ => trivial)) (.tmp rfl (fun _ => trivial))) rfl ?_
              refine Chain.consA (StepOK.assign .none (.int (by decide))) rfl ?_
              refine Chain.nil ?_
              refine Ends.then ?_
              refine Cod.freezeBox (g := 5001) (ts := [8]) rfl (.cons (t := 8) rfl trivial .nil) SubB.nil rfl ?_
              refine Cod.ret ?_
              refine Ends.thenRet ?_
              obtain rfl := some_eq h
              exact Ends.ret2 (.inl rfl) Try.results9 (ResOK.cellR ty25 rfl trivial Imp.refl) (ResOK.tmp rfl trivial Imp.refl)
            · replace h := bif_f h hb52
              refine Cod.skip ?_
              refine Ends.then ?_
              refine Cod.seq ?_
              refine Cod.region [([], []), ([5001], [5001]), ([], [])] mixed (by kernel_rfl) ?_
              refine Chain.consA (StepOK.load .none ty25 (.tmp rfl (fun _ => trivial))) rfl ?_
              refine Chain.consN (StepOK.storeAt0 (g := 5001) ty25 rfl (.tmp rfl (fun _ => trivial)) (.tmp rfl (fun _ => trivial))) rfl ?_
              refine Chain.consA (StepOK.assign .none (.int (by decide))) rfl ?_
              refine Chain.nil ?_
              refine Ends.then ?_
              refine Cod.freezeBox (g := 5001) (ts := [8]) rfl (.cons (t := 8) rfl trivial .nil) SubB.nil rfl ?_
              refine Cod.ret ?_
              obtain rfl := some_eq h
              exact Ends.ret2 (.inl rfl) Try.results9 (ResOK.cellR ty25 rfl trivial Imp.refl) (ResOK.tmp rfl trivial Imp.refl)

theorem ref_In_ok {n1 : Int} {low1 : Int} {high1 : Int} {r : Bool}  (h : ref_In n1 low1 high1 = some r) : FSpec Try.prog 13 [rep n1, rep low1, rep high1] (rep r) := by
  unfold ref_In at h
  refine FSpec.intro (n := 15) fnok13 Try.func13 rfl Try.ntmps13 rfl (fun F => ?_)
  refine Cod.seq ?_
  refine Cod.region [] mixed (by kernel_rfl) ?_
  refine Chain.cons (StepOK.assign .none .bool) rfl ?_
  refine Chain.nil ?_
  refine Ends.then ?_
  refine Cod.seq ?_
  refine Cod.region [] mixed (by kernel_rfl) ?_
  refine Chain.cons (StepOK.move .none (.tmp rfl (fun _ => trivial))) rfl ?_
  refine Chain.cons (StepOK.move .none (.tmp rfl (fun _ => trivial))) rfl ?_
  refine Chain.cons (StepOK.ge .none (.tmp rfl (fun _ => trivial)) (.tmp rfl (fun _ => trivial))) rfl ?_
  refine Chain.cons (StepOK.move .none (.tmp rfl (fun _ => trivial))) rfl ?_
  refine Chain.cons (StepOK.move (.at rfl rfl) (.tmp rfl (fun _ => trivial))) rfl ?_
  refine Chain.cons (StepOK.move (.at rfl rfl) (.tmp rfl (fun _ => trivial))) rfl ?_
  refine Chain.cons (StepOK.le (.at rfl rfl) (.tmp rfl id) (.tmp rfl id)) rfl ?_
  refine Chain.cons (StepOK.pickAnd .none (.tmp rfl (fun _ => trivial)) (.tmp rfl id)) rfl ?_
  refine Chain.cons (StepOK.assign .none (.tmp rfl (fun _ => trivial))) rfl ?_
  refine Chain.nil ?_
  refine Ends.then ?_
  refine Cod.ret ?_
  obtain rfl := some_eq h
  exact Ends.ret1 (.inl rfl) Try.results13 (ResOK.tmp rfl trivial Imp.refl)

theorem ref_When_ok {is1 : Bool} {e1 : Int} {r : Int}  (h : ref_When is1 e1 = some r) : FSpec Try.prog 12 [rep is1, rep e1] (rep r) := by
  unfold ref_When at h
  refine FSpec.intro (n := 7) fnok12 Try.func12 rfl Try.ntmps12 rfl (fun F => ?_)
  refine Cod.seq ?_
  refine Cod.region [] mixed (by kernel_rfl) ?_
  refine Chain.cons (StepOK.assign .none (.int (by decide))) rfl ?_
  refine Chain.nil ?_
  refine Ends.then ?_
  refine Cod.seq ?_
  refine Cod.seq ?_
  refine Cod.region [] mixed (by kernel_rfl) ?_
  refine Chain.cons (StepOK.move .none (.tmp rfl (fun _ => trivial))) rfl ?_
  refine Chain.nil ?_
  refine Ends.then ?_
  refine Cod.cond (t := 5) rfl trivial (fun hb1 => ?_) (fun hb1 => ?_)
  · replace h := bif_t h hb1
    refine Cod.seq ?_
    refine Cod.region [] mixed (by kernel_rfl) ?_
    refine Chain.cons (StepOK.move .none (.tmp rfl (fun _ => trivial))) rfl ?_
    refine Chain.cons (StepOK.assign .none (.tmp rfl (fun _ => trivial))) rfl ?_
    refine Chain.nil ?_
    refine Ends.then ?_
    refine Cod.ret ?_
    refine Ends.thenRet ?_
    obtain rfl := some_eq h
    exact Ends.ret1 (.inl rfl) Try.results12 (ResOK.tmp rfl trivial Imp.refl)
  · replace h := bif_f h hb1
    refine Cod.skip ?_
    refine Ends.then ?_
    refine Cod.seq ?_
    refine Cod.region [] mixed (by kernel_rfl) ?_
    refine Chain.cons (StepOK.assign .none (.int (by decide))) rfl ?_
    refine Chain.nil ?_
    refine Ends.then ?_
    refine Cod.ret ?_
    obtain rfl := some_eq h
    exact Ends.ret1 (.inl rfl) Try.results12 (ResOK.tmp rfl trivial Imp.refl)

theorem ref_PointError_ok {p1 : Point} {r : Int}  (h : ref_PointError p1 = some r) : FSpec Try.prog 66 [rep p1] (rep r) := by
  unfold ref_PointError at h
  refine FSpec.intro (n := 14) fnok66 Try.func66 rfl Try.ntmps66 rfl (fun F => ?_)
  refine Cod.seq ?_
  refine Cod.region [] mixed (by kernel_rfl) ?_
  refine Chain.cons (StepOK.box .none (.tmp rfl (fun _ => trivial))) rfl ?_
  refine Chain.cons (StepOK.assign .none (.int (by decide))) rfl ?_
  refine Chain.nil ?_
  refine Ends.then ?_
  refine Cod.seq ?_
  refine Cod.region [] mixed (by kernel_rfl) ?_
  refine Chain.cons (StepOK.fieldAddr .none fd53_0 hfd53_0 (.tmp rfl (fun _ => trivial))) rfl ?_
  refine Chain.cons (StepOK.load .none ty3 (.tmp rfl (fun _ => trivial))) rfl ?_
  obtain ⟨r1, hv1, h⟩ := bind_some h
  refine Chain.cons (StepOK.call .none (ref_In_ok hv1) (.cons (.tmp rfl (fun _ => trivial)) (.cons (.int (by decide)) (.cons (.int (by decide)) .nil)))) rfl ?_
  refine Chain.cons (StepOK.not .none (.tmp rfl (fun _ => trivial))) rfl ?_
  refine Chain.cons (StepOK.move .none (.tmp rfl (fun _ => trivial))) rfl ?_
  refine Chain.cons (StepOK.fieldAddr (.at rfl rfl) fd53_1 hfd53_1 (.tmp rfl (fun _ => trivial))) rfl ?_
  refine Chain.cons (StepOK.load (.at rfl rfl) ty3 (.tmp rfl id)) rfl ?_
  obtain ⟨r2, hv2, h⟩ := bind_some h
  refine Chain.cons (StepOK.callIf (.at rfl rfl) fnok13 (fun hg => ref_In_ok ((fun hg => gd_some hv2 (by simp [hg.2])) hg)) (.cons (.tmp rfl id) (.cons (.int (by decide)) (.cons (.int (by decide)) .nil))) (fun h => h)) rfl ?_
  refine Chain.cons (StepOK.not (.at rfl rfl) (.tmp rfl id)) rfl ?_
  refine Chain.cons (StepOK.pickOr .none (.tmp rfl (fun _ => trivial)) (.tmp rfl id)) rfl ?_
  obtain ⟨r3, hv3, h⟩ := bind_some h
  refine Chain.cons (StepOK.call .none (ref_When_ok hv3) (.cons (.tmp rfl (fun _ => trivial)) (.cons (.int (by decide)) .nil))) rfl ?_
  refine Chain.cons (StepOK.assign .none (.tmp rfl (fun _ => trivial))) rfl ?_
  refine Chain.nil ?_
  refine Ends.then ?_
  refine Cod.ret ?_
  obtain rfl := some_eq h
  exact Ends.ret1 (.inl rfl) Try.results66 (ResOK.tmp rfl trivial Imp.refl)

theorem ref_PointsError_ok {l1 : (List Point)} {r : Int}  (h : ref_PointsError l1 = some r) : FSpec Try.prog 29 [rep l1] (rep r) := by
  unfold ref_PointsError at h
  refine FSpec.intro (n := 21) fnok29 Try.func29 rfl Try.ntmps29 rfl (fun F => ?_)
  refine Cod.seq ?_
  refine Cod.region [] mixed (by kernel_rfl) ?_
  refine Chain.cons (StepOK.assign .none (.int (by decide))) rfl ?_
  refine Chain.nil ?_
  refine Ends.then ?_
  refine Cod.seq ?_
  refine Cod.seq ?_
  refine Cod.region [] mixed (by kernel_rfl) ?_
  refine Chain.cons (StepOK.move .none (.tmp rfl (fun _ => trivial))) rfl ?_
  refine Chain.cons (StepOK.len .none sl22 (.tmp rfl (fun _ => trivial))) rfl ?_
  refine Chain.cons (StepOK.gt .none (.tmp rfl (fun _ => trivial)) (.int (by decide))) rfl ?_
  refine Chain.nil ?_
  refine Ends.then ?_
  refine Cod.cond (t := 8) rfl trivial (fun hb1 => ?_) (fun hb1 => ?_)
  · replace h := bif_t h hb1
    refine Cod.seq ?_
    refine Cod.region [] mixed (by kernel_rfl) ?_
    refine Chain.cons (StepOK.assign .none (.int (by decide))) rfl ?_
    refine Chain.nil ?_
    refine Ends.then ?_
    refine Cod.ret ?_
    refine Ends.thenRet ?_
    obtain rfl := some_eq h
    exact Ends.ret1 (.inl rfl) Try.results29 (ResOK.tmp rfl trivial Imp.refl)
  · replace h := bif_f h hb1
    refine Cod.skip ?_
    refine Ends.then ?_
    refine Cod.seq ?_
    refine Cod.seq ?_
    refine Cod.region [] mixed (by kernel_rfl) ?_
    refine Chain.cons (StepOK.move .none (.tmp rfl (fun _ => trivial))) rfl ?_
    refine Chain.cons (StepOK.len .none sl22 (.tmp rfl (fun _ => trivial))) rfl ?_
    refine Chain.cons (StepOK.move .none (.int (by decide))) rfl ?_
    refine Chain.nil ?_
    refine Ends.then ?_
    obtain ⟨o_2, h, hK2⟩ := bindR_some h
    refine Cod.thenJ (ι := Unit) (fun j_2 => []) (fun j_2 => []) (fun s => o_2 = Res.nx s) Sub.nil SubB.nil ?_ (fun j_2 hj2 => ?_)
    · skip
      refine Cod.block ?_
      refine Cod.rforEL h (fun p3_ => [(11, ⟨True, rep p3_.1⟩)]) (fun p3_ => []) (.cons (t := 11) rfl Sub.nil) SubB.nil (.cons (t := 9) rfl (.cons (t := 10) rfl Sub.nil)) SubB.nil (fun p3_ o_3 h hD3 => ?_)
      refine Cod.seq ?_
      refine Cod.region [] mixed (by kernel_rfl) ?_
      refine Chain.cons (StepOK.lt .none (.tmp rfl (fun _ => trivial)) (.tmp rfl (fun _ => trivial))) rfl ?_
      refine Chain.nil ?_
      refine Ends.then ?_
      refine Cod.seq ?_
      refine Cod.cond (t := 12) rfl trivial (fun hb4 => ?_) (fun hb4 => ?_)
      · replace h := bif_t h hb4
        refine Cod.skip ?_
        refine Ends.then ?_
        refine Cod.seq ?_
        obtain ⟨o_5, h, hK5⟩ := bindD_some h
        unfold ref_PointsError_L1 at h
        refine Cod.thenJ (ι := Unit) (fun j_5 => []) (fun j_5 => []) (fun s => o_5 = Res.nx s) (.cons (t := 9) rfl (.cons (t := 10) rfl (.cons (t := 11) rfl Sub.nil))) SubB.nil ?_ (fun j_5 hj5 => ?_)
        · skip
          refine Cod.block ?_
          refine Cod.seq ?_
          refine Cod.region [([], []), ([], []), ([], [4]), ([4], [4])] mixed (by kernel_rfl) ?_
          obtain ⟨hn6, h⟩ := need_some h
          refine Chain.consA (StepOK.indexAddr .none sl22 ty53 (.tmp rfl (fun _ => trivial)) (.tmp rfl (fun _ => trivial)) (fun _ => hn6)) rfl ?_
          obtain ⟨v1, hv7, h⟩ := bnd_some h
          refine Chain.consA (StepOK.re hv7 (StepOK.load .none ty53 (.tmp rfl (fun _ => trivial)))) rfl ?_
          refine Chain.consW (StepOK.alloc zo53 rfl) rfl rfl ?_
          refine Chain.consN (StepOK.store ty53 rfl rfl (.tmp rfl (fun _ => trivial))) rfl ?_
          refine Chain.nil ?_
          refine Ends.then ?_
          refine Cod.freeze (t := 4) rfl rfl SubB.nil rfl ?_
          refine Cod.seq ?_
          refine Cod.region [] mixed (by kernel_rfl) ?_
          refine Chain.cons (StepOK.load .none ty53 (.tmp rfl (fun _ => trivial))) rfl ?_
          obtain ⟨e1, hv8, h⟩ := bind_some h
          refine Chain.cons (StepOK.call .none (ref_PointError_ok hv8) (.cons (.tmp rfl (fun _ => trivial)) .nil)) rfl ?_
          refine Chain.cons (StepOK.assign .none (.tmp rfl (fun _ => trivial))) rfl ?_
          refine Chain.nil ?_
          refine Ends.then ?_
          refine Cod.seq ?_
          refine Cod.region [] mixed (by kernel_rfl) ?_
          refine Chain.cons (StepOK.move .none (.tmp rfl (fun _ => trivial))) rfl ?_
          refine Chain.cons (StepOK.neI .none (.tmp rfl (fun _ => trivial)) (.int (by decide))) rfl ?_
          refine Chain.nil ?_
          refine Ends.then ?_
          refine Cod.cond (t := 18) rfl trivial (fun hb9 => ?_) (fun hb9 => ?_)
          · replace h := bif_t h hb9
            refine Cod.seq ?_
            refine Cod.region [] mixed (by kernel_rfl) ?_
            refine Chain.cons (StepOK.move .none (.tmp rfl (fun _ => trivial))) rfl ?_
            refine Chain.cons (StepOK.assign .none (.tmp rfl (fun _ => trivial))) rfl ?_
            refine Chain.nil ?_
            refine Ends.then ?_
            refine Cod.ret ?_
            refine Ends.blkRet ?_
            refine Ends.thenRet ?_
            refine Ends.thenRet ?_
            refine Ends.blkRet ?_
            refine Ends.thenRet ?_
            replace h := resd_ab hK5 (some_eq h)
            replace h := hD3 _ (some_eq h)
            replace h := resb_ab hK2 (some_eq h)
            obtain rfl := some_eq h
            exact Ends.ret1 (.inl rfl) Try.results29 (ResOK.tmp rfl trivial Imp.refl)
          · replace h := bif_f h hb9
            refine Cod.skip ?_
            refine Ends.blkNormal ?_
            exact Ends.join _ (some_eq h) (.cons (t := 9) rfl (.cons (t := 10) rfl (.cons (t := 11) rfl Sub.nil))) SubB.nil
        · have h := resd_nx hK5 hj5
          refine Cod.region [] mixed (by kernel_rfl) ?_
          refine Chain.cons (StepOK.addW .none (.tmp rfl (fun _ => trivial)) (.int (by decide))) rfl ?_
          refine Chain.cons (StepOK.move .none (.tmp rfl (fun _ => trivial))) rfl ?_
          refine Chain.nil ?_
          exact Ends.againL (some_eq h) (.cons (t := 11) rfl (.cons (t := 9) rfl (.cons (t := 10) rfl Sub.nil))) SubB.nil
      · replace h := bif_f h hb4
        refine Cod.exit ?_
        refine Ends.thenExit ?_
        refine Ends.thenExit ?_
        refine Ends.blkExit ?_
        replace h := hD3 _ (some_eq h)
        exact Ends.join _ (some_eq h) Sub.nil SubB.nil
    · have h := resb_nx hK2 hj2
      refine Cod.seq ?_
      refine Cod.region [] mixed (by kernel_rfl) ?_
      refine Chain.cons (StepOK.assign .none (.int (by decide))) rfl ?_
      refine Chain.nil ?_
      refine Ends.then ?_
      refine Cod.ret ?_
      obtain rfl := some_eq h
      exact Ends.ret1 (.inl rfl) Try.results29 (ResOK.tmp rfl trivial Imp.refl)

theorem ref_IsRight_ok {l1 : (List Point)} {r : Bool}  (h : ref_IsRight l1 = some r) : FSpec Try.prog 48 [rep l1] (rep r) := by
  unfold ref_IsRight at h
  refine FSpec.intro (n := 38) fnok48 Try.func48 rfl Try.ntmps48 rfl (fun F => ?_)
  refine Cod.seq ?_
  refine Cod.region [] mixed (by kernel_rfl) ?_
  refine Chain.cons (StepOK.assign .none .bool) rfl ?_
  refine Chain.nil ?_
  refine Ends.then ?_
  refine Cod.seq ?_
  refine Cod.seq ?_
  refine Cod.region [] mixed (by kernel_rfl) ?_
  refine Chain.cons (StepOK.assign .none (.int (by decide))) rfl ?_
  refine Chain.nil ?_
  refine Ends.then ?_
  obtain ⟨o_1, h, hK1⟩ := bindR_some h
  refine Cod.thenJ (ι := Unit) (fun j_1 => []) (fun j_1 => []) (fun s => o_1 = Res.nx s) (.cons (t := 0) rfl Sub.nil) SubB.nil ?_ (fun j_1 hj1 => ?_)
  · skip
    refine Cod.block ?_
    refine Cod.loopL h (fun s2_ => [(3, ⟨True, rep s2_⟩)]) (fun s2_ => []) (.cons (t := 3) rfl Sub.nil) SubB.nil (.cons (t := 0) rfl Sub.nil) SubB.nil (fun s2_ o_2 h hD2 => ?_)
    unfold ref_IsRight_L1 at h
    refine Cod.seq ?_
    refine Cod.seq ?_
    refine Cod.region [] mixed (by kernel_rfl) ?_
    refine Chain.cons (StepOK.move .none (.tmp rfl (fun _ => trivial))) rfl ?_
    refine Chain.cons (StepOK.move .none (.tmp rfl (fun _ => trivial))) rfl ?_
    refine Chain.cons (StepOK.len .none sl22 (.tmp rfl (fun _ => trivial))) rfl ?_
    refine Chain.cons (StepOK.lt .none (.tmp rfl (fun _ => trivial)) (.tmp rfl (fun _ => trivial))) rfl ?_
    refine Chain.nil ?_
    refine Ends.then ?_
    refine Cod.cond (t := 7) rfl trivial (fun hb3 => ?_) (fun hb3 => ?_)
    · replace h := bif_t h hb3
      refine Cod.skip ?_
      refine Ends.then ?_
      refine Cod.seq ?_
      refine Cod.block ?_
      refine Cod.seq ?_
      refine Cod.region [] mixed (by kernel_rfl) ?_
      refine Chain.cons (StepOK.move .none (.tmp rfl (fun _ => trivial))) rfl ?_
      refine Chain.cons (StepOK.move .none (.tmp rfl (fun _ => trivial))) rfl ?_
      obtain ⟨hn4, h⟩ := need_some h
      refine Chain.cons (StepOK.indexAddr .none sl22 ty53 (.tmp rfl (fun _ => trivial)) (.tmp rfl (fun _ => trivial)) (fun _ => hn4)) rfl ?_
      refine Chain.cons (StepOK.fieldAddr .none fd53_0 hfd53_0 (.tmp rfl (fun _ => trivial))) rfl ?_
      refine Chain.cons (StepOK.load .none ty3 (.tmp rfl (fun _ => trivial))) rfl ?_
      refine Chain.cons (StepOK.move .none (.tmp rfl (fun _ => trivial))) rfl ?_
      refine Chain.cons (StepOK.move .none (.tmp rfl (fun _ => trivial))) rfl ?_
      refine Chain.cons (StepOK.subW .none (.tmp rfl (fun _ => trivial)) (.int (by decide))) rfl ?_
      obtain ⟨hn5, h⟩ := need_some h
      refine Chain.cons (StepOK.indexAddr .none sl22 ty53 (.tmp rfl (fun _ => trivial)) (.tmp rfl (fun _ => trivial)) (fun _ => hn5)) rfl ?_
      refine Chain.cons (StepOK.fieldAddr .none fd53_0 hfd53_0 (.tmp rfl (fun _ => trivial))) rfl ?_
      refine Chain.cons (StepOK.load .none ty3 (.tmp rfl (fun _ => trivial))) rfl ?_
      refine Chain.cons (StepOK.eqI .none (.tmp rfl (fun _ => trivial)) (.tmp rfl (fun _ => trivial))) rfl ?_
      refine Chain.cons (StepOK.move .none (.tmp rfl (fun _ => trivial))) rfl ?_
      refine Chain.cons (StepOK.move .none (.tmp rfl (fun _ => trivial))) rfl ?_
      obtain ⟨hn6, h⟩ := need_some h
      refine Chain.cons (StepOK.indexAddr .none sl22 ty53 (.tmp rfl (fun _ => trivial)) (.tmp rfl (fun _ => trivial)) (fun _ => hn6)) rfl ?_
      refine Chain.cons (StepOK.fieldAddr .none fd53_1 hfd53_1 (.tmp rfl (fun _ => trivial))) rfl ?_
      refine Chain.cons (StepOK.load .none ty3 (.tmp rfl (fun _ => trivial))) rfl ?_
      refine Chain.cons (StepOK.move .none (.tmp rfl (fun _ => trivial))) rfl ?_
      refine Chain.cons (StepOK.move .none (.tmp rfl (fun _ => trivial))) rfl ?_
      refine Chain.cons (StepOK.subW .none (.tmp rfl (fun _ => trivial)) (.int (by decide))) rfl ?_
      obtain ⟨hn7, h⟩ := need_some h
      refine Chain.cons (StepOK.indexAddr .none sl22 ty53 (.tmp rfl (fun _ => trivial)) (.tmp rfl (fun _ => trivial)) (fun _ => hn7)) rfl ?_
      refine Chain.cons (StepOK.fieldAddr .none fd53_1 hfd53_1 (.tmp rfl (fun _ => trivial))) rfl ?_
      refine Chain.cons (StepOK.load .none ty3 (.tmp rfl (fun _ => trivial))) rfl ?_
      refine Chain.cons (StepOK.eqI .none (.tmp rfl (fun _ => trivial)) (.tmp rfl (fun _ => trivial))) rfl ?_
      refine Chain.cons (StepOK.eqS .none (eqAt_bool Try.underlying4) (.tmp rfl (fun _ => trivial)) (.tmp rfl (fun _ => trivial))) rfl ?_
      refine Chain.nil ?_
      refine Ends.then ?_
      refine Cod.cond (t := 34) rfl trivial (fun hb8 => ?_) (fun hb8 => ?_)
      · replace h := bif_t h hb8
        refine Cod.seq ?_
        refine Cod.region [] mixed (by kernel_rfl) ?_
        refine Chain.cons (StepOK.assign .none .bool) rfl ?_
        refine Chain.nil ?_
        refine Ends.then ?_
        refine Cod.ret ?_
        refine Ends.blkRet ?_
        refine Ends.thenRet ?_
        refine Ends.thenRet ?_
        refine Ends.blkRet ?_
        refine Ends.thenRet ?_
        replace h := hD2 _ (some_eq h)
        replace h := resb_ab hK1 (some_eq h)
        obtain rfl := some_eq h
        exact Ends.ret1 (.inl rfl) Try.results48 (ResOK.tmp rfl trivial Imp.refl)
      · replace h := bif_f h hb8
        refine Cod.skip ?_
        refine Ends.blkNormal ?_
        refine Ends.then ?_
        refine Cod.region [] mixed (by kernel_rfl) ?_
        refine Chain.cons (StepOK.move .none (.tmp rfl (fun _ => trivial))) rfl ?_
        refine Chain.cons (StepOK.addW .none (.tmp rfl (fun _ => trivial)) (.int (by decide))) rfl ?_
        obtain ⟨i1, hv9, h⟩ := bnd_some h
        refine Chain.cons (StepOK.re hv9 (StepOK.assign .none (.tmp rfl (fun _ => trivial)))) rfl ?_
        refine Chain.nil ?_
        exact Ends.againL (some_eq h) (.cons (t := 3) rfl (.cons (t := 0) rfl Sub.nil)) SubB.nil
    · replace h := bif_f h hb3
      refine Cod.exit ?_
      refine Ends.thenExit ?_
      refine Ends.thenExit ?_
      refine Ends.blkExit ?_
      replace h := hD2 _ (some_eq h)
      exact Ends.join _ (some_eq h) (.cons (t := 0) rfl Sub.nil) SubB.nil
  · have h := resb_nx hK1 hj1
    refine Cod.seq ?_
    refine Cod.region [] mixed (by kernel_rfl) ?_
    refine Chain.cons (StepOK.move .none (.tmp rfl (fun _ => trivial))) rfl ?_
    refine Chain.cons (StepOK.len .none sl22 (.tmp rfl (fun _ => trivial))) rfl ?_
    refine Chain.cons (StepOK.gt .none (.tmp rfl (fun _ => trivial)) (.int (by decide))) rfl ?_
    refine Chain.cons (StepOK.assign .none (.tmp rfl (fun _ => trivial))) rfl ?_
    refine Chain.nil ?_
    refine Ends.then ?_
    refine Cod.ret ?_
    obtain rfl := some_eq h
    exact Ends.ret1 (.inl rfl) Try.results48 (ResOK.tmp rfl trivial Imp.refl)

theorem ref_First_ok {l1 : (List Int)} {r : Int}  (h : ref_First l1 = some r) : FSpec Try.prog 10 [rep l1] (rep r) := by
  unfold ref_First at h
  refine FSpec.intro (n := 15) fnok10 Try.func10 rfl Try.ntmps10 rfl (fun F => ?_)
  refine Cod.seq ?_
  refine Cod.region [] mixed (by kernel_rfl) ?_
  refine Chain.cons (StepOK.assign .none (.int (by decide))) rfl ?_
  refine Chain.nil ?_
  refine Ends.then ?_
  refine Cod.seq ?_
  refine Cod.seq ?_
  refine Cod.region [] mixed (by kernel_rfl) ?_
  refine Chain.cons (StepOK.move .none (.tmp rfl (fun _ => trivial))) rfl ?_
  refine Chain.cons (StepOK.len .none sl81 (.tmp rfl (fun _ => trivial))) rfl ?_
  refine Chain.cons (StepOK.move .none (.int (by decide))) rfl ?_
  refine Chain.nil ?_
  refine Ends.then ?_
  obtain ⟨o_1, h, hK1⟩ := bindR_some h
  refine Cod.thenJ (ι := Unit) (fun j_1 => []) (fun j_1 => []) (fun s => o_1 = Res.nx s) Sub.nil SubB.nil ?_ (fun j_1 hj1 => ?_)
  · skip
    refine Cod.block ?_
    refine Cod.rforEL h (fun p2_ => [(7, ⟨True, rep p2_.1⟩)]) (fun p2_ => []) (.cons (t := 7) rfl Sub.nil) SubB.nil (.cons (t := 5) rfl (.cons (t := 6) rfl Sub.nil)) SubB.nil (fun p2_ o_2 h hD2 => ?_)
    refine Cod.seq ?_
    refine Cod.region [] mixed (by kernel_rfl) ?_
    refine Chain.cons (StepOK.lt .none (.tmp rfl (fun _ => trivial)) (.tmp rfl (fun _ => trivial))) rfl ?_
    refine Chain.nil ?_
    refine Ends.then ?_
    refine Cod.seq ?_
    refine Cod.cond (t := 8) rfl trivial (fun hb3 => ?_) (fun hb3 => ?_)
    · replace h := bif_t h hb3
      refine Cod.skip ?_
      refine Ends.then ?_
      refine Cod.seq ?_
      obtain ⟨o_4, h, hK4⟩ := bindD_some h
      unfold ref_First_L1 at h
      refine Cod.thenJ (ι := Unit) (fun j_4 => []) (fun j_4 => []) (fun s => o_4 = Res.nx s) (.cons (t := 5) rfl (.cons (t := 6) rfl (.cons (t := 7) rfl Sub.nil))) SubB.nil ?_ (fun j_4 hj4 => ?_)
      · skip
        refine Cod.block ?_
        refine Cod.seq ?_
        refine Cod.region [] mixed (by kernel_rfl) ?_
        obtain ⟨hn5, h⟩ := need_some h
        refine Chain.cons (StepOK.indexAddr .none sl81 ty26 (.tmp rfl (fun _ => trivial)) (.tmp rfl (fun _ => trivial)) (fun _ => hn5)) rfl ?_
        refine Chain.cons (StepOK.load .none ty26 (.tmp rfl (fun _ => trivial))) rfl ?_
        obtain ⟨e1, hv6, h⟩ := bnd_some h
        refine Chain.cons (StepOK.re hv6 (StepOK.assign .none (.tmp rfl (fun _ => trivial)))) rfl ?_
        refine Chain.nil ?_
        refine Ends.then ?_
        refine Cod.seq ?_
        refine Cod.region [] mixed (by kernel_rfl) ?_
        refine Chain.cons (StepOK.move .none (.tmp rfl (fun _ => trivial))) rfl ?_
        refine Chain.cons (StepOK.neI .none (.tmp rfl (fun _ => trivial)) (.int (by decide))) rfl ?_
        refine Chain.nil ?_
        refine Ends.then ?_
        refine Cod.cond (t := 12) rfl trivial (fun hb7 => ?_) (fun hb7 => ?_)
        · replace h := bif_t h hb7
          refine Cod.seq ?_
          refine Cod.region [] mixed (by kernel_rfl) ?_
          refine Chain.cons (StepOK.move .none (.tmp rfl (fun _ => trivial))) rfl ?_
          refine Chain.cons (StepOK.assign .none (.tmp rfl (fun _ => trivial))) rfl ?_
          refine Chain.nil ?_
          refine Ends.then ?_
          refine Cod.ret ?_
          refine Ends.blkRet ?_
          refine Ends.thenRet ?_
          refine Ends.thenRet ?_
          refine Ends.blkRet ?_
          refine Ends.thenRet ?_
          replace h := resd_ab hK4 (some_eq h)
          replace h := hD2 _ (some_eq h)
          replace h := resb_ab hK1 (some_eq h)
          obtain rfl := some_eq h
          exact Ends.ret1 (.inl rfl) Try.results10 (ResOK.tmp rfl trivial Imp.refl)
        · replace h := bif_f h hb7
          refine Cod.skip ?_
          refine Ends.blkNormal ?_
          exact Ends.join _ (some_eq h) (.cons (t := 5) rfl (.cons (t := 6) rfl (.cons (t := 7) rfl Sub.nil))) SubB.nil
      · have h := resd_nx hK4 hj4
        refine Cod.region [] mixed (by kernel_rfl) ?_
        refine Chain.cons (StepOK.addW .none (.tmp rfl (fun _ => trivial)) (.int (by decide))) rfl ?_
        refine Chain.cons (StepOK.move .none (.tmp rfl (fun _ => trivial))) rfl ?_
        refine Chain.nil ?_
        exact Ends.againL (some_eq h) (.cons (t := 7) rfl (.cons (t := 5) rfl (.cons (t := 6) rfl Sub.nil))) SubB.nil
    · replace h := bif_f h hb3
      refine Cod.exit ?_
      refine Ends.thenExit ?_
      refine Ends.thenExit ?_
      refine Ends.blkExit ?_
      replace h := hD2 _ (some_eq h)
      exact Ends.join _ (some_eq h) Sub.nil SubB.nil
  · have h := resb_nx hK1 hj1
    refine Cod.seq ?_
    refine Cod.region [] mixed (by kernel_rfl) ?_
    refine Chain.cons (StepOK.assign .none (.int (by decide))) rfl ?_
    refine Chain.nil ?_
    refine Ends.then ?_
    refine Cod.ret ?_
    obtain rfl := some_eq h
    exact Ends.ret1 (.inl rfl) Try.results10 (ResOK.tmp rfl trivial Imp.refl)

theorem ref_PathError_ok {l1 : (List Point)} {r : Int}  (h : ref_PathError l1 = some r) : FSpec Try.prog 11 [rep l1] (rep r) := by
  unfold ref_PathError at h
  refine FSpec.intro (n := 11) fnok11 Try.func11 rfl Try.ntmps11 rfl (fun F => ?_)
  refine Cod.seq ?_
  refine Cod.region [] mixed (by kernel_rfl) ?_
  refine Chain.cons (StepOK.assign .none (.int (by decide))) rfl ?_
  refine Chain.nil ?_
  refine Ends.then ?_
  refine Cod.seq ?_
  refine Cod.region [] mixed (by kernel_rfl) ?_
  refine Chain.cons (StepOK.move .none (.tmp rfl (fun _ => trivial))) rfl ?_
  obtain ⟨r1, hv1, h⟩ := bind_some h
  refine Chain.cons (StepOK.call .none (ref_PointsError_ok hv1) (.cons (.tmp rfl (fun _ => trivial)) .nil)) rfl ?_
  refine Chain.cons (StepOK.move .none (.tmp rfl (fun _ => trivial))) rfl ?_
  obtain ⟨r2, hv2, h⟩ := bind_some h
  refine Chain.cons (StepOK.call .none (ref_IsRight_ok hv2) (.cons (.tmp rfl (fun _ => trivial)) .nil)) rfl ?_
  refine Chain.cons (StepOK.not .none (.tmp rfl (fun _ => trivial))) rfl ?_
  obtain ⟨r3, hv3, h⟩ := bind_some h
  refine Chain.cons (StepOK.call .none (ref_When_ok hv3) (.cons (.tmp rfl (fun _ => trivial)) (.cons (.int (by decide)) .nil))) rfl ?_
  refine Chain.cons (StepOK.buildSlice (xs := [_, _]) .none sl81 ty26 hz26 (.cons (.tmp rfl (fun _ => trivial)) (.cons (.tmp rfl (fun _ => trivial)) .nil)) rfl (by decide)) rfl ?_
  obtain ⟨r4, hv4, h⟩ := bind_some h
  refine Chain.cons (StepOK.call .none (ref_First_ok hv4) (.cons (.tmp rfl (fun _ => trivial)) .nil)) rfl ?_
  refine Chain.cons (StepOK.assign .none (.tmp rfl (fun _ => trivial))) rfl ?_
  refine Chain.nil ?_
  refine Ends.then ?_
  refine Cod.ret ?_
  obtain rfl := some_eq h
  exact Ends.ret1 (.inl rfl) Try.results11 (ResOK.tmp rfl trivial Imp.refl)

theorem ref_BoxError_ok {b1 : Box} {r : Int}  (h : ref_BoxError b1 = some r) : FSpec Try.prog 49 [rep b1] (rep r) := by
  unfold ref_BoxError at h
  refine FSpec.intro (n := 22) fnok49 Try.func49 rfl Try.ntmps49 rfl (fun F => ?_)
  refine Cod.seq ?_
  refine Cod.region [] mixed (by kernel_rfl) ?_
  refine Chain.cons (StepOK.box .none (.tmp rfl (fun _ => trivial))) rfl ?_
  refine Chain.cons (StepOK.assign .none (.int (by decide))) rfl ?_
  refine Chain.nil ?_
  refine Ends.then ?_
  refine Cod.seq ?_
  refine Cod.region [] mixed (by kernel_rfl) ?_
  refine Chain.cons (StepOK.fieldAddr .none fd25_0 hfd25_0 (.tmp rfl (fun _ => trivial))) rfl ?_
  refine Chain.cons (StepOK.load .none ty3 (.tmp rfl (fun _ => trivial))) rfl ?_
  refine Chain.cons (StepOK.fieldAddr .none fd25_1 hfd25_1 (.tmp rfl (fun _ => trivial))) rfl ?_
  refine Chain.cons (StepOK.load .none ty3 (.tmp rfl (fun _ => trivial))) rfl ?_
  refine Chain.cons (StepOK.buildF (y := (⟨b1.X, b1.Y⟩ : Point)) .none bu53 zc53 rfl (.cons (.tmp rfl (fun _ => trivial)) (.cons (.tmp rfl (fun _ => trivial)) .nil)) (.cons rfl sf53_0 (.cons rfl sf53_1 .nil))) rfl ?_
  obtain ⟨r1, hv1, h⟩ := bind_some h
  refine Chain.cons (StepOK.call .none (ref_PointError_ok hv1) (.cons (.tmp rfl (fun _ => trivial)) .nil)) rfl ?_
  refine Chain.cons (StepOK.fieldAddr .none fd25_2 hfd25_2 (.tmp rfl (fun _ => trivial))) rfl ?_
  refine Chain.cons (StepOK.load .none ty3 (.tmp rfl (fun _ => trivial))) rfl ?_
  obtain ⟨r2, hv2, h⟩ := bind_some h
  refine Chain.cons (StepOK.call .none (ref_In_ok hv2) (.cons (.tmp rfl (fun _ => trivial)) (.cons (.int (by decide)) (.cons (.int (by decide)) .nil)))) rfl ?_
  refine Chain.cons (StepOK.not .none (.tmp rfl (fun _ => trivial))) rfl ?_
  refine Chain.cons (StepOK.move .none (.tmp rfl (fun _ => trivial))) rfl ?_
  refine Chain.cons (StepOK.fieldAddr (.at rfl rfl) fd25_3 hfd25_3 (.tmp rfl (fun _ => trivial))) rfl ?_
  refine Chain.cons (StepOK.load (.at rfl rfl) ty3 (.tmp rfl id)) rfl ?_
  obtain ⟨r3, hv3, h⟩ := bind_some h
  refine Chain.cons (StepOK.callIf (.at rfl rfl) fnok13 (fun hg => ref_In_ok ((fun hg => gd_some hv3 (by simp [hg.2])) hg)) (.cons (.tmp rfl id) (.cons (.int (by decide)) (.cons (.int (by decide)) .nil))) (fun h => h)) rfl ?_
  refine Chain.cons (StepOK.not (.at rfl rfl) (.tmp rfl id)) rfl ?_
  refine Chain.cons (StepOK.pickOr .none (.tmp rfl (fun _ => trivial)) (.tmp rfl id)) rfl ?_
  obtain ⟨r4, hv4, h⟩ := bind_some h
  refine Chain.cons (StepOK.call .none (ref_When_ok hv4) (.cons (.tmp rfl (fun _ => trivial)) (.cons (.int (by decide)) .nil))) rfl ?_
  refine Chain.cons (StepOK.buildSlice (xs := [_, _]) .none sl81 ty26 hz26 (.cons (.tmp rfl (fun _ => trivial)) (.cons (.tmp rfl (fun _ => trivial)) .nil)) rfl (by decide)) rfl ?_
  obtain ⟨r5, hv5, h⟩ := bind_some h
  refine Chain.cons (StepOK.call .none (ref_First_ok hv5) (.cons (.tmp rfl (fun _ => trivial)) .nil)) rfl ?_
  refine Chain.cons (StepOK.assign .none (.tmp rfl (fun _ => trivial))) rfl ?_
  refine Chain.nil ?_
  refine Ends.then ?_
  refine Cod.ret ?_
  obtain rfl := some_eq h
  exact Ends.ret1 (.inl rfl) Try.results49 (ResOK.tmp rfl trivial Imp.refl)

theorem ref_BoxesError_ok {l1 : (List Box)} {r : Int}  (h : ref_BoxesError l1 = some r) : FSpec Try.prog 14 [rep l1] (rep r) := by
  unfold ref_BoxesError at h
  refine FSpec.intro (n := 21) fnok14 Try.func14 rfl Try.ntmps14 rfl (fun F => ?_)
  refine Cod.seq ?_
  refine Cod.region [] mixed (by kernel_rfl) ?_
  refine Chain.cons (StepOK.assign .none (.int (by decide))) rfl ?_
  refine Chain.nil ?_
  refine Ends.then ?_
  refine Cod.seq ?_
  refine Cod.seq ?_
  refine Cod.region [] mixed (by kernel_rfl) ?_
  refine Chain.cons (StepOK.move .none (.tmp rfl (fun _ => trivial))) rfl ?_
  refine Chain.cons (StepOK.len .none sl23 (.tmp rfl (fun _ => trivial))) rfl ?_
  refine Chain.cons (StepOK.gt .none (.tmp rfl (fun _ => trivial)) (.int (by decide))) rfl ?_
  refine Chain.nil ?_
  refine Ends.then ?_
  refine Cod.cond (t := 8) rfl trivial (fun hb1 => ?_) (fun hb1 => ?_)
  · replace h := bif_t h hb1
    refine Cod.seq ?_
    refine Cod.region [] mixed (by kernel_rfl) ?_
    refine Chain.cons (StepOK.assign .none (.int (by decide))) rfl ?_
    refine Chain.nil ?_
    refine Ends.then ?_
    refine Cod.ret ?_
    refine Ends.thenRet ?_
    obtain rfl := some_eq h
    exact Ends.ret1 (.inl rfl) Try.results14 (ResOK.tmp rfl trivial Imp.refl)
  · replace h := bif_f h hb1
    refine Cod.skip ?_
    refine Ends.then ?_
    refine Cod.seq ?_
    refine Cod.seq ?_
    refine Cod.region [] mixed (by kernel_rfl) ?_
    refine Chain.cons (StepOK.move .none (.tmp rfl (fun _ => trivial))) rfl ?_
    refine Chain.cons (StepOK.len .none sl23 (.tmp rfl (fun _ => trivial))) rfl ?_
    refine Chain.cons (StepOK.move .none (.int (by decide))) rfl ?_
    refine Chain.nil ?_
    refine Ends.then ?_
    obtain ⟨o_2, h, hK2⟩ := bindR_some h
    refine Cod.thenJ (ι := Unit) (fun j_2 => []) (fun j_2 => []) (fun s => o_2 = Res.nx s) Sub.nil SubB.nil ?_ (fun j_2 hj2 => ?_)
    · skip
      refine Cod.block ?_
      refine Cod.rforEL h (fun p3_ => [(11, ⟨True, rep p3_.1⟩)]) (fun p3_ => []) (.cons (t := 11) rfl Sub.nil) SubB.nil (.cons (t := 9) rfl (.cons (t := 10) rfl Sub.nil)) SubB.nil (fun p3_ o_3 h hD3 => ?_)
      refine Cod.seq ?_
      refine Cod.region [] mixed (by kernel_rfl) ?_
      refine Chain.cons (StepOK.lt .none (.tmp rfl (fun _ => trivial)) (.tmp rfl (fun _ => trivial))) rfl ?_
      refine Chain.nil ?_
      refine Ends.then ?_
      refine Cod.seq ?_
      refine Cod.cond (t := 12) rfl trivial (fun hb4 => ?_) (fun hb4 => ?_)
      · replace h := bif_t h hb4
        refine Cod.skip ?_
        refine Ends.then ?_
        refine Cod.seq ?_
        obtain ⟨o_5, h, hK5⟩ := bindD_some h
        unfold ref_BoxesError_L1 at h
        refine Cod.thenJ (ι := Unit) (fun j_5 => []) (fun j_5 => []) (fun s => o_5 = Res.nx s) (.cons (t := 9) rfl (.cons (t := 10) rfl (.cons (t := 11) rfl Sub.nil))) SubB.nil ?_ (fun j_5 hj5 => ?_)
        · skip
          refine Cod.block ?_
          refine Cod.seq ?_
          refine Cod.region [([], []), ([], []), ([], [4]), ([4], [4])] mixed (by kernel_rfl) ?_
          obtain ⟨hn6, h⟩ := need_some h
          refine Chain.consA (StepOK.indexAddr .none sl23 ty25 (.tmp rfl (fun _ => trivial)) (.tmp rfl (fun _ => trivial)) (fun _ => hn6)) rfl ?_
          obtain ⟨v1, hv7, h⟩ := bnd_some h
          refine Chain.consA (StepOK.re hv7 (StepOK.load .none ty25 (.tmp rfl (fun _ => trivial)))) rfl ?_
          refine Chain.consW (StepOK.alloc zo25 rfl) rfl rfl ?_
          refine Chain.consN (StepOK.store ty25 rfl rfl (.tmp rfl (fun _ => trivial))) rfl ?_
          refine Chain.nil ?_
          refine Ends.then ?_
          refine Cod.freeze (t := 4) rfl rfl SubB.nil rfl ?_
          refine Cod.seq ?_
          refine Cod.region [] mixed (by kernel_rfl) ?_
          refine Chain.cons (StepOK.load .none ty25 (.tmp rfl (fun _ => trivial))) rfl ?_
          obtain ⟨e1, hv8, h⟩ := bind_some h
          refine Chain.cons (StepOK.call .none (ref_BoxError_ok hv8) (.cons (.tmp rfl (fun _ => trivial)) .nil)) rfl ?_
          refine Chain.cons (StepOK.assign .none (.tmp rfl (fun _ => trivial))) rfl ?_
          refine Chain.nil ?_
          refine Ends.then ?_
          refine Cod.seq ?_
          refine Cod.region [] mixed (by kernel_rfl) ?_
          refine Chain.cons (StepOK.move .none (.tmp rfl (fun _ => trivial))) rfl ?_
          refine Chain.cons (StepOK.neI .none (.tmp rfl (fun _ => trivial)) (.int (by decide))) rfl ?_
          refine Chain.nil ?_
          refine Ends.then ?_
          refine Cod.cond (t := 18) rfl trivial (fun hb9 => ?_) (fun hb9 => ?_)
          · replace h := bif_t h hb9
            refine Cod.seq ?_
            refine Cod.region [] mixed (by kernel_rfl) ?_
            refine Chain.cons (StepOK.move .none (.tmp rfl (fun _ => trivial))) rfl ?_
            refine Chain.cons (StepOK.assign .none (.tmp rfl (fun _ => trivial))) rfl ?_
            refine Chain.nil ?_
            refine Ends.then ?_
            refine Cod.ret ?_
            refine Ends.blkRet ?_
            refine Ends.thenRet ?_
            refine Ends.thenRet ?_
            refine Ends.blkRet ?_
            refine Ends.thenRet ?_
            replace h := resd_ab hK5 (some_eq h)
            replace h := hD3 _ (some_eq h)
            replace h := resb_ab hK2 (some_eq h)
            obtain rfl := some_eq h
            exact Ends.ret1 (.inl rfl) Try.results14 (ResOK.tmp rfl trivial Imp.refl)
          · replace h := bif_f h hb9
            refine Cod.skip ?_
            refine Ends.blkNormal ?_
            exact Ends.join _ (some_eq h) (.cons (t := 9) rfl (.cons (t := 10) rfl (.cons (t := 11) rfl Sub.nil))) SubB.nil
        · have h := resd_nx hK5 hj5
          refine Cod.region [] mixed (by kernel_rfl) ?_
          refine Chain.cons (StepOK.addW .none (.tmp rfl (fun _ => trivial)) (.int (by decide))) rfl ?_
          refine Chain.cons (StepOK.move .none (.tmp rfl (fun _ => trivial))) rfl ?_
          refine Chain.nil ?_
          exact Ends.againL (some_eq h) (.cons (t := 11) rfl (.cons (t := 9) rfl (.cons (t := 10) rfl Sub.nil))) SubB.nil
      · replace h := bif_f h hb4
        refine Cod.exit ?_
        refine Ends.thenExit ?_
        refine Ends.thenExit ?_
        refine Ends.blkExit ?_
        replace h := hD3 _ (some_eq h)
        exact Ends.join _ (some_eq h) Sub.nil SubB.nil
    · have h := resb_nx hK2 hj2
      refine Cod.seq ?_
      refine Cod.region [] mixed (by kernel_rfl) ?_
      refine Chain.cons (StepOK.assign .none (.int (by decide))) rfl ?_
      refine Chain.nil ?_
      refine Ends.then ?_
      refine Cod.ret ?_
      obtain rfl := some_eq h
      exact Ends.ret1 (.inl rfl) Try.results14 (ResOK.tmp rfl trivial Imp.refl)

theorem ref_Abs_ok {n1 : Int} {r : Int}  (h : ref_Abs n1 = some r) : FSpec Try.prog 56 [rep n1] (rep r) := by
  unfold ref_Abs at h
  refine FSpec.intro (n := 7) fnok56 Try.func56 rfl Try.ntmps56 rfl (fun F => ?_)
  refine Cod.seq ?_
  refine Cod.region [] mixed (by kernel_rfl) ?_
  refine Chain.cons (StepOK.assign .none (.int (by decide))) rfl ?_
  refine Chain.nil ?_
  refine Ends.then ?_
  refine Cod.seq ?_
  refine Cod.region [] mixed (by kernel_rfl) ?_
  refine Chain.cons (StepOK.move .none (.tmp rfl (fun _ => trivial))) rfl ?_
  refine Chain.cons (StepOK.move .none (.tmp rfl (fun _ => trivial))) rfl ?_
  refine Chain.cons (StepOK.negW .none (.tmp rfl (fun _ => trivial))) rfl ?_
  refine Chain.cons (StepOK.max2 .none (.tmp rfl (fun _ => trivial)) (.tmp rfl (fun _ => trivial))) rfl ?_
  refine Chain.cons (StepOK.assign .none (.tmp rfl (fun _ => trivial))) rfl ?_
  refine Chain.nil ?_
  refine Ends.then ?_
  refine Cod.ret ?_
  obtain rfl := some_eq h
  exact Ends.ret1 (.inl rfl) Try.results56 (ResOK.tmp rfl trivial Imp.refl)

theorem ref_Far_ok {a1 : Point} {b1 : Point} {r : Int}  (h : ref_Far a1 b1 = some r) : FSpec Try.prog 50 [rep a1, rep b1] (rep r) := by
  unfold ref_Far at h
  refine FSpec.intro (n := 18) fnok50 Try.func50 rfl Try.ntmps50 rfl (fun F => ?_)
  refine Cod.seq ?_
  refine Cod.region [] mixed (by kernel_rfl) ?_
  refine Chain.cons (StepOK.box .none (.tmp rfl (fun _ => trivial))) rfl ?_
  refine Chain.cons (StepOK.box .none (.tmp rfl (fun _ => trivial))) rfl ?_
  refine Chain.cons (StepOK.assign .none (.int (by decide))) rfl ?_
  refine Chain.nil ?_
  refine Ends.then ?_
  refine Cod.seq ?_
  refine Cod.region [] mixed (by kernel_rfl) ?_
  refine Chain.cons (StepOK.fieldAddr .none fd53_0 hfd53_0 (.tmp rfl (fun _ => trivial))) rfl ?_
  refine Chain.cons (StepOK.load .none ty3 (.tmp rfl (fun _ => trivial))) rfl ?_
  refine Chain.cons (StepOK.fieldAddr .none fd53_0 hfd53_0 (.tmp rfl (fun _ => trivial))) rfl ?_
  refine Chain.cons (StepOK.load .none ty3 (.tmp rfl (fun _ => trivial))) rfl ?_
  refine Chain.cons (StepOK.subW .none (.tmp rfl (fun _ => trivial)) (.tmp rfl (fun _ => trivial))) rfl ?_
  obtain ⟨r1, hv1, h⟩ := bind_some h
  refine Chain.cons (StepOK.call .none (ref_Abs_ok hv1) (.cons (.tmp rfl (fun _ => trivial)) .nil)) rfl ?_
  refine Chain.cons (StepOK.fieldAddr .none fd53_1 hfd53_1 (.tmp rfl (fun _ => trivial))) rfl ?_
  refine Chain.cons (StepOK.load .none ty3 (.tmp rfl (fun _ => trivial))) rfl ?_
  refine Chain.cons (StepOK.fieldAddr .none fd53_1 hfd53_1 (.tmp rfl (fun _ => trivial))) rfl ?_
  refine Chain.cons (StepOK.load .none ty3 (.tmp rfl (fun _ => trivial))) rfl ?_
  refine Chain.cons (StepOK.subW .none (.tmp rfl (fun _ => trivial)) (.tmp rfl (fun _ => trivial))) rfl ?_
  obtain ⟨r2, hv2, h⟩ := bind_some h
  refine Chain.cons (StepOK.call .none (ref_Abs_ok hv2) (.cons (.tmp rfl (fun _ => trivial)) .nil)) rfl ?_
  refine Chain.cons (StepOK.addW .none (.tmp rfl (fun _ => trivial)) (.tmp rfl (fun _ => trivial))) rfl ?_
  refine Chain.cons (StepOK.assign .none (.tmp rfl (fun _ => trivial))) rfl ?_
  refine Chain.nil ?_
  refine Ends.then ?_
  refine Cod.ret ?_
  obtain rfl := some_eq h
  exact Ends.ret1 (.inl rfl) Try.results50 (ResOK.tmp rfl trivial Imp.refl)

theorem ref_LengthOf_ok {l1 : (List Point)} {r : Int}  (h : ref_LengthOf l1 = some r) : FSpec Try.prog 15 [rep l1] (rep r) := by
  unfold ref_LengthOf at h
  refine FSpec.intro (n := 24) fnok15 Try.func15 rfl Try.ntmps15 rfl (fun F => ?_)
  refine Cod.seq ?_
  refine Cod.region [] mixed (by kernel_rfl) ?_
  refine Chain.cons (StepOK.assign .none (.int (by decide))) rfl ?_
  refine Chain.nil ?_
  refine Ends.then ?_
  refine Cod.seq ?_
  refine Cod.region [] mixed (by kernel_rfl) ?_
  refine Chain.cons (StepOK.assign .none (.int (by decide))) rfl ?_
  refine Chain.nil ?_
  refine Ends.then ?_
  refine Cod.seq ?_
  refine Cod.seq ?_
  refine Cod.region [] mixed (by kernel_rfl) ?_
  refine Chain.cons (StepOK.assign .none (.int (by decide))) rfl ?_
  refine Chain.nil ?_
  refine Ends.then ?_
  obtain ⟨j_1, h, hK1⟩ := bind_some h
  refine Cod.thenJ (ι := Int) (fun j_1 => [(3, ⟨True, rep j_1⟩)]) (fun j_1 => []) (fun s => j_1 = s) Sub.nil SubB.nil ?_ (fun j_1' hj1 => ?_)
  · skip
    refine Cod.block ?_
    refine Cod.loopL h (fun s2_ => [(3, ⟨True, rep s2_.1⟩), (4, ⟨True, rep s2_.2⟩)]) (fun s2_ => []) (.cons (t := 3) rfl (.cons (t := 4) rfl Sub.nil)) SubB.nil (.cons (t := 0) rfl Sub.nil) SubB.nil (fun s2_ o_2 h hD2 => ?_)
    unfold ref_LengthOf_L1 at h
    refine Cod.seq ?_
    refine Cod.seq ?_
    refine Cod.region [] mixed (by kernel_rfl) ?_
    refine Chain.cons (StepOK.move .none (.tmp rfl (fun _ => trivial))) rfl ?_
    refine Chain.cons (StepOK.move .none (.tmp rfl (fun _ => trivial))) rfl ?_
    refine Chain.cons (StepOK.len .none sl22 (.tmp rfl (fun _ => trivial))) rfl ?_
    refine Chain.cons (StepOK.lt .none (.tmp rfl (fun _ => trivial)) (.tmp rfl (fun _ => trivial))) rfl ?_
    refine Chain.nil ?_
    refine Ends.then ?_
    refine Cod.cond (t := 8) rfl trivial (fun hb3 => ?_) (fun hb3 => ?_)
    · replace h := bif_t h hb3
      refine Cod.skip ?_
      refine Ends.then ?_
      refine Cod.seq ?_
      refine Cod.block ?_
      refine Cod.region [] mixed (by kernel_rfl) ?_
      refine Chain.cons (StepOK.move .none (.tmp rfl (fun _ => trivial))) rfl ?_
      refine Chain.cons (StepOK.move .none (.tmp rfl (fun _ => trivial))) rfl ?_
      refine Chain.cons (StepOK.move .none (.tmp rfl (fun _ => trivial))) rfl ?_
      refine Chain.cons (StepOK.subW .none (.tmp rfl (fun _ => trivial)) (.int (by decide))) rfl ?_
      obtain ⟨hn4, h⟩ := need_some h
      refine Chain.cons (StepOK.indexAddr .none sl22 ty53 (.tmp rfl (fun _ => trivial)) (.tmp rfl (fun _ => trivial)) (fun _ => hn4)) rfl ?_
      refine Chain.cons (StepOK.load .none ty53 (.tmp rfl (fun _ => trivial))) rfl ?_
      refine Chain.cons (StepOK.move .none (.tmp rfl (fun _ => trivial))) rfl ?_
      refine Chain.cons (StepOK.move .none (.tmp rfl (fun _ => trivial))) rfl ?_
      obtain ⟨hn5, h⟩ := need_some h
      refine Chain.cons (StepOK.indexAddr .none sl22 ty53 (.tmp rfl (fun _ => trivial)) (.tmp rfl (fun _ => trivial)) (fun _ => hn5)) rfl ?_
      refine Chain.cons (StepOK.load .none ty53 (.tmp rfl (fun _ => trivial))) rfl ?_
      obtain ⟨r1, hv6, h⟩ := bind_some h
      refine Chain.cons (StepOK.call .none (ref_Far_ok hv6) (.cons (.tmp rfl (fun _ => trivial)) (.cons (.tmp rfl (fun _ => trivial)) .nil))) rfl ?_
      refine Chain.cons (StepOK.addW .none (.tmp rfl (fun _ => trivial)) (.tmp rfl (fun _ => trivial))) rfl ?_
      obtain ⟨n1, hv7, h⟩ := bnd_some h
      refine Chain.cons (StepOK.re hv7 (StepOK.assign .none (.tmp rfl (fun _ => trivial)))) rfl ?_
      refine Chain.nil ?_
      refine Ends.blkNormal ?_
      refine Ends.then ?_
      refine Cod.region [] mixed (by kernel_rfl) ?_
      refine Chain.cons (StepOK.move .none (.tmp rfl (fun _ => trivial))) rfl ?_
      refine Chain.cons (StepOK.addW .none (.tmp rfl (fun _ => trivial)) (.int (by decide))) rfl ?_
      obtain ⟨i1, hv8, h⟩ := bnd_some h
      refine Chain.cons (StepOK.re hv8 (StepOK.assign .none (.tmp rfl (fun _ => trivial)))) rfl ?_
      refine Chain.nil ?_
      exact Ends.againL (some_eq h) (.cons (t := 3) rfl (.cons (t := 4) rfl (.cons (t := 0) rfl Sub.nil))) SubB.nil
    · replace h := bif_f h hb3
      refine Cod.exit ?_
      refine Ends.thenExit ?_
      refine Ends.thenExit ?_
      refine Ends.blkExit ?_
      replace h := hD2 _ (some_eq h)
      exact Ends.join _ (some_eq h) (.cons (t := 3) rfl Sub.nil) SubB.nil
  · subst hj1; have h := hK1; clear hK1
    refine Cod.seq ?_
    refine Cod.region [] mixed (by kernel_rfl) ?_
    refine Chain.cons (StepOK.move .none (.tmp rfl (fun _ => trivial))) rfl ?_
    refine Chain.cons (StepOK.assign .none (.tmp rfl (fun _ => trivial))) rfl ?_
    refine Chain.nil ?_
    refine Ends.then ?_
    refine Cod.ret ?_
    obtain rfl := some_eq h
    exact Ends.ret1 (.inl rfl) Try.results15 (ResOK.tmp rfl trivial Imp.refl)

theorem ref_Sign_ok {n1 : Int} {r : Int}  (h : ref_Sign n1 = some r) : FSpec Try.prog 104 [rep n1] (rep r) := by
  unfold ref_Sign at h
  refine FSpec.intro (n := 6) fnok104 Try.func104 rfl Try.ntmps104 rfl (fun F => ?_)
  refine Cod.seq ?_
  refine Cod.region [] mixed (by kernel_rfl) ?_
  refine Chain.cons (StepOK.assign .none (.int (by decide))) rfl ?_
  refine Chain.nil ?_
  refine Ends.then ?_
  refine Cod.seq ?_
  refine Cod.region [] mixed (by kernel_rfl) ?_
  refine Chain.cons (StepOK.move .none (.tmp rfl (fun _ => trivial))) rfl ?_
  refine Chain.cons (StepOK.max2 .none (.tmp rfl (fun _ => trivial)) (.int (by decide))) rfl ?_
  refine Chain.cons (StepOK.min2 .none (.tmp rfl (fun _ => trivial)) (.int (by decide))) rfl ?_
  refine Chain.cons (StepOK.assign .none (.tmp rfl (fun _ => trivial))) rfl ?_
  refine Chain.nil ?_
  refine Ends.then ?_
  refine Cod.ret ?_
  obtain rfl := some_eq h
  exact Ends.ret1 (.inl rfl) Try.results104 (ResOK.tmp rfl trivial Imp.refl)

theorem ref_way_ok {a1 : Point} {b1 : Point} {r : Point}  (h : ref_way a1 b1 = some r) : FSpec Try.prog 76 [rep a1, rep b1] (rep r) := by
  unfold ref_way at h
  refine FSpec.intro (n := 18) fnok76 Try.func76 rfl Try.ntmps76 rfl (fun F => ?_)
  refine Cod.seq ?_
  refine Cod.region [([], []), ([], []), ([], [4])] mixed (by kernel_rfl) ?_
  refine Chain.consA (StepOK.box .none (.tmp rfl (fun _ => trivial))) rfl ?_
  refine Chain.consA (StepOK.box .none (.tmp rfl (fun _ => trivial))) rfl ?_
  refine Chain.consW (StepOK.alloc zo53 rfl) rfl rfl ?_
  refine Chain.nil ?_
  refine Ends.then ?_
  obtain ⟨v1, hv1, h⟩ := bnd_some h
  refine Cod.reB (t := 4) rfl (congrArg (cont 53) hv1) ?_
  refine Cod.nameBox (t := 4) (g := 5001) rfl rfl (fun m5001 => ?_)
  refine Cod.seq ?_
  refine Cod.region [([], []), ([], []), ([], []), ([], []), ([], []), ([], []), ([], []), ([], []), ([], []), ([], []), ([], []), ([], []), ([], []), ([5001], [5001])] mixed (by kernel_rfl) ?_
  refine Chain.consA (StepOK.fieldAddr .none fd53_0 hfd53_0 (.tmp rfl (fun _ => trivial))) rfl ?_
  refine Chain.consA (StepOK.load .none ty3 (.tmp rfl (fun _ => trivial))) rfl ?_
  refine Chain.consA (StepOK.fieldAddr .none fd53_0 hfd53_0 (.tmp rfl (fun _ => trivial))) rfl ?_
  refine Chain.consA (StepOK.load .none ty3 (.tmp rfl (fun _ => trivial))) rfl ?_
  refine Chain.consA (StepOK.subW .none (.tmp rfl (fun _ => trivial)) (.tmp rfl (fun _ => trivial))) rfl ?_
  obtain ⟨r1, hv2, h⟩ := bind_some h
  refine Chain.consA (StepOK.call .none (ref_Sign_ok hv2) (.cons (.tmp rfl (fun _ => trivial)) .nil)) rfl ?_
  refine Chain.consA (StepOK.fieldAddr .none fd53_1 hfd53_1 (.tmp rfl (fun _ => trivial))) rfl ?_
  refine Chain.consA (StepOK.load .none ty3 (.tmp rfl (fun _ => trivial))) rfl ?_
  refine Chain.consA (StepOK.fieldAddr .none fd53_1 hfd53_1 (.tmp rfl (fun _ => trivial))) rfl ?_
  refine Chain.consA (StepOK.load .none ty3 (.tmp rfl (fun _ => trivial))) rfl ?_
  refine Chain.consA (StepOK.subW .none (.tmp rfl (fun _ => trivial)) (.tmp rfl (fun _ => trivial))) rfl ?_
  obtain ⟨r2, hv3, h⟩ := bind_some h
  refine Chain.consA (StepOK.call .none (ref_Sign_ok hv3) (.cons (.tmp rfl (fun _ => trivial)) .nil)) rfl ?_
  obtain ⟨v2, hv4, h⟩ := bnd_some h
  refine Chain.consA (StepOK.re hv4 (StepOK.buildF (y := (⟨r1, r2⟩ : Point)) .none bu53 zc53 rfl (.cons (.tmp rfl (fun _ => trivial)) (.cons (.tmp rfl (fun _ => trivial)) .nil)) (.cons rfl sf53_0 (.cons rfl sf53_1 .nil)))) rfl ?_
  refine Chain.consN (StepOK.storeAt0 (g := 5001) ty53 rfl (.tmp rfl (fun _ => trivial)) (.tmp rfl (fun _ => trivial))) rfl ?_
  refine Chain.nil ?_
  refine Ends.then ?_
  refine Cod.freezeBox (g := 5001) (ts := [4]) rfl (.cons (t := 4) rfl trivial .nil) SubB.nil rfl ?_
  refine Cod.ret ?_
  obtain rfl := some_eq h
  exact Ends.ret1 (.inl rfl) Try.results76 (ResOK.cellR ty53 rfl trivial Imp.refl)


end Go.Proofs.Ytegjicmejjfgfaa
