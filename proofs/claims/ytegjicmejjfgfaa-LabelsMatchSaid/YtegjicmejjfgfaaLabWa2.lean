/-
  The walks: what a function computes is what its plain function says (printed by a program of one's own).
-/
import Derived.Test.YtegjicmejjfgfaaLabWa1
set_option maxRecDepth 100000
set_option linter.unusedSimpArgs false
set_option linter.unusedVariables false
namespace Go.Proofs.Ytegjicmejjfgfaa
open Go Go.DB Go.RowKit

theorem ref_AtOf_ok {l1 : (List Point)} {d1 : Int} {r : Point}  (h : ref_AtOf l1 d1 = some r) : FSpec Try.prog 51 [rep l1, rep d1] (rep r) := by
  unfold ref_AtOf at h
  refine FSpec.intro (n := 69) fnok51 Try.func51 rfl Try.ntmps51 rfl (fun F => ?_)
  refine Cod.seq ?_
  refine Cod.region [([], [4])] mixed (by kernel_rfl) ?_
  refine Chain.consW (StepOK.alloc zo53 rfl) rfl rfl ?_
  refine Chain.nil ?_
  refine Ends.then ?_
  obtain ⟨v1, hv1, h⟩ := bnd_some h
  refine Cod.reB (t := 4) rfl (congrArg (cont 53) hv1) ?_
  refine Cod.nameBox (t := 4) (g := 5001) rfl rfl (fun m5001 => ?_)
  refine Cod.seq ?_
  refine Cod.seq ?_
  refine Cod.region [] mixed (by kernel_rfl) ?_
  refine Chain.cons (StepOK.assign .none (.int (by decide))) rfl ?_
  refine Chain.nil ?_
  refine Ends.then ?_
  obtain ⟨o_2, h, hK2⟩ := bindR_some h
  refine Cod.thenJ (ι := Unit) (fun j_2 => []) (fun j_2 => []) (fun s => o_2 = Res.nx s) (.cons (t := 0) rfl (.cons (t := 4) rfl Sub.nil)) (.cons (t := 5001) rfl SubB.nil) ?_ (fun j_2 hj2 => ?_)
  · skip
    refine Cod.block ?_
    refine Cod.loopL h (fun s3_ => [(1, ⟨True, rep s3_.1⟩), (5, ⟨True, rep s3_.2⟩)]) (fun s3_ => []) (.cons (t := 1) rfl (.cons (t := 5) rfl Sub.nil)) SubB.nil (.cons (t := 0) rfl (.cons (t := 4) rfl Sub.nil)) (.cons (t := 5001) rfl SubB.nil) (fun s3_ o_3 h hD3 => ?_)
    unfold ref_AtOf_L1 at h
    refine Cod.seq ?_
    refine Cod.seq ?_
    refine Cod.region [] mixed (by kernel_rfl) ?_
    refine Chain.cons (StepOK.move .none (.tmp rfl (fun _ => trivial))) rfl ?_
    refine Chain.cons (StepOK.move .none (.tmp rfl (fun _ => trivial))) rfl ?_
    refine Chain.cons (StepOK.len .none sl22 (.tmp rfl (fun _ => trivial))) rfl ?_
    refine Chain.cons (StepOK.lt .none (.tmp rfl (fun _ => trivial)) (.tmp rfl (fun _ => trivial))) rfl ?_
    refine Chain.nil ?_
    refine Ends.then ?_
    refine Cod.cond (t := 11) rfl trivial (fun hb4 => ?_) (fun hb4 => ?_)
    · replace h := bif_t h hb4
      refine Cod.skip ?_
      refine Ends.then ?_
      refine Cod.seq ?_
      refine Cod.block ?_
      refine Cod.seq ?_
      refine Cod.region [] mixed (by kernel_rfl) ?_
      refine Chain.cons (StepOK.move .none (.tmp rfl (fun _ => trivial))) rfl ?_
      refine Chain.cons (StepOK.move .none (.tmp rfl (fun _ => trivial))) rfl ?_
      refine Chain.cons (StepOK.subW .none (.tmp rfl (fun _ => trivial)) (.int (by decide))) rfl ?_
      obtain ⟨hn5, h⟩ := need_some h
      refine Chain.cons (StepOK.indexAddr .none sl22 ty53 (.tmp rfl (fun _ => trivial)) (.tmp rfl (fun _ => trivial)) (fun _ => hn5)) rfl ?_
      refine Chain.cons (StepOK.load .none ty53 (.tmp rfl (fun _ => trivial))) rfl ?_
      refine Chain.cons (StepOK.move .none (.tmp rfl (fun _ => trivial))) rfl ?_
      refine Chain.cons (StepOK.move .none (.tmp rfl (fun _ => trivial))) rfl ?_
      obtain ⟨hn6, h⟩ := need_some h
      refine Chain.cons (StepOK.indexAddr .none sl22 ty53 (.tmp rfl (fun _ => trivial)) (.tmp rfl (fun _ => trivial)) (fun _ => hn6)) rfl ?_
      refine Chain.cons (StepOK.load .none ty53 (.tmp rfl (fun _ => trivial))) rfl ?_
      obtain ⟨n1, hv7, h⟩ := bind_some h
      refine Chain.cons (StepOK.call .none (ref_Far_ok hv7) (.cons (.tmp rfl (fun _ => trivial)) (.cons (.tmp rfl (fun _ => trivial)) .nil))) rfl ?_
      refine Chain.cons (StepOK.assign .none (.tmp rfl (fun _ => trivial))) rfl ?_
      refine Chain.nil ?_
      refine Ends.then ?_
      refine Cod.seq ?_
      refine Cod.seq ?_
      refine Cod.region [] mixed (by kernel_rfl) ?_
      refine Chain.cons (StepOK.move .none (.tmp rfl (fun _ => trivial))) rfl ?_
      refine Chain.cons (StepOK.move .none (.tmp rfl (fun _ => trivial))) rfl ?_
      refine Chain.cons (StepOK.le .none (.tmp rfl (fun _ => trivial)) (.tmp rfl (fun _ => trivial))) rfl ?_
      refine Chain.nil ?_
      refine Ends.then ?_
      refine Cod.cond (t := 26) rfl trivial (fun hb8 => ?_) (fun hb8 => ?_)
      · replace h := bif_t h hb8
        refine Cod.seq ?_
        refine Cod.region [([], []), ([], []), ([], []), ([], []), ([], []), ([], []), ([], []), ([], []), ([], []), ([], []), ([], [7]), ([7], [7])] mixed (by kernel_rfl) ?_
        refine Chain.consA (StepOK.move .none (.tmp rfl (fun _ => trivial))) rfl ?_
        refine Chain.consA (StepOK.move .none (.tmp rfl (fun _ => trivial))) rfl ?_
        refine Chain.consA (StepOK.subW .none (.tmp rfl (fun _ => trivial)) (.int (by decide))) rfl ?_
        obtain ⟨hn9, h⟩ := need_some h
        refine Chain.consA (StepOK.indexAddr .none sl22 ty53 (.tmp rfl (fun _ => trivial)) (.tmp rfl (fun _ => trivial)) (fun _ => hn9)) rfl ?_
        refine Chain.consA (StepOK.load .none ty53 (.tmp rfl (fun _ => trivial))) rfl ?_
        refine Chain.consA (StepOK.move .none (.tmp rfl (fun _ => trivial))) rfl ?_
        refine Chain.consA (StepOK.move .none (.tmp rfl (fun _ => trivial))) rfl ?_
        obtain ⟨hn10, h⟩ := need_some h
        refine Chain.consA (StepOK.indexAddr .none sl22 ty53 (.tmp rfl (fun _ => trivial)) (.tmp rfl (fun _ => trivial)) (fun _ => hn10)) rfl ?_
        refine Chain.consA (StepOK.load .none ty53 (.tmp rfl (fun _ => trivial))) rfl ?_
        obtain ⟨r1, hv11, h⟩ := bind_some h
        refine Chain.consA (StepOK.call .none (ref_way_ok hv11) (.cons (.tmp rfl (fun _ => trivial)) (.cons (.tmp rfl (fun _ => trivial)) .nil))) rfl ?_
        refine Chain.consW (StepOK.alloc zo53 rfl) rfl rfl ?_
        refine Chain.consN (StepOK.store ty53 rfl rfl (.tmp rfl (fun _ => trivial))) rfl ?_
        refine Chain.nil ?_
        refine Ends.then ?_
        refine Cod.freeze (t := 7) rfl rfl (.cons (t := 5001) rfl SubB.nil) rfl ?_
        refine Cod.seq ?_
        refine Cod.region [([], []), ([], []), ([], []), ([], []), ([], []), ([], []), ([], []), ([], []), ([], []), ([], []), ([], []), ([], []), ([], []), ([], []), ([], []), ([], []), ([], []), ([], []), ([], []), ([], []), ([], []), ([], []), ([], []), ([5001], [5001])] mixed (by kernel_rfl) ?_
        refine Chain.consA (StepOK.move .none (.tmp rfl (fun _ => trivial))) rfl ?_
        refine Chain.consA (StepOK.move .none (.tmp rfl (fun _ => trivial))) rfl ?_
        refine Chain.consA (StepOK.subW .none (.tmp rfl (fun _ => trivial)) (.int (by decide))) rfl ?_
        obtain ⟨hn12, h⟩ := need_some h
        refine Chain.consA (StepOK.indexAddr .none sl22 ty53 (.tmp rfl (fun _ => trivial)) (.tmp rfl (fun _ => trivial)) (fun _ => hn12)) rfl ?_
        refine Chain.consA (StepOK.fieldAddr .none fd53_0 hfd53_0 (.tmp rfl (fun _ => trivial))) rfl ?_
        refine Chain.consA (StepOK.load .none ty3 (.tmp rfl (fun _ => trivial))) rfl ?_
        refine Chain.consA (StepOK.move .none (.tmp rfl (fun _ => trivial))) rfl ?_
        refine Chain.consA (StepOK.fieldAddr .none fd53_0 hfd53_0 (.tmp rfl (fun _ => trivial))) rfl ?_
        refine Chain.consA (StepOK.load .none ty3 (.tmp rfl (fun _ => trivial))) rfl ?_
        refine Chain.consA (StepOK.mulW .none (.tmp rfl (fun _ => trivial)) (.tmp rfl (fun _ => trivial))) rfl ?_
        refine Chain.consA (StepOK.addW .none (.tmp rfl (fun _ => trivial)) (.tmp rfl (fun _ => trivial))) rfl ?_
        refine Chain.consA (StepOK.move .none (.tmp rfl (fun _ => trivial))) rfl ?_
        refine Chain.consA (StepOK.move .none (.tmp rfl (fun _ => trivial))) rfl ?_
        refine Chain.consA (StepOK.subW .none (.tmp rfl (fun _ => trivial)) (.int (by decide))) rfl ?_
        obtain ⟨hn13, h⟩ := need_some h
        refine Chain.consA (StepOK.indexAddr .none sl22 ty53 (.tmp rfl (fun _ => trivial)) (.tmp rfl (fun _ => trivial)) (fun _ => hn13)) rfl ?_
        refine Chain.consA (StepOK.fieldAddr .none fd53_1 hfd53_1 (.tmp rfl (fun _ => trivial))) rfl ?_
        refine Chain.consA (StepOK.load .none ty3 (.tmp rfl (fun _ => trivial))) rfl ?_
        refine Chain.consA (StepOK.move .none (.tmp rfl (fun _ => trivial))) rfl ?_
        refine Chain.consA (StepOK.fieldAddr .none fd53_1 hfd53_1 (.tmp rfl (fun _ => trivial))) rfl ?_
        refine Chain.consA (StepOK.load .none ty3 (.tmp rfl (fun _ => trivial))) rfl ?_
        refine Chain.consA (StepOK.mulW .none (.tmp rfl (fun _ => trivial)) (.tmp rfl (fun _ => trivial))) rfl ?_
        refine Chain.consA (StepOK.addW .none (.tmp rfl (fun _ => trivial)) (.tmp rfl (fun _ => trivial))) rfl ?_
        obtain ⟨v2, hv14, h⟩ := bnd_some h
        refine Chain.consA (StepOK.re hv14 (StepOK.buildF (y := (⟨W (((gx l1 (W (s3_.2 - 1))).X) + (W (s3_.1 * r1.X))), W (((gx l1 (W (s3_.2 - 1))).Y) + (W (s3_.1 * r1.Y)))⟩ : Point)) .none bu53 zc53 rfl (.cons (.tmp rfl (fun _ => trivial)) (.cons (.tmp rfl (fun _ => trivial)) .nil)) (.cons rfl sf53_0 (.cons rfl sf53_1 .nil)))) rfl ?_
        refine Chain.consN (StepOK.storeAt0 (g := 5001) ty53 rfl (.tmp rfl (fun _ => trivial)) (.tmp rfl (fun _ => trivial))) rfl ?_
        refine Chain.nil ?_
        refine Ends.then ?_
        refine Cod.freezeBox (g := 5001) (ts := [4]) rfl (.cons (t := 4) rfl trivial .nil) SubB.nil rfl ?_
        refine Cod.ret ?_
        refine Ends.thenRet ?_
        refine Ends.blkRet ?_
        refine Ends.thenRet ?_
        refine Ends.thenRet ?_
        refine Ends.blkRet ?_
        refine Ends.thenRet ?_
        replace h := hD3 _ (some_eq h)
        replace h := resb_ab hK2 (some_eq h)
        obtain rfl := some_eq h
        exact Ends.ret1 (.inl rfl) Try.results51 (ResOK.cellR ty53 rfl trivial Imp.refl)
      · replace h := bif_f h hb8
        refine Cod.skip ?_
        refine Ends.then ?_
        refine Cod.region [] mixed (by kernel_rfl) ?_
        refine Chain.cons (StepOK.move .none (.tmp rfl (fun _ => trivial))) rfl ?_
        refine Chain.cons (StepOK.move .none (.tmp rfl (fun _ => trivial))) rfl ?_
        refine Chain.cons (StepOK.subW .none (.tmp rfl (fun _ => trivial)) (.tmp rfl (fun _ => trivial))) rfl ?_
        obtain ⟨d2, hv15, h⟩ := bnd_some h
        refine Chain.cons (StepOK.re hv15 (StepOK.assign .none (.tmp rfl (fun _ => trivial)))) rfl ?_
        refine Chain.nil ?_
        refine Ends.blkNormal ?_
        refine Ends.then ?_
        refine Cod.region [] mixed (by kernel_rfl) ?_
        refine Chain.cons (StepOK.move .none (.tmp rfl (fun _ => trivial))) rfl ?_
        refine Chain.cons (StepOK.addW .none (.tmp rfl (fun _ => trivial)) (.int (by decide))) rfl ?_
        obtain ⟨i1, hv16, h⟩ := bnd_some h
        refine Chain.cons (StepOK.re hv16 (StepOK.assign .none (.tmp rfl (fun _ => trivial)))) rfl ?_
        refine Chain.nil ?_
        exact Ends.againL (some_eq h) (.cons (t := 1) rfl (.cons (t := 5) rfl (.cons (t := 0) rfl (.cons (t := 4) rfl Sub.nil)))) (.cons (t := 5001) rfl SubB.nil)
    · replace h := bif_f h hb4
      refine Cod.exit ?_
      refine Ends.thenExit ?_
      refine Ends.thenExit ?_
      refine Ends.blkExit ?_
      replace h := hD3 _ (some_eq h)
      exact Ends.join _ (some_eq h) (.cons (t := 0) rfl (.cons (t := 4) rfl Sub.nil)) (.cons (t := 5001) rfl SubB.nil)
  · have h := resb_nx hK2 hj2
    refine Cod.seq ?_
    refine Cod.region [([], []), ([], []), ([], []), ([], []), ([], []), ([], []), ([5001], [5001])] mixed (by kernel_rfl) ?_
    refine Chain.consA (StepOK.move .none (.tmp rfl (fun _ => trivial))) rfl ?_
    refine Chain.consA (StepOK.move .none (.tmp rfl (fun _ => trivial))) rfl ?_
    refine Chain.consA (StepOK.len .none sl22 (.tmp rfl (fun _ => trivial))) rfl ?_
    refine Chain.consA (StepOK.subW .none (.tmp rfl (fun _ => trivial)) (.int (by decide))) rfl ?_
    obtain ⟨hn17, h⟩ := need_some h
    refine Chain.consA (StepOK.indexAddr .none sl22 ty53 (.tmp rfl (fun _ => trivial)) (.tmp rfl (fun _ => trivial)) (fun _ => hn17)) rfl ?_
    obtain ⟨v3, hv18, h⟩ := bnd_some h
    refine Chain.consA (StepOK.re hv18 (StepOK.load .none ty53 (.tmp rfl (fun _ => trivial)))) rfl ?_
    refine Chain.consN (StepOK.storeAt0 (g := 5001) ty53 rfl (.tmp rfl (fun _ => trivial)) (.tmp rfl (fun _ => trivial))) rfl ?_
    refine Chain.nil ?_
    refine Ends.then ?_
    refine Cod.freezeBox (g := 5001) (ts := [4]) rfl (.cons (t := 4) rfl trivial .nil) SubB.nil rfl ?_
    refine Cod.ret ?_
    obtain rfl := some_eq h
    exact Ends.ret1 (.inl rfl) Try.results51 (ResOK.cellR ty53 rfl trivial Imp.refl)

theorem ref_Down_ok {a1 : Int} {b1 : Int} {r : Int}  (h : ref_Down a1 b1 = some r) : FSpec Try.prog 52 [rep a1, rep b1] (rep r) := by
  unfold ref_Down at h
  refine FSpec.intro (n := 17) fnok52 Try.func52 rfl Try.ntmps52 rfl (fun F => ?_)
  refine Cod.seq ?_
  refine Cod.region [] mixed (by kernel_rfl) ?_
  refine Chain.cons (StepOK.assign .none (.int (by decide))) rfl ?_
  refine Chain.nil ?_
  refine Ends.then ?_
  refine Cod.seq ?_
  refine Cod.region [] mixed (by kernel_rfl) ?_
  refine Chain.cons (StepOK.move .none (.tmp rfl (fun _ => trivial))) rfl ?_
  refine Chain.cons (StepOK.move .none (.tmp rfl (fun _ => trivial))) rfl ?_
  obtain ⟨hn1, h⟩ := need_some h
  refine Chain.cons (StepOK.quo .none (.tmp rfl (fun _ => trivial)) (.tmp rfl (fun _ => trivial)) (fun _ => hn1)) rfl ?_
  obtain ⟨q1, hv2, h⟩ := bnd_some h
  refine Chain.cons (StepOK.re hv2 (StepOK.assign .none (.tmp rfl (fun _ => trivial)))) rfl ?_
  refine Chain.nil ?_
  refine Ends.then ?_
  refine Cod.seq ?_
  refine Cod.seq ?_
  refine Cod.region [] mixed (by kernel_rfl) ?_
  refine Chain.cons (StepOK.move .none (.tmp rfl (fun _ => trivial))) rfl ?_
  refine Chain.cons (StepOK.move .none (.tmp rfl (fun _ => trivial))) rfl ?_
  refine Chain.cons (StepOK.mulW .none (.tmp rfl (fun _ => trivial)) (.tmp rfl (fun _ => trivial))) rfl ?_
  refine Chain.cons (StepOK.move .none (.tmp rfl (fun _ => trivial))) rfl ?_
  refine Chain.cons (StepOK.gt .none (.tmp rfl (fun _ => trivial)) (.tmp rfl (fun _ => trivial))) rfl ?_
  refine Chain.nil ?_
  refine Ends.then ?_
  obtain ⟨j_3, h, hK3⟩ := bind_some h
  refine Cod.thenJ (ι := Int) (fun j_3 => [(5, ⟨True, rep j_3⟩)]) (fun j_3 => []) (fun s => j_3 = s) Sub.nil SubB.nil ?_ (fun j_3' hj3 => ?_)
  · skip
    refine Cod.cond (t := 13) rfl trivial (fun hb4 => ?_) (fun hb4 => ?_)
    · replace h := bif_t h hb4
      refine Cod.region [] mixed (by kernel_rfl) ?_
      refine Chain.cons (StepOK.move .none (.tmp rfl (fun _ => trivial))) rfl ?_
      refine Chain.cons (StepOK.subW .none (.tmp rfl (fun _ => trivial)) (.int (by decide))) rfl ?_
      obtain ⟨q2, hv5, h⟩ := bnd_some h
      refine Chain.cons (StepOK.re hv5 (StepOK.assign .none (.tmp rfl (fun _ => trivial)))) rfl ?_
      refine Chain.nil ?_
      exact Ends.join _ (some_eq h) (.cons (t := 5) rfl Sub.nil) SubB.nil
    · replace h := bif_f h hb4
      refine Cod.skip ?_
      exact Ends.join _ (some_eq h) (.cons (t := 5) rfl Sub.nil) SubB.nil
  · subst hj3; have h := hK3; clear hK3
    refine Cod.seq ?_
    refine Cod.region [] mixed (by kernel_rfl) ?_
    refine Chain.cons (StepOK.move .none (.tmp rfl (fun _ => trivial))) rfl ?_
    refine Chain.cons (StepOK.assign .none (.tmp rfl (fun _ => trivial))) rfl ?_
    refine Chain.nil ?_
    refine Ends.then ?_
    refine Cod.ret ?_
    obtain rfl := some_eq h
    exact Ends.ret1 (.inl rfl) Try.results52 (ResOK.tmp rfl trivial Imp.refl)

theorem ref_CommonOf_ok {a1 : Box} {b1 : Box} {r : (Box × Bool)}  (h : ref_CommonOf a1 b1 = some r) : FSpec Try.prog 55 [rep a1, rep b1] (tup [rep r.1, rep r.2]) := by
  unfold ref_CommonOf at h
  refine FSpec.intro (n := 58) fnok55 Try.func55 rfl Try.ntmps55 rfl (fun F => ?_)
  refine Cod.seq ?_
  refine Cod.region [([], []), ([], []), ([], [4]), ([], [])] mixed (by kernel_rfl) ?_
  refine Chain.consA (StepOK.box .none (.tmp rfl (fun _ => trivial))) rfl ?_
  refine Chain.consA (StepOK.box .none (.tmp rfl (fun _ => trivial))) rfl ?_
  refine Chain.consW (StepOK.alloc zo25 rfl) rfl rfl ?_
  refine Chain.consA (StepOK.assign .none .bool) rfl ?_
  refine Chain.nil ?_
  refine Ends.then ?_
  obtain ⟨v1, hv1, h⟩ := bnd_some h
  refine Cod.reB (t := 4) rfl (congrArg (cont 25) hv1) ?_
  refine Cod.nameBox (t := 4) (g := 5001) rfl rfl (fun m5001 => ?_)
  refine Cod.seq ?_
  refine Cod.region [] mixed (by kernel_rfl) ?_
  refine Chain.cons (StepOK.fieldAddr .none fd25_0 hfd25_0 (.tmp rfl (fun _ => trivial))) rfl ?_
  refine Chain.cons (StepOK.load .none ty3 (.tmp rfl (fun _ => trivial))) rfl ?_
  refine Chain.cons (StepOK.fieldAddr .none fd25_0 hfd25_0 (.tmp rfl (fun _ => trivial))) rfl ?_
  refine Chain.cons (StepOK.load .none ty3 (.tmp rfl (fun _ => trivial))) rfl ?_
  refine Chain.cons (StepOK.max2 .none (.tmp rfl (fun _ => trivial)) (.tmp rfl (fun _ => trivial))) rfl ?_
  refine Chain.cons (StepOK.fieldAddr .none fd25_1 hfd25_1 (.tmp rfl (fun _ => trivial))) rfl ?_
  refine Chain.cons (StepOK.load .none ty3 (.tmp rfl (fun _ => trivial))) rfl ?_
  refine Chain.cons (StepOK.fieldAddr .none fd25_1 hfd25_1 (.tmp rfl (fun _ => trivial))) rfl ?_
  refine Chain.cons (StepOK.load .none ty3 (.tmp rfl (fun _ => trivial))) rfl ?_
  refine Chain.cons (StepOK.max2 .none (.tmp rfl (fun _ => trivial)) (.tmp rfl (fun _ => trivial))) rfl ?_
  obtain ⟨x1, hv2, h⟩ := bnd_some h
  refine Chain.cons (StepOK.re hv2 (StepOK.assign .none (.tmp rfl (fun _ => trivial)))) rfl ?_
  obtain ⟨y1, hv3, h⟩ := bnd_some h
  refine Chain.cons (StepOK.re hv3 (StepOK.assign .none (.tmp rfl (fun _ => trivial)))) rfl ?_
  refine Chain.nil ?_
  refine Ends.then ?_
  refine Cod.seq ?_
  refine Cod.region [([], []), ([], []), ([], []), ([], []), ([], []), ([], []), ([], []), ([], []), ([], []), ([], []), ([], []), ([], []), ([], []), ([], []), ([], []), ([], []), ([], []), ([], []), ([], []), ([], []), ([], []), ([], []), ([], []), ([], []), ([], []), ([], []), ([], []), ([], []), ([], []), ([], [8]), ([8], [8])] mixed (by kernel_rfl) ?_
  refine Chain.consA (StepOK.move .none (.tmp rfl (fun _ => trivial))) rfl ?_
  refine Chain.consA (StepOK.move .none (.tmp rfl (fun _ => trivial))) rfl ?_
  refine Chain.consA (StepOK.fieldAddr .none fd25_0 hfd25_0 (.tmp rfl (fun _ => trivial))) rfl ?_
  refine Chain.consA (StepOK.load .none ty3 (.tmp rfl (fun _ => trivial))) rfl ?_
  refine Chain.consA (StepOK.fieldAddr .none fd25_2 hfd25_2 (.tmp rfl (fun _ => trivial))) rfl ?_
  refine Chain.consA (StepOK.load .none ty3 (.tmp rfl (fun _ => trivial))) rfl ?_
  refine Chain.consA (StepOK.addW .none (.tmp rfl (fun _ => trivial)) (.tmp rfl (fun _ => trivial))) rfl ?_
  refine Chain.consA (StepOK.fieldAddr .none fd25_0 hfd25_0 (.tmp rfl (fun _ => trivial))) rfl ?_
  refine Chain.consA (StepOK.load .none ty3 (.tmp rfl (fun _ => trivial))) rfl ?_
  refine Chain.consA (StepOK.fieldAddr .none fd25_2 hfd25_2 (.tmp rfl (fun _ => trivial))) rfl ?_
  refine Chain.consA (StepOK.load .none ty3 (.tmp rfl (fun _ => trivial))) rfl ?_
  refine Chain.consA (StepOK.addW .none (.tmp rfl (fun _ => trivial)) (.tmp rfl (fun _ => trivial))) rfl ?_
  refine Chain.consA (StepOK.min2 .none (.tmp rfl (fun _ => trivial)) (.tmp rfl (fun _ => trivial))) rfl ?_
  refine Chain.consA (StepOK.move .none (.tmp rfl (fun _ => trivial))) rfl ?_
  refine Chain.consA (StepOK.subW .none (.tmp rfl (fun _ => trivial)) (.tmp rfl (fun _ => trivial))) rfl ?_
  refine Chain.consA (StepOK.fieldAddr .none fd25_1 hfd25_1 (.tmp rfl (fun _ => trivial))) rfl ?_
  refine Chain.consA (StepOK.load .none ty3 (.tmp rfl (fun _ => trivial))) rfl ?_
  refine Chain.consA (StepOK.fieldAddr .none fd25_3 hfd25_3 (.tmp rfl (fun _ => trivial))) rfl ?_
  refine Chain.consA (StepOK.load .none ty3 (.tmp rfl (fun _ => trivial))) rfl ?_
  refine Chain.consA (StepOK.addW .none (.tmp rfl (fun _ => trivial)) (.tmp rfl (fun _ => trivial))) rfl ?_
  refine Chain.consA (StepOK.fieldAddr .none fd25_1 hfd25_1 (.tmp rfl (fun _ => trivial))) rfl ?_
  refine Chain.consA (StepOK.load .none ty3 (.tmp rfl (fun _ => trivial))) rfl ?_
  refine Chain.consA (StepOK.fieldAddr .none fd25_3 hfd25_3 (.tmp rfl (fun _ => trivial))) rfl ?_
  refine Chain.consA (StepOK.load .none ty3 (.tmp rfl (fun _ => trivial))) rfl ?_
  refine Chain.consA (StepOK.addW .none (.tmp rfl (fun _ => trivial)) (.tmp rfl (fun _ => trivial))) rfl ?_
  refine Chain.consA (StepOK.min2 .none (.tmp rfl (fun _ => trivial)) (.tmp rfl (fun _ => trivial))) rfl ?_
  refine Chain.consA (StepOK.move .none (.tmp rfl (fun _ => trivial))) rfl ?_
  refine Chain.consA (StepOK.subW .none (.tmp rfl (fun _ => trivial)) (.tmp rfl (fun _ => trivial))) rfl ?_
  obtain ⟨v2, hv4, h⟩ := bnd_some h
  refine Chain.consA (StepOK.re hv4 (StepOK.buildF (y := (⟨x1, y1, W ((min (W (a1.X + a1.W_)) (W (b1.X + b1.W_))) - x1), W ((min (W (a1.Y + a1.H)) (W (b1.Y + b1.H))) - y1)⟩ : Box)) .none bu25 zc25 rfl (.cons (.tmp rfl (fun _ => trivial)) (.cons (.tmp rfl (fun _ => trivial)) (.cons (.tmp rfl (fun _ => trivial)) (.cons (.tmp rfl (fun _ => trivial)) .nil)))) (.cons rfl sf25_0 (.cons rfl sf25_1 (.cons rfl sf25_2 (.cons rfl sf25_3 .nil)))))) rfl ?_
  refine Chain.consW (StepOK.alloc zo25 rfl) rfl rfl ?_
  refine Chain.consN (StepOK.store ty25 rfl rfl (.tmp rfl (fun _ => trivial))) rfl ?_
  refine Chain.nil ?_
  refine Ends.then ?_
  refine Cod.freeze (t := 8) rfl rfl (.cons (t := 5001) rfl SubB.nil) rfl ?_
  refine Cod.seq ?_
  refine Cod.seq ?_
  refine Cod.region [] mixed (by kernel_rfl) ?_
  refine Chain.cons (StepOK.fieldAddr .none fd25_2 hfd25_2 (.tmp rfl (fun _ => trivial))) rfl ?_
  refine Chain.cons (StepOK.load .none ty3 (.tmp rfl (fun _ => trivial))) rfl ?_
  refine Chain.cons (StepOK.lt .none (.tmp rfl (fun _ => trivial)) (.int (by decide))) rfl ?_
  refine Chain.cons (StepOK.move .none (.tmp rfl (fun _ => trivial))) rfl ?_
  refine Chain.cons (StepOK.fieldAddr (.at rfl rfl) fd25_3 hfd25_3 (.tmp rfl (fun _ => trivial))) rfl ?_
  refine Chain.cons (StepOK.load (.at rfl rfl) ty3 (.tmp rfl id)) rfl ?_
  refine Chain.cons (StepOK.lt (.at rfl rfl) (.tmp rfl id) (.int (by decide))) rfl ?_
  refine Chain.cons (StepOK.pickOr .none (.tmp rfl (fun _ => trivial)) (.tmp rfl id)) rfl ?_
  refine Chain.nil ?_
  refine Ends.then ?_
  refine Cod.cond (t := 55) rfl trivial (fun hb5 => ?_) (fun hb5 => ?_)
  · replace h := bif_t h hb5
    refine Cod.seq ?_
    refine Cod.region [([], []), ([5001], [5001]), ([], [])] mixed (by kernel_rfl) ?_
    obtain ⟨v3, hv6, h⟩ := bnd_some h
    refine Chain.consA (StepOK.re hv6 (StepOK.buildF (y := (⟨(0 : Int), (0 : Int), (0 : Int), (0 : Int)⟩ : Box)) .none bu25 zc25 rfl .nil .nil)) rfl ?_
    refine Chain.consN (StepOK.storeAt0 (g := 5001) ty25 rfl (.tmp rfl (fun _ => trivial)) (.tmp rfl (fun _ => trivial))) rfl ?_
    refine Chain.consA (StepOK.assign .none .bool) rfl ?_
    refine Chain.nil ?_
    refine Ends.then ?_
    refine Cod.freezeBox (g := 5001) (ts := [4]) rfl (.cons (t := 4) rfl trivial .nil) SubB.nil rfl ?_
    refine Cod.ret ?_
    refine Ends.thenRet ?_
    obtain rfl := some_eq h
    exact Ends.ret2 (.inl rfl) Try.results55 (ResOK.cellR ty25 rfl trivial Imp.refl) (ResOK.tmp rfl trivial Imp.refl)
  · replace h := bif_f h hb5
    refine Cod.skip ?_
    refine Ends.then ?_
    refine Cod.seq ?_
    refine Cod.region [([], []), ([5001], [5001]), ([], [])] mixed (by kernel_rfl) ?_
    refine Chain.consA (StepOK.load .none ty25 (.tmp rfl (fun _ => trivial))) rfl ?_
    refine Chain.consN (StepOK.storeAt0 (g := 5001) ty25 rfl (.tmp rfl (fun _ => trivial)) (.tmp rfl (fun _ => trivial))) rfl ?_
    refine Chain.consA (StepOK.assign .none .bool) rfl ?_
    refine Chain.nil ?_
    refine Ends.then ?_
    refine Cod.freezeBox (g := 5001) (ts := [4]) rfl (.cons (t := 4) rfl trivial .nil) SubB.nil rfl ?_
    refine Cod.ret ?_
    obtain rfl := some_eq h
    exact Ends.ret2 (.inl rfl) Try.results55 (ResOK.cellR ty25 rfl trivial Imp.refl) (ResOK.tmp rfl trivial Imp.refl)

theorem ref_LabelOf_1_ok {x1 : Box} {c0_1 : Box} {r : Bool}  (h : ref_LabelOf_1 x1 c0_1 = some r) : FSpec Try.prog 54 [rep x1, ref c0_1] (rep r) := by
  unfold ref_LabelOf_1 at h
  refine FSpec.intro (n := 13) fnok54 Try.func54 rfl Try.ntmps54 rfl (fun F => ?_)
  refine Cod.seq ?_
  refine Cod.region [] mixed (by kernel_rfl) ?_
  refine Chain.cons (StepOK.box .none (.tmp rfl (fun _ => trivial))) rfl ?_
  refine Chain.cons (StepOK.assign .none .bool) rfl ?_
  refine Chain.nil ?_
  refine Ends.then ?_
  refine Cod.seq ?_
  refine Cod.region [([], []), ([], []), ([], []), ([], []), ([], []), ([], []), ([], [4]), ([4], [4]), ([], [])] mixed (by kernel_rfl) ?_
  refine Chain.consA (StepOK.load .none ty25 (.tmp rfl (fun _ => trivial))) rfl ?_
  refine Chain.consA (StepOK.load .none ty25 (.tmp rfl (fun _ => trivial))) rfl ?_
  obtain ⟨r1, hv1, h⟩ := bind_some h
  refine Chain.consA (StepOK.call .none (ref_CommonOf_ok hv1) (.cons (.tmp rfl (fun _ => trivial)) (.cons (.tmp rfl (fun _ => trivial)) .nil))) rfl ?_
  refine Chain.consA (StepOK.move .none (.tmp rfl (fun _ => trivial))) rfl ?_
  refine Chain.consA (StepOK.extract .none (.tmp rfl (fun _ => trivial)) rfl) rfl ?_
  refine Chain.consA (StepOK.extract .none (.tmp rfl (fun _ => trivial)) rfl) rfl ?_
  refine Chain.consW (StepOK.alloc zo25 rfl) rfl rfl ?_
  refine Chain.consN (StepOK.store ty25 rfl rfl (.tmp rfl (fun _ => trivial))) rfl ?_
  refine Chain.consA (StepOK.assign .none (.tmp rfl (fun _ => trivial))) rfl ?_
  refine Chain.nil ?_
  refine Ends.then ?_
  refine Cod.seq ?_
  refine Cod.region [] mixed (by kernel_rfl) ?_
  refine Chain.cons (StepOK.move .none (.tmp rfl (fun _ => trivial))) rfl ?_
  refine Chain.cons (StepOK.assign .none (.tmp rfl (fun _ => trivial))) rfl ?_
  refine Chain.nil ?_
  refine Ends.then ?_
  refine Cod.ret ?_
  obtain rfl := some_eq h
  exact Ends.ret1 (.inl rfl) Try.results54 (ResOK.tmp rfl trivial Imp.refl)

theorem ref_LabelOf_ok {l1 : (List Point)} {w1 : Int} {h1 : Int} {walls1 : (List Box)} {r : (Box × Bool)}  (h : ref_LabelOf l1 w1 h1 walls1 = some r) : FSpec Try.prog 16 [rep l1, rep w1, rep h1, rep walls1] (tup [rep r.1, rep r.2]) := by
  unfold ref_LabelOf at h
  refine FSpec.intro (n := 70) fnok16 Try.func16 rfl Try.ntmps16 rfl (fun F => ?_)
  refine Cod.seq ?_
  refine Cod.region [([], [8]), ([], [])] mixed (by kernel_rfl) ?_
  refine Chain.consW (StepOK.alloc zo25 rfl) rfl rfl ?_
  refine Chain.consA (StepOK.assign .none .bool) rfl ?_
  refine Chain.nil ?_
  refine Ends.then ?_
  obtain ⟨v1, hv1, h⟩ := bnd_some h
  refine Cod.reB (t := 8) rfl (congrArg (cont 25) hv1) ?_
  refine Cod.nameBox (t := 8) (g := 5001) rfl rfl (fun m5001 => ?_)
  refine Cod.seq ?_
  refine Cod.region [] mixed (by kernel_rfl) ?_
  refine Chain.cons (StepOK.move .none (.tmp rfl (fun _ => trivial))) rfl ?_
  obtain ⟨n1, hv2, h⟩ := bind_some h
  refine Chain.cons (StepOK.call .none (ref_LengthOf_ok hv2) (.cons (.tmp rfl (fun _ => trivial)) .nil)) rfl ?_
  refine Chain.cons (StepOK.assign .none (.tmp rfl (fun _ => trivial))) rfl ?_
  refine Chain.nil ?_
  refine Ends.then ?_
  refine Cod.seq ?_
  refine Cod.region [([], []), ([], [11]), ([11], [11]), ([], [])] mixed (by kernel_rfl) ?_
  obtain ⟨v2, hv3, h⟩ := bnd_some h
  refine Chain.consA (StepOK.re hv3 (StepOK.buildF (y := (⟨(0 : Int), (0 : Int), (0 : Int), (0 : Int)⟩ : Box)) .none bu25 zc25 rfl .nil .nil)) rfl ?_
  refine Chain.consW (StepOK.alloc zo25 rfl) rfl rfl ?_
  refine Chain.consN (StepOK.store ty25 rfl rfl (.tmp rfl (fun _ => trivial))) rfl ?_
  refine Chain.consA (StepOK.assign .none .bool) rfl ?_
  refine Chain.nil ?_
  refine Ends.then ?_
  refine Cod.nameBox (t := 11) (g := 5002) rfl rfl (fun m5002 => ?_)
  refine Cod.seq ?_
  refine Cod.region [] mixed (by kernel_rfl) ?_
  refine Chain.cons (StepOK.assign .none (.int (by decide))) rfl ?_
  refine Chain.nil ?_
  refine Ends.then ?_
  refine Cod.seq ?_
  refine Cod.seq ?_
  refine Cod.region [] mixed (by kernel_rfl) ?_
  refine Chain.cons (StepOK.assign .none (.int (by decide))) rfl ?_
  refine Chain.nil ?_
  refine Ends.then ?_
  obtain ⟨j_4, h, hK4⟩ := bind_some h
  refine Cod.thenJ (ι := (Bool × Box)) (fun j_4 => [(12, ⟨True, rep j_4.1⟩)]) (fun j_4 => [(5002, some (boxAt m5002 25 j_4.2))]) (fun s => j_4 = s) (.cons (t := 8) rfl (.cons (t := 11) rfl Sub.nil)) (.cons (t := 5001) rfl SubB.nil) ?_ (fun j_4' hj4 => ?_)
  · skip
    refine Cod.block ?_
    refine Cod.loopL h (fun s5_ => [(12, ⟨True, rep s5_.1⟩), (13, ⟨True, rep s5_.2.1⟩), (14, ⟨True, rep s5_.2.2.1⟩)]) (fun s5_ => [(5002, some (boxAt m5002 25 s5_.2.2.2))]) (.cons (t := 12) rfl (.cons (t := 13) rfl (.cons (t := 14) rfl Sub.nil))) (.cons (t := 5002) rfl SubB.nil) (.cons (t := 0) rfl (.cons (t := 1) rfl (.cons (t := 2) rfl (.cons (t := 3) rfl (.cons (t := 8) rfl (.cons (t := 10) rfl (.cons (t := 11) rfl Sub.nil))))))) (.cons (t := 5001) rfl SubB.nil) (fun s5_ o_5 h hD5 => ?_)
    unfold ref_LabelOf_L1 at h
    refine Cod.seq ?_
    refine Cod.seq ?_
    refine Cod.region [] mixed (by kernel_rfl) ?_
    refine Chain.cons (StepOK.move .none (.tmp rfl (fun _ => trivial))) rfl ?_
    refine Chain.cons (StepOK.move .none (.tmp rfl (fun _ => trivial))) rfl ?_
    refine Chain.cons (StepOK.le .none (.tmp rfl (fun _ => trivial)) (.tmp rfl (fun _ => trivial))) rfl ?_
    refine Chain.nil ?_
    refine Ends.then ?_
    refine Cod.cond (t := 23) rfl trivial (fun hb6 => ?_) (fun hb6 => ?_)
    · replace h := bif_t h hb6
      refine Cod.skip ?_
      refine Ends.then ?_
      refine Cod.seq ?_
      obtain ⟨j_7, h, hK7⟩ := bind_some h
      refine Cod.thenJ (ι := (Bool × Int × Box)) (fun j_7 => [(12, ⟨True, rep j_7.1⟩), (13, ⟨True, rep j_7.2.1⟩)]) (fun j_7 => [(5002, some (boxAt m5002 25 j_7.2.2))]) (fun s => j_7 = s) (.cons (t := 0) rfl (.cons (t := 1) rfl (.cons (t := 2) rfl (.cons (t := 3) rfl (.cons (t := 8) rfl (.cons (t := 10) rfl (.cons (t := 11) rfl (.cons (t := 14) rfl Sub.nil)))))))) (.cons (t := 5001) rfl SubB.nil) ?_ (fun j_7' hj7 => ?_)
      · skip
        refine Cod.block ?_
        refine Cod.seq ?_
        refine Cod.region [([], []), ([], []), ([], []), ([], [15]), ([15], [15])] mixed (by kernel_rfl) ?_
        refine Chain.consA (StepOK.move .none (.tmp rfl (fun _ => trivial))) rfl ?_
        refine Chain.consA (StepOK.move .none (.tmp rfl (fun _ => trivial))) rfl ?_
        obtain ⟨r1, hv8, h⟩ := bind_some h
        refine Chain.consA (StepOK.call .none (ref_AtOf_ok hv8) (.cons (.tmp rfl (fun _ => trivial)) (.cons (.tmp rfl (fun _ => trivial)) .nil))) rfl ?_
        refine Chain.consW (StepOK.alloc zo53 rfl) rfl rfl ?_
        refine Chain.consN (StepOK.store ty53 rfl rfl (.tmp rfl (fun _ => trivial))) rfl ?_
        refine Chain.nil ?_
        refine Ends.then ?_
        refine Cod.freeze (t := 15) rfl rfl (.cons (t := 5001) rfl (.cons (t := 5002) rfl SubB.nil)) rfl ?_
        refine Cod.seq ?_
        refine Cod.region [([], []), ([], []), ([], []), ([], []), ([], []), ([], []), ([], []), ([], []), ([], []), ([], []), ([], []), ([], []), ([], []), ([], [16]), ([16], [16])] mixed (by kernel_rfl) ?_
        refine Chain.consA (StepOK.fieldAddr .none fd53_0 hfd53_0 (.tmp rfl (fun _ => trivial))) rfl ?_
        refine Chain.consA (StepOK.load .none ty3 (.tmp rfl (fun _ => trivial))) rfl ?_
        refine Chain.consA (StepOK.move .none (.tmp rfl (fun _ => trivial))) rfl ?_
        obtain ⟨r2, hv9, h⟩ := bind_some h
        refine Chain.consA (StepOK.call .none (ref_Down_ok hv9) (.cons (.tmp rfl (fun _ => trivial)) (.cons (.int (by decide)) .nil))) rfl ?_
        refine Chain.consA (StepOK.subW .none (.tmp rfl (fun _ => trivial)) (.tmp rfl (fun _ => trivial))) rfl ?_
        refine Chain.consA (StepOK.fieldAddr .none fd53_1 hfd53_1 (.tmp rfl (fun _ => trivial))) rfl ?_
        refine Chain.consA (StepOK.load .none ty3 (.tmp rfl (fun _ => trivial))) rfl ?_
        refine Chain.consA (StepOK.move .none (.tmp rfl (fun _ => trivial))) rfl ?_
        obtain ⟨r3, hv10, h⟩ := bind_some h
        refine Chain.consA (StepOK.call .none (ref_Down_ok hv10) (.cons (.tmp rfl (fun _ => trivial)) (.cons (.int (by decide)) .nil))) rfl ?_
        refine Chain.consA (StepOK.subW .none (.tmp rfl (fun _ => trivial)) (.tmp rfl (fun _ => trivial))) rfl ?_
        refine Chain.consA (StepOK.move .none (.tmp rfl (fun _ => trivial))) rfl ?_
        refine Chain.consA (StepOK.move .none (.tmp rfl (fun _ => trivial))) rfl ?_
        obtain ⟨v3, hv11, h⟩ := bnd_some h
        refine Chain.consA (StepOK.re hv11 (StepOK.buildF (y := (⟨W (r1.X - r2), W (r1.Y - r3), w1, h1⟩ : Box)) .none bu25 zc25 rfl (.cons (.tmp rfl (fun _ => trivial)) (.cons (.tmp rfl (fun _ => trivial)) (.cons (.tmp rfl (fun _ => trivial)) (.cons (.tmp rfl (fun _ => trivial)) .nil)))) (.cons rfl sf25_0 (.cons rfl sf25_1 (.cons rfl sf25_2 (.cons rfl sf25_3 .nil)))))) rfl ?_
        refine Chain.consW (StepOK.alloc zo25 rfl) rfl rfl ?_
        refine Chain.consN (StepOK.store ty25 rfl rfl (.tmp rfl (fun _ => trivial))) rfl ?_
        refine Chain.nil ?_
        refine Ends.then ?_
        refine Cod.freeze (t := 16) rfl rfl (.cons (t := 5001) rfl (.cons (t := 5002) rfl SubB.nil)) rfl ?_
        refine Cod.seq ?_
        refine Cod.region [] mixed (by kernel_rfl) ?_
        refine Chain.cons (StepOK.move .none (.tmp rfl (fun _ => trivial))) rfl ?_
        refine Chain.cons (StepOK.makeFunc (ι := Box × Bool) (pre := fun i => (fun x0 => ref_LabelOf_1 x0 v3) i.1 = some i.2) (Ss := fun i => [rep i.1]) (S := fun i => rep i.2) .none fnok54 (fun i h => ref_LabelOf_1_ok h) (.cons (.tmp rfl (fun _ => trivial)) .nil)) rfl ?_
        obtain ⟨meets1, hv12, h⟩ := bind_some h
        refine Chain.cons (StepOK.call .none (slices_ContainsFunc_Box_ok hv12) (.cons (.tmp rfl (fun _ => trivial)) (.cons (.tmp rfl (fun _ => trivial)) .nil))) rfl ?_
        refine Chain.cons (StepOK.assign .none (.tmp rfl (fun _ => trivial))) rfl ?_
        refine Chain.nil ?_
        refine Ends.then ?_
        refine Cod.seq ?_
        refine Cod.seq ?_
        refine Cod.region [] mixed (by kernel_rfl) ?_
        refine Chain.cons (StepOK.load .none ty25 (.tmp rfl (fun _ => trivial))) rfl ?_
        obtain ⟨r4, hv13, h⟩ := bind_some h
        refine Chain.cons (StepOK.call .none (ref_BoxError_ok hv13) (.cons (.tmp rfl (fun _ => trivial)) .nil)) rfl ?_
        refine Chain.cons (StepOK.neI .none (.tmp rfl (fun _ => trivial)) (.int (by decide))) rfl ?_
        refine Chain.cons (StepOK.move .none (.tmp rfl (fun _ => trivial))) rfl ?_
        refine Chain.cons (StepOK.move (.at rfl rfl) (.tmp rfl (fun _ => trivial))) rfl ?_
        refine Chain.cons (StepOK.pickOr .none (.tmp rfl (fun _ => trivial)) (.tmp rfl id)) rfl ?_
        refine Chain.nil ?_
        refine Ends.then ?_
        refine Cod.cond (t := 50) rfl trivial (fun hb14 => ?_) (fun hb14 => ?_)
        · replace h := bif_t h hb14
          refine Cod.exit ?_
          refine Ends.thenExit ?_
          refine Ends.blkExit ?_
          exact Ends.join _ (some_eq h) (.cons (t := 12) rfl (.cons (t := 13) rfl (.cons (t := 0) rfl (.cons (t := 1) rfl (.cons (t := 2) rfl (.cons (t := 3) rfl (.cons (t := 8) rfl (.cons (t := 10) rfl (.cons (t := 11) rfl (.cons (t := 14) rfl Sub.nil)))))))))) (.cons (t := 5002) rfl (.cons (t := 5001) rfl SubB.nil))
        · replace h := bif_f h hb14
          refine Cod.skip ?_
          refine Ends.then ?_
          refine Cod.seq ?_
          refine Cod.region [] mixed (by kernel_rfl) ?_
          refine Chain.cons (StepOK.move .none (.tmp rfl (fun _ => trivial))) rfl ?_
          refine Chain.cons (StepOK.not .none (.tmp rfl (fun _ => trivial))) rfl ?_
          refine Chain.cons (StepOK.move .none (.tmp rfl (fun _ => trivial))) rfl ?_
          refine Chain.cons (StepOK.move (.at rfl rfl) (.tmp rfl (fun _ => trivial))) rfl ?_
          refine Chain.cons (StepOK.mulW (.at rfl rfl) (.int (by decide)) (.tmp rfl id)) rfl ?_
          refine Chain.cons (StepOK.move (.at rfl rfl) (.tmp rfl (fun _ => trivial))) rfl ?_
          refine Chain.cons (StepOK.subW (.at rfl rfl) (.tmp rfl id) (.tmp rfl id)) rfl ?_
          obtain ⟨r5, hv15, h⟩ := bind_some h
          refine Chain.cons (StepOK.callIf (.at rfl rfl) fnok56 (fun hg => ref_Abs_ok ((fun hg => gd_some hv15 (by simp [hg.2])) hg)) (.cons (.tmp rfl id) .nil) (fun h => h)) rfl ?_
          refine Chain.cons (StepOK.move (.at rfl rfl) (.tmp rfl (fun _ => trivial))) rfl ?_
          refine Chain.cons (StepOK.mulW (.at rfl rfl) (.int (by decide)) (.tmp rfl id)) rfl ?_
          refine Chain.cons (StepOK.move (.at rfl rfl) (.tmp rfl (fun _ => trivial))) rfl ?_
          refine Chain.cons (StepOK.subW (.at rfl rfl) (.tmp rfl id) (.tmp rfl id)) rfl ?_
          obtain ⟨r6, hv16, h⟩ := bind_some h
          refine Chain.cons (StepOK.callIf (.at rfl rfl) fnok56 (fun hg => ref_Abs_ok ((fun hg => gd_some hv16 (by simp [hg.2])) hg)) (.cons (.tmp rfl id) .nil) (fun h => h)) rfl ?_
          refine Chain.cons (StepOK.lt (.at rfl rfl) (.tmp rfl id) (.tmp rfl id)) rfl ?_
          refine Chain.cons (StepOK.pickOr .none (.tmp rfl (fun _ => trivial)) (.tmp rfl id)) rfl ?_
          refine Chain.nil ?_
          refine Ends.then ?_
          refine Cod.cond (t := 65) rfl trivial (fun hb17 => ?_) (fun hb17 => ?_)
          · replace h := bif_t h hb17
            refine Cod.region [([], []), ([], []), ([5002], [5002]), ([], []), ([], [])] mixed (by kernel_rfl) ?_
            refine Chain.consA (StepOK.load .none ty25 (.tmp rfl (fun _ => trivial))) rfl ?_
            refine Chain.consA (StepOK.move .none (.tmp rfl (fun _ => trivial))) rfl ?_
            refine Chain.consN (StepOK.storeAt0 (g := 5002) ty25 rfl (.tmp rfl (fun _ => trivial)) (.tmp rfl (fun _ => trivial))) rfl ?_
            refine Chain.consA (StepOK.assign .none .bool) rfl ?_
            refine Chain.consA (StepOK.assign .none (.tmp rfl (fun _ => trivial))) rfl ?_
            refine Chain.nil ?_
            refine Ends.blkNormal ?_
            exact Ends.join _ (some_eq h) (.cons (t := 12) rfl (.cons (t := 13) rfl (.cons (t := 0) rfl (.cons (t := 1) rfl (.cons (t := 2) rfl (.cons (t := 3) rfl (.cons (t := 8) rfl (.cons (t := 10) rfl (.cons (t := 11) rfl (.cons (t := 14) rfl Sub.nil)))))))))) (.cons (t := 5002) rfl (.cons (t := 5001) rfl SubB.nil))
          · replace h := bif_f h hb17
            refine Cod.skip ?_
            refine Ends.blkNormal ?_
            exact Ends.join _ (some_eq h) (.cons (t := 12) rfl (.cons (t := 13) rfl (.cons (t := 0) rfl (.cons (t := 1) rfl (.cons (t := 2) rfl (.cons (t := 3) rfl (.cons (t := 8) rfl (.cons (t := 10) rfl (.cons (t := 11) rfl (.cons (t := 14) rfl Sub.nil)))))))))) (.cons (t := 5002) rfl (.cons (t := 5001) rfl SubB.nil))
      · subst hj7; have h := hK7; clear hK7
        refine Cod.region [] mixed (by kernel_rfl) ?_
        refine Chain.cons (StepOK.move .none (.tmp rfl (fun _ => trivial))) rfl ?_
        refine Chain.cons (StepOK.addW .none (.tmp rfl (fun _ => trivial)) (.int (by decide))) rfl ?_
        obtain ⟨d1, hv18, h⟩ := bnd_some h
        refine Chain.cons (StepOK.re hv18 (StepOK.assign .none (.tmp rfl (fun _ => trivial)))) rfl ?_
        refine Chain.nil ?_
        exact Ends.againL (some_eq h) (.cons (t := 12) rfl (.cons (t := 13) rfl (.cons (t := 14) rfl (.cons (t := 0) rfl (.cons (t := 1) rfl (.cons (t := 2) rfl (.cons (t := 3) rfl (.cons (t := 8) rfl (.cons (t := 10) rfl (.cons (t := 11) rfl Sub.nil)))))))))) (.cons (t := 5002) rfl (.cons (t := 5001) rfl SubB.nil))
    · replace h := bif_f h hb6
      refine Cod.exit ?_
      refine Ends.thenExit ?_
      refine Ends.thenExit ?_
      refine Ends.blkExit ?_
      replace h := hD5 _ (some_eq h)
      exact Ends.join _ (some_eq h) (.cons (t := 12) rfl (.cons (t := 8) rfl (.cons (t := 11) rfl Sub.nil))) (.cons (t := 5002) rfl (.cons (t := 5001) rfl SubB.nil))
  · subst hj4; have h := hK4; clear hK4
    refine Cod.freezeBox (g := 5002) (ts := [11]) rfl (.cons (t := 11) rfl trivial .nil) (.cons (t := 5001) rfl SubB.nil) rfl ?_
    refine Cod.seq ?_
    refine Cod.region [([], []), ([], []), ([5001], [5001]), ([], [])] mixed (by kernel_rfl) ?_
    refine Chain.consA (StepOK.load .none ty25 (.tmp rfl (fun _ => trivial))) rfl ?_
    refine Chain.consA (StepOK.move .none (.tmp rfl (fun _ => trivial))) rfl ?_
    refine Chain.consN (StepOK.storeAt0 (g := 5001) ty25 rfl (.tmp rfl (fun _ => trivial)) (.tmp rfl (fun _ => trivial))) rfl ?_
    refine Chain.consA (StepOK.assign .none (.tmp rfl (fun _ => trivial))) rfl ?_
    refine Chain.nil ?_
    refine Ends.then ?_
    refine Cod.freezeBox (g := 5001) (ts := [8]) rfl (.cons (t := 8) rfl trivial .nil) SubB.nil rfl ?_
    refine Cod.ret ?_
    obtain rfl := some_eq h
    exact Ends.ret2 (.inl rfl) Try.results16 (ResOK.cellR ty25 rfl trivial Imp.refl) (ResOK.tmp rfl trivial Imp.refl)

theorem route_isSide_ok {side1 : Int} {r : Bool}  (h : route_isSide side1 = some r) : FSpec Try.prog 72 [rep side1] (rep r) := by
  unfold route_isSide at h
  refine FSpec.intro (n := 9) fnok72 Try.func72 rfl Try.ntmps72 rfl (fun F => ?_)
  refine Cod.seq ?_
  refine Cod.region [] mixed (by kernel_rfl) ?_
  refine Chain.cons (StepOK.assign .none .bool) rfl ?_
  refine Chain.nil ?_
  refine Ends.then ?_
  refine Cod.seq ?_
  refine Cod.region [] mixed (by kernel_rfl) ?_
  refine Chain.cons (StepOK.move .none (.tmp rfl (fun _ => trivial))) rfl ?_
  refine Chain.cons (StepOK.ge .none (.tmp rfl (fun _ => trivial)) (.int (by decide))) rfl ?_
  refine Chain.cons (StepOK.move .none (.tmp rfl (fun _ => trivial))) rfl ?_
  refine Chain.cons (StepOK.move (.at rfl rfl) (.tmp rfl (fun _ => trivial))) rfl ?_
  refine Chain.cons (StepOK.le (.at rfl rfl) (.tmp rfl id) (.int (by decide))) rfl ?_
  refine Chain.cons (StepOK.pickAnd .none (.tmp rfl (fun _ => trivial)) (.tmp rfl id)) rfl ?_
  refine Chain.cons (StepOK.assign .none (.tmp rfl (fun _ => trivial))) rfl ?_
  refine Chain.nil ?_
  refine Ends.then ?_
  refine Cod.ret ?_
  obtain rfl := some_eq h
  exact Ends.ret1 (.inl rfl) Try.results72 (ResOK.tmp rfl trivial Imp.refl)

theorem route_toward_ok {side1 : Int} {r : Point}  (h : route_toward side1 = some r) : FSpec Try.prog 102 [rep side1] (rep r) := by
  unfold route_toward at h
  refine FSpec.intro (n := 11) fnok102 Try.func102 rfl Try.ntmps102 rfl (fun F => ?_)
  refine Cod.seq ?_
  refine Cod.region [([], [2])] mixed (by kernel_rfl) ?_
  refine Chain.consW (StepOK.alloc zo53 rfl) rfl rfl ?_
  refine Chain.nil ?_
  refine Ends.then ?_
  obtain ⟨v1, hv1, h⟩ := bnd_some h
  refine Cod.reB (t := 2) rfl (congrArg (cont 53) hv1) ?_
  refine Cod.nameBox (t := 2) (g := 5001) rfl rfl (fun m5001 => ?_)
  refine Cod.seq ?_
  refine Cod.region [([], []), ([], []), ([], []), ([], []), ([], []), ([], []), ([], []), ([], []), ([5001], [5001])] mixed (by kernel_rfl) ?_
  refine Chain.consA (StepOK.buildF (y := (⟨(0 : Int), (0 : Int)⟩ : Point)) .none bu53 zc53 rfl .nil .nil) rfl ?_
  refine Chain.consA (StepOK.buildF (y := (⟨(0 : Int), (-1)⟩ : Point)) .none bu53 zc53 rfl (.cons (.int (by decide)) .nil) (.cons rfl sf53_1 .nil)) rfl ?_
  refine Chain.consA (StepOK.buildF (y := (⟨1, (0 : Int)⟩ : Point)) .none bu53 zc53 rfl (.cons (.int (by decide)) .nil) (.cons rfl sf53_0 .nil)) rfl ?_
  refine Chain.consA (StepOK.buildF (y := (⟨(0 : Int), 1⟩ : Point)) .none bu53 zc53 rfl (.cons (.int (by decide)) .nil) (.cons rfl sf53_1 .nil)) rfl ?_
  refine Chain.consA (StepOK.buildF (y := (⟨(-1), (0 : Int)⟩ : Point)) .none bu53 zc53 rfl (.cons (.int (by decide)) .nil) (.cons rfl sf53_0 .nil)) rfl ?_
  refine Chain.consA (StepOK.buildArr (xs := [_, _, _, _, _]) .none ao156 ty53 az156 (.cons (.tmp rfl (fun _ => trivial)) (.cons (.tmp rfl (fun _ => trivial)) (.cons (.tmp rfl (fun _ => trivial)) (.cons (.tmp rfl (fun _ => trivial)) (.cons (.tmp rfl (fun _ => trivial)) .nil))))) rfl) rfl ?_
  refine Chain.consA (StepOK.move .none (.tmp rfl (fun _ => trivial))) rfl ?_
  obtain ⟨hn2, h⟩ := need_some h
  obtain ⟨v2, hv3, h⟩ := bnd_some h
  refine Chain.consA (StepOK.re hv3 (StepOK.indexArr .none ao156 ty53 (.tmp rfl (fun _ => trivial)) (.tmp rfl (fun _ => trivial)) (fun _ => hn2))) rfl ?_
  refine Chain.consN (StepOK.storeAt0 (g := 5001) ty53 rfl (.tmp rfl (fun _ => trivial)) (.tmp rfl (fun _ => trivial))) rfl ?_
  refine Chain.nil ?_
  refine Ends.then ?_
  refine Cod.freezeBox (g := 5001) (ts := [2]) rfl (.cons (t := 2) rfl trivial .nil) SubB.nil rfl ?_
  refine Cod.ret ?_
  obtain rfl := some_eq h
  exact Ends.ret1 (.inl rfl) Try.results102 (ResOK.cellR ty53 rfl trivial Imp.refl)

theorem route_ends_ok {t1 : Task} {r : (Point × Point)}  (h : route_ends t1 = some r) : FSpec Try.prog 73 [rep t1] (tup [rep r.1, rep r.2]) := by
  unfold route_ends at h
  refine FSpec.intro (n := 20) fnok73 Try.func73 rfl Try.ntmps73 rfl (fun F => ?_)
  refine Cod.seq ?_
  refine Cod.region [([], []), ([], [2]), ([], [3])] mixed (by kernel_rfl) ?_
  refine Chain.consA (StepOK.box .none (.tmp rfl (fun _ => trivial))) rfl ?_
  refine Chain.consW (StepOK.alloc zo53 rfl) rfl rfl ?_
  refine Chain.consW (StepOK.alloc zo53 rfl) rfl rfl ?_
  refine Chain.nil ?_
  refine Ends.then ?_
  obtain ⟨start1, hv1, h⟩ := bnd_some h
  refine Cod.reB (t := 2) rfl (congrArg (cont 53) hv1) ?_
  obtain ⟨end1, hv2, h⟩ := bnd_some h
  refine Cod.reB (t := 3) rfl (congrArg (cont 53) hv2) ?_
  refine Cod.nameBox (t := 2) (g := 5001) rfl rfl (fun m5001 => ?_)
  refine Cod.nameBox (t := 3) (g := 5002) rfl rfl (fun m5002 => ?_)
  refine Cod.seq ?_
  refine Cod.region [([], []), ([], []), ([], []), ([], []), ([], []), ([], []), ([], []), ([], []), ([], []), ([], []), ([], []), ([], []), ([], []), ([], []), ([], []), ([], []), ([5001], [5001]), ([5002], [5002])] mixed (by kernel_rfl) ?_
  refine Chain.consA (StepOK.fieldAddr .none fd55_0 hfd55_0 (.tmp rfl (fun _ => trivial))) rfl ?_
  refine Chain.consA (StepOK.load .none ty53 (.tmp rfl (fun _ => trivial))) rfl ?_
  refine Chain.consA (StepOK.fieldAddr .none fd55_1 hfd55_1 (.tmp rfl (fun _ => trivial))) rfl ?_
  refine Chain.consA (StepOK.load .none ty3 (.tmp rfl (fun _ => trivial))) rfl ?_
  obtain ⟨r1, hv3, h⟩ := bind_some h
  refine Chain.consA (StepOK.call .none (route_toward_ok hv3) (.cons (.tmp rfl (fun _ => trivial)) .nil)) rfl ?_
  refine Chain.consA (StepOK.fieldAddr .none fd55_5 hfd55_5 (.tmp rfl (fun _ => trivial))) rfl ?_
  refine Chain.consA (StepOK.load .none ty3 (.tmp rfl (fun _ => trivial))) rfl ?_
  obtain ⟨r2, hv4, h⟩ := bind_some h
  refine Chain.consA (StepOK.call .none (route_away_ok hv4) (.cons (.tmp rfl (fun _ => trivial)) (.cons (.tmp rfl (fun _ => trivial)) (.cons (.tmp rfl (fun _ => trivial)) .nil)))) rfl ?_
  refine Chain.consA (StepOK.fieldAddr .none fd55_2 hfd55_2 (.tmp rfl (fun _ => trivial))) rfl ?_
  refine Chain.consA (StepOK.load .none ty53 (.tmp rfl (fun _ => trivial))) rfl ?_
  refine Chain.consA (StepOK.fieldAddr .none fd55_3 hfd55_3 (.tmp rfl (fun _ => trivial))) rfl ?_
  refine Chain.consA (StepOK.load .none ty3 (.tmp rfl (fun _ => trivial))) rfl ?_
  obtain ⟨r3, hv5, h⟩ := bind_some h
  refine Chain.consA (StepOK.call .none (route_toward_ok hv5) (.cons (.tmp rfl (fun _ => trivial)) .nil)) rfl ?_
  refine Chain.consA (StepOK.fieldAddr .none fd55_5 hfd55_5 (.tmp rfl (fun _ => trivial))) rfl ?_
  refine Chain.consA (StepOK.load .none ty3 (.tmp rfl (fun _ => trivial))) rfl ?_
  obtain ⟨r4, hv6, h⟩ := bind_some h
  refine Chain.consA (StepOK.call .none (route_away_ok hv6) (.cons (.tmp rfl (fun _ => trivial)) (.cons (.tmp rfl (fun _ => trivial)) (.cons (.tmp rfl (fun _ => trivial)) .nil)))) rfl ?_
  refine Chain.consN (StepOK.storeAt0 (g := 5001) ty53 rfl (.tmp rfl (fun _ => trivial)) (.tmp rfl (fun _ => trivial))) rfl ?_
  refine Chain.consN (StepOK.storeAt0 (g := 5002) ty53 rfl (.tmp rfl (fun _ => trivial)) (.tmp rfl (fun _ => trivial))) rfl ?_
  refine Chain.nil ?_
  refine Ends.then ?_
  refine Cod.freezeBox (g := 5001) (ts := [2]) rfl (.cons (t := 2) rfl trivial .nil) (.cons (t := 5002) rfl SubB.nil) rfl ?_
  refine Cod.freezeBox (g := 5002) (ts := [3]) rfl (.cons (t := 3) rfl trivial .nil) SubB.nil rfl ?_
  refine Cod.ret ?_
  obtain rfl := some_eq h
  exact Ends.ret2 (.inl rfl) Try.results73 (ResOK.cellR ty53 rfl trivial Imp.refl) (ResOK.cellR ty53 rfl trivial Imp.refl)

theorem route_Check_ok {t1 : Task} {r : Int}  (h : route_Check t1 = some r) : FSpec Try.prog 27 [rep t1] (rep r) := by
  unfold route_Check at h
  refine FSpec.intro (n := 76) fnok27 Try.func27 rfl Try.ntmps27 rfl (fun F => ?_)
  refine Cod.seq ?_
  refine Cod.region [] mixed (by kernel_rfl) ?_
  refine Chain.cons (StepOK.box .none (.tmp rfl (fun _ => trivial))) rfl ?_
  refine Chain.cons (StepOK.assign .none (.int (by decide))) rfl ?_
  refine Chain.nil ?_
  refine Ends.then ?_
  refine Cod.seq ?_
  refine Cod.seq ?_
  refine Cod.region [] mixed (by kernel_rfl) ?_
  refine Chain.cons (StepOK.fieldAddr .none fd55_0 hfd55_0 (.tmp rfl (fun _ => trivial))) rfl ?_
  refine Chain.cons (StepOK.load .none ty53 (.tmp rfl (fun _ => trivial))) rfl ?_
  refine Chain.cons (StepOK.fieldAddr .none fd55_1 hfd55_1 (.tmp rfl (fun _ => trivial))) rfl ?_
  refine Chain.cons (StepOK.load .none ty3 (.tmp rfl (fun _ => trivial))) rfl ?_
  refine Chain.cons (StepOK.buildF (y := (⟨t1.From, t1.FromSide⟩ : Anon_p_side)) .none bu97 zc97 rfl (.cons (.tmp rfl (fun _ => trivial)) (.cons (.tmp rfl (fun _ => trivial)) .nil)) (.cons rfl sf97_0 (.cons rfl sf97_1 .nil))) rfl ?_
  refine Chain.cons (StepOK.fieldAddr .none fd55_2 hfd55_2 (.tmp rfl (fun _ => trivial))) rfl ?_
  refine Chain.cons (StepOK.load .none ty53 (.tmp rfl (fun _ => trivial))) rfl ?_
  refine Chain.cons (StepOK.fieldAddr .none fd55_3 hfd55_3 (.tmp rfl (fun _ => trivial))) rfl ?_
  refine Chain.cons (StepOK.load .none ty3 (.tmp rfl (fun _ => trivial))) rfl ?_
  refine Chain.cons (StepOK.buildF (y := (⟨t1.To, t1.ToSide⟩ : Anon_p_side)) .none bu97 zc97 rfl (.cons (.tmp rfl (fun _ => trivial)) (.cons (.tmp rfl (fun _ => trivial)) .nil)) (.cons rfl sf97_0 (.cons rfl sf97_1 .nil))) rfl ?_
  obtain ⟨v1, hv1, h⟩ := bnd_some h
  refine Chain.cons (StepOK.re hv1 (StepOK.buildSlice (xs := [_, _]) .none sl98 ty97 hz97 (.cons (.tmp rfl (fun _ => trivial)) (.cons (.tmp rfl (fun _ => trivial)) .nil)) rfl (by decide))) rfl ?_
  refine Chain.cons (StepOK.len .none sl98 (.tmp rfl (fun _ => trivial))) rfl ?_
  refine Chain.cons (StepOK.move .none (.int (by decide))) rfl ?_
  refine Chain.nil ?_
  refine Ends.then ?_
  obtain ⟨o_2, h, hK2⟩ := bindR_some h
  refine Cod.thenJ (ι := Unit) (fun j_2 => []) (fun j_2 => []) (fun s => o_2 = Res.nx s) (.cons (t := 1) rfl Sub.nil) SubB.nil ?_ (fun j_2 hj2 => ?_)
  · skip
    refine Cod.block ?_
    refine Cod.rforEL h (fun p3_ => [(24, ⟨True, rep p3_.1⟩)]) (fun p3_ => []) (.cons (t := 24) rfl Sub.nil) SubB.nil (.cons (t := 1) rfl (.cons (t := 22) rfl (.cons (t := 23) rfl Sub.nil))) SubB.nil (fun p3_ o_3 h hD3 => ?_)
    refine Cod.seq ?_
    refine Cod.region [] mixed (by kernel_rfl) ?_
    refine Chain.cons (StepOK.lt .none (.tmp rfl (fun _ => trivial)) (.tmp rfl (fun _ => trivial))) rfl ?_
    refine Chain.nil ?_
    refine Ends.then ?_
    refine Cod.seq ?_
    refine Cod.cond (t := 25) rfl trivial (fun hb4 => ?_) (fun hb4 => ?_)
    · replace h := bif_t h hb4
      refine Cod.skip ?_
      refine Ends.then ?_
      refine Cod.seq ?_
      obtain ⟨o_5, h, hK5⟩ := bindD_some h
      unfold route_Check_L1 at h
      refine Cod.thenJ (ι := Unit) (fun j_5 => []) (fun j_5 => []) (fun s => o_5 = Res.nx s) (.cons (t := 1) rfl (.cons (t := 22) rfl (.cons (t := 23) rfl (.cons (t := 24) rfl Sub.nil)))) SubB.nil ?_ (fun j_5 hj5 => ?_)
      · skip
        refine Cod.block ?_
        refine Cod.seq ?_
        refine Cod.region [([], []), ([], []), ([], [4]), ([4], [4])] mixed (by kernel_rfl) ?_
        obtain ⟨hn6, h⟩ := need_some h
        refine Chain.consA (StepOK.indexAddr .none sl98 ty97 (.tmp rfl (fun _ => trivial)) (.tmp rfl (fun _ => trivial)) (fun _ => hn6)) rfl ?_
        obtain ⟨v2, hv7, h⟩ := bnd_some h
        refine Chain.consA (StepOK.re hv7 (StepOK.load .none ty97 (.tmp rfl (fun _ => trivial)))) rfl ?_
        refine Chain.consW (StepOK.alloc zo97 rfl) rfl rfl ?_
        refine Chain.consN (StepOK.store ty97 rfl rfl (.tmp rfl (fun _ => trivial))) rfl ?_
        refine Chain.nil ?_
        refine Ends.then ?_
        refine Cod.freeze (t := 4) rfl rfl SubB.nil rfl ?_
        refine Cod.seq ?_
        refine Cod.seq ?_
        refine Cod.region [] mixed (by kernel_rfl) ?_
        refine Chain.cons (StepOK.fieldAddr .none fd97_0 hfd97_0 (.tmp rfl (fun _ => trivial))) rfl ?_
        refine Chain.cons (StepOK.load .none ty53 (.tmp rfl (fun _ => trivial))) rfl ?_
        obtain ⟨e1, hv8, h⟩ := bind_some h
        refine Chain.cons (StepOK.call .none (geom_CheckPoint_ok hv8) (.cons (.tmp rfl (fun _ => trivial)) .nil)) rfl ?_
        refine Chain.cons (StepOK.assign .none (.tmp rfl (fun _ => trivial))) rfl ?_
        refine Chain.nil ?_
        refine Ends.then ?_
        refine Cod.seq ?_
        refine Cod.region [] mixed (by kernel_rfl) ?_
        refine Chain.cons (StepOK.move .none (.tmp rfl (fun _ => trivial))) rfl ?_
        refine Chain.cons (StepOK.neI .none (.tmp rfl (fun _ => trivial)) (.int (by decide))) rfl ?_
        refine Chain.nil ?_
        refine Ends.then ?_
        refine Cod.cond (t := 32) rfl trivial (fun hb9 => ?_) (fun hb9 => ?_)
        · replace h := bif_t h hb9
          refine Cod.seq ?_
          refine Cod.region [] mixed (by kernel_rfl) ?_
          refine Chain.cons (StepOK.move .none (.tmp rfl (fun _ => trivial))) rfl ?_
          refine Chain.cons (StepOK.assign .none (.tmp rfl (fun _ => trivial))) rfl ?_
          refine Chain.nil ?_
          refine Ends.then ?_
          refine Cod.ret ?_
          refine Ends.thenRet ?_
          refine Ends.blkRet ?_
          refine Ends.thenRet ?_
          refine Ends.thenRet ?_
          refine Ends.blkRet ?_
          refine Ends.thenRet ?_
          replace h := resd_ab hK5 (some_eq h)
          replace h := hD3 _ (some_eq h)
          replace h := resb_ab hK2 (some_eq h)
          obtain rfl := some_eq h
          exact Ends.ret1 (.inl rfl) Try.results27 (ResOK.tmp rfl trivial Imp.refl)
        · replace h := bif_f h hb9
          refine Cod.skip ?_
          refine Ends.then ?_
          refine Cod.seq ?_
          refine Cod.region [] mixed (by kernel_rfl) ?_
          refine Chain.cons (StepOK.fieldAddr .none fd97_1 hfd97_1 (.tmp rfl (fun _ => trivial))) rfl ?_
          refine Chain.cons (StepOK.load .none ty3 (.tmp rfl (fun _ => trivial))) rfl ?_
          obtain ⟨r1, hv10, h⟩ := bind_some h
          refine Chain.cons (StepOK.call .none (route_isSide_ok hv10) (.cons (.tmp rfl (fun _ => trivial)) .nil)) rfl ?_
          refine Chain.cons (StepOK.not .none (.tmp rfl (fun _ => trivial))) rfl ?_
          refine Chain.nil ?_
          refine Ends.then ?_
          refine Cod.cond (t := 37) rfl trivial (fun hb11 => ?_) (fun hb11 => ?_)
          · replace h := bif_t h hb11
            refine Cod.seq ?_
            refine Cod.region [] mixed (by kernel_rfl) ?_
            refine Chain.cons (StepOK.assign .none (.int (by decide))) rfl ?_
            refine Chain.nil ?_
            refine Ends.then ?_
            refine Cod.ret ?_
            refine Ends.blkRet ?_
            refine Ends.thenRet ?_
            refine Ends.thenRet ?_
            refine Ends.blkRet ?_
            refine Ends.thenRet ?_
            replace h := resd_ab hK5 (some_eq h)
            replace h := hD3 _ (some_eq h)
            replace h := resb_ab hK2 (some_eq h)
            obtain rfl := some_eq h
            exact Ends.ret1 (.inl rfl) Try.results27 (ResOK.tmp rfl trivial Imp.refl)
          · replace h := bif_f h hb11
            refine Cod.skip ?_
            refine Ends.blkNormal ?_
            exact Ends.join _ (some_eq h) (.cons (t := 1) rfl (.cons (t := 22) rfl (.cons (t := 23) rfl (.cons (t := 24) rfl Sub.nil)))) SubB.nil
      · have h := resd_nx hK5 hj5
        refine Cod.region [] mixed (by kernel_rfl) ?_
        refine Chain.cons (StepOK.addW .none (.tmp rfl (fun _ => trivial)) (.int (by decide))) rfl ?_
        refine Chain.cons (StepOK.move .none (.tmp rfl (fun _ => trivial))) rfl ?_
        refine Chain.nil ?_
        exact Ends.againL (some_eq h) (.cons (t := 24) rfl (.cons (t := 1) rfl (.cons (t := 22) rfl (.cons (t := 23) rfl Sub.nil)))) SubB.nil
    · replace h := bif_f h hb4
      refine Cod.exit ?_
      refine Ends.thenExit ?_
      refine Ends.thenExit ?_
      refine Ends.blkExit ?_
      replace h := hD3 _ (some_eq h)
      exact Ends.join _ (some_eq h) (.cons (t := 1) rfl Sub.nil) SubB.nil
  · have h := resb_nx hK2 hj2
    refine Cod.seq ?_
    refine Cod.seq ?_
    refine Cod.region [] mixed (by kernel_rfl) ?_
    refine Chain.cons (StepOK.fieldAddr .none fd55_4 hfd55_4 (.tmp rfl (fun _ => trivial))) rfl ?_
    refine Chain.cons (StepOK.load .none ty23 (.tmp rfl (fun _ => trivial))) rfl ?_
    refine Chain.cons (StepOK.len .none sl23 (.tmp rfl (fun _ => trivial))) rfl ?_
    refine Chain.cons (StepOK.gt .none (.tmp rfl (fun _ => trivial)) (.int (by decide))) rfl ?_
    refine Chain.nil ?_
    refine Ends.then ?_
    refine Cod.cond (t := 42) rfl trivial (fun hb12 => ?_) (fun hb12 => ?_)
    · replace h := bif_t h hb12
      refine Cod.seq ?_
      refine Cod.region [] mixed (by kernel_rfl) ?_
      refine Chain.cons (StepOK.assign .none (.int (by decide))) rfl ?_
      refine Chain.nil ?_
      refine Ends.then ?_
      refine Cod.ret ?_
      refine Ends.thenRet ?_
      obtain rfl := some_eq h
      exact Ends.ret1 (.inl rfl) Try.results27 (ResOK.tmp rfl trivial Imp.refl)
    · replace h := bif_f h hb12
      refine Cod.skip ?_
      refine Ends.then ?_
      refine Cod.seq ?_
      refine Cod.seq ?_
      refine Cod.region [] mixed (by kernel_rfl) ?_
      refine Chain.cons (StepOK.fieldAddr .none fd55_4 hfd55_4 (.tmp rfl (fun _ => trivial))) rfl ?_
      refine Chain.cons (StepOK.load .none ty23 (.tmp rfl (fun _ => trivial))) rfl ?_
      refine Chain.cons (StepOK.len .none sl23 (.tmp rfl (fun _ => trivial))) rfl ?_
      refine Chain.cons (StepOK.move .none (.int (by decide))) rfl ?_
      refine Chain.nil ?_
      refine Ends.then ?_
      obtain ⟨o_13, h, hK13⟩ := bindR_some h
      refine Cod.thenJ (ι := Unit) (fun j_13 => []) (fun j_13 => []) (fun s => o_13 = Res.nx s) (.cons (t := 1) rfl Sub.nil) SubB.nil ?_ (fun j_13 hj13 => ?_)
      · skip
        refine Cod.block ?_
        refine Cod.rforEL h (fun p14_ => [(46, ⟨True, rep p14_.1⟩)]) (fun p14_ => []) (.cons (t := 46) rfl Sub.nil) SubB.nil (.cons (t := 1) rfl (.cons (t := 44) rfl (.cons (t := 45) rfl Sub.nil))) SubB.nil (fun p14_ o_14 h hD14 => ?_)
        refine Cod.seq ?_
        refine Cod.region [] mixed (by kernel_rfl) ?_
        refine Chain.cons (StepOK.lt .none (.tmp rfl (fun _ => trivial)) (.tmp rfl (fun _ => trivial))) rfl ?_
        refine Chain.nil ?_
        refine Ends.then ?_
        refine Cod.seq ?_
        refine Cod.cond (t := 47) rfl trivial (fun hb15 => ?_) (fun hb15 => ?_)
        · replace h := bif_t h hb15
          refine Cod.skip ?_
          refine Ends.then ?_
          refine Cod.seq ?_
          obtain ⟨o_16, h, hK16⟩ := bindD_some h
          unfold route_Check_L2 at h
          refine Cod.thenJ (ι := Unit) (fun j_16 => []) (fun j_16 => []) (fun s => o_16 = Res.nx s) (.cons (t := 1) rfl (.cons (t := 44) rfl (.cons (t := 45) rfl (.cons (t := 46) rfl Sub.nil)))) SubB.nil ?_ (fun j_16 hj16 => ?_)
          · skip
            refine Cod.block ?_
            refine Cod.seq ?_
            refine Cod.region [([], []), ([], []), ([], [7]), ([7], [7])] mixed (by kernel_rfl) ?_
            obtain ⟨hn17, h⟩ := need_some h
            refine Chain.consA (StepOK.indexAddr .none sl23 ty25 (.tmp rfl (fun _ => trivial)) (.tmp rfl (fun _ => trivial)) (fun _ => hn17)) rfl ?_
            obtain ⟨v3, hv18, h⟩ := bnd_some h
            refine Chain.consA (StepOK.re hv18 (StepOK.load .none ty25 (.tmp rfl (fun _ => trivial)))) rfl ?_
            refine Chain.consW (StepOK.alloc zo25 rfl) rfl rfl ?_
            refine Chain.consN (StepOK.store ty25 rfl rfl (.tmp rfl (fun _ => trivial))) rfl ?_
            refine Chain.nil ?_
            refine Ends.then ?_
            refine Cod.freeze (t := 7) rfl rfl SubB.nil rfl ?_
            refine Cod.seq ?_
            refine Cod.region [] mixed (by kernel_rfl) ?_
            refine Chain.cons (StepOK.load .none ty25 (.tmp rfl (fun _ => trivial))) rfl ?_
            obtain ⟨e2, hv19, h⟩ := bind_some h
            refine Chain.cons (StepOK.call .none (geom_CheckBox_ok hv19) (.cons (.tmp rfl (fun _ => trivial)) .nil)) rfl ?_
            refine Chain.cons (StepOK.assign .none (.tmp rfl (fun _ => trivial))) rfl ?_
            refine Chain.nil ?_
            refine Ends.then ?_
            refine Cod.seq ?_
            refine Cod.region [] mixed (by kernel_rfl) ?_
            refine Chain.cons (StepOK.move .none (.tmp rfl (fun _ => trivial))) rfl ?_
            refine Chain.cons (StepOK.neI .none (.tmp rfl (fun _ => trivial)) (.int (by decide))) rfl ?_
            refine Chain.nil ?_
            refine Ends.then ?_
            refine Cod.cond (t := 53) rfl trivial (fun hb20 => ?_) (fun hb20 => ?_)
            · replace h := bif_t h hb20
              refine Cod.seq ?_
              refine Cod.region [] mixed (by kernel_rfl) ?_
              refine Chain.cons (StepOK.move .none (.tmp rfl (fun _ => trivial))) rfl ?_
              refine Chain.cons (StepOK.assign .none (.tmp rfl (fun _ => trivial))) rfl ?_
              refine Chain.nil ?_
              refine Ends.then ?_
              refine Cod.ret ?_
              refine Ends.blkRet ?_
              refine Ends.thenRet ?_
              refine Ends.thenRet ?_
              refine Ends.blkRet ?_
              refine Ends.thenRet ?_
              replace h := resd_ab hK16 (some_eq h)
              replace h := hD14 _ (some_eq h)
              replace h := resb_ab hK13 (some_eq h)
              obtain rfl := some_eq h
              exact Ends.ret1 (.inl rfl) Try.results27 (ResOK.tmp rfl trivial Imp.refl)
            · replace h := bif_f h hb20
              refine Cod.skip ?_
              refine Ends.blkNormal ?_
              exact Ends.join _ (some_eq h) (.cons (t := 1) rfl (.cons (t := 44) rfl (.cons (t := 45) rfl (.cons (t := 46) rfl Sub.nil)))) SubB.nil
          · have h := resd_nx hK16 hj16
            refine Cod.region [] mixed (by kernel_rfl) ?_
            refine Chain.cons (StepOK.addW .none (.tmp rfl (fun _ => trivial)) (.int (by decide))) rfl ?_
            refine Chain.cons (StepOK.move .none (.tmp rfl (fun _ => trivial))) rfl ?_
            refine Chain.nil ?_
            exact Ends.againL (some_eq h) (.cons (t := 46) rfl (.cons (t := 1) rfl (.cons (t := 44) rfl (.cons (t := 45) rfl Sub.nil)))) SubB.nil
        · replace h := bif_f h hb15
          refine Cod.exit ?_
          refine Ends.thenExit ?_
          refine Ends.thenExit ?_
          refine Ends.blkExit ?_
          replace h := hD14 _ (some_eq h)
          exact Ends.join _ (some_eq h) (.cons (t := 1) rfl Sub.nil) SubB.nil
      · have h := resb_nx hK13 hj13
        refine Cod.seq ?_
        refine Cod.seq ?_
        refine Cod.region [] mixed (by kernel_rfl) ?_
        refine Chain.cons (StepOK.fieldAddr .none fd55_5 hfd55_5 (.tmp rfl (fun _ => trivial))) rfl ?_
        refine Chain.cons (StepOK.load .none ty3 (.tmp rfl (fun _ => trivial))) rfl ?_
        refine Chain.cons (StepOK.lt .none (.tmp rfl (fun _ => trivial)) (.int (by decide))) rfl ?_
        refine Chain.cons (StepOK.move .none (.tmp rfl (fun _ => trivial))) rfl ?_
        refine Chain.cons (StepOK.fieldAddr (.at rfl rfl) fd55_5 hfd55_5 (.tmp rfl (fun _ => trivial))) rfl ?_
        refine Chain.cons (StepOK.load (.at rfl rfl) ty3 (.tmp rfl id)) rfl ?_
        refine Chain.cons (StepOK.gt (.at rfl rfl) (.tmp rfl id) (.int (by decide))) rfl ?_
        refine Chain.cons (StepOK.pickOr .none (.tmp rfl (fun _ => trivial)) (.tmp rfl id)) rfl ?_
        refine Chain.nil ?_
        refine Ends.then ?_
        refine Cod.cond (t := 63) rfl trivial (fun hb21 => ?_) (fun hb21 => ?_)
        · replace h := bif_t h hb21
          refine Cod.seq ?_
          refine Cod.region [] mixed (by kernel_rfl) ?_
          refine Chain.cons (StepOK.assign .none (.int (by decide))) rfl ?_
          refine Chain.nil ?_
          refine Ends.then ?_
          refine Cod.ret ?_
          refine Ends.thenRet ?_
          obtain rfl := some_eq h
          exact Ends.ret1 (.inl rfl) Try.results27 (ResOK.tmp rfl trivial Imp.refl)
        · replace h := bif_f h hb21
          refine Cod.skip ?_
          refine Ends.then ?_
          refine Cod.seq ?_
          refine Cod.region [([], []), ([], []), ([], []), ([], []), ([], []), ([], [9]), ([], [10]), ([9], [9]), ([10], [10])] mixed (by kernel_rfl) ?_
          refine Chain.consA (StepOK.load .none ty55 (.tmp rfl (fun _ => trivial))) rfl ?_
          obtain ⟨r2, hv22, h⟩ := bind_some h
          refine Chain.consA (StepOK.call .none (route_ends_ok hv22) (.cons (.tmp rfl (fun _ => trivial)) .nil)) rfl ?_
          refine Chain.consA (StepOK.move .none (.tmp rfl (fun _ => trivial))) rfl ?_
          refine Chain.consA (StepOK.extract .none (.tmp rfl (fun _ => trivial)) rfl) rfl ?_
          refine Chain.consA (StepOK.extract .none (.tmp rfl (fun _ => trivial)) rfl) rfl ?_
          refine Chain.consW (StepOK.alloc zo53 rfl) rfl rfl ?_
          refine Chain.consW (StepOK.alloc zo53 rfl) rfl rfl ?_
          refine Chain.consN (StepOK.store ty53 rfl rfl (.tmp rfl (fun _ => trivial))) rfl ?_
          refine Chain.consN (StepOK.store ty53 rfl rfl (.tmp rfl (fun _ => trivial))) rfl ?_
          refine Chain.nil ?_
          refine Ends.then ?_
          refine Cod.freeze (t := 9) rfl rfl (.cons (t := 10) rfl SubB.nil) rfl ?_
          refine Cod.freeze (t := 10) rfl rfl SubB.nil rfl ?_
          refine Cod.seq ?_
          refine Cod.seq ?_
          refine Cod.region [] mixed (by kernel_rfl) ?_
          refine Chain.cons (StepOK.load .none ty53 (.tmp rfl (fun _ => trivial))) rfl ?_
          obtain ⟨e3, hv23, h⟩ := bind_some h
          refine Chain.cons (StepOK.call .none (geom_CheckPoint_ok hv23) (.cons (.tmp rfl (fun _ => trivial)) .nil)) rfl ?_
          refine Chain.cons (StepOK.assign .none (.tmp rfl (fun _ => trivial))) rfl ?_
          refine Chain.nil ?_
          refine Ends.then ?_
          refine Cod.seq ?_
          refine Cod.region [] mixed (by kernel_rfl) ?_
          refine Chain.cons (StepOK.move .none (.tmp rfl (fun _ => trivial))) rfl ?_
          refine Chain.cons (StepOK.neI .none (.tmp rfl (fun _ => trivial)) (.int (by decide))) rfl ?_
          refine Chain.nil ?_
          refine Ends.then ?_
          refine Cod.cond (t := 72) rfl trivial (fun hb24 => ?_) (fun hb24 => ?_)
          · replace h := bif_t h hb24
            refine Cod.seq ?_
            refine Cod.region [] mixed (by kernel_rfl) ?_
            refine Chain.cons (StepOK.move .none (.tmp rfl (fun _ => trivial))) rfl ?_
            refine Chain.cons (StepOK.assign .none (.tmp rfl (fun _ => trivial))) rfl ?_
            refine Chain.nil ?_
            refine Ends.then ?_
            refine Cod.ret ?_
            refine Ends.thenRet ?_
            obtain rfl := some_eq h
            exact Ends.ret1 (.inl rfl) Try.results27 (ResOK.tmp rfl trivial Imp.refl)
          · replace h := bif_f h hb24
            refine Cod.skip ?_
            refine Ends.then ?_
            refine Cod.seq ?_
            refine Cod.region [] mixed (by kernel_rfl) ?_
            refine Chain.cons (StepOK.load .none ty53 (.tmp rfl (fun _ => trivial))) rfl ?_
            obtain ⟨r3, hv25, h⟩ := bind_some h
            refine Chain.cons (StepOK.call .none (geom_CheckPoint_ok hv25) (.cons (.tmp rfl (fun _ => trivial)) .nil)) rfl ?_
            refine Chain.cons (StepOK.assign .none (.tmp rfl (fun _ => trivial))) rfl ?_
            refine Chain.nil ?_
            refine Ends.then ?_
            refine Cod.ret ?_
            obtain rfl := some_eq h
            exact Ends.ret1 (.inl rfl) Try.results27 (ResOK.tmp rfl trivial Imp.refl)

theorem law_routes_ok  {r : Bool}  (h : law_routes  = some r) : FSpec Try.prog 17 [] (rep r) := by
  unfold law_routes at h
  refine FSpec.intro (n := 12) fnok17 Try.func17 rfl Try.ntmps17 rfl (fun F => ?_)
  refine Cod.seq ?_
  refine Cod.region [] mixed (by kernel_rfl) ?_
  refine Chain.cons (StepOK.assign .none .bool) rfl ?_
  refine Chain.nil ?_
  refine Ends.then ?_
  refine Cod.seq ?_
  refine Cod.region [([], []), ([], []), ([], [1]), ([1], [1])] mixed (by kernel_rfl) ?_
  refine Chain.consA (StepOK.buildF (y := (⟨9, (0 : Int)⟩ : Point)) .none bu53 zc53 rfl (.cons (.int (by decide)) .nil) (.cons rfl sf53_0 .nil)) rfl ?_
  obtain ⟨v1, hv1, h⟩ := bnd_some h
  refine Chain.consA (StepOK.re hv1 (StepOK.buildF (y := (⟨(⟨(0 : Int), (0 : Int)⟩ : Point), 2, (⟨9, (0 : Int)⟩ : Point), 4, ([] : (List Box)), 1⟩ : Task)) .none bu55 zc55 rfl (.cons (.int (by decide)) (.cons (.tmp rfl (fun _ => trivial)) (.cons (.int (by decide)) (.cons (.int (by decide)) .nil)))) (.cons rfl sf55_1 (.cons rfl sf55_2 (.cons rfl sf55_3 (.cons rfl sf55_5 .nil)))))) rfl ?_
  refine Chain.consW (StepOK.alloc zo55 rfl) rfl rfl ?_
  refine Chain.consN (StepOK.store ty55 rfl rfl (.tmp rfl (fun _ => trivial))) rfl ?_
  refine Chain.nil ?_
  refine Ends.then ?_
  refine Cod.freeze (t := 1) rfl rfl SubB.nil rfl ?_
  refine Cod.seq ?_
  refine Cod.region [] mixed (by kernel_rfl) ?_
  refine Chain.cons (StepOK.load .none ty55 (.tmp rfl (fun _ => trivial))) rfl ?_
  obtain ⟨r1, hv2, h⟩ := bind_some h
  refine Chain.cons (StepOK.call .none (route_Check_ok hv2) (.cons (.tmp rfl (fun _ => trivial)) .nil)) rfl ?_
  refine Chain.cons (StepOK.eqI .none (.tmp rfl (fun _ => trivial)) (.int (by decide))) rfl ?_
  refine Chain.cons (StepOK.move .none (.tmp rfl (fun _ => trivial))) rfl ?_
  refine Chain.cons (StepOK.buildF (y := (⟨(⟨(0 : Int), (0 : Int)⟩ : Point), (0 : Int), (⟨(0 : Int), (0 : Int)⟩ : Point), (0 : Int), ([] : (List Box)), (0 : Int)⟩ : Task)) (.at rfl rfl) bu55 zc55 rfl .nil .nil) rfl ?_
  obtain ⟨r2, hv3, h⟩ := bind_some h
  refine Chain.cons (StepOK.callIf (.at rfl rfl) fnok27 (fun hg => route_Check_ok ((fun hg => gd_some hv3 (by simp [hg.2])) hg)) (.cons (.tmp rfl id) .nil) (fun h => h)) rfl ?_
  refine Chain.cons (StepOK.eqI (.at rfl rfl) (.tmp rfl id) (.int (by decide))) rfl ?_
  refine Chain.cons (StepOK.pickAnd .none (.tmp rfl (fun _ => trivial)) (.tmp rfl id)) rfl ?_
  refine Chain.cons (StepOK.assign .none (.tmp rfl (fun _ => trivial))) rfl ?_
  refine Chain.nil ?_
  refine Ends.then ?_
  refine Cod.ret ?_
  obtain rfl := some_eq h
  exact Ends.ret1 (.inl rfl) Try.results17 (ResOK.tmp rfl trivial Imp.refl)

theorem law_LabelsMatch_1_ok {c0_1 : Box} {r : Box}  (h : law_LabelsMatch_1 c0_1 = some r) : FSpec Try.prog 19 [ref c0_1] (rep r) := by
  unfold law_LabelsMatch_1 at h
  refine FSpec.intro (n := 3) fnok19 Try.func19 rfl Try.ntmps19 rfl (fun F => ?_)
  refine Cod.seq ?_
  refine Cod.region [([], [1])] mixed (by kernel_rfl) ?_
  refine Chain.consW (StepOK.alloc zo25 rfl) rfl rfl ?_
  refine Chain.nil ?_
  refine Ends.then ?_
  obtain ⟨v1, hv1, h⟩ := bnd_some h
  refine Cod.reB (t := 1) rfl (congrArg (cont 25) hv1) ?_
  refine Cod.nameBox (t := 1) (g := 5001) rfl rfl (fun m5001 => ?_)
  refine Cod.seq ?_
  refine Cod.region [([], []), ([5001], [5001])] mixed (by kernel_rfl) ?_
  refine Chain.consA (StepOK.load .none ty25 (.tmp rfl (fun _ => trivial))) rfl ?_
  refine Chain.consN (StepOK.storeAt0 (g := 5001) ty25 rfl (.tmp rfl (fun _ => trivial)) (.tmp rfl (fun _ => trivial))) rfl ?_
  refine Chain.nil ?_
  refine Ends.then ?_
  refine Cod.freezeBox (g := 5001) (ts := [1]) rfl (.cons (t := 1) rfl trivial .nil) SubB.nil rfl ?_
  refine Cod.ret ?_
  obtain rfl := some_eq h
  exact Ends.ret1 (.inl rfl) Try.results19 (ResOK.cellR ty25 rfl trivial Imp.refl)

theorem law_is_Box_ok {got1 : Box} {e1 : Int} {want1 : Int} {right1 : Option Box} {r : Bool}  (h : law_is_Box got1 e1 want1 right1 = some r) : FSpec Try.prog 18 [rep got1, rep e1, rep want1, fn0 Try.prog (rep (α := Box)) right1] (rep r) := by
  unfold law_is_Box at h
  refine FSpec.intro (n := 28) fnok18 Try.func18 rfl Try.ntmps18 rfl (fun F => ?_)
  refine Cod.seq ?_
  refine Cod.region [] mixed (by kernel_rfl) ?_
  refine Chain.cons (StepOK.box .none (.tmp rfl (fun _ => trivial))) rfl ?_
  refine Chain.cons (StepOK.assign .none .bool) rfl ?_
  refine Chain.nil ?_
  refine Ends.then ?_
  refine Cod.seq ?_
  refine Cod.region [([], [9])] mixed (by kernel_rfl) ?_
  refine Chain.consW (StepOK.alloc zo25 rfl) rfl rfl ?_
  refine Chain.nil ?_
  refine Ends.then ?_
  refine Cod.freeze (t := 9) rfl rfl SubB.nil rfl ?_
  refine Cod.seq ?_
  refine Cod.seq ?_
  refine Cod.region [] mixed (by kernel_rfl) ?_
  refine Chain.cons (StepOK.move .none (.tmp rfl (fun _ => trivial))) rfl ?_
  refine Chain.cons (StepOK.neI .none (.tmp rfl (fun _ => trivial)) (.int (by decide))) rfl ?_
  refine Chain.nil ?_
  refine Ends.then ?_
  refine Cod.cond (t := 11) rfl trivial (fun hb1 => ?_) (fun hb1 => ?_)
  · replace h := bif_t h hb1
    refine Cod.seq ?_
    refine Cod.region [] mixed (by kernel_rfl) ?_
    refine Chain.cons (StepOK.load .none ty25 (.tmp rfl (fun _ => trivial))) rfl ?_
    refine Chain.cons (StepOK.load .none ty25 (.tmp rfl (fun _ => trivial))) rfl ?_
    refine Chain.cons (StepOK.eqS .none eq25 (.tmp rfl (fun _ => trivial)) (.tmp rfl (fun _ => trivial))) rfl ?_
    refine Chain.cons (StepOK.move .none (.tmp rfl (fun _ => trivial))) rfl ?_
    refine Chain.cons (StepOK.move (.at rfl rfl) (.tmp rfl (fun _ => trivial))) rfl ?_
    refine Chain.cons (StepOK.move (.at rfl rfl) (.tmp rfl (fun _ => trivial))) rfl ?_
    refine Chain.cons (StepOK.eqI (.at rfl rfl) (.tmp rfl id) (.tmp rfl id)) rfl ?_
    refine Chain.cons (StepOK.pickAnd .none (.tmp rfl (fun _ => trivial)) (.tmp rfl id)) rfl ?_
    refine Chain.cons (StepOK.assign .none (.tmp rfl (fun _ => trivial))) rfl ?_
    refine Chain.nil ?_
    refine Ends.then ?_
    refine Cod.ret ?_
    refine Ends.thenRet ?_
    obtain rfl := some_eq h
    exact Ends.ret1 (.inl rfl) Try.results18 (ResOK.tmp rfl trivial Imp.refl)
  · replace h := bif_f h hb1
    refine Cod.skip ?_
    refine Ends.then ?_
    refine Cod.seq ?_
    refine Cod.region [] mixed (by kernel_rfl) ?_
    refine Chain.cons (StepOK.move .none (.tmp rfl (fun _ => trivial))) rfl ?_
    refine Chain.cons (StepOK.eqI .none (.tmp rfl (fun _ => trivial)) (.int (by decide))) rfl ?_
    refine Chain.cons (StepOK.move .none (.tmp rfl (fun _ => trivial))) rfl ?_
    refine Chain.cons (StepOK.load (.at rfl rfl) ty25 (.tmp rfl (fun _ => trivial))) rfl ?_
    refine Chain.cons (StepOK.move (.at rfl rfl) (.tmp rfl (fun _ => trivial))) rfl ?_
    obtain ⟨r1, hv2, h⟩ := bind_some h
    refine Chain.cons (StepOK.callV _ (.at rfl rfl) (.tmp rfl id) (fun hg => gd_some hv2 (by simp [hg.2])) .nil) rfl ?_
    refine Chain.cons (StepOK.eqS (.at rfl rfl) eq25 (.tmp rfl id) (.tmp rfl id)) rfl ?_
    refine Chain.cons (StepOK.pickAnd .none (.tmp rfl (fun _ => trivial)) (.tmp rfl id)) rfl ?_
    refine Chain.cons (StepOK.assign .none (.tmp rfl (fun _ => trivial))) rfl ?_
    refine Chain.nil ?_
    refine Ends.then ?_
    refine Cod.ret ?_
    obtain rfl := some_eq h
    exact Ends.ret1 (.inl rfl) Try.results18 (ResOK.tmp rfl trivial Imp.refl)

theorem law_LabelsMatch_ok {l1 : (List Point)} {w1 : Int} {h1 : Int} {walls1 : (List Box)} {r : Bool}  (h : law_LabelsMatch l1 w1 h1 walls1 = some r) : FSpec Try.prog 3 [rep l1, rep w1, rep h1, rep walls1] (rep r) := by
  unfold law_LabelsMatch at h
  refine FSpec.intro (n := 75) fnok3 Try.func3 rfl Try.ntmps3 rfl (fun F => ?_)
  refine Cod.seq ?_
  refine Cod.region [] mixed (by kernel_rfl) ?_
  refine Chain.cons (StepOK.assign .none .bool) rfl ?_
  refine Chain.nil ?_
  refine Ends.then ?_
  refine Cod.seq ?_
  refine Cod.region [([], []), ([], []), ([], []), ([], []), ([], []), ([], []), ([], []), ([], []), ([], [9]), ([9], [9]), ([], [])] mixed (by kernel_rfl) ?_
  refine Chain.consA (StepOK.move .none (.tmp rfl (fun _ => trivial))) rfl ?_
  refine Chain.consA (StepOK.move .none (.tmp rfl (fun _ => trivial))) rfl ?_
  refine Chain.consA (StepOK.move .none (.tmp rfl (fun _ => trivial))) rfl ?_
  refine Chain.consA (StepOK.move .none (.tmp rfl (fun _ => trivial))) rfl ?_
  obtain ⟨r1, hv1, h⟩ := bind_some h
  refine Chain.consA (StepOK.call .none (route_Label_ok hv1) (.cons (.tmp rfl (fun _ => trivial)) (.cons (.tmp rfl (fun _ => trivial)) (.cons (.tmp rfl (fun _ => trivial)) (.cons (.tmp rfl (fun _ => trivial)) .nil))))) rfl ?_
  refine Chain.consA (StepOK.move .none (.tmp rfl (fun _ => trivial))) rfl ?_
  refine Chain.consA (StepOK.extract .none (.tmp rfl (fun _ => trivial)) rfl) rfl ?_
  refine Chain.consA (StepOK.extract .none (.tmp rfl (fun _ => trivial)) rfl) rfl ?_
  refine Chain.consW (StepOK.alloc zo25 rfl) rfl rfl ?_
  refine Chain.consN (StepOK.store ty25 rfl rfl (.tmp rfl (fun _ => trivial))) rfl ?_
  refine Chain.consA (StepOK.assign .none (.tmp rfl (fun _ => trivial))) rfl ?_
  refine Chain.nil ?_
  refine Ends.then ?_
  refine Cod.freeze (t := 9) rfl rfl SubB.nil rfl ?_
  refine Cod.seq ?_
  refine Cod.region [] mixed (by kernel_rfl) ?_
  refine Chain.cons (StepOK.move .none (.tmp rfl (fun _ => trivial))) rfl ?_
  obtain ⟨r2, hv2, h⟩ := bind_some h
  refine Chain.cons (StepOK.call .none (ref_PathError_ok hv2) (.cons (.tmp rfl (fun _ => trivial)) .nil)) rfl ?_
  refine Chain.cons (StepOK.move .none (.tmp rfl (fun _ => trivial))) rfl ?_
  obtain ⟨r3, hv3, h⟩ := bind_some h
  refine Chain.cons (StepOK.call .none (ref_In_ok hv3) (.cons (.tmp rfl (fun _ => trivial)) (.cons (.int (by decide)) (.cons (.int (by decide)) .nil)))) rfl ?_
  refine Chain.cons (StepOK.not .none (.tmp rfl (fun _ => trivial))) rfl ?_
  refine Chain.cons (StepOK.move .none (.tmp rfl (fun _ => trivial))) rfl ?_
  refine Chain.cons (StepOK.move (.at rfl rfl) (.tmp rfl (fun _ => trivial))) rfl ?_
  obtain ⟨r4, hv4, h⟩ := bind_some h
  refine Chain.cons (StepOK.callIf (.at rfl rfl) fnok13 (fun hg => ref_In_ok ((fun hg => gd_some hv4 (by simp [hg.2])) hg)) (.cons (.tmp rfl id) (.cons (.int (by decide)) (.cons (.int (by decide)) .nil))) (fun h => h)) rfl ?_
  refine Chain.cons (StepOK.not (.at rfl rfl) (.tmp rfl id)) rfl ?_
  refine Chain.cons (StepOK.pickOr .none (.tmp rfl (fun _ => trivial)) (.tmp rfl id)) rfl ?_
  obtain ⟨r5, hv5, h⟩ := bind_some h
  refine Chain.cons (StepOK.call .none (ref_When_ok hv5) (.cons (.tmp rfl (fun _ => trivial)) (.cons (.int (by decide)) .nil))) rfl ?_
  refine Chain.cons (StepOK.move .none (.tmp rfl (fun _ => trivial))) rfl ?_
  refine Chain.cons (StepOK.len .none sl23 (.tmp rfl (fun _ => trivial))) rfl ?_
  refine Chain.cons (StepOK.gt .none (.tmp rfl (fun _ => trivial)) (.int (by decide))) rfl ?_
  obtain ⟨r6, hv6, h⟩ := bind_some h
  refine Chain.cons (StepOK.call .none (ref_When_ok hv6) (.cons (.tmp rfl (fun _ => trivial)) (.cons (.int (by decide)) .nil))) rfl ?_
  refine Chain.cons (StepOK.move .none (.tmp rfl (fun _ => trivial))) rfl ?_
  obtain ⟨r7, hv7, h⟩ := bind_some h
  refine Chain.cons (StepOK.call .none (ref_BoxesError_ok hv7) (.cons (.tmp rfl (fun _ => trivial)) .nil)) rfl ?_
  refine Chain.cons (StepOK.buildSlice (xs := [_, _, _, _]) .none sl81 ty26 hz26 (.cons (.tmp rfl (fun _ => trivial)) (.cons (.tmp rfl (fun _ => trivial)) (.cons (.tmp rfl (fun _ => trivial)) (.cons (.tmp rfl (fun _ => trivial)) .nil)))) rfl (by decide)) rfl ?_
  obtain ⟨want1, hv8, h⟩ := bind_some h
  refine Chain.cons (StepOK.call .none (ref_First_ok hv8) (.cons (.tmp rfl (fun _ => trivial)) .nil)) rfl ?_
  refine Chain.cons (StepOK.assign .none (.tmp rfl (fun _ => trivial))) rfl ?_
  refine Chain.nil ?_
  refine Ends.then ?_
  refine Cod.seq ?_
  refine Cod.seq ?_
  refine Cod.region [] mixed (by kernel_rfl) ?_
  refine Chain.cons (StepOK.move .none (.tmp rfl (fun _ => trivial))) rfl ?_
  refine Chain.cons (StepOK.eqI .none (.tmp rfl (fun _ => trivial)) (.int (by decide))) rfl ?_
  refine Chain.cons (StepOK.move .none (.tmp rfl (fun _ => trivial))) rfl ?_
  refine Chain.cons (StepOK.move (.at rfl rfl) (.tmp rfl (fun _ => trivial))) rfl ?_
  obtain ⟨r8, hv9, h⟩ := bind_some h
  refine Chain.cons (StepOK.callIf (.at rfl rfl) fnok15 (fun hg => ref_LengthOf_ok ((fun hg => gd_some hv9 (by simp [hg.2])) hg)) (.cons (.tmp rfl id) .nil) (fun h => h)) rfl ?_
  refine Chain.cons (StepOK.gt (.at rfl rfl) (.tmp rfl id) (.int (by decide))) rfl ?_
  refine Chain.cons (StepOK.pickAnd .none (.tmp rfl (fun _ => trivial)) (.tmp rfl id)) rfl ?_
  refine Chain.nil ?_
  refine Ends.then ?_
  refine Cod.cond (t := 47) rfl trivial (fun hb10 => ?_) (fun hb10 => ?_)
  · replace h := bif_t h hb10
    refine Cod.seq ?_
    refine Cod.region [] mixed (by kernel_rfl) ?_
    refine Chain.cons (StepOK.move .none (.tmp rfl (fun _ => trivial))) rfl ?_
    refine Chain.cons (StepOK.eqI .none (.tmp rfl (fun _ => trivial)) (.int (by decide))) rfl ?_
    refine Chain.cons (StepOK.move .none (.tmp rfl (fun _ => trivial))) rfl ?_
    refine Chain.cons (StepOK.move (.at rfl rfl) (.tmp rfl (fun _ => trivial))) rfl ?_
    refine Chain.cons (StepOK.eqI (.at rfl rfl) (.tmp rfl id) (.int (by decide))) rfl ?_
    refine Chain.cons (StepOK.pickOr .none (.tmp rfl (fun _ => trivial)) (.tmp rfl id)) rfl ?_
    refine Chain.cons (StepOK.assign .none (.tmp rfl (fun _ => trivial))) rfl ?_
    refine Chain.nil ?_
    refine Ends.then ?_
    refine Cod.ret ?_
    refine Ends.thenRet ?_
    obtain rfl := some_eq h
    exact Ends.ret1 (.inl rfl) Try.results3 (ResOK.tmp rfl trivial Imp.refl)
  · replace h := bif_f h hb10
    refine Cod.skip ?_
    refine Ends.then ?_
    refine Cod.seq ?_
    refine Cod.region [([], [12])] mixed (by kernel_rfl) ?_
    refine Chain.consW (StepOK.alloc zo25 rfl) rfl rfl ?_
    refine Chain.nil ?_
    refine Ends.then ?_
    obtain ⟨right1, hv11, h⟩ := bnd_some h
    refine Cod.reB (t := 12) rfl (congrArg (cont 25) hv11) ?_
    refine Cod.nameBox (t := 12) (g := 5001) rfl rfl (fun m5001 => ?_)
    refine Cod.seq ?_
    refine Cod.seq ?_
    refine Cod.region [] mixed (by kernel_rfl) ?_
    refine Chain.cons (StepOK.move .none (.tmp rfl (fun _ => trivial))) rfl ?_
    refine Chain.cons (StepOK.eqI .none (.tmp rfl (fun _ => trivial)) (.int (by decide))) rfl ?_
    refine Chain.nil ?_
    refine Ends.then ?_
    obtain ⟨j_12, h, hK12⟩ := bind_some h
    refine Cod.thenJ (ι := (Int × Box)) (fun j_12 => [(11, ⟨True, rep j_12.1⟩), (12, ⟨True, ref j_12.2⟩)]) (fun j_12 => []) (fun s => j_12 = s) (.cons (t := 9) rfl (.cons (t := 10) rfl Sub.nil)) SubB.nil ?_ (fun j_12' hj12 => ?_)
    · skip
      refine Cod.cond (t := 55) rfl trivial (fun hb13 => ?_) (fun hb13 => ?_)
      · replace h := bif_t h hb13
        refine Cod.seq ?_
        refine Cod.region [] mixed (by kernel_rfl) ?_
        refine Chain.cons (StepOK.assign .none .bool) rfl ?_
        refine Chain.nil ?_
        refine Ends.then ?_
        refine Cod.seq ?_
        refine Cod.region [([], []), ([], []), ([], []), ([], []), ([], []), ([], []), ([], []), ([], []), ([5001], [5001]), ([], [])] mixed (by kernel_rfl) ?_
        refine Chain.consA (StepOK.move .none (.tmp rfl (fun _ => trivial))) rfl ?_
        refine Chain.consA (StepOK.move .none (.tmp rfl (fun _ => trivial))) rfl ?_
        refine Chain.consA (StepOK.move .none (.tmp rfl (fun _ => trivial))) rfl ?_
        refine Chain.consA (StepOK.move .none (.tmp rfl (fun _ => trivial))) rfl ?_
        obtain ⟨r9, hv14, h⟩ := bind_some h
        refine Chain.consA (StepOK.call .none (ref_LabelOf_ok hv14) (.cons (.tmp rfl (fun _ => trivial)) (.cons (.tmp rfl (fun _ => trivial)) (.cons (.tmp rfl (fun _ => trivial)) (.cons (.tmp rfl (fun _ => trivial)) .nil))))) rfl ?_
        refine Chain.consA (StepOK.move .none (.tmp rfl (fun _ => trivial))) rfl ?_
        refine Chain.consA (StepOK.extract .none (.tmp rfl (fun _ => trivial)) rfl) rfl ?_
        refine Chain.consA (StepOK.extract .none (.tmp rfl (fun _ => trivial)) rfl) rfl ?_
        refine Chain.consN (StepOK.storeAt0 (g := 5001) ty25 rfl (.tmp rfl (fun _ => trivial)) (.tmp rfl (fun _ => trivial))) rfl ?_
        refine Chain.consA (StepOK.assign .none (.tmp rfl (fun _ => trivial))) rfl ?_
        refine Chain.nil ?_
        refine Ends.then ?_
        refine Cod.freezeBox (g := 5001) (ts := [12]) rfl (.cons (t := 12) rfl trivial .nil) SubB.nil rfl ?_
        refine Cod.region [] mixed (by kernel_rfl) ?_
        refine Chain.cons (StepOK.move .none (.tmp rfl (fun _ => trivial))) rfl ?_
        refine Chain.cons (StepOK.not .none (.tmp rfl (fun _ => trivial))) rfl ?_
        obtain ⟨want2, hv15, h⟩ := bind_some h
        refine Chain.cons (StepOK.call .none (ref_When_ok hv15) (.cons (.tmp rfl (fun _ => trivial)) (.cons (.int (by decide)) .nil))) rfl ?_
        refine Chain.cons (StepOK.assign .none (.tmp rfl (fun _ => trivial))) rfl ?_
        refine Chain.nil ?_
        exact Ends.join _ (some_eq h) (.cons (t := 11) rfl (.cons (t := 12) rfl (.cons (t := 9) rfl (.cons (t := 10) rfl Sub.nil)))) SubB.nil
      · replace h := bif_f h hb13
        refine Cod.skip ?_
        refine Ends.freezeBox (g := 5001) (ts := [12]) rfl (.cons (t := 12) rfl trivial .nil) SubB.nil rfl ?_
        exact Ends.join _ (some_eq h) (.cons (t := 11) rfl (.cons (t := 12) rfl (.cons (t := 9) rfl (.cons (t := 10) rfl Sub.nil)))) SubB.nil
    · subst hj12; have h := hK12; clear hK12
      refine Cod.seq ?_
      refine Cod.region [] mixed (by kernel_rfl) ?_
      obtain ⟨r10, hv16, h⟩ := bind_some h
      refine Chain.cons (StepOK.call .none (law_routes_ok hv16) .nil) rfl ?_
      refine Chain.cons (StepOK.move .none (.tmp rfl (fun _ => trivial))) rfl ?_
      refine Chain.cons (StepOK.load (.at rfl rfl) ty25 (.tmp rfl (fun _ => trivial))) rfl ?_
      refine Chain.cons (StepOK.move (.at rfl rfl) (.tmp rfl (fun _ => trivial))) rfl ?_
      refine Chain.cons (StepOK.move (.at rfl rfl) (.tmp rfl (fun _ => trivial))) rfl ?_
      refine Chain.cons (StepOK.makeFunc (ι := Box) (pre := fun i => (law_LabelsMatch_1 j_12.2)  = some i) (Ss := fun i => []) (S := fun i => rep i) (.at rfl rfl) fnok19 (fun i h => law_LabelsMatch_1_ok h) (.cons (.tmp rfl (fun _ => trivial)) .nil)) rfl ?_
      obtain ⟨r11, hv17, h⟩ := bind_some h
      refine Chain.cons (StepOK.callIf (.at rfl rfl) fnok18 (fun hg => law_is_Box_ok ((fun hg => gd_some hv17 (by simp [hg.2])) hg)) (.cons (.tmp rfl id) (.cons (.tmp rfl id) (.cons (.tmp rfl id) (.cons (.tmp rfl id) .nil)))) (fun h => h)) rfl ?_
      refine Chain.cons (StepOK.pickAnd .none (.tmp rfl (fun _ => trivial)) (.tmp rfl id)) rfl ?_
      refine Chain.cons (StepOK.assign .none (.tmp rfl (fun _ => trivial))) rfl ?_
      refine Chain.nil ?_
      refine Ends.then ?_
      refine Cod.ret ?_
      obtain rfl := some_eq h
      exact Ends.ret1 (.inl rfl) Try.results3 (ResOK.tmp rfl trivial Imp.refl)


end Go.Proofs.Ytegjicmejjfgfaa
