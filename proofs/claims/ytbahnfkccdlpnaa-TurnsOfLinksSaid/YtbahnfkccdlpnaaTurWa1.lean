/-
  The walks: what a function computes is what its plain function says (printed by a program of one's own).
-/
import Derived.Test.YtbahnfkccdlpnaaTurFa
set_option maxRecDepth 100000
set_option linter.unusedSimpArgs false
set_option linter.unusedVariables false
namespace Go.Proofs.Ytbahnfkccdlpnaa
open Go Go.DB Go.RowKit

theorem slices_Sort_int_ok {l : List Int} {r : List Int} {s : Value} (h : slices_Sort_int l = some r) : FSpecO Try.prog 67 [isV s] [(s, rowV 3 l)] (anyV) [some (rowV 3 r)] := by
  obtain ⟨hl, h⟩ := need_some h
  obtain rfl := some_eq h
  exact sortI_spec sortI_lay rfl fnok67 hl

theorem ref_In_ok {n1 : Int} {low1 : Int} {high1 : Int} {r : Bool}  (h : ref_In n1 low1 high1 = some r) : FSpec Try.prog 28 [rep n1, rep low1, rep high1] (rep r) := by
  unfold ref_In at h
  refine FSpec.intro (n := 15) fnok28 Try.func28 rfl Try.ntmps28 rfl (fun F => ?_)
  refine Cod.seq ?_
  refine Cod.region [] mixed (by kernel_rfl) ?_
  refine Chain.cons (StepOK.assign .none .bool) rfl ?_
  refine Chain.nil ?_
  refine Ends.then ?_
  refine Cod.seq ?_
  refine Cod.region [] mixed (by kernel_rfl) ?_
  refine Chain.cons (StepOK.move .none (.tmp rfl (fun _ => trivial))) rfl ?_
  refine Chain.cons (StepOK.move .none (.tmp rfl (fun _ => trivial))) rfl ?_
  refine Chain.cons (StepOK.ge .none (.tmp rfl (fun _ => trivial)) (.tmp rfl (fun _ => trivial))) rfl ?_
  refine Chain.cons (StepOK.move .none (.tmp rfl (fun _ => trivial))) rfl ?_
  refine Chain.cons (StepOK.move (.at rfl rfl) (.tmp rfl (fun _ => trivial))) rfl ?_
  refine Chain.cons (StepOK.move (.at rfl rfl) (.tmp rfl (fun _ => trivial))) rfl ?_
  refine Chain.cons (StepOK.le (.at rfl rfl) (.tmp rfl id) (.tmp rfl id)) rfl ?_
  refine Chain.cons (StepOK.pickAnd .none (.tmp rfl (fun _ => trivial)) (.tmp rfl id)) rfl ?_
  refine Chain.cons (StepOK.assign .none (.tmp rfl (fun _ => trivial))) rfl ?_
  refine Chain.nil ?_
  refine Ends.then ?_
  refine Cod.ret ?_
  obtain rfl := some_eq h
  exact Ends.ret1 (.inl rfl) Try.results28 (ResOK.tmp rfl trivial Imp.refl)

theorem ref_When_ok {is1 : Bool} {e1 : Int} {r : Int}  (h : ref_When is1 e1 = some r) : FSpec Try.prog 45 [rep is1, rep e1] (rep r) := by
  unfold ref_When at h
  refine FSpec.intro (n := 7) fnok45 Try.func45 rfl Try.ntmps45 rfl (fun F => ?_)
  refine Cod.seq ?_
  refine Cod.region [] mixed (by kernel_rfl) ?_
  refine Chain.cons (StepOK.assign .none (.int (by decide))) rfl ?_
  refine Chain.nil ?_
  refine Ends.then ?_
  refine Cod.seq ?_
  refine Cod.seq ?_
  refine Cod.region [] mixed (by kernel_rfl) ?_
  refine Chain.cons (StepOK.move .none (.tmp rfl (fun _ => trivial))) rfl ?_
  refine Chain.nil ?_
  refine Ends.then ?_
  refine Cod.cond (t := 5) rfl trivial (fun hb1 => ?_) (fun hb1 => ?_)
  · replace h := bif_t h hb1
    refine Cod.seq ?_
    refine Cod.region [] mixed (by kernel_rfl) ?_
    refine Chain.cons (StepOK.move .none (.tmp rfl (fun _ => trivial))) rfl ?_
    refine Chain.cons (StepOK.assign .none (.tmp rfl (fun _ => trivial))) rfl ?_
    refine Chain.nil ?_
    refine Ends.then ?_
    refine Cod.ret ?_
    refine Ends.thenRet ?_
    obtain rfl := some_eq h
    exact Ends.ret1 (.inl rfl) Try.results45 (ResOK.tmp rfl trivial Imp.refl)
  · replace h := bif_f h hb1
    refine Cod.skip ?_
    refine Ends.then ?_
    refine Cod.seq ?_
    refine Cod.region [] mixed (by kernel_rfl) ?_
    refine Chain.cons (StepOK.assign .none (.int (by decide))) rfl ?_
    refine Chain.nil ?_
    refine Ends.then ?_
    refine Cod.ret ?_
    obtain rfl := some_eq h
    exact Ends.ret1 (.inl rfl) Try.results45 (ResOK.tmp rfl trivial Imp.refl)

theorem ref_First_ok {l1 : (List Int)} {r : Int}  (h : ref_First l1 = some r) : FSpec Try.prog 44 [rep l1] (rep r) := by
  unfold ref_First at h
  refine FSpec.intro (n := 15) fnok44 Try.func44 rfl Try.ntmps44 rfl (fun F => ?_)
  refine Cod.seq ?_
  refine Cod.region [] mixed (by kernel_rfl) ?_
  refine Chain.cons (StepOK.assign .none (.int (by decide))) rfl ?_
  refine Chain.nil ?_
  refine Ends.then ?_
  refine Cod.seq ?_
  refine Cod.seq ?_
  refine Cod.region [] mixed (by kernel_rfl) ?_
  refine Chain.cons (StepOK.move .none (.tmp rfl (fun _ => trivial))) rfl ?_
  refine Chain.cons (StepOK.len .none sl109 (.tmp rfl (fun _ => trivial))) rfl ?_
  refine Chain.cons (StepOK.move .none (.int (by decide))) rfl ?_
  refine Chain.nil ?_
  refine Ends.then ?_
  obtain ⟨o_1, h, hK1⟩ := bindR_some h
  refine Cod.thenJ (ι := Unit) (fun j_1 => []) (fun j_1 => []) (fun s => o_1 = Res.nx s) Sub.nil SubB.nil ?_ (fun j_1 hj1 => ?_)
  · skip
    refine Cod.block ?_
    refine Cod.rforEL h (fun p2_ => [(7, ⟨True, rep p2_.1⟩)]) (fun p2_ => []) (.cons (t := 7) rfl Sub.nil) SubB.nil (.cons (t := 5) rfl (.cons (t := 6) rfl Sub.nil)) SubB.nil (fun p2_ o_2 h hD2 => ?_)
    refine Cod.seq ?_
    refine Cod.region [] mixed (by kernel_rfl) ?_
    refine Chain.cons (StepOK.lt .none (.tmp rfl (fun _ => trivial)) (.tmp rfl (fun _ => trivial))) rfl ?_
    refine Chain.nil ?_
    refine Ends.then ?_
    refine Cod.seq ?_
    refine Cod.cond (t := 8) rfl trivial (fun hb3 => ?_) (fun hb3 => ?_)
    · replace h := bif_t h hb3
      refine Cod.skip ?_
      refine Ends.then ?_
      refine Cod.seq ?_
      obtain ⟨o_4, h, hK4⟩ := bindD_some h
      unfold ref_First_L1 at h
      refine Cod.thenJ (ι := Unit) (fun j_4 => []) (fun j_4 => []) (fun s => o_4 = Res.nx s) (.cons (t := 5) rfl (.cons (t := 6) rfl (.cons (t := 7) rfl Sub.nil))) SubB.nil ?_ (fun j_4 hj4 => ?_)
      · skip
        refine Cod.block ?_
        refine Cod.seq ?_
        refine Cod.region [] mixed (by kernel_rfl) ?_
        obtain ⟨hn5, h⟩ := need_some h
        refine Chain.cons (StepOK.indexAddr .none sl109 ty24 (.tmp rfl (fun _ => trivial)) (.tmp rfl (fun _ => trivial)) (fun _ => hn5)) rfl ?_
        refine Chain.cons (StepOK.load .none ty24 (.tmp rfl (fun _ => trivial))) rfl ?_
        obtain ⟨e1, hv6, h⟩ := bnd_some h
        refine Chain.cons (StepOK.re hv6 (StepOK.assign .none (.tmp rfl (fun _ => trivial)))) rfl ?_
        refine Chain.nil ?_
        refine Ends.then ?_
        refine Cod.seq ?_
        refine Cod.region [] mixed (by kernel_rfl) ?_
        refine Chain.cons (StepOK.move .none (.tmp rfl (fun _ => trivial))) rfl ?_
        refine Chain.cons (StepOK.neI .none (.tmp rfl (fun _ => trivial)) (.int (by decide))) rfl ?_
        refine Chain.nil ?_
        refine Ends.then ?_
        refine Cod.cond (t := 12) rfl trivial (fun hb7 => ?_) (fun hb7 => ?_)
        · replace h := bif_t h hb7
          refine Cod.seq ?_
          refine Cod.region [] mixed (by kernel_rfl) ?_
          refine Chain.cons (StepOK.move .none (.tmp rfl (fun _ => trivial))) rfl ?_
          refine Chain.cons (StepOK.assign .none (.tmp rfl (fun _ => trivial))) rfl ?_
          refine Chain.nil ?_
          refine Ends.then ?_
          refine Cod.ret ?_
          refine Ends.blkRet ?_
          refine Ends.thenRet ?_
          refine Ends.thenRet ?_
          refine Ends.blkRet ?_
          refine Ends.thenRet ?_
          replace h := resd_ab hK4 (some_eq h)
          replace h := hD2 _ (some_eq h)
          replace h := resb_ab hK1 (some_eq h)
          obtain rfl := some_eq h
          exact Ends.ret1 (.inl rfl) Try.results44 (ResOK.tmp rfl trivial Imp.refl)
        · replace h := bif_f h hb7
          refine Cod.skip ?_
          refine Ends.blkNormal ?_
          exact Ends.join _ (some_eq h) (.cons (t := 5) rfl (.cons (t := 6) rfl (.cons (t := 7) rfl Sub.nil))) SubB.nil
      · have h := resd_nx hK4 hj4
        refine Cod.region [] mixed (by kernel_rfl) ?_
        refine Chain.cons (StepOK.addW .none (.tmp rfl (fun _ => trivial)) (.int (by decide))) rfl ?_
        refine Chain.cons (StepOK.move .none (.tmp rfl (fun _ => trivial))) rfl ?_
        refine Chain.nil ?_
        exact Ends.againL (some_eq h) (.cons (t := 7) rfl (.cons (t := 5) rfl (.cons (t := 6) rfl Sub.nil))) SubB.nil
    · replace h := bif_f h hb3
      refine Cod.exit ?_
      refine Ends.thenExit ?_
      refine Ends.thenExit ?_
      refine Ends.blkExit ?_
      replace h := hD2 _ (some_eq h)
      exact Ends.join _ (some_eq h) Sub.nil SubB.nil
  · have h := resb_nx hK1 hj1
    refine Cod.seq ?_
    refine Cod.region [] mixed (by kernel_rfl) ?_
    refine Chain.cons (StepOK.assign .none (.int (by decide))) rfl ?_
    refine Chain.nil ?_
    refine Ends.then ?_
    refine Cod.ret ?_
    obtain rfl := some_eq h
    exact Ends.ret1 (.inl rfl) Try.results44 (ResOK.tmp rfl trivial Imp.refl)

theorem ref_GraphError_ok {n1 : Int} {l1 : (List Link)} {r : Int}  (h : ref_GraphError n1 l1 = some r) : FSpec Try.prog 17 [rep n1, rep l1] (rep r) := by
  unfold ref_GraphError at h
  refine FSpec.intro (n := 55) fnok17 Try.func17 rfl Try.ntmps17 rfl (fun F => ?_)
  refine Cod.seq ?_
  refine Cod.region [] mixed (by kernel_rfl) ?_
  refine Chain.cons (StepOK.assign .none (.int (by decide))) rfl ?_
  refine Chain.nil ?_
  refine Ends.then ?_
  refine Cod.seq ?_
  refine Cod.seq ?_
  refine Cod.region [] mixed (by kernel_rfl) ?_
  refine Chain.cons (StepOK.move .none (.tmp rfl (fun _ => trivial))) rfl ?_
  obtain ⟨r1, hv1, h⟩ := bind_some h
  refine Chain.cons (StepOK.call .none (ref_In_ok hv1) (.cons (.tmp rfl (fun _ => trivial)) (.cons (.int (by decide)) (.cons (.int (by decide)) .nil)))) rfl ?_
  refine Chain.cons (StepOK.not .none (.tmp rfl (fun _ => trivial))) rfl ?_
  obtain ⟨r2, hv2, h⟩ := bind_some h
  refine Chain.cons (StepOK.call .none (ref_When_ok hv2) (.cons (.tmp rfl (fun _ => trivial)) (.cons (.int (by decide)) .nil))) rfl ?_
  refine Chain.cons (StepOK.move .none (.tmp rfl (fun _ => trivial))) rfl ?_
  refine Chain.cons (StepOK.len .none sl23 (.tmp rfl (fun _ => trivial))) rfl ?_
  refine Chain.cons (StepOK.gt .none (.tmp rfl (fun _ => trivial)) (.int (by decide))) rfl ?_
  obtain ⟨r3, hv3, h⟩ := bind_some h
  refine Chain.cons (StepOK.call .none (ref_When_ok hv3) (.cons (.tmp rfl (fun _ => trivial)) (.cons (.int (by decide)) .nil))) rfl ?_
  refine Chain.cons (StepOK.buildSlice (xs := [_, _]) .none sl109 ty24 hz24 (.cons (.tmp rfl (fun _ => trivial)) (.cons (.tmp rfl (fun _ => trivial)) .nil)) rfl (by decide)) rfl ?_
  obtain ⟨e1, hv4, h⟩ := bind_some h
  refine Chain.cons (StepOK.call .none (ref_First_ok hv4) (.cons (.tmp rfl (fun _ => trivial)) .nil)) rfl ?_
  refine Chain.cons (StepOK.assign .none (.tmp rfl (fun _ => trivial))) rfl ?_
  refine Chain.nil ?_
  refine Ends.then ?_
  refine Cod.seq ?_
  refine Cod.region [] mixed (by kernel_rfl) ?_
  refine Chain.cons (StepOK.move .none (.tmp rfl (fun _ => trivial))) rfl ?_
  refine Chain.cons (StepOK.neI .none (.tmp rfl (fun _ => trivial)) (.int (by decide))) rfl ?_
  refine Chain.nil ?_
  refine Ends.then ?_
  refine Cod.cond (t := 20) rfl trivial (fun hb5 => ?_) (fun hb5 => ?_)
  · replace h := bif_t h hb5
    refine Cod.seq ?_
    refine Cod.region [] mixed (by kernel_rfl) ?_
    refine Chain.cons (StepOK.move .none (.tmp rfl (fun _ => trivial))) rfl ?_
    refine Chain.cons (StepOK.assign .none (.tmp rfl (fun _ => trivial))) rfl ?_
    refine Chain.nil ?_
    refine Ends.then ?_
    refine Cod.ret ?_
    refine Ends.thenRet ?_
    obtain rfl := some_eq h
    exact Ends.ret1 (.inl rfl) Try.results17 (ResOK.tmp rfl trivial Imp.refl)
  · replace h := bif_f h hb5
    refine Cod.skip ?_
    refine Ends.then ?_
    refine Cod.seq ?_
    refine Cod.seq ?_
    refine Cod.region [] mixed (by kernel_rfl) ?_
    refine Chain.cons (StepOK.move .none (.tmp rfl (fun _ => trivial))) rfl ?_
    refine Chain.cons (StepOK.len .none sl23 (.tmp rfl (fun _ => trivial))) rfl ?_
    refine Chain.cons (StepOK.move .none (.int (by decide))) rfl ?_
    refine Chain.nil ?_
    refine Ends.then ?_
    obtain ⟨o_6, h, hK6⟩ := bindR_some h
    refine Cod.thenJ (ι := Unit) (fun j_6 => []) (fun j_6 => []) (fun s => o_6 = Res.nx s) Sub.nil SubB.nil ?_ (fun j_6 hj6 => ?_)
    · skip
      refine Cod.block ?_
      refine Cod.rforEL h (fun p7_ => [(24, ⟨True, rep p7_.1⟩)]) (fun p7_ => []) (.cons (t := 24) rfl Sub.nil) SubB.nil (.cons (t := 0) rfl (.cons (t := 22) rfl (.cons (t := 23) rfl Sub.nil))) SubB.nil (fun p7_ o_7 h hD7 => ?_)
      refine Cod.seq ?_
      refine Cod.region [] mixed (by kernel_rfl) ?_
      refine Chain.cons (StepOK.lt .none (.tmp rfl (fun _ => trivial)) (.tmp rfl (fun _ => trivial))) rfl ?_
      refine Chain.nil ?_
      refine Ends.then ?_
      refine Cod.seq ?_
      refine Cod.cond (t := 25) rfl trivial (fun hb8 => ?_) (fun hb8 => ?_)
      · replace h := bif_t h hb8
        refine Cod.skip ?_
        refine Ends.then ?_
        refine Cod.seq ?_
        obtain ⟨o_9, h, hK9⟩ := bindD_some h
        unfold ref_GraphError_L1 at h
        refine Cod.thenJ (ι := Unit) (fun j_9 => []) (fun j_9 => []) (fun s => o_9 = Res.nx s) (.cons (t := 0) rfl (.cons (t := 22) rfl (.cons (t := 23) rfl (.cons (t := 24) rfl Sub.nil)))) SubB.nil ?_ (fun j_9 hj9 => ?_)
        · skip
          refine Cod.block ?_
          refine Cod.seq ?_
          refine Cod.region [([], []), ([], []), ([], [7]), ([7], [7])] mixed (by kernel_rfl) ?_
          obtain ⟨hn10, h⟩ := need_some h
          refine Chain.consA (StepOK.indexAddr .none sl23 ty79 (.tmp rfl (fun _ => trivial)) (.tmp rfl (fun _ => trivial)) (fun _ => hn10)) rfl ?_
          obtain ⟨v1, hv11, h⟩ := bnd_some h
          refine Chain.consA (StepOK.re hv11 (StepOK.load .none ty79 (.tmp rfl (fun _ => trivial)))) rfl ?_
          refine Chain.consW (StepOK.alloc zo79 rfl) rfl rfl ?_
          refine Chain.consN (StepOK.store ty79 rfl rfl (.tmp rfl (fun _ => trivial))) rfl ?_
          refine Chain.nil ?_
          refine Ends.then ?_
          refine Cod.freeze (t := 7) rfl rfl SubB.nil rfl ?_
          refine Cod.seq ?_
          refine Cod.region [] mixed (by kernel_rfl) ?_
          refine Chain.cons (StepOK.fieldAddr .none fd79_0 hfd79_0 (.tmp rfl (fun _ => trivial))) rfl ?_
          refine Chain.cons (StepOK.load .none ty3 (.tmp rfl (fun _ => trivial))) rfl ?_
          refine Chain.cons (StepOK.move .none (.tmp rfl (fun _ => trivial))) rfl ?_
          refine Chain.cons (StepOK.subW .none (.tmp rfl (fun _ => trivial)) (.int (by decide))) rfl ?_
          obtain ⟨r4, hv12, h⟩ := bind_some h
          refine Chain.cons (StepOK.call .none (ref_In_ok hv12) (.cons (.tmp rfl (fun _ => trivial)) (.cons (.int (by decide)) (.cons (.tmp rfl (fun _ => trivial)) .nil)))) rfl ?_
          refine Chain.cons (StepOK.not .none (.tmp rfl (fun _ => trivial))) rfl ?_
          refine Chain.cons (StepOK.move .none (.tmp rfl (fun _ => trivial))) rfl ?_
          refine Chain.cons (StepOK.fieldAddr (.at rfl rfl) fd79_1 hfd79_1 (.tmp rfl (fun _ => trivial))) rfl ?_
          refine Chain.cons (StepOK.load (.at rfl rfl) ty3 (.tmp rfl id)) rfl ?_
          refine Chain.cons (StepOK.move (.at rfl rfl) (.tmp rfl (fun _ => trivial))) rfl ?_
          refine Chain.cons (StepOK.subW (.at rfl rfl) (.tmp rfl id) (.int (by decide))) rfl ?_
          obtain ⟨r5, hv13, h⟩ := bind_some h
          refine Chain.cons (StepOK.callIf (.at rfl rfl) fnok28 (fun hg => ref_In_ok ((fun hg => gd_some hv13 ((notT hg.2))) hg)) (.cons (.tmp rfl id) (.cons (.int (by decide)) (.cons (.tmp rfl id) .nil))) (fun h => h)) rfl ?_
          refine Chain.cons (StepOK.not (.at rfl rfl) (.tmp rfl id)) rfl ?_
          refine Chain.cons (StepOK.pickOr .none (.tmp rfl (fun _ => trivial)) (.tmp rfl id)) rfl ?_
          obtain ⟨r6, hv14, h⟩ := bind_some h
          refine Chain.cons (StepOK.call .none (ref_When_ok hv14) (.cons (.tmp rfl (fun _ => trivial)) (.cons (.int (by decide)) .nil))) rfl ?_
          refine Chain.cons (StepOK.fieldAddr .none fd79_0 hfd79_0 (.tmp rfl (fun _ => trivial))) rfl ?_
          refine Chain.cons (StepOK.load .none ty3 (.tmp rfl (fun _ => trivial))) rfl ?_
          refine Chain.cons (StepOK.fieldAddr .none fd79_1 hfd79_1 (.tmp rfl (fun _ => trivial))) rfl ?_
          refine Chain.cons (StepOK.load .none ty3 (.tmp rfl (fun _ => trivial))) rfl ?_
          refine Chain.cons (StepOK.eqI .none (.tmp rfl (fun _ => trivial)) (.tmp rfl (fun _ => trivial))) rfl ?_
          obtain ⟨r7, hv15, h⟩ := bind_some h
          refine Chain.cons (StepOK.call .none (ref_When_ok hv15) (.cons (.tmp rfl (fun _ => trivial)) (.cons (.int (by decide)) .nil))) rfl ?_
          refine Chain.cons (StepOK.buildSlice (xs := [_, _]) .none sl109 ty24 hz24 (.cons (.tmp rfl (fun _ => trivial)) (.cons (.tmp rfl (fun _ => trivial)) .nil)) rfl (by decide)) rfl ?_
          obtain ⟨e2, hv16, h⟩ := bind_some h
          refine Chain.cons (StepOK.call .none (ref_First_ok hv16) (.cons (.tmp rfl (fun _ => trivial)) .nil)) rfl ?_
          refine Chain.cons (StepOK.assign .none (.tmp rfl (fun _ => trivial))) rfl ?_
          refine Chain.nil ?_
          refine Ends.then ?_
          refine Cod.seq ?_
          refine Cod.region [] mixed (by kernel_rfl) ?_
          refine Chain.cons (StepOK.move .none (.tmp rfl (fun _ => trivial))) rfl ?_
          refine Chain.cons (StepOK.neI .none (.tmp rfl (fun _ => trivial)) (.int (by decide))) rfl ?_
          refine Chain.nil ?_
          refine Ends.then ?_
          refine Cod.cond (t := 52) rfl trivial (fun hb17 => ?_) (fun hb17 => ?_)
          · replace h := bif_t h hb17
            refine Cod.seq ?_
            refine Cod.region [] mixed (by kernel_rfl) ?_
            refine Chain.cons (StepOK.move .none (.tmp rfl (fun _ => trivial))) rfl ?_
            refine Chain.cons (StepOK.assign .none (.tmp rfl (fun _ => trivial))) rfl ?_
            refine Chain.nil ?_
            refine Ends.then ?_
            refine Cod.ret ?_
            refine Ends.blkRet ?_
            refine Ends.thenRet ?_
            refine Ends.thenRet ?_
            refine Ends.blkRet ?_
            refine Ends.thenRet ?_
            replace h := resd_ab hK9 (some_eq h)
            replace h := hD7 _ (some_eq h)
            replace h := resb_ab hK6 (some_eq h)
            obtain rfl := some_eq h
            exact Ends.ret1 (.inl rfl) Try.results17 (ResOK.tmp rfl trivial Imp.refl)
          · replace h := bif_f h hb17
            refine Cod.skip ?_
            refine Ends.blkNormal ?_
            exact Ends.join _ (some_eq h) (.cons (t := 0) rfl (.cons (t := 22) rfl (.cons (t := 23) rfl (.cons (t := 24) rfl Sub.nil)))) SubB.nil
        · have h := resd_nx hK9 hj9
          refine Cod.region [] mixed (by kernel_rfl) ?_
          refine Chain.cons (StepOK.addW .none (.tmp rfl (fun _ => trivial)) (.int (by decide))) rfl ?_
          refine Chain.cons (StepOK.move .none (.tmp rfl (fun _ => trivial))) rfl ?_
          refine Chain.nil ?_
          exact Ends.againL (some_eq h) (.cons (t := 24) rfl (.cons (t := 0) rfl (.cons (t := 22) rfl (.cons (t := 23) rfl Sub.nil)))) SubB.nil
      · replace h := bif_f h hb8
        refine Cod.exit ?_
        refine Ends.thenExit ?_
        refine Ends.thenExit ?_
        refine Ends.blkExit ?_
        replace h := hD7 _ (some_eq h)
        exact Ends.join _ (some_eq h) Sub.nil SubB.nil
    · have h := resb_nx hK6 hj6
      refine Cod.seq ?_
      refine Cod.region [] mixed (by kernel_rfl) ?_
      refine Chain.cons (StepOK.assign .none (.int (by decide))) rfl ?_
      refine Chain.nil ?_
      refine Ends.then ?_
      refine Cod.ret ?_
      obtain rfl := some_eq h
      exact Ends.ret1 (.inl rfl) Try.results17 (ResOK.tmp rfl trivial Imp.refl)

theorem layer_Check_1_ok {k1 : Int} {c0_1 : Int} {r : Bool}  (h : layer_Check_1 k1 c0_1 = some r) : FSpec Try.prog 65 [rep k1, ref c0_1] (rep r) := by
  unfold layer_Check_1 at h
  refine FSpec.intro (n := 11) fnok65 Try.func65 rfl Try.ntmps65 rfl (fun F => ?_)
  refine Cod.seq ?_
  refine Cod.region [] mixed (by kernel_rfl) ?_
  refine Chain.cons (StepOK.assign .none .bool) rfl ?_
  refine Chain.nil ?_
  refine Ends.then ?_
  refine Cod.seq ?_
  refine Cod.region [] mixed (by kernel_rfl) ?_
  refine Chain.cons (StepOK.move .none (.tmp rfl (fun _ => trivial))) rfl ?_
  refine Chain.cons (StepOK.ge .none (.tmp rfl (fun _ => trivial)) (.int (by decide))) rfl ?_
  refine Chain.cons (StepOK.move .none (.tmp rfl (fun _ => trivial))) rfl ?_
  refine Chain.cons (StepOK.move (.at rfl rfl) (.tmp rfl (fun _ => trivial))) rfl ?_
  refine Chain.cons (StepOK.load (.at rfl rfl) ty3 (.tmp rfl (fun _ => trivial))) rfl ?_
  refine Chain.cons (StepOK.lt (.at rfl rfl) (.tmp rfl id) (.tmp rfl id)) rfl ?_
  refine Chain.cons (StepOK.pickAnd .none (.tmp rfl (fun _ => trivial)) (.tmp rfl id)) rfl ?_
  refine Chain.cons (StepOK.assign .none (.tmp rfl (fun _ => trivial))) rfl ?_
  refine Chain.nil ?_
  refine Ends.then ?_
  refine Cod.ret ?_
  obtain rfl := some_eq h
  exact Ends.ret1 (.inl rfl) Try.results65 (ResOK.tmp rfl trivial Imp.refl)

theorem layer_Check_ok {n1 : Int} {l1 : (List Link)} {r : Int}  (h : layer_Check n1 l1 = some r) : FSpec Try.prog 19 [rep n1, rep l1] (rep r) := by
  unfold layer_Check at h
  refine FSpec.intro (n := 44) fnok19 Try.func19 rfl Try.ntmps19 rfl (fun F => ?_)
  refine Cod.seq ?_
  refine Cod.region [] mixed (by kernel_rfl) ?_
  refine Chain.cons (StepOK.box .none (.tmp rfl (fun _ => trivial))) rfl ?_
  refine Chain.cons (StepOK.assign .none (.int (by decide))) rfl ?_
  refine Chain.nil ?_
  refine Ends.then ?_
  refine Cod.seq ?_
  refine Cod.block ?_
  refine Cod.seq ?_
  refine Cod.region [] mixed (by kernel_rfl) ?_
  refine Chain.cons (StepOK.load .none ty3 (.tmp rfl (fun _ => trivial))) rfl ?_
  refine Chain.cons (StepOK.lt .none (.tmp rfl (fun _ => trivial)) (.int (by decide))) rfl ?_
  refine Chain.cons (StepOK.move .none (.tmp rfl (fun _ => trivial))) rfl ?_
  refine Chain.cons (StepOK.load (.at rfl rfl) ty3 (.tmp rfl (fun _ => trivial))) rfl ?_
  refine Chain.cons (StepOK.gt (.at rfl rfl) (.tmp rfl id) (.int (by decide))) rfl ?_
  refine Chain.cons (StepOK.pickOr .none (.tmp rfl (fun _ => trivial)) (.tmp rfl id)) rfl ?_
  refine Chain.cons (StepOK.assign .none (.tmp rfl (fun _ => trivial))) rfl ?_
  refine Chain.nil ?_
  refine Ends.then ?_
  refine Cod.cond (t := 8) rfl trivial (fun hb1 => ?_) (fun hb1 => ?_)
  · replace h := bif_t h hb1
    refine Cod.seq ?_
    refine Cod.region [] mixed (by kernel_rfl) ?_
    refine Chain.cons (StepOK.assign .none (.int (by decide))) rfl ?_
    refine Chain.nil ?_
    refine Ends.then ?_
    refine Cod.ret ?_
    refine Ends.blkRet ?_
    refine Ends.thenRet ?_
    obtain rfl := some_eq h
    exact Ends.ret1 (.inl rfl) Try.results19 (ResOK.tmp rfl trivial Imp.refl)
  · replace h := bif_f h hb1
    refine Cod.seq ?_
    refine Cod.region [] mixed (by kernel_rfl) ?_
    refine Chain.cons (StepOK.move .none (.tmp rfl (fun _ => trivial))) rfl ?_
    refine Chain.cons (StepOK.len .none sl23 (.tmp rfl (fun _ => trivial))) rfl ?_
    refine Chain.cons (StepOK.gt .none (.tmp rfl (fun _ => trivial)) (.int (by decide))) rfl ?_
    refine Chain.cons (StepOK.assign .none (.tmp rfl (fun _ => trivial))) rfl ?_
    refine Chain.nil ?_
    refine Ends.then ?_
    refine Cod.cond (t := 15) rfl trivial (fun hb2 => ?_) (fun hb2 => ?_)
    · replace h := bif_t h hb2
      refine Cod.seq ?_
      refine Cod.region [] mixed (by kernel_rfl) ?_
      refine Chain.cons (StepOK.assign .none (.int (by decide))) rfl ?_
      refine Chain.nil ?_
      refine Ends.then ?_
      refine Cod.ret ?_
      refine Ends.blkRet ?_
      refine Ends.thenRet ?_
      obtain rfl := some_eq h
      exact Ends.ret1 (.inl rfl) Try.results19 (ResOK.tmp rfl trivial Imp.refl)
    · replace h := bif_f h hb2
      refine Cod.skip ?_
      refine Ends.blkNormal ?_
      refine Ends.then ?_
      refine Cod.seq ?_
      refine Cod.region [] mixed (by kernel_rfl) ?_
      refine Chain.cons (StepOK.makeFunc (ι := Int × Bool) (pre := fun i => (fun x0 => layer_Check_1 x0 n1) i.1 = some i.2) (Ss := fun i => [rep i.1]) (S := fun i => rep i.2) .none fnok65 (fun i h => layer_Check_1_ok h) (.cons (.tmp rfl (fun _ => trivial)) .nil)) rfl ?_
      refine Chain.cons (StepOK.assign .none (.tmp rfl (fun _ => trivial))) rfl ?_
      refine Chain.nil ?_
      refine Ends.then ?_
      refine Cod.seq ?_
      refine Cod.seq ?_
      refine Cod.region [] mixed (by kernel_rfl) ?_
      refine Chain.cons (StepOK.move .none (.tmp rfl (fun _ => trivial))) rfl ?_
      refine Chain.cons (StepOK.len .none sl23 (.tmp rfl (fun _ => trivial))) rfl ?_
      refine Chain.cons (StepOK.move .none (.int (by decide))) rfl ?_
      refine Chain.nil ?_
      refine Ends.then ?_
      obtain ⟨o_3, h, hK3⟩ := bindR_some h
      refine Cod.thenJ (ι := Unit) (fun j_3 => []) (fun j_3 => []) (fun s => o_3 = Res.nx s) Sub.nil SubB.nil ?_ (fun j_3 hj3 => ?_)
      · skip
        refine Cod.block ?_
        refine Cod.rforEL h (fun p4_ => [(22, ⟨True, rep p4_.1⟩)]) (fun p4_ => []) (.cons (t := 22) rfl Sub.nil) SubB.nil (.cons (t := 2) rfl (.cons (t := 5) rfl (.cons (t := 20) rfl (.cons (t := 21) rfl Sub.nil)))) SubB.nil (fun p4_ o_4 h hD4 => ?_)
        refine Cod.seq ?_
        refine Cod.region [] mixed (by kernel_rfl) ?_
        refine Chain.cons (StepOK.lt .none (.tmp rfl (fun _ => trivial)) (.tmp rfl (fun _ => trivial))) rfl ?_
        refine Chain.nil ?_
        refine Ends.then ?_
        refine Cod.seq ?_
        refine Cod.cond (t := 23) rfl trivial (fun hb5 => ?_) (fun hb5 => ?_)
        · replace h := bif_t h hb5
          refine Cod.skip ?_
          refine Ends.then ?_
          refine Cod.seq ?_
          obtain ⟨o_6, h, hK6⟩ := bindD_some h
          unfold layer_Check_L1 at h
          refine Cod.thenJ (ι := Unit) (fun j_6 => []) (fun j_6 => []) (fun s => o_6 = Res.nx s) (.cons (t := 2) rfl (.cons (t := 5) rfl (.cons (t := 20) rfl (.cons (t := 21) rfl (.cons (t := 22) rfl Sub.nil))))) SubB.nil ?_ (fun j_6 hj6 => ?_)
          · skip
            refine Cod.block ?_
            refine Cod.seq ?_
            refine Cod.region [([], []), ([], []), ([], [7]), ([7], [7])] mixed (by kernel_rfl) ?_
            obtain ⟨hn7, h⟩ := need_some h
            refine Chain.consA (StepOK.indexAddr .none sl23 ty79 (.tmp rfl (fun _ => trivial)) (.tmp rfl (fun _ => trivial)) (fun _ => hn7)) rfl ?_
            obtain ⟨v1, hv8, h⟩ := bnd_some h
            refine Chain.consA (StepOK.re hv8 (StepOK.load .none ty79 (.tmp rfl (fun _ => trivial)))) rfl ?_
            refine Chain.consW (StepOK.alloc zo79 rfl) rfl rfl ?_
            refine Chain.consN (StepOK.store ty79 rfl rfl (.tmp rfl (fun _ => trivial))) rfl ?_
            refine Chain.nil ?_
            refine Ends.then ?_
            refine Cod.freeze (t := 7) rfl rfl SubB.nil rfl ?_
            refine Cod.seq ?_
            refine Cod.seq ?_
            refine Cod.region [] mixed (by kernel_rfl) ?_
            refine Chain.cons (StepOK.move .none (.tmp rfl (fun _ => trivial))) rfl ?_
            refine Chain.cons (StepOK.fieldAddr .none fd79_0 hfd79_0 (.tmp rfl (fun _ => trivial))) rfl ?_
            refine Chain.cons (StepOK.load .none ty3 (.tmp rfl (fun _ => trivial))) rfl ?_
            obtain ⟨r1, hv9, h⟩ := bind_some h
            refine Chain.cons (StepOK.callV (_, _) .none (.tmp rfl (fun _ => trivial)) (fun _ => hv9) (.cons (.tmp rfl (fun _ => trivial)) .nil)) rfl ?_
            refine Chain.cons (StepOK.not .none (.tmp rfl (fun _ => trivial))) rfl ?_
            refine Chain.cons (StepOK.move .none (.tmp rfl (fun _ => trivial))) rfl ?_
            refine Chain.cons (StepOK.move (.at rfl rfl) (.tmp rfl (fun _ => trivial))) rfl ?_
            refine Chain.cons (StepOK.fieldAddr (.at rfl rfl) fd79_1 hfd79_1 (.tmp rfl (fun _ => trivial))) rfl ?_
            refine Chain.cons (StepOK.load (.at rfl rfl) ty3 (.tmp rfl id)) rfl ?_
            obtain ⟨r2, hv10, h⟩ := bind_some h
            refine Chain.cons (StepOK.callV (_, _) (.at rfl rfl) (.tmp rfl id) (fun hg => gd_some hv10 ((notT hg.2))) (.cons (.tmp rfl id) .nil)) rfl ?_
            refine Chain.cons (StepOK.not (.at rfl rfl) (.tmp rfl id)) rfl ?_
            refine Chain.cons (StepOK.pickOr .none (.tmp rfl (fun _ => trivial)) (.tmp rfl id)) rfl ?_
            refine Chain.nil ?_
            refine Ends.then ?_
            refine Cod.cond (t := 37) rfl trivial (fun hb11 => ?_) (fun hb11 => ?_)
            · replace h := bif_t h hb11
              refine Cod.seq ?_
              refine Cod.region [] mixed (by kernel_rfl) ?_
              refine Chain.cons (StepOK.assign .none (.int (by decide))) rfl ?_
              refine Chain.nil ?_
              refine Ends.then ?_
              refine Cod.ret ?_
              refine Ends.thenRet ?_
              refine Ends.blkRet ?_
              refine Ends.thenRet ?_
              refine Ends.thenRet ?_
              refine Ends.blkRet ?_
              refine Ends.thenRet ?_
              replace h := resd_ab hK6 (some_eq h)
              replace h := hD4 _ (some_eq h)
              replace h := resb_ab hK3 (some_eq h)
              obtain rfl := some_eq h
              exact Ends.ret1 (.inl rfl) Try.results19 (ResOK.tmp rfl trivial Imp.refl)
            · replace h := bif_f h hb11
              refine Cod.skip ?_
              refine Ends.then ?_
              refine Cod.seq ?_
              refine Cod.region [] mixed (by kernel_rfl) ?_
              refine Chain.cons (StepOK.fieldAddr .none fd79_0 hfd79_0 (.tmp rfl (fun _ => trivial))) rfl ?_
              refine Chain.cons (StepOK.load .none ty3 (.tmp rfl (fun _ => trivial))) rfl ?_
              refine Chain.cons (StepOK.fieldAddr .none fd79_1 hfd79_1 (.tmp rfl (fun _ => trivial))) rfl ?_
              refine Chain.cons (StepOK.load .none ty3 (.tmp rfl (fun _ => trivial))) rfl ?_
              refine Chain.cons (StepOK.eqI .none (.tmp rfl (fun _ => trivial)) (.tmp rfl (fun _ => trivial))) rfl ?_
              refine Chain.nil ?_
              refine Ends.then ?_
              refine Cod.cond (t := 42) rfl trivial (fun hb12 => ?_) (fun hb12 => ?_)
              · replace h := bif_t h hb12
                refine Cod.seq ?_
                refine Cod.region [] mixed (by kernel_rfl) ?_
                refine Chain.cons (StepOK.assign .none (.int (by decide))) rfl ?_
                refine Chain.nil ?_
                refine Ends.then ?_
                refine Cod.ret ?_
                refine Ends.blkRet ?_
                refine Ends.thenRet ?_
                refine Ends.thenRet ?_
                refine Ends.blkRet ?_
                refine Ends.thenRet ?_
                replace h := resd_ab hK6 (some_eq h)
                replace h := hD4 _ (some_eq h)
                replace h := resb_ab hK3 (some_eq h)
                obtain rfl := some_eq h
                exact Ends.ret1 (.inl rfl) Try.results19 (ResOK.tmp rfl trivial Imp.refl)
              · replace h := bif_f h hb12
                refine Cod.skip ?_
                refine Ends.blkNormal ?_
                exact Ends.join _ (some_eq h) (.cons (t := 2) rfl (.cons (t := 5) rfl (.cons (t := 20) rfl (.cons (t := 21) rfl (.cons (t := 22) rfl Sub.nil))))) SubB.nil
          · have h := resd_nx hK6 hj6
            refine Cod.region [] mixed (by kernel_rfl) ?_
            refine Chain.cons (StepOK.addW .none (.tmp rfl (fun _ => trivial)) (.int (by decide))) rfl ?_
            refine Chain.cons (StepOK.move .none (.tmp rfl (fun _ => trivial))) rfl ?_
            refine Chain.nil ?_
            exact Ends.againL (some_eq h) (.cons (t := 22) rfl (.cons (t := 2) rfl (.cons (t := 5) rfl (.cons (t := 20) rfl (.cons (t := 21) rfl Sub.nil))))) SubB.nil
        · replace h := bif_f h hb5
          refine Cod.exit ?_
          refine Ends.thenExit ?_
          refine Ends.thenExit ?_
          refine Ends.blkExit ?_
          replace h := hD4 _ (some_eq h)
          exact Ends.join _ (some_eq h) Sub.nil SubB.nil
      · have h := resb_nx hK3 hj3
        refine Cod.seq ?_
        refine Cod.region [] mixed (by kernel_rfl) ?_
        refine Chain.cons (StepOK.assign .none (.int (by decide))) rfl ?_
        refine Chain.nil ?_
        refine Ends.then ?_
        refine Cod.ret ?_
        obtain rfl := some_eq h
        exact Ends.ret1 (.inl rfl) Try.results19 (ResOK.tmp rfl trivial Imp.refl)

theorem layer_turned_1_okS {self : (Int × (List Int) × (List Link) × (List Int)) → Option ((List Int) × (List Int))} (hself : ∀ {m43 : Nat} {s44 : Value} {m45 : Nat} {s46 : Value} {m47 : Nat} (x : (Int × (List Int) × (List Link) × (List Int))) (r : ((List Int) × (List Int))), self x = some r → FSpecO Try.prog 106 [rep x.1, isV (ptr m43 0), ref x.2.2.1, isV (ptr m45 0), isV (ptr m47 0)] [(ptr m43 0, cont 32 (⟨s44⟩ : Raw)), (s44, rowV 3 x.2.1), (ptr m45 0, cont 32 (⟨s46⟩ : Raw)), (s46, rowV 3 x.2.2.2), (ptr m47 0, contS 100 (cloV 106 [isV (ptr m43 0), ref x.2.2.1, isV (ptr m45 0), isV (ptr m47 0)]))] (anyV) [some (deep (fun z0 => cont 32 (⟨z0⟩ : Raw)) (rowV 3 r.1)), none, some (deep (fun z0 => cont 32 (⟨z0⟩ : Raw)) (rowV 3 r.2)), none, some (contS 100 (cloV 106 [isV (ptr m43 0), ref x.2.2.1, isV (ptr m45 0), isV (ptr m47 0)]))]) {m43 : Nat} {s44 : Value} {m45 : Nat} {s46 : Value} {m47 : Nat} {x : (Int × (List Int) × (List Link) × (List Int))} {r : ((List Int) × (List Int))} (h : layer_turned_1_body self x = some r) : FSpecO Try.prog 106 [rep x.1, isV (ptr m43 0), ref x.2.2.1, isV (ptr m45 0), isV (ptr m47 0)] [(ptr m43 0, cont 32 (⟨s44⟩ : Raw)), (s44, rowV 3 x.2.1), (ptr m45 0, cont 32 (⟨s46⟩ : Raw)), (s46, rowV 3 x.2.2.2), (ptr m47 0, contS 100 (cloV 106 [isV (ptr m43 0), ref x.2.2.1, isV (ptr m45 0), isV (ptr m47 0)]))] (anyV) [some (deep (fun z0 => cont 32 (⟨z0⟩ : Raw)) (rowV 3 r.1)), none, some (deep (fun z0 => cont 32 (⟨z0⟩ : Raw)) (rowV 3 r.2)), none, some (contS 100 (cloV 106 [isV (ptr m43 0), ref x.2.2.1, isV (ptr m45 0), isV (ptr m47 0)]))] := by
  unfold layer_turned_1_body at h
  refine FSpecO.intro (n := 43) fnok106 Try.func106 rfl Try.ntmps106 rfl (fun F => ?_)
  refine Cod.seq ?_
  refine Cod.region [([43], []), ([], []), ([44], []), ([44], [44])] mixed (by kernel_rfl) ?_
  refine Chain.consA (StepOK.loadAt0 (k := 43) .none tr32 rfl (.tmp rfl (fun _ => trivial))) rfl ?_
  refine Chain.consA (StepOK.move .none (.tmp rfl (fun _ => trivial))) rfl ?_
  obtain ⟨hn1, h⟩ := need_some h
  refine Chain.consA (StepOK.indexAddrO (k := 44) .none sl32 ty3 (.tmp rfl (fun _ => trivial)) rfl (.tmp rfl (fun _ => trivial)) (fun _ => hn1)) rfl ?_
  refine Chain.consN (StepOK.storeElem0 (k := 44) ty3 (.tmp rfl (fun _ => trivial)) rfl (.int (by decide)) hn1) rfl ?_
  refine Chain.nil ?_
  refine Ends.then ?_
  obtain ⟨c1, hv2, h⟩ := bnd_some h
  refine Cod.reB (t := 44) rfl (congrArg (fun y => CPred.at s44 (rowV 3 y)) hv2) ?_
  refine Cod.seq ?_
  refine Cod.seq ?_
  refine Cod.region [] mixed (by kernel_rfl) ?_
  refine Chain.cons (StepOK.load .none ty23 (.tmp rfl (fun _ => trivial))) rfl ?_
  refine Chain.cons (StepOK.len .none sl23 (.tmp rfl (fun _ => trivial))) rfl ?_
  refine Chain.cons (StepOK.move .none (.int (by decide))) rfl ?_
  refine Chain.nil ?_
  refine Ends.then ?_
  obtain ⟨j_3, h, hK3⟩ := bind_some h
  refine Cod.thenJ (ι := ((List Int) × (List Int))) (fun j_3 => []) (fun j_3 => [(43, some (CPred.at (ptr m43 0) (deep (fun z0 => cont 32 (⟨z0⟩ : Raw)) (rowV 3 j_3.1)))), (45, some (CPred.at (ptr m45 0) (deep (fun z0 => cont 32 (⟨z0⟩ : Raw)) (rowV 3 j_3.2))))]) (fun s => j_3 = s) (.cons (t := 0) rfl (.cons (t := 1) rfl (.cons (t := 3) rfl (.cons (t := 4) rfl Sub.nil)))) (.cons (t := 47) rfl SubB.nil) ?_ (fun j_3' hj3 => ?_)
  · skip
    refine Cod.block ?_
    refine Cod.close (k := 43) (g := 44) (fun z => cont 32 (⟨z⟩ : Raw)) rfl rfl rfl ?_
    refine Cod.close (k := 45) (g := 46) (fun z => cont 32 (⟨z⟩ : Raw)) rfl rfl rfl ?_
    refine Cod.rforL h (fun p4_ => [(13, ⟨True, rep p4_.1⟩)]) (fun p4_ => [(43, some (CPred.at (ptr m43 0) (deep (fun z0 => cont 32 (⟨z0⟩ : Raw)) (rowV 3 p4_.2.1)))), (45, some (CPred.at (ptr m45 0) (deep (fun z0 => cont 32 (⟨z0⟩ : Raw)) (rowV 3 p4_.2.2))))]) (.cons (t := 13) rfl Sub.nil) (.cons (t := 43) rfl (.cons (t := 45) rfl SubB.nil)) (.cons (t := 0) rfl (.cons (t := 1) rfl (.cons (t := 2) rfl (.cons (t := 3) rfl (.cons (t := 4) rfl (.cons (t := 11) rfl (.cons (t := 12) rfl Sub.nil))))))) (.cons (t := 47) rfl SubB.nil) (fun p4_ o_4 h hD4 => ?_)
    refine Cod.open (k := 43) (g := 5001) rfl rfl (fun s5001 => ?_)
    refine Cod.open (k := 45) (g := 5002) rfl rfl (fun s5002 => ?_)
    refine Cod.seq ?_
    refine Cod.region [] mixed (by kernel_rfl) ?_
    refine Chain.cons (StepOK.lt .none (.tmp rfl (fun _ => trivial)) (.tmp rfl (fun _ => trivial))) rfl ?_
    refine Chain.nil ?_
    refine Ends.then ?_
    refine Cod.seq ?_
    refine Cod.cond (t := 14) rfl trivial (fun hb5 => ?_) (fun hb5 => ?_)
    · replace h := bif_t h hb5
      refine Cod.skip ?_
      refine Ends.then ?_
      refine Cod.seq ?_
      obtain ⟨j_6, h, hK6⟩ := bind_some h
      unfold layer_turned_1_L1 at h
      refine Cod.thenJ (ι := ((List Int) × (List Int))) (fun j_6 => []) (fun j_6 => [(43, some (CPred.at (ptr m43 0) (deep (fun z0 => cont 32 (⟨z0⟩ : Raw)) (rowV 3 j_6.1)))), (45, some (CPred.at (ptr m45 0) (deep (fun z0 => cont 32 (⟨z0⟩ : Raw)) (rowV 3 j_6.2))))]) (fun s => j_6 = s) (.cons (t := 0) rfl (.cons (t := 1) rfl (.cons (t := 2) rfl (.cons (t := 3) rfl (.cons (t := 4) rfl (.cons (t := 11) rfl (.cons (t := 12) rfl (.cons (t := 13) rfl Sub.nil)))))))) (.cons (t := 47) rfl SubB.nil) ?_ (fun j_6' hj6 => ?_)
      · skip
        refine Cod.block ?_
        refine Cod.seq ?_
        refine Cod.region [([], []), ([], []), ([], []), ([], [7]), ([], []), ([7], [7])] mixed (by kernel_rfl) ?_
        refine Chain.consA (StepOK.move .none (.tmp rfl (fun _ => trivial))) rfl ?_
        obtain ⟨hn7, h⟩ := need_some h
        refine Chain.consA (StepOK.indexAddr .none sl23 ty79 (.tmp rfl (fun _ => trivial)) (.tmp rfl (fun _ => trivial)) (fun _ => hn7)) rfl ?_
        obtain ⟨v1, hv8, h⟩ := bnd_some h
        refine Chain.consA (StepOK.re hv8 (StepOK.load .none ty79 (.tmp rfl (fun _ => trivial)))) rfl ?_
        refine Chain.consW (StepOK.alloc zo79 rfl) rfl rfl ?_
        refine Chain.consA (StepOK.assign .none (.tmp rfl (fun _ => trivial))) rfl ?_
        refine Chain.consN (StepOK.store ty79 rfl rfl (.tmp rfl (fun _ => trivial))) rfl ?_
        refine Chain.nil ?_
        refine Ends.then ?_
        refine Cod.freeze (t := 7) rfl rfl (.cons (t := 43) rfl (.cons (t := 45) rfl (.cons (t := 47) rfl (.cons (t := 5001) rfl (.cons (t := 5002) rfl SubB.nil))))) rfl ?_
        refine Cod.seq ?_
        refine Cod.seq ?_
        refine Cod.region [] mixed (by kernel_rfl) ?_
        refine Chain.cons (StepOK.fieldAddr .none fd79_0 hfd79_0 (.tmp rfl (fun _ => trivial))) rfl ?_
        refine Chain.cons (StepOK.load .none ty3 (.tmp rfl (fun _ => trivial))) rfl ?_
        refine Chain.cons (StepOK.move .none (.tmp rfl (fun _ => trivial))) rfl ?_
        refine Chain.cons (StepOK.neI .none (.tmp rfl (fun _ => trivial)) (.tmp rfl (fun _ => trivial))) rfl ?_
        refine Chain.nil ?_
        refine Ends.then ?_
        refine Cod.cond (t := 21) rfl trivial (fun hb9 => ?_) (fun hb9 => ?_)
        · replace h := bif_t h hb9
          refine Cod.exit ?_
          refine Ends.thenExit ?_
          refine Ends.blkExit ?_
          refine Ends.close (k := 43) (g := 5001) (fun z => cont 32 (⟨z⟩ : Raw)) rfl rfl rfl ?_
          refine Ends.close (k := 45) (g := 5002) (fun z => cont 32 (⟨z⟩ : Raw)) rfl rfl rfl ?_
          exact Ends.join _ (some_eq h) (.cons (t := 0) rfl (.cons (t := 1) rfl (.cons (t := 2) rfl (.cons (t := 3) rfl (.cons (t := 4) rfl (.cons (t := 11) rfl (.cons (t := 12) rfl (.cons (t := 13) rfl Sub.nil)))))))) (.cons (t := 43) rfl (.cons (t := 45) rfl (.cons (t := 47) rfl SubB.nil)))
        · replace h := bif_f h hb9
          refine Cod.skip ?_
          refine Ends.then ?_
          refine Cod.seq ?_
          refine Cod.region [([43], []), ([], []), ([], []), ([5001], []), ([5001], [])] mixed (by kernel_rfl) ?_
          refine Chain.consA (StepOK.loadAt0 (k := 43) .none tr32 rfl (.tmp rfl (fun _ => trivial))) rfl ?_
          refine Chain.consA (StepOK.fieldAddr .none fd79_1 hfd79_1 (.tmp rfl (fun _ => trivial))) rfl ?_
          refine Chain.consA (StepOK.load .none ty3 (.tmp rfl (fun _ => trivial))) rfl ?_
          obtain ⟨hn10, h⟩ := need_some h
          refine Chain.consA (StepOK.indexAddrO (k := 5001) .none sl32 ty3 (.tmp rfl (fun _ => trivial)) rfl (.tmp rfl (fun _ => trivial)) (fun _ => hn10)) rfl ?_
          obtain ⟨v2, hv11, h⟩ := bnd_some h
          refine Chain.consA (StepOK.re hv11 (StepOK.loadElem0 (k := 5001) .none ty3 (.tmp rfl (fun _ => trivial)) rfl (fun _ => hn10))) rfl ?_
          refine Chain.nil ?_
          refine Ends.then ?_
          refine Cod.block ?_
          refine Cod.seq ?_
          refine Cod.region [] mixed (by kernel_rfl) ?_
          refine Chain.cons (StepOK.eqI .none (.tmp rfl (fun _ => trivial)) (.int (by decide))) rfl ?_
          refine Chain.cons (StepOK.assign .none (.tmp rfl (fun _ => trivial))) rfl ?_
          refine Chain.nil ?_
          refine Ends.then ?_
          refine Cod.cond (t := 27) rfl trivial (fun hb12 => ?_) (fun hb12 => ?_)
          · replace h := bif_t h hb12
            refine Cod.region [([45], []), ([], []), ([], []), ([5002], [32, 5002]), ([45, 32], [45, 32])] mixed (by kernel_rfl) ?_
            refine Chain.consA (StepOK.loadAt0 (k := 45) .none tr32 rfl (.tmp rfl (fun _ => trivial))) rfl ?_
            refine Chain.consA (StepOK.move .none (.tmp rfl (fun _ => trivial))) rfl ?_
            refine Chain.consA (StepOK.buildSlice (xs := [_]) .none sl32 ty3 hz3 (.cons (.tmp rfl (fun _ => trivial)) .nil) rfl (by decide)) rfl ?_
            obtain ⟨hn13, h⟩ := need_some h
            refine Chain.consW (StepOK.append (k := 5002) rk32 rfl (.told (.tmp rfl (fun _ => trivial)) rfl) (.tmp rfl (fun _ => trivial)) hn13) rfl rfl ?_
            refine Chain.consN (StepOK.storeRow (k := 45) (t := 32) (set := fun _ z => z) ty32 rfl (.tmp rfl (fun _ => trivial)) .self rfl rfl) rfl ?_
            refine Chain.nil ?_
            refine Ends.blkNormal ?_
            refine Ends.blkNormal ?_
            refine Ends.close (k := 43) (g := 5001) (fun z => cont 32 (⟨z⟩ : Raw)) rfl rfl rfl ?_
            exact Ends.join _ (some_eq h) (.cons (t := 0) rfl (.cons (t := 1) rfl (.cons (t := 2) rfl (.cons (t := 3) rfl (.cons (t := 4) rfl (.cons (t := 11) rfl (.cons (t := 12) rfl (.cons (t := 13) rfl Sub.nil)))))))) (.cons (t := 43) rfl (.cons (t := 45) rfl (.cons (t := 47) rfl SubB.nil)))
          · replace h := bif_f h hb12
            refine Cod.seq ?_
            refine Cod.region [] mixed (by kernel_rfl) ?_
            refine Chain.cons (StepOK.eqI .none (.tmp rfl (fun _ => trivial)) (.int (by decide))) rfl ?_
            refine Chain.cons (StepOK.assign .none (.tmp rfl (fun _ => trivial))) rfl ?_
            refine Chain.nil ?_
            refine Ends.then ?_
            refine Cod.cond (t := 33) rfl trivial (fun hb14 => ?_) (fun hb14 => ?_)
            · replace h := bif_t h hb14
              refine Cod.region [([47], []), ([], []), ([], []), ([43, 5001, 45, 5002, 47], [43, 5001, 45, 5002, 47])] mixed (by kernel_rfl) ?_
              refine Chain.consA (StepOK.loadS (k := 47) .none tr100 rfl (.tmp rfl (fun _ => trivial)) cloV_one) rfl ?_
              refine Chain.consA (StepOK.fieldAddr .none fd79_1 hfd79_1 (.tmp rfl (fun _ => trivial))) rfl ?_
              refine Chain.consA (StepOK.load .none ty3 (.tmp rfl (fun _ => trivial))) rfl ?_
              obtain ⟨r1, hv15, h⟩ := bind_some h
              refine Chain.consW (StepOK.callClo [43, 5001, 45, 5002, 47] (Ss := [rep v1.To]) (Cs := [isV (ptr m43 0), ref x.2.2.1, isV (ptr m45 0), isV (ptr m47 0)]) (.tmp rfl (fun _ => trivial)) (hself _ _ hv15) (.cons (.tmp rfl (fun _ => trivial)) .nil) (.cons (k := 43) rfl (.cons (k := 5001) rfl (.cons (k := 45) rfl (.cons (k := 5002) rfl (.cons (k := 47) rfl .nil))))) rfl (by decide) (by decide) (by intro d h; cases h; decide)) rfl rfl ?_
              refine Chain.nil ?_
              refine Ends.blkNormal ?_
              refine Ends.blkNormal ?_
              exact Ends.join _ (some_eq h) (.cons (t := 0) rfl (.cons (t := 1) rfl (.cons (t := 2) rfl (.cons (t := 3) rfl (.cons (t := 4) rfl (.cons (t := 11) rfl (.cons (t := 12) rfl (.cons (t := 13) rfl Sub.nil)))))))) (.cons (t := 43) rfl (.cons (t := 45) rfl (.cons (t := 47) rfl SubB.nil)))
            · replace h := bif_f h hb14
              refine Cod.skip ?_
              refine Ends.blkNormal ?_
              refine Ends.blkNormal ?_
              refine Ends.close (k := 43) (g := 5001) (fun z => cont 32 (⟨z⟩ : Raw)) rfl rfl rfl ?_
              refine Ends.close (k := 45) (g := 5002) (fun z => cont 32 (⟨z⟩ : Raw)) rfl rfl rfl ?_
              exact Ends.join _ (some_eq h) (.cons (t := 0) rfl (.cons (t := 1) rfl (.cons (t := 2) rfl (.cons (t := 3) rfl (.cons (t := 4) rfl (.cons (t := 11) rfl (.cons (t := 12) rfl (.cons (t := 13) rfl Sub.nil)))))))) (.cons (t := 43) rfl (.cons (t := 45) rfl (.cons (t := 47) rfl SubB.nil)))
      · subst hj6; have h := hK6; clear hK6
        refine Cod.open (k := 43) (g := 5003) rfl rfl (fun s5003 => ?_)
        refine Cod.open (k := 45) (g := 5004) rfl rfl (fun s5004 => ?_)
        refine Cod.region [] mixed (by kernel_rfl) ?_
        refine Chain.cons (StepOK.addW .none (.tmp rfl (fun _ => trivial)) (.int (by decide))) rfl ?_
        refine Chain.cons (StepOK.move .none (.tmp rfl (fun _ => trivial))) rfl ?_
        refine Chain.nil ?_
        refine Ends.close (k := 43) (g := 5003) (fun z => cont 32 (⟨z⟩ : Raw)) rfl rfl rfl ?_
        refine Ends.close (k := 45) (g := 5004) (fun z => cont 32 (⟨z⟩ : Raw)) rfl rfl rfl ?_
        exact Ends.againL (some_eq h) (.cons (t := 13) rfl (.cons (t := 0) rfl (.cons (t := 1) rfl (.cons (t := 2) rfl (.cons (t := 3) rfl (.cons (t := 4) rfl (.cons (t := 11) rfl (.cons (t := 12) rfl Sub.nil)))))))) (.cons (t := 43) rfl (.cons (t := 45) rfl (.cons (t := 47) rfl SubB.nil)))
    · replace h := bif_f h hb5
      refine Cod.exit ?_
      refine Ends.thenExit ?_
      refine Ends.thenExit ?_
      refine Ends.blkExit ?_
      refine Ends.close (k := 43) (g := 5001) (fun z => cont 32 (⟨z⟩ : Raw)) rfl rfl rfl ?_
      refine Ends.close (k := 45) (g := 5002) (fun z => cont 32 (⟨z⟩ : Raw)) rfl rfl rfl ?_
      replace h := hD4 _ (some_eq h)
      exact Ends.join _ (some_eq h) (.cons (t := 0) rfl (.cons (t := 1) rfl (.cons (t := 3) rfl (.cons (t := 4) rfl Sub.nil)))) (.cons (t := 43) rfl (.cons (t := 45) rfl (.cons (t := 47) rfl SubB.nil)))
  · subst hj3; have h := hK3; clear hK3
    refine Cod.open (k := 43) (g := 5005) rfl rfl (fun s5005 => ?_)
    refine Cod.open (k := 45) (g := 5006) rfl rfl (fun s5006 => ?_)
    refine Cod.region [([43], []), ([], []), ([5005], []), ([5005], [5005])] mixed (by kernel_rfl) ?_
    refine Chain.consA (StepOK.loadAt0 (k := 43) .none tr32 rfl (.tmp rfl (fun _ => trivial))) rfl ?_
    refine Chain.consA (StepOK.move .none (.tmp rfl (fun _ => trivial))) rfl ?_
    obtain ⟨hn16, h⟩ := need_some h
    refine Chain.consA (StepOK.indexAddrO (k := 5005) .none sl32 ty3 (.tmp rfl (fun _ => trivial)) rfl (.tmp rfl (fun _ => trivial)) (fun _ => hn16)) rfl ?_
    refine Chain.consN (StepOK.storeElem0 (k := 5005) ty3 (.tmp rfl (fun _ => trivial)) rfl (.int (by decide)) hn16) rfl ?_
    refine Chain.nil ?_
    refine Ends.close (k := 43) (g := 5005) (fun z => cont 32 (⟨z⟩ : Raw)) rfl rfl rfl ?_
    refine Ends.close (k := 45) (g := 5006) (fun z => cont 32 (⟨z⟩ : Raw)) rfl rfl rfl ?_
    obtain rfl := some_eq h
    exact Ends.ret0O (.inr rfl) [43, 44, 45, 46, 47] Try.results106 (by decide) (.held rfl (.skip (.held rfl (.skip (.held rfl .nil))))) 
theorem layer_turned_1_okN : ∀ (k : Nat) {m43 : Nat} {s44 : Value} {m45 : Nat} {s46 : Value} {m47 : Nat} (x : (Int × (List Int) × (List Link) × (List Int))) (r : ((List Int) × (List Int))) (h : fixN layer_turned_1_body k x = some r), FSpecO Try.prog 106 [rep x.1, isV (ptr m43 0), ref x.2.2.1, isV (ptr m45 0), isV (ptr m47 0)] [(ptr m43 0, cont 32 (⟨s44⟩ : Raw)), (s44, rowV 3 x.2.1), (ptr m45 0, cont 32 (⟨s46⟩ : Raw)), (s46, rowV 3 x.2.2.2), (ptr m47 0, contS 100 (cloV 106 [isV (ptr m43 0), ref x.2.2.1, isV (ptr m45 0), isV (ptr m47 0)]))] (anyV) [some (deep (fun z0 => cont 32 (⟨z0⟩ : Raw)) (rowV 3 r.1)), none, some (deep (fun z0 => cont 32 (⟨z0⟩ : Raw)) (rowV 3 r.2)), none, some (contS 100 (cloV 106 [isV (ptr m43 0), ref x.2.2.1, isV (ptr m45 0), isV (ptr m47 0)]))]
  | 0, _, _, _, _, _, x, r, h => by simp [fixN] at h
  | k + 1, _, _, _, _, _, x, r, h => layer_turned_1_okS (layer_turned_1_okN k) h
theorem layer_turned_1_ok {k1 : Int} {c0_1 : (List Int)} {c1_1 : (List Link)} {c2_1 : (List Int)} {r : ((List Int) × (List Int))} {m43 : Nat} {s44 : Value} {m45 : Nat} {s46 : Value} {m47 : Nat} (h : layer_turned_1 k1 c0_1 c1_1 c2_1 = some r) : FSpecO Try.prog 106 [rep k1, isV (ptr m43 0), ref c1_1, isV (ptr m45 0), isV (ptr m47 0)] [(ptr m43 0, cont 32 (⟨s44⟩ : Raw)), (s44, rowV 3 c0_1), (ptr m45 0, cont 32 (⟨s46⟩ : Raw)), (s46, rowV 3 c2_1), (ptr m47 0, contS 100 (cloV 106 [isV (ptr m43 0), ref c1_1, isV (ptr m45 0), isV (ptr m47 0)]))] (anyV) [some (deep (fun z0 => cont 32 (⟨z0⟩ : Raw)) (rowV 3 r.1)), none, some (deep (fun z0 => cont 32 (⟨z0⟩ : Raw)) (rowV 3 r.2)), none, some (contS 100 (cloV 106 [isV (ptr m43 0), ref c1_1, isV (ptr m45 0), isV (ptr m47 0)]))] :=
  let ⟨k, hk⟩ := fixp_some h
  layer_turned_1_okN k (k1, c0_1, c1_1, c2_1) r hk

theorem layer_turned_ok {n1 : Int} {l1 : (List Link)} {r : (List Int)}  (h : layer_turned n1 l1 = some r) : FSpec Try.prog 64 [rep n1, rep l1] (rep r) := by
  unfold layer_turned at h
  refine FSpec.intro (n := 28) fnok64 Try.func64 rfl Try.ntmps64 rfl (fun F => ?_)
  refine Cod.seq ?_
  refine Cod.region [] mixed (by kernel_rfl) ?_
  refine Chain.cons (StepOK.box .none (.tmp rfl (fun _ => trivial))) rfl ?_
  refine Chain.cons (StepOK.assign .none (.const (x := ([] : (List Int))) (fun M w => ⟨_, ⟨none, 0, rfl, Nat.le_refl _, by decide, rfl⟩, rfl⟩))) rfl ?_
  refine Chain.nil ?_
  refine Ends.then ?_
  refine Cod.seq ?_
  refine Cod.region [([], []), ([], [10]), ([], [5]), ([5, 10], [5, 10])] mixed (by kernel_rfl) ?_
  refine Chain.consA (StepOK.move .none (.tmp rfl (fun _ => trivial))) rfl ?_
  obtain ⟨hn1, h⟩ := need_some h
  refine Chain.consW (StepOK.makeSlice rk32 zo3 rfl (.tmp rfl (fun _ => trivial)) (.tmp rfl (fun _ => trivial)) hn1) rfl rfl ?_
  refine Chain.consW (StepOK.alloc zr32 rfl) rfl rfl ?_
  refine Chain.consN (StepOK.storeRow0 (k := 5) (t := 10) ty32 rfl rfl rfl rfl) rfl ?_
  refine Chain.nil ?_
  refine Ends.then ?_
  refine Cod.nameAt (t := 5) (g := 5001) rfl rfl (isBox_deep fun _ => isBox_cont) rfl (fun m5001 => ?_)
  refine Cod.open (k := 5001) (g := 5002) rfl rfl (fun s5002 => ?_)
  refine Cod.seq ?_
  refine Cod.region [([], [6])] mixed (by kernel_rfl) ?_
  refine Chain.consW (StepOK.alloc zr32 rfl) rfl rfl ?_
  refine Chain.nil ?_
  refine Ends.then ?_
  obtain ⟨c1, hv2, h⟩ := bnd_some h
  refine Cod.reB (t := 5002) rfl (congrArg (fun y => CPred.at s5002 (rowV 3 y)) hv2) ?_
  refine Cod.nameAt (t := 6) (g := 5003) rfl rfl isBox_cont rfl (fun m5003 => ?_)
  refine Cod.nilKey (g := 5004) (T := 3) (α := Int) rfl ?_
  refine Cod.seq ?_
  refine Cod.region [([], [7])] mixed (by kernel_rfl) ?_
  refine Chain.consW (StepOK.alloc zr100 rfl) rfl rfl ?_
  refine Chain.nil ?_
  refine Ends.then ?_
  refine Cod.nameAt (t := 7) (g := 5005) rfl rfl isBox_cont rfl (fun m5005 => ?_)
  refine Cod.seq ?_
  refine Cod.region [([], []), ([5005], [5005])] mixed (by kernel_rfl) ?_
  refine Chain.consA (StepOK.makeFuncC (Cs := [isV (ptr m5001 0), ref l1, isV (ptr m5003 0), isV (ptr m5005 0)]) .none (.cons (.tmp rfl (fun _ => trivial)) (.cons (.tmp rfl (fun _ => trivial)) (.cons (.tmp rfl (fun _ => trivial)) (.cons (.tmp rfl (fun _ => trivial)) .nil))))) rfl ?_
  refine Chain.consN (StepOK.storeS (k := 5005) (S := cloV 106 [isV (ptr m5001 0), ref l1, isV (ptr m5003 0), isV (ptr m5005 0)]) tr100 rfl cont_cells (.tmp rfl (fun _ => trivial)) (.tmp rfl (fun _ => trivial)) cloV_one) rfl ?_
  refine Chain.nil ?_
  refine Ends.then ?_
  refine Cod.seq ?_
  refine Cod.seq ?_
  refine Cod.region [] mixed (by kernel_rfl) ?_
  refine Chain.cons (StepOK.move .none (.tmp rfl (fun _ => trivial))) rfl ?_
  refine Chain.cons (StepOK.move .none (.int (by decide))) rfl ?_
  refine Chain.nil ?_
  refine Ends.then ?_
  obtain ⟨j_3, h, hK3⟩ := bind_some h
  refine Cod.thenJ (ι := ((List Int) × (List Int))) (fun j_3 => []) (fun j_3 => [(5001, some (CPred.at (ptr m5001 0) (deep (fun z0 => cont 32 (⟨z0⟩ : Raw)) (rowV 3 j_3.1)))), (5003, some (CPred.at (ptr m5003 0) (deep (fun z0 => cont 32 (⟨z0⟩ : Raw)) (rowV 3 j_3.2))))]) (fun s => j_3 = s) (.cons (t := 5) rfl (.cons (t := 6) rfl (.cons (t := 7) rfl Sub.nil))) (.cons (t := 5005) rfl SubB.nil) ?_ (fun j_3' hj3 => ?_)
  · skip
    refine Cod.block ?_
    refine Cod.close (k := 5001) (g := 5002) (fun z => cont 32 (⟨z⟩ : Raw)) rfl rfl rfl ?_
    refine Cod.close (k := 5003) (g := 5004) (fun z => cont 32 (⟨z⟩ : Raw)) rfl rfl rfl ?_
    refine Cod.rforL h (fun p4_ => [(13, ⟨True, rep p4_.1⟩)]) (fun p4_ => [(5001, some (CPred.at (ptr m5001 0) (deep (fun z0 => cont 32 (⟨z0⟩ : Raw)) (rowV 3 p4_.2.1)))), (5003, some (CPred.at (ptr m5003 0) (deep (fun z0 => cont 32 (⟨z0⟩ : Raw)) (rowV 3 p4_.2.2))))]) (.cons (t := 13) rfl Sub.nil) (.cons (t := 5001) rfl (.cons (t := 5003) rfl SubB.nil)) (.cons (t := 3) rfl (.cons (t := 5) rfl (.cons (t := 6) rfl (.cons (t := 7) rfl (.cons (t := 12) rfl Sub.nil))))) (.cons (t := 5005) rfl SubB.nil) (fun p4_ o_4 h hD4 => ?_)
    refine Cod.open (k := 5001) (g := 5006) rfl rfl (fun s5006 => ?_)
    refine Cod.open (k := 5003) (g := 5007) rfl rfl (fun s5007 => ?_)
    refine Cod.seq ?_
    refine Cod.region [] mixed (by kernel_rfl) ?_
    refine Chain.cons (StepOK.lt .none (.tmp rfl (fun _ => trivial)) (.tmp rfl (fun _ => trivial))) rfl ?_
    refine Chain.nil ?_
    refine Ends.then ?_
    refine Cod.seq ?_
    refine Cod.cond (t := 14) rfl trivial (fun hb5 => ?_) (fun hb5 => ?_)
    · replace h := bif_t h hb5
      refine Cod.skip ?_
      refine Ends.then ?_
      refine Cod.seq ?_
      obtain ⟨j_6, h, hK6⟩ := bind_some h
      unfold layer_turned_L1 at h
      refine Cod.thenJ (ι := ((List Int) × (List Int))) (fun j_6 => []) (fun j_6 => [(5001, some (CPred.at (ptr m5001 0) (deep (fun z0 => cont 32 (⟨z0⟩ : Raw)) (rowV 3 j_6.1)))), (5003, some (CPred.at (ptr m5003 0) (deep (fun z0 => cont 32 (⟨z0⟩ : Raw)) (rowV 3 j_6.2))))]) (fun s => j_6 = s) (.cons (t := 3) rfl (.cons (t := 5) rfl (.cons (t := 6) rfl (.cons (t := 7) rfl (.cons (t := 12) rfl (.cons (t := 13) rfl Sub.nil)))))) (.cons (t := 5005) rfl SubB.nil) ?_ (fun j_6' hj6 => ?_)
      · skip
        refine Cod.block ?_
        refine Cod.seq ?_
        refine Cod.region [] mixed (by kernel_rfl) ?_
        refine Chain.cons (StepOK.move .none (.tmp rfl (fun _ => trivial))) rfl ?_
        refine Chain.cons (StepOK.assign .none (.tmp rfl (fun _ => trivial))) rfl ?_
        refine Chain.nil ?_
        refine Ends.then ?_
        refine Cod.seq ?_
        refine Cod.region [([5001], []), ([], []), ([5006], []), ([5006], []), ([], [])] mixed (by kernel_rfl) ?_
        refine Chain.consA (StepOK.loadAt0 (k := 5001) .none tr32 rfl (.tmp rfl (fun _ => trivial))) rfl ?_
        refine Chain.consA (StepOK.move .none (.tmp rfl (fun _ => trivial))) rfl ?_
        obtain ⟨hn7, h⟩ := need_some h
        refine Chain.consA (StepOK.indexAddrO (k := 5006) .none sl32 ty3 (.tmp rfl (fun _ => trivial)) rfl (.tmp rfl (fun _ => trivial)) (fun _ => hn7)) rfl ?_
        refine Chain.consA (StepOK.loadElem0 (k := 5006) .none ty3 (.tmp rfl (fun _ => trivial)) rfl (fun _ => hn7)) rfl ?_
        refine Chain.consA (StepOK.eqI .none (.tmp rfl (fun _ => trivial)) (.int (by decide))) rfl ?_
        refine Chain.nil ?_
        refine Ends.then ?_
        refine Cod.cond (t := 20) rfl trivial (fun hb8 => ?_) (fun hb8 => ?_)
        · replace h := bif_t h hb8
          refine Cod.region [([5005], []), ([], []), ([5001, 5006, 5003, 5007, 5005], [5001, 5006, 5003, 5007, 5005])] mixed (by kernel_rfl) ?_
          refine Chain.consA (StepOK.loadS (k := 5005) .none tr100 rfl (.tmp rfl (fun _ => trivial)) cloV_one) rfl ?_
          refine Chain.consA (StepOK.move .none (.tmp rfl (fun _ => trivial))) rfl ?_
          obtain ⟨r1, hv9, h⟩ := bind_some h
          refine Chain.consW (StepOK.callClo [5001, 5006, 5003, 5007, 5005] (Ss := [rep p4_.1]) (Cs := [isV (ptr m5001 0), ref l1, isV (ptr m5003 0), isV (ptr m5005 0)]) (.tmp rfl (fun _ => trivial)) (layer_turned_1_ok hv9) (.cons (.tmp rfl (fun _ => trivial)) .nil) (.cons (k := 5001) rfl (.cons (k := 5006) rfl (.cons (k := 5003) rfl (.cons (k := 5007) rfl (.cons (k := 5005) rfl .nil))))) rfl (by decide) (by decide) (by intro d h; cases h; decide)) rfl rfl ?_
          refine Chain.nil ?_
          refine Ends.blkNormal ?_
          exact Ends.join _ (some_eq h) (.cons (t := 3) rfl (.cons (t := 5) rfl (.cons (t := 6) rfl (.cons (t := 7) rfl (.cons (t := 12) rfl (.cons (t := 13) rfl Sub.nil)))))) (.cons (t := 5001) rfl (.cons (t := 5003) rfl (.cons (t := 5005) rfl SubB.nil)))
        · replace h := bif_f h hb8
          refine Cod.skip ?_
          refine Ends.blkNormal ?_
          refine Ends.close (k := 5001) (g := 5006) (fun z => cont 32 (⟨z⟩ : Raw)) rfl rfl rfl ?_
          refine Ends.close (k := 5003) (g := 5007) (fun z => cont 32 (⟨z⟩ : Raw)) rfl rfl rfl ?_
          exact Ends.join _ (some_eq h) (.cons (t := 3) rfl (.cons (t := 5) rfl (.cons (t := 6) rfl (.cons (t := 7) rfl (.cons (t := 12) rfl (.cons (t := 13) rfl Sub.nil)))))) (.cons (t := 5001) rfl (.cons (t := 5003) rfl (.cons (t := 5005) rfl SubB.nil)))
      · subst hj6; have h := hK6; clear hK6
        refine Cod.open (k := 5001) (g := 5008) rfl rfl (fun s5008 => ?_)
        refine Cod.open (k := 5003) (g := 5009) rfl rfl (fun s5009 => ?_)
        refine Cod.region [] mixed (by kernel_rfl) ?_
        refine Chain.cons (StepOK.addW .none (.tmp rfl (fun _ => trivial)) (.int (by decide))) rfl ?_
        refine Chain.cons (StepOK.move .none (.tmp rfl (fun _ => trivial))) rfl ?_
        refine Chain.nil ?_
        refine Ends.close (k := 5001) (g := 5008) (fun z => cont 32 (⟨z⟩ : Raw)) rfl rfl rfl ?_
        refine Ends.close (k := 5003) (g := 5009) (fun z => cont 32 (⟨z⟩ : Raw)) rfl rfl rfl ?_
        exact Ends.againL (some_eq h) (.cons (t := 13) rfl (.cons (t := 3) rfl (.cons (t := 5) rfl (.cons (t := 6) rfl (.cons (t := 7) rfl (.cons (t := 12) rfl Sub.nil)))))) (.cons (t := 5001) rfl (.cons (t := 5003) rfl (.cons (t := 5005) rfl SubB.nil)))
    · replace h := bif_f h hb5
      refine Cod.exit ?_
      refine Ends.thenExit ?_
      refine Ends.thenExit ?_
      refine Ends.blkExit ?_
      refine Ends.close (k := 5001) (g := 5006) (fun z => cont 32 (⟨z⟩ : Raw)) rfl rfl rfl ?_
      refine Ends.close (k := 5003) (g := 5007) (fun z => cont 32 (⟨z⟩ : Raw)) rfl rfl rfl ?_
      replace h := hD4 _ (some_eq h)
      exact Ends.join _ (some_eq h) (.cons (t := 5) rfl (.cons (t := 6) rfl (.cons (t := 7) rfl Sub.nil))) (.cons (t := 5001) rfl (.cons (t := 5003) rfl (.cons (t := 5005) rfl SubB.nil)))
  · subst hj3; have h := hK3; clear hK3
    refine Cod.open (k := 5003) (g := 5010) rfl rfl (fun s5010 => ?_)
    refine Cod.seq ?_
    refine Cod.region [([5003], []), ([5010], [5010])] mixed (by kernel_rfl) ?_
    refine Chain.consA (StepOK.loadAt0 (k := 5003) .none tr32 rfl (.tmp rfl (fun _ => trivial))) rfl ?_
    obtain ⟨r2, hv10, h⟩ := bind_some h
    refine Chain.consW (StepOK.callO [5010] (slices_Sort_int_ok hv10) (.cons (.tmp rfl (fun _ => trivial)) .nil) (.cons (k := 5010) rfl .nil) rfl (by decide) (by decide) (by intro d h; cases h; decide)) rfl rfl ?_
    refine Chain.nil ?_
    refine Ends.then ?_
    refine Cod.seq ?_
    refine Cod.region [([5003], []), ([], [])] mixed (by kernel_rfl) ?_
    refine Chain.consA (StepOK.loadAt0 (k := 5003) .none tr32 rfl (.tmp rfl (fun _ => trivial))) rfl ?_
    refine Chain.consA (StepOK.assign .none (.tmp rfl (fun _ => trivial))) rfl ?_
    refine Chain.nil ?_
    refine Ends.then ?_
    refine Cod.freezeRow (g := 5010) (ts := [4]) rfl (.cons (t := 4) rfl trivial .nil) SubB.nil rfl ?_
    refine Cod.ret ?_
    obtain rfl := some_eq h
    exact Ends.ret1 (.inl rfl) Try.results64 (ResOK.tmp rfl trivial Imp.refl)

theorem layer_Turned_ok {n1 : Int} {l1 : (List Link)} {r : ((List Int) × Int)}  (h : layer_Turned n1 l1 = some r) : FSpec Try.prog 18 [rep n1, rep l1] (tup [rep r.1, rep r.2]) := by
  unfold layer_Turned at h
  refine FSpec.intro (n := 16) fnok18 Try.func18 rfl Try.ntmps18 rfl (fun F => ?_)
  refine Cod.seq ?_
  refine Cod.region [] mixed (by kernel_rfl) ?_
  refine Chain.cons (StepOK.assign .none (.const (x := ([] : (List Int))) (fun M w => ⟨_, ⟨none, 0, rfl, Nat.le_refl _, by decide, rfl⟩, rfl⟩))) rfl ?_
  refine Chain.cons (StepOK.assign .none (.int (by decide))) rfl ?_
  refine Chain.nil ?_
  refine Ends.then ?_
  refine Cod.seq ?_
  refine Cod.seq ?_
  refine Cod.region [] mixed (by kernel_rfl) ?_
  refine Chain.cons (StepOK.move .none (.tmp rfl (fun _ => trivial))) rfl ?_
  refine Chain.cons (StepOK.move .none (.tmp rfl (fun _ => trivial))) rfl ?_
  obtain ⟨e1, hv1, h⟩ := bind_some h
  refine Chain.cons (StepOK.call .none (layer_Check_ok hv1) (.cons (.tmp rfl (fun _ => trivial)) (.cons (.tmp rfl (fun _ => trivial)) .nil))) rfl ?_
  refine Chain.cons (StepOK.assign .none (.tmp rfl (fun _ => trivial))) rfl ?_
  refine Chain.nil ?_
  refine Ends.then ?_
  refine Cod.seq ?_
  refine Cod.region [] mixed (by kernel_rfl) ?_
  refine Chain.cons (StepOK.move .none (.tmp rfl (fun _ => trivial))) rfl ?_
  refine Chain.cons (StepOK.neI .none (.tmp rfl (fun _ => trivial)) (.int (by decide))) rfl ?_
  refine Chain.nil ?_
  refine Ends.then ?_
  refine Cod.cond (t := 11) rfl trivial (fun hb2 => ?_) (fun hb2 => ?_)
  · replace h := bif_t h hb2
    refine Cod.seq ?_
    refine Cod.region [] mixed (by kernel_rfl) ?_
    refine Chain.cons (StepOK.move .none (.tmp rfl (fun _ => trivial))) rfl ?_
    refine Chain.cons (StepOK.assign .none (.const (x := ([] : (List Int))) (fun M w => ⟨_, ⟨none, 0, rfl, Nat.le_refl _, by decide, rfl⟩, rfl⟩))) rfl ?_
    refine Chain.cons (StepOK.assign .none (.tmp rfl (fun _ => trivial))) rfl ?_
    refine Chain.nil ?_
    refine Ends.then ?_
    refine Cod.ret ?_
    refine Ends.thenRet ?_
    obtain rfl := some_eq h
    exact Ends.ret2 (.inl rfl) Try.results18 (ResOK.tmp rfl trivial Imp.refl) (ResOK.tmp rfl trivial Imp.refl)
  · replace h := bif_f h hb2
    refine Cod.skip ?_
    refine Ends.then ?_
    refine Cod.seq ?_
    refine Cod.region [] mixed (by kernel_rfl) ?_
    refine Chain.cons (StepOK.move .none (.tmp rfl (fun _ => trivial))) rfl ?_
    refine Chain.cons (StepOK.move .none (.tmp rfl (fun _ => trivial))) rfl ?_
    obtain ⟨r1, hv3, h⟩ := bind_some h
    refine Chain.cons (StepOK.call .none (layer_turned_ok hv3) (.cons (.tmp rfl (fun _ => trivial)) (.cons (.tmp rfl (fun _ => trivial)) .nil))) rfl ?_
    refine Chain.cons (StepOK.assign .none (.tmp rfl (fun _ => trivial))) rfl ?_
    refine Chain.cons (StepOK.assign .none (.int (by decide))) rfl ?_
    refine Chain.nil ?_
    refine Ends.then ?_
    refine Cod.ret ?_
    obtain rfl := some_eq h
    exact Ends.ret2 (.inl rfl) Try.results18 (ResOK.tmp rfl trivial Imp.refl) (ResOK.tmp rfl trivial Imp.refl)

theorem law_layers_ok  {r : Bool}  (h : law_layers  = some r) : FSpec Try.prog 12 [] (rep r) := by
  unfold law_layers at h
  refine FSpec.intro (n := 7) fnok12 Try.func12 rfl Try.ntmps12 rfl (fun F => ?_)
  refine Cod.seq ?_
  refine Cod.region [] mixed (by kernel_rfl) ?_
  refine Chain.cons (StepOK.assign .none .bool) rfl ?_
  refine Chain.nil ?_
  refine Ends.then ?_
  refine Cod.seq ?_
  refine Cod.region [] mixed (by kernel_rfl) ?_
  obtain ⟨r1, hv1, h⟩ := bind_some h
  refine Chain.cons (StepOK.call .none (layer_Check_ok hv1) (.cons (.int (by decide)) (.cons (.const (x := ([] : (List Link))) (fun M w => ⟨_, ⟨none, 0, rfl, Nat.le_refl _, by decide, rfl⟩, rfl⟩)) .nil))) rfl ?_
  refine Chain.cons (StepOK.eqI .none (.tmp rfl (fun _ => trivial)) (.int (by decide))) rfl ?_
  refine Chain.cons (StepOK.move .none (.tmp rfl (fun _ => trivial))) rfl ?_
  obtain ⟨r2, hv2, h⟩ := bind_some h
  refine Chain.cons (StepOK.callIf (.at rfl rfl) fnok19 (fun hg => layer_Check_ok ((fun hg => gd_some hv2 (hg.2)) hg)) (.cons (.int (by decide)) (.cons (.const (x := ([] : (List Link))) (fun M w => ⟨_, ⟨none, 0, rfl, Nat.le_refl _, by decide, rfl⟩, rfl⟩)) .nil)) (fun h => h)) rfl ?_
  refine Chain.cons (StepOK.eqI (.at rfl rfl) (.tmp rfl id) (.int (by decide))) rfl ?_
  refine Chain.cons (StepOK.pickAnd .none (.tmp rfl (fun _ => trivial)) (.tmp rfl id)) rfl ?_
  refine Chain.cons (StepOK.assign .none (.tmp rfl (fun _ => trivial))) rfl ?_
  refine Chain.nil ?_
  refine Ends.then ?_
  refine Cod.ret ?_
  obtain rfl := some_eq h
  exact Ends.ret1 (.inl rfl) Try.results12 (ResOK.tmp rfl trivial Imp.refl)

theorem ref_TurnedOf_1_okS {self : (Int × (List Int) × (List Link) × (List Int)) → Option ((List Int) × (List Int))} (hself : ∀ {m43 : Nat} {s44 : Value} {m45 : Nat} {m46 : Nat} {s47 : Value} (x : (Int × (List Int) × (List Link) × (List Int))) (r : ((List Int) × (List Int))), self x = some r → FSpecO Try.prog 66 [rep x.1, isV (ptr m43 0), ref x.2.2.1, isV (ptr m45 0), isV (ptr m46 0)] [(ptr m43 0, cont 32 (⟨s44⟩ : Raw)), (s44, rowV 3 x.2.1), (ptr m45 0, contS 100 (cloV 66 [isV (ptr m43 0), ref x.2.2.1, isV (ptr m45 0), isV (ptr m46 0)])), (ptr m46 0, cont 32 (⟨s47⟩ : Raw)), (s47, rowV 3 x.2.2.2)] (anyV) [some (deep (fun z0 => cont 32 (⟨z0⟩ : Raw)) (rowV 3 r.1)), none, some (contS 100 (cloV 66 [isV (ptr m43 0), ref x.2.2.1, isV (ptr m45 0), isV (ptr m46 0)])), some (deep (fun z0 => cont 32 (⟨z0⟩ : Raw)) (rowV 3 r.2)), none]) {m43 : Nat} {s44 : Value} {m45 : Nat} {m46 : Nat} {s47 : Value} {x : (Int × (List Int) × (List Link) × (List Int))} {r : ((List Int) × (List Int))} (h : ref_TurnedOf_1_body self x = some r) : FSpecO Try.prog 66 [rep x.1, isV (ptr m43 0), ref x.2.2.1, isV (ptr m45 0), isV (ptr m46 0)] [(ptr m43 0, cont 32 (⟨s44⟩ : Raw)), (s44, rowV 3 x.2.1), (ptr m45 0, contS 100 (cloV 66 [isV (ptr m43 0), ref x.2.2.1, isV (ptr m45 0), isV (ptr m46 0)])), (ptr m46 0, cont 32 (⟨s47⟩ : Raw)), (s47, rowV 3 x.2.2.2)] (anyV) [some (deep (fun z0 => cont 32 (⟨z0⟩ : Raw)) (rowV 3 r.1)), none, some (contS 100 (cloV 66 [isV (ptr m43 0), ref x.2.2.1, isV (ptr m45 0), isV (ptr m46 0)])), some (deep (fun z0 => cont 32 (⟨z0⟩ : Raw)) (rowV 3 r.2)), none] := by
  unfold ref_TurnedOf_1_body at h
  refine FSpecO.intro (n := 43) fnok66 Try.func66 rfl Try.ntmps66 rfl (fun F => ?_)
  refine Cod.seq ?_
  refine Cod.region [([43], []), ([], []), ([44], []), ([44], [44])] mixed (by kernel_rfl) ?_
  refine Chain.consA (StepOK.loadAt0 (k := 43) .none tr32 rfl (.tmp rfl (fun _ => trivial))) rfl ?_
  refine Chain.consA (StepOK.move .none (.tmp rfl (fun _ => trivial))) rfl ?_
  obtain ⟨hn1, h⟩ := need_some h
  refine Chain.consA (StepOK.indexAddrO (k := 44) .none sl32 ty3 (.tmp rfl (fun _ => trivial)) rfl (.tmp rfl (fun _ => trivial)) (fun _ => hn1)) rfl ?_
  refine Chain.consN (StepOK.storeElem0 (k := 44) ty3 (.tmp rfl (fun _ => trivial)) rfl (.int (by decide)) hn1) rfl ?_
  refine Chain.nil ?_
  refine Ends.then ?_
  obtain ⟨c1, hv2, h⟩ := bnd_some h
  refine Cod.reB (t := 44) rfl (congrArg (fun y => CPred.at s44 (rowV 3 y)) hv2) ?_
  refine Cod.seq ?_
  refine Cod.seq ?_
  refine Cod.region [] mixed (by kernel_rfl) ?_
  refine Chain.cons (StepOK.load .none ty23 (.tmp rfl (fun _ => trivial))) rfl ?_
  refine Chain.cons (StepOK.len .none sl23 (.tmp rfl (fun _ => trivial))) rfl ?_
  refine Chain.cons (StepOK.move .none (.int (by decide))) rfl ?_
  refine Chain.nil ?_
  refine Ends.then ?_
  obtain ⟨j_3, h, hK3⟩ := bind_some h
  refine Cod.thenJ (ι := ((List Int) × (List Int))) (fun j_3 => []) (fun j_3 => [(43, some (CPred.at (ptr m43 0) (deep (fun z0 => cont 32 (⟨z0⟩ : Raw)) (rowV 3 j_3.1)))), (46, some (CPred.at (ptr m46 0) (deep (fun z0 => cont 32 (⟨z0⟩ : Raw)) (rowV 3 j_3.2))))]) (fun s => j_3 = s) (.cons (t := 0) rfl (.cons (t := 1) rfl (.cons (t := 3) rfl (.cons (t := 4) rfl Sub.nil)))) (.cons (t := 45) rfl SubB.nil) ?_ (fun j_3' hj3 => ?_)
  · skip
    refine Cod.block ?_
    refine Cod.close (k := 43) (g := 44) (fun z => cont 32 (⟨z⟩ : Raw)) rfl rfl rfl ?_
    refine Cod.close (k := 46) (g := 47) (fun z => cont 32 (⟨z⟩ : Raw)) rfl rfl rfl ?_
    refine Cod.rforL h (fun p4_ => [(13, ⟨True, rep p4_.1⟩)]) (fun p4_ => [(43, some (CPred.at (ptr m43 0) (deep (fun z0 => cont 32 (⟨z0⟩ : Raw)) (rowV 3 p4_.2.1)))), (46, some (CPred.at (ptr m46 0) (deep (fun z0 => cont 32 (⟨z0⟩ : Raw)) (rowV 3 p4_.2.2))))]) (.cons (t := 13) rfl Sub.nil) (.cons (t := 43) rfl (.cons (t := 46) rfl SubB.nil)) (.cons (t := 0) rfl (.cons (t := 1) rfl (.cons (t := 2) rfl (.cons (t := 3) rfl (.cons (t := 4) rfl (.cons (t := 11) rfl (.cons (t := 12) rfl Sub.nil))))))) (.cons (t := 45) rfl SubB.nil) (fun p4_ o_4 h hD4 => ?_)
    refine Cod.open (k := 43) (g := 5001) rfl rfl (fun s5001 => ?_)
    refine Cod.open (k := 46) (g := 5002) rfl rfl (fun s5002 => ?_)
    refine Cod.seq ?_
    refine Cod.region [] mixed (by kernel_rfl) ?_
    refine Chain.cons (StepOK.lt .none (.tmp rfl (fun _ => trivial)) (.tmp rfl (fun _ => trivial))) rfl ?_
    refine Chain.nil ?_
    refine Ends.then ?_
    refine Cod.seq ?_
    refine Cod.cond (t := 14) rfl trivial (fun hb5 => ?_) (fun hb5 => ?_)
    · replace h := bif_t h hb5
      refine Cod.skip ?_
      refine Ends.then ?_
      refine Cod.seq ?_
      obtain ⟨j_6, h, hK6⟩ := bind_some h
      unfold ref_TurnedOf_1_L1 at h
      refine Cod.thenJ (ι := ((List Int) × (List Int))) (fun j_6 => []) (fun j_6 => [(43, some (CPred.at (ptr m43 0) (deep (fun z0 => cont 32 (⟨z0⟩ : Raw)) (rowV 3 j_6.1)))), (46, some (CPred.at (ptr m46 0) (deep (fun z0 => cont 32 (⟨z0⟩ : Raw)) (rowV 3 j_6.2))))]) (fun s => j_6 = s) (.cons (t := 0) rfl (.cons (t := 1) rfl (.cons (t := 2) rfl (.cons (t := 3) rfl (.cons (t := 4) rfl (.cons (t := 11) rfl (.cons (t := 12) rfl (.cons (t := 13) rfl Sub.nil)))))))) (.cons (t := 45) rfl SubB.nil) ?_ (fun j_6' hj6 => ?_)
      · skip
        refine Cod.block ?_
        refine Cod.seq ?_
        refine Cod.region [([], []), ([], []), ([], []), ([], [7]), ([], []), ([7], [7])] mixed (by kernel_rfl) ?_
        refine Chain.consA (StepOK.move .none (.tmp rfl (fun _ => trivial))) rfl ?_
        obtain ⟨hn7, h⟩ := need_some h
        refine Chain.consA (StepOK.indexAddr .none sl23 ty79 (.tmp rfl (fun _ => trivial)) (.tmp rfl (fun _ => trivial)) (fun _ => hn7)) rfl ?_
        obtain ⟨v2, hv8, h⟩ := bnd_some h
        refine Chain.consA (StepOK.re hv8 (StepOK.load .none ty79 (.tmp rfl (fun _ => trivial)))) rfl ?_
        refine Chain.consW (StepOK.alloc zo79 rfl) rfl rfl ?_
        refine Chain.consA (StepOK.assign .none (.tmp rfl (fun _ => trivial))) rfl ?_
        refine Chain.consN (StepOK.store ty79 rfl rfl (.tmp rfl (fun _ => trivial))) rfl ?_
        refine Chain.nil ?_
        refine Ends.then ?_
        refine Cod.freeze (t := 7) rfl rfl (.cons (t := 43) rfl (.cons (t := 45) rfl (.cons (t := 46) rfl (.cons (t := 5001) rfl (.cons (t := 5002) rfl SubB.nil))))) rfl ?_
        refine Cod.seq ?_
        refine Cod.seq ?_
        refine Cod.region [] mixed (by kernel_rfl) ?_
        refine Chain.cons (StepOK.fieldAddr .none fd79_0 hfd79_0 (.tmp rfl (fun _ => trivial))) rfl ?_
        refine Chain.cons (StepOK.load .none ty3 (.tmp rfl (fun _ => trivial))) rfl ?_
        refine Chain.cons (StepOK.move .none (.tmp rfl (fun _ => trivial))) rfl ?_
        refine Chain.cons (StepOK.neI .none (.tmp rfl (fun _ => trivial)) (.tmp rfl (fun _ => trivial))) rfl ?_
        refine Chain.nil ?_
        refine Ends.then ?_
        refine Cod.cond (t := 21) rfl trivial (fun hb9 => ?_) (fun hb9 => ?_)
        · replace h := bif_t h hb9
          refine Cod.exit ?_
          refine Ends.thenExit ?_
          refine Ends.blkExit ?_
          refine Ends.close (k := 43) (g := 5001) (fun z => cont 32 (⟨z⟩ : Raw)) rfl rfl rfl ?_
          refine Ends.close (k := 46) (g := 5002) (fun z => cont 32 (⟨z⟩ : Raw)) rfl rfl rfl ?_
          exact Ends.join _ (some_eq h) (.cons (t := 0) rfl (.cons (t := 1) rfl (.cons (t := 2) rfl (.cons (t := 3) rfl (.cons (t := 4) rfl (.cons (t := 11) rfl (.cons (t := 12) rfl (.cons (t := 13) rfl Sub.nil)))))))) (.cons (t := 43) rfl (.cons (t := 46) rfl (.cons (t := 45) rfl SubB.nil)))
        · replace h := bif_f h hb9
          refine Cod.skip ?_
          refine Ends.then ?_
          refine Cod.seq ?_
          refine Cod.region [([43], []), ([], []), ([], []), ([5001], []), ([5001], [])] mixed (by kernel_rfl) ?_
          refine Chain.consA (StepOK.loadAt0 (k := 43) .none tr32 rfl (.tmp rfl (fun _ => trivial))) rfl ?_
          refine Chain.consA (StepOK.fieldAddr .none fd79_1 hfd79_1 (.tmp rfl (fun _ => trivial))) rfl ?_
          refine Chain.consA (StepOK.load .none ty3 (.tmp rfl (fun _ => trivial))) rfl ?_
          obtain ⟨hn10, h⟩ := need_some h
          refine Chain.consA (StepOK.indexAddrO (k := 5001) .none sl32 ty3 (.tmp rfl (fun _ => trivial)) rfl (.tmp rfl (fun _ => trivial)) (fun _ => hn10)) rfl ?_
          obtain ⟨v3, hv11, h⟩ := bnd_some h
          refine Chain.consA (StepOK.re hv11 (StepOK.loadElem0 (k := 5001) .none ty3 (.tmp rfl (fun _ => trivial)) rfl (fun _ => hn10))) rfl ?_
          refine Chain.nil ?_
          refine Ends.then ?_
          refine Cod.block ?_
          refine Cod.seq ?_
          refine Cod.region [] mixed (by kernel_rfl) ?_
          refine Chain.cons (StepOK.eqI .none (.tmp rfl (fun _ => trivial)) (.int (by decide))) rfl ?_
          refine Chain.cons (StepOK.assign .none (.tmp rfl (fun _ => trivial))) rfl ?_
          refine Chain.nil ?_
          refine Ends.then ?_
          refine Cod.cond (t := 27) rfl trivial (fun hb12 => ?_) (fun hb12 => ?_)
          · replace h := bif_t h hb12
            refine Cod.region [([45], []), ([], []), ([], []), ([43, 5001, 45, 46, 5002], [43, 5001, 45, 46, 5002])] mixed (by kernel_rfl) ?_
            refine Chain.consA (StepOK.loadS (k := 45) .none tr100 rfl (.tmp rfl (fun _ => trivial)) cloV_one) rfl ?_
            refine Chain.consA (StepOK.fieldAddr .none fd79_1 hfd79_1 (.tmp rfl (fun _ => trivial))) rfl ?_
            refine Chain.consA (StepOK.load .none ty3 (.tmp rfl (fun _ => trivial))) rfl ?_
            obtain ⟨r1, hv13, h⟩ := bind_some h
            refine Chain.consW (StepOK.callClo [43, 5001, 45, 46, 5002] (Ss := [rep v2.To]) (Cs := [isV (ptr m43 0), ref x.2.2.1, isV (ptr m45 0), isV (ptr m46 0)]) (.tmp rfl (fun _ => trivial)) (hself _ _ hv13) (.cons (.tmp rfl (fun _ => trivial)) .nil) (.cons (k := 43) rfl (.cons (k := 5001) rfl (.cons (k := 45) rfl (.cons (k := 46) rfl (.cons (k := 5002) rfl .nil))))) rfl (by decide) (by decide) (by intro d h; cases h; decide)) rfl rfl ?_
            refine Chain.nil ?_
            refine Ends.blkNormal ?_
            refine Ends.blkNormal ?_
            exact Ends.join _ (some_eq h) (.cons (t := 0) rfl (.cons (t := 1) rfl (.cons (t := 2) rfl (.cons (t := 3) rfl (.cons (t := 4) rfl (.cons (t := 11) rfl (.cons (t := 12) rfl (.cons (t := 13) rfl Sub.nil)))))))) (.cons (t := 43) rfl (.cons (t := 46) rfl (.cons (t := 45) rfl SubB.nil)))
          · replace h := bif_f h hb12
            refine Cod.seq ?_
            refine Cod.region [] mixed (by kernel_rfl) ?_
            refine Chain.cons (StepOK.eqI .none (.tmp rfl (fun _ => trivial)) (.int (by decide))) rfl ?_
            refine Chain.cons (StepOK.assign .none (.tmp rfl (fun _ => trivial))) rfl ?_
            refine Chain.nil ?_
            refine Ends.then ?_
            refine Cod.cond (t := 33) rfl trivial (fun hb14 => ?_) (fun hb14 => ?_)
            · replace h := bif_t h hb14
              refine Cod.region [([46], []), ([], []), ([], []), ([5002], [38, 5002]), ([46, 38], [46, 38])] mixed (by kernel_rfl) ?_
              refine Chain.consA (StepOK.loadAt0 (k := 46) .none tr32 rfl (.tmp rfl (fun _ => trivial))) rfl ?_
              refine Chain.consA (StepOK.move .none (.tmp rfl (fun _ => trivial))) rfl ?_
              refine Chain.consA (StepOK.buildSlice (xs := [_]) .none sl32 ty3 hz3 (.cons (.tmp rfl (fun _ => trivial)) .nil) rfl (by decide)) rfl ?_
              obtain ⟨hn15, h⟩ := need_some h
              refine Chain.consW (StepOK.append (k := 5002) rk32 rfl (.told (.tmp rfl (fun _ => trivial)) rfl) (.tmp rfl (fun _ => trivial)) hn15) rfl rfl ?_
              refine Chain.consN (StepOK.storeRow (k := 46) (t := 38) (set := fun _ z => z) ty32 rfl (.tmp rfl (fun _ => trivial)) .self rfl rfl) rfl ?_
              refine Chain.nil ?_
              refine Ends.blkNormal ?_
              refine Ends.blkNormal ?_
              refine Ends.close (k := 43) (g := 5001) (fun z => cont 32 (⟨z⟩ : Raw)) rfl rfl rfl ?_
              exact Ends.join _ (some_eq h) (.cons (t := 0) rfl (.cons (t := 1) rfl (.cons (t := 2) rfl (.cons (t := 3) rfl (.cons (t := 4) rfl (.cons (t := 11) rfl (.cons (t := 12) rfl (.cons (t := 13) rfl Sub.nil)))))))) (.cons (t := 43) rfl (.cons (t := 46) rfl (.cons (t := 45) rfl SubB.nil)))
            · replace h := bif_f h hb14
              refine Cod.skip ?_
              refine Ends.blkNormal ?_
              refine Ends.blkNormal ?_
              refine Ends.close (k := 43) (g := 5001) (fun z => cont 32 (⟨z⟩ : Raw)) rfl rfl rfl ?_
              refine Ends.close (k := 46) (g := 5002) (fun z => cont 32 (⟨z⟩ : Raw)) rfl rfl rfl ?_
              exact Ends.join _ (some_eq h) (.cons (t := 0) rfl (.cons (t := 1) rfl (.cons (t := 2) rfl (.cons (t := 3) rfl (.cons (t := 4) rfl (.cons (t := 11) rfl (.cons (t := 12) rfl (.cons (t := 13) rfl Sub.nil)))))))) (.cons (t := 43) rfl (.cons (t := 46) rfl (.cons (t := 45) rfl SubB.nil)))
      · subst hj6; have h := hK6; clear hK6
        refine Cod.open (k := 43) (g := 5003) rfl rfl (fun s5003 => ?_)
        refine Cod.open (k := 46) (g := 5004) rfl rfl (fun s5004 => ?_)
        refine Cod.region [] mixed (by kernel_rfl) ?_
        refine Chain.cons (StepOK.addW .none (.tmp rfl (fun _ => trivial)) (.int (by decide))) rfl ?_
        refine Chain.cons (StepOK.move .none (.tmp rfl (fun _ => trivial))) rfl ?_
        refine Chain.nil ?_
        refine Ends.close (k := 43) (g := 5003) (fun z => cont 32 (⟨z⟩ : Raw)) rfl rfl rfl ?_
        refine Ends.close (k := 46) (g := 5004) (fun z => cont 32 (⟨z⟩ : Raw)) rfl rfl rfl ?_
        exact Ends.againL (some_eq h) (.cons (t := 13) rfl (.cons (t := 0) rfl (.cons (t := 1) rfl (.cons (t := 2) rfl (.cons (t := 3) rfl (.cons (t := 4) rfl (.cons (t := 11) rfl (.cons (t := 12) rfl Sub.nil)))))))) (.cons (t := 43) rfl (.cons (t := 46) rfl (.cons (t := 45) rfl SubB.nil)))
    · replace h := bif_f h hb5
      refine Cod.exit ?_
      refine Ends.thenExit ?_
      refine Ends.thenExit ?_
      refine Ends.blkExit ?_
      refine Ends.close (k := 43) (g := 5001) (fun z => cont 32 (⟨z⟩ : Raw)) rfl rfl rfl ?_
      refine Ends.close (k := 46) (g := 5002) (fun z => cont 32 (⟨z⟩ : Raw)) rfl rfl rfl ?_
      replace h := hD4 _ (some_eq h)
      exact Ends.join _ (some_eq h) (.cons (t := 0) rfl (.cons (t := 1) rfl (.cons (t := 3) rfl (.cons (t := 4) rfl Sub.nil)))) (.cons (t := 43) rfl (.cons (t := 46) rfl (.cons (t := 45) rfl SubB.nil)))
  · subst hj3; have h := hK3; clear hK3
    refine Cod.open (k := 43) (g := 5005) rfl rfl (fun s5005 => ?_)
    refine Cod.open (k := 46) (g := 5006) rfl rfl (fun s5006 => ?_)
    refine Cod.region [([43], []), ([], []), ([5005], []), ([5005], [5005])] mixed (by kernel_rfl) ?_
    refine Chain.consA (StepOK.loadAt0 (k := 43) .none tr32 rfl (.tmp rfl (fun _ => trivial))) rfl ?_
    refine Chain.consA (StepOK.move .none (.tmp rfl (fun _ => trivial))) rfl ?_
    obtain ⟨hn16, h⟩ := need_some h
    refine Chain.consA (StepOK.indexAddrO (k := 5005) .none sl32 ty3 (.tmp rfl (fun _ => trivial)) rfl (.tmp rfl (fun _ => trivial)) (fun _ => hn16)) rfl ?_
    refine Chain.consN (StepOK.storeElem0 (k := 5005) ty3 (.tmp rfl (fun _ => trivial)) rfl (.int (by decide)) hn16) rfl ?_
    refine Chain.nil ?_
    refine Ends.close (k := 43) (g := 5005) (fun z => cont 32 (⟨z⟩ : Raw)) rfl rfl rfl ?_
    refine Ends.close (k := 46) (g := 5006) (fun z => cont 32 (⟨z⟩ : Raw)) rfl rfl rfl ?_
    obtain rfl := some_eq h
    exact Ends.ret0O (.inr rfl) [43, 44, 45, 46, 47] Try.results66 (by decide) (.held rfl (.skip (.held rfl (.held rfl (.skip .nil))))) 
theorem ref_TurnedOf_1_okN : ∀ (k : Nat) {m43 : Nat} {s44 : Value} {m45 : Nat} {m46 : Nat} {s47 : Value} (x : (Int × (List Int) × (List Link) × (List Int))) (r : ((List Int) × (List Int))) (h : fixN ref_TurnedOf_1_body k x = some r), FSpecO Try.prog 66 [rep x.1, isV (ptr m43 0), ref x.2.2.1, isV (ptr m45 0), isV (ptr m46 0)] [(ptr m43 0, cont 32 (⟨s44⟩ : Raw)), (s44, rowV 3 x.2.1), (ptr m45 0, contS 100 (cloV 66 [isV (ptr m43 0), ref x.2.2.1, isV (ptr m45 0), isV (ptr m46 0)])), (ptr m46 0, cont 32 (⟨s47⟩ : Raw)), (s47, rowV 3 x.2.2.2)] (anyV) [some (deep (fun z0 => cont 32 (⟨z0⟩ : Raw)) (rowV 3 r.1)), none, some (contS 100 (cloV 66 [isV (ptr m43 0), ref x.2.2.1, isV (ptr m45 0), isV (ptr m46 0)])), some (deep (fun z0 => cont 32 (⟨z0⟩ : Raw)) (rowV 3 r.2)), none]
  | 0, _, _, _, _, _, x, r, h => by simp [fixN] at h
  | k + 1, _, _, _, _, _, x, r, h => ref_TurnedOf_1_okS (ref_TurnedOf_1_okN k) h
theorem ref_TurnedOf_1_ok {v1 : Int} {c0_1 : (List Int)} {c1_1 : (List Link)} {c3_1 : (List Int)} {r : ((List Int) × (List Int))} {m43 : Nat} {s44 : Value} {m45 : Nat} {m46 : Nat} {s47 : Value} (h : ref_TurnedOf_1 v1 c0_1 c1_1 c3_1 = some r) : FSpecO Try.prog 66 [rep v1, isV (ptr m43 0), ref c1_1, isV (ptr m45 0), isV (ptr m46 0)] [(ptr m43 0, cont 32 (⟨s44⟩ : Raw)), (s44, rowV 3 c0_1), (ptr m45 0, contS 100 (cloV 66 [isV (ptr m43 0), ref c1_1, isV (ptr m45 0), isV (ptr m46 0)])), (ptr m46 0, cont 32 (⟨s47⟩ : Raw)), (s47, rowV 3 c3_1)] (anyV) [some (deep (fun z0 => cont 32 (⟨z0⟩ : Raw)) (rowV 3 r.1)), none, some (contS 100 (cloV 66 [isV (ptr m43 0), ref c1_1, isV (ptr m45 0), isV (ptr m46 0)])), some (deep (fun z0 => cont 32 (⟨z0⟩ : Raw)) (rowV 3 r.2)), none] :=
  let ⟨k, hk⟩ := fixp_some h
  ref_TurnedOf_1_okN k (v1, c0_1, c1_1, c3_1) r hk

theorem ref_TurnedOf_ok {n1 : Int} {l1 : (List Link)} {r : (List Int)}  (h : ref_TurnedOf n1 l1 = some r) : FSpec Try.prog 22 [rep n1, rep l1] (rep r) := by
  unfold ref_TurnedOf at h
  refine FSpec.intro (n := 28) fnok22 Try.func22 rfl Try.ntmps22 rfl (fun F => ?_)
  refine Cod.seq ?_
  refine Cod.region [] mixed (by kernel_rfl) ?_
  refine Chain.cons (StepOK.box .none (.tmp rfl (fun _ => trivial))) rfl ?_
  refine Chain.cons (StepOK.assign .none (.const (x := ([] : (List Int))) (fun M w => ⟨_, ⟨none, 0, rfl, Nat.le_refl _, by decide, rfl⟩, rfl⟩))) rfl ?_
  refine Chain.nil ?_
  refine Ends.then ?_
  refine Cod.seq ?_
  refine Cod.region [([], []), ([], [10]), ([], [5]), ([5, 10], [5, 10])] mixed (by kernel_rfl) ?_
  refine Chain.consA (StepOK.move .none (.tmp rfl (fun _ => trivial))) rfl ?_
  obtain ⟨hn1, h⟩ := need_some h
  refine Chain.consW (StepOK.makeSlice rk32 zo3 rfl (.tmp rfl (fun _ => trivial)) (.tmp rfl (fun _ => trivial)) hn1) rfl rfl ?_
  refine Chain.consW (StepOK.alloc zr32 rfl) rfl rfl ?_
  refine Chain.consN (StepOK.storeRow0 (k := 5) (t := 10) ty32 rfl rfl rfl rfl) rfl ?_
  refine Chain.nil ?_
  refine Ends.then ?_
  refine Cod.nameAt (t := 5) (g := 5001) rfl rfl (isBox_deep fun _ => isBox_cont) rfl (fun m5001 => ?_)
  refine Cod.open (k := 5001) (g := 5002) rfl rfl (fun s5002 => ?_)
  refine Cod.seq ?_
  refine Cod.region [([], [6])] mixed (by kernel_rfl) ?_
  refine Chain.consW (StepOK.alloc zr32 rfl) rfl rfl ?_
  refine Chain.nil ?_
  refine Ends.then ?_
  obtain ⟨c1, hv2, h⟩ := bnd_some h
  refine Cod.reB (t := 5002) rfl (congrArg (fun y => CPred.at s5002 (rowV 3 y)) hv2) ?_
  refine Cod.nameAt (t := 6) (g := 5003) rfl rfl isBox_cont rfl (fun m5003 => ?_)
  refine Cod.nilKey (g := 5004) (T := 3) (α := Int) rfl ?_
  refine Cod.seq ?_
  refine Cod.region [([], [7])] mixed (by kernel_rfl) ?_
  refine Chain.consW (StepOK.alloc zr100 rfl) rfl rfl ?_
  refine Chain.nil ?_
  refine Ends.then ?_
  refine Cod.nameAt (t := 7) (g := 5005) rfl rfl isBox_cont rfl (fun m5005 => ?_)
  refine Cod.seq ?_
  refine Cod.region [([], []), ([5005], [5005])] mixed (by kernel_rfl) ?_
  refine Chain.consA (StepOK.makeFuncC (Cs := [isV (ptr m5001 0), ref l1, isV (ptr m5005 0), isV (ptr m5003 0)]) .none (.cons (.tmp rfl (fun _ => trivial)) (.cons (.tmp rfl (fun _ => trivial)) (.cons (.tmp rfl (fun _ => trivial)) (.cons (.tmp rfl (fun _ => trivial)) .nil))))) rfl ?_
  refine Chain.consN (StepOK.storeS (k := 5005) (S := cloV 66 [isV (ptr m5001 0), ref l1, isV (ptr m5005 0), isV (ptr m5003 0)]) tr100 rfl cont_cells (.tmp rfl (fun _ => trivial)) (.tmp rfl (fun _ => trivial)) cloV_one) rfl ?_
  refine Chain.nil ?_
  refine Ends.then ?_
  refine Cod.seq ?_
  refine Cod.seq ?_
  refine Cod.region [] mixed (by kernel_rfl) ?_
  refine Chain.cons (StepOK.move .none (.tmp rfl (fun _ => trivial))) rfl ?_
  refine Chain.cons (StepOK.move .none (.int (by decide))) rfl ?_
  refine Chain.nil ?_
  refine Ends.then ?_
  obtain ⟨j_3, h, hK3⟩ := bind_some h
  refine Cod.thenJ (ι := ((List Int) × (List Int))) (fun j_3 => []) (fun j_3 => [(5001, some (CPred.at (ptr m5001 0) (deep (fun z0 => cont 32 (⟨z0⟩ : Raw)) (rowV 3 j_3.1)))), (5003, some (CPred.at (ptr m5003 0) (deep (fun z0 => cont 32 (⟨z0⟩ : Raw)) (rowV 3 j_3.2))))]) (fun s => j_3 = s) (.cons (t := 5) rfl (.cons (t := 6) rfl (.cons (t := 7) rfl Sub.nil))) (.cons (t := 5005) rfl SubB.nil) ?_ (fun j_3' hj3 => ?_)
  · skip
    refine Cod.block ?_
    refine Cod.close (k := 5001) (g := 5002) (fun z => cont 32 (⟨z⟩ : Raw)) rfl rfl rfl ?_
    refine Cod.close (k := 5003) (g := 5004) (fun z => cont 32 (⟨z⟩ : Raw)) rfl rfl rfl ?_
    refine Cod.rforL h (fun p4_ => [(13, ⟨True, rep p4_.1⟩)]) (fun p4_ => [(5001, some (CPred.at (ptr m5001 0) (deep (fun z0 => cont 32 (⟨z0⟩ : Raw)) (rowV 3 p4_.2.1)))), (5003, some (CPred.at (ptr m5003 0) (deep (fun z0 => cont 32 (⟨z0⟩ : Raw)) (rowV 3 p4_.2.2))))]) (.cons (t := 13) rfl Sub.nil) (.cons (t := 5001) rfl (.cons (t := 5003) rfl SubB.nil)) (.cons (t := 3) rfl (.cons (t := 5) rfl (.cons (t := 6) rfl (.cons (t := 7) rfl (.cons (t := 12) rfl Sub.nil))))) (.cons (t := 5005) rfl SubB.nil) (fun p4_ o_4 h hD4 => ?_)
    refine Cod.open (k := 5001) (g := 5006) rfl rfl (fun s5006 => ?_)
    refine Cod.open (k := 5003) (g := 5007) rfl rfl (fun s5007 => ?_)
    refine Cod.seq ?_
    refine Cod.region [] mixed (by kernel_rfl) ?_
    refine Chain.cons (StepOK.lt .none (.tmp rfl (fun _ => trivial)) (.tmp rfl (fun _ => trivial))) rfl ?_
    refine Chain.nil ?_
    refine Ends.then ?_
    refine Cod.seq ?_
    refine Cod.cond (t := 14) rfl trivial (fun hb5 => ?_) (fun hb5 => ?_)
    · replace h := bif_t h hb5
      refine Cod.skip ?_
      refine Ends.then ?_
      refine Cod.seq ?_
      obtain ⟨j_6, h, hK6⟩ := bind_some h
      unfold ref_TurnedOf_L1 at h
      refine Cod.thenJ (ι := ((List Int) × (List Int))) (fun j_6 => []) (fun j_6 => [(5001, some (CPred.at (ptr m5001 0) (deep (fun z0 => cont 32 (⟨z0⟩ : Raw)) (rowV 3 j_6.1)))), (5003, some (CPred.at (ptr m5003 0) (deep (fun z0 => cont 32 (⟨z0⟩ : Raw)) (rowV 3 j_6.2))))]) (fun s => j_6 = s) (.cons (t := 3) rfl (.cons (t := 5) rfl (.cons (t := 6) rfl (.cons (t := 7) rfl (.cons (t := 12) rfl (.cons (t := 13) rfl Sub.nil)))))) (.cons (t := 5005) rfl SubB.nil) ?_ (fun j_6' hj6 => ?_)
      · skip
        refine Cod.block ?_
        refine Cod.seq ?_
        refine Cod.region [] mixed (by kernel_rfl) ?_
        refine Chain.cons (StepOK.move .none (.tmp rfl (fun _ => trivial))) rfl ?_
        refine Chain.cons (StepOK.assign .none (.tmp rfl (fun _ => trivial))) rfl ?_
        refine Chain.nil ?_
        refine Ends.then ?_
        refine Cod.seq ?_
        refine Cod.region [([5001], []), ([], []), ([5006], []), ([5006], []), ([], [])] mixed (by kernel_rfl) ?_
        refine Chain.consA (StepOK.loadAt0 (k := 5001) .none tr32 rfl (.tmp rfl (fun _ => trivial))) rfl ?_
        refine Chain.consA (StepOK.move .none (.tmp rfl (fun _ => trivial))) rfl ?_
        obtain ⟨hn7, h⟩ := need_some h
        refine Chain.consA (StepOK.indexAddrO (k := 5006) .none sl32 ty3 (.tmp rfl (fun _ => trivial)) rfl (.tmp rfl (fun _ => trivial)) (fun _ => hn7)) rfl ?_
        refine Chain.consA (StepOK.loadElem0 (k := 5006) .none ty3 (.tmp rfl (fun _ => trivial)) rfl (fun _ => hn7)) rfl ?_
        refine Chain.consA (StepOK.eqI .none (.tmp rfl (fun _ => trivial)) (.int (by decide))) rfl ?_
        refine Chain.nil ?_
        refine Ends.then ?_
        refine Cod.cond (t := 20) rfl trivial (fun hb8 => ?_) (fun hb8 => ?_)
        · replace h := bif_t h hb8
          refine Cod.region [([5005], []), ([], []), ([5001, 5006, 5005, 5003, 5007], [5001, 5006, 5005, 5003, 5007])] mixed (by kernel_rfl) ?_
          refine Chain.consA (StepOK.loadS (k := 5005) .none tr100 rfl (.tmp rfl (fun _ => trivial)) cloV_one) rfl ?_
          refine Chain.consA (StepOK.move .none (.tmp rfl (fun _ => trivial))) rfl ?_
          obtain ⟨r1, hv9, h⟩ := bind_some h
          refine Chain.consW (StepOK.callClo [5001, 5006, 5005, 5003, 5007] (Ss := [rep p4_.1]) (Cs := [isV (ptr m5001 0), ref l1, isV (ptr m5005 0), isV (ptr m5003 0)]) (.tmp rfl (fun _ => trivial)) (ref_TurnedOf_1_ok hv9) (.cons (.tmp rfl (fun _ => trivial)) .nil) (.cons (k := 5001) rfl (.cons (k := 5006) rfl (.cons (k := 5005) rfl (.cons (k := 5003) rfl (.cons (k := 5007) rfl .nil))))) rfl (by decide) (by decide) (by intro d h; cases h; decide)) rfl rfl ?_
          refine Chain.nil ?_
          refine Ends.blkNormal ?_
          exact Ends.join _ (some_eq h) (.cons (t := 3) rfl (.cons (t := 5) rfl (.cons (t := 6) rfl (.cons (t := 7) rfl (.cons (t := 12) rfl (.cons (t := 13) rfl Sub.nil)))))) (.cons (t := 5001) rfl (.cons (t := 5003) rfl (.cons (t := 5005) rfl SubB.nil)))
        · replace h := bif_f h hb8
          refine Cod.skip ?_
          refine Ends.blkNormal ?_
          refine Ends.close (k := 5001) (g := 5006) (fun z => cont 32 (⟨z⟩ : Raw)) rfl rfl rfl ?_
          refine Ends.close (k := 5003) (g := 5007) (fun z => cont 32 (⟨z⟩ : Raw)) rfl rfl rfl ?_
          exact Ends.join _ (some_eq h) (.cons (t := 3) rfl (.cons (t := 5) rfl (.cons (t := 6) rfl (.cons (t := 7) rfl (.cons (t := 12) rfl (.cons (t := 13) rfl Sub.nil)))))) (.cons (t := 5001) rfl (.cons (t := 5003) rfl (.cons (t := 5005) rfl SubB.nil)))
      · subst hj6; have h := hK6; clear hK6
        refine Cod.open (k := 5001) (g := 5008) rfl rfl (fun s5008 => ?_)
        refine Cod.open (k := 5003) (g := 5009) rfl rfl (fun s5009 => ?_)
        refine Cod.region [] mixed (by kernel_rfl) ?_
        refine Chain.cons (StepOK.addW .none (.tmp rfl (fun _ => trivial)) (.int (by decide))) rfl ?_
        refine Chain.cons (StepOK.move .none (.tmp rfl (fun _ => trivial))) rfl ?_
        refine Chain.nil ?_
        refine Ends.close (k := 5001) (g := 5008) (fun z => cont 32 (⟨z⟩ : Raw)) rfl rfl rfl ?_
        refine Ends.close (k := 5003) (g := 5009) (fun z => cont 32 (⟨z⟩ : Raw)) rfl rfl rfl ?_
        exact Ends.againL (some_eq h) (.cons (t := 13) rfl (.cons (t := 3) rfl (.cons (t := 5) rfl (.cons (t := 6) rfl (.cons (t := 7) rfl (.cons (t := 12) rfl Sub.nil)))))) (.cons (t := 5001) rfl (.cons (t := 5003) rfl (.cons (t := 5005) rfl SubB.nil)))
    · replace h := bif_f h hb5
      refine Cod.exit ?_
      refine Ends.thenExit ?_
      refine Ends.thenExit ?_
      refine Ends.blkExit ?_
      refine Ends.close (k := 5001) (g := 5006) (fun z => cont 32 (⟨z⟩ : Raw)) rfl rfl rfl ?_
      refine Ends.close (k := 5003) (g := 5007) (fun z => cont 32 (⟨z⟩ : Raw)) rfl rfl rfl ?_
      replace h := hD4 _ (some_eq h)
      exact Ends.join _ (some_eq h) (.cons (t := 5) rfl (.cons (t := 6) rfl (.cons (t := 7) rfl Sub.nil))) (.cons (t := 5001) rfl (.cons (t := 5003) rfl (.cons (t := 5005) rfl SubB.nil)))
  · subst hj3; have h := hK3; clear hK3
    refine Cod.open (k := 5003) (g := 5010) rfl rfl (fun s5010 => ?_)
    refine Cod.seq ?_
    refine Cod.region [([5003], []), ([5010], [5010])] mixed (by kernel_rfl) ?_
    refine Chain.consA (StepOK.loadAt0 (k := 5003) .none tr32 rfl (.tmp rfl (fun _ => trivial))) rfl ?_
    obtain ⟨r2, hv10, h⟩ := bind_some h
    refine Chain.consW (StepOK.callO [5010] (slices_Sort_int_ok hv10) (.cons (.tmp rfl (fun _ => trivial)) .nil) (.cons (k := 5010) rfl .nil) rfl (by decide) (by decide) (by intro d h; cases h; decide)) rfl rfl ?_
    refine Chain.nil ?_
    refine Ends.then ?_
    refine Cod.seq ?_
    refine Cod.region [([5003], []), ([], [])] mixed (by kernel_rfl) ?_
    refine Chain.consA (StepOK.loadAt0 (k := 5003) .none tr32 rfl (.tmp rfl (fun _ => trivial))) rfl ?_
    refine Chain.consA (StepOK.assign .none (.tmp rfl (fun _ => trivial))) rfl ?_
    refine Chain.nil ?_
    refine Ends.then ?_
    refine Cod.freezeRow (g := 5010) (ts := [4]) rfl (.cons (t := 4) rfl trivial .nil) SubB.nil rfl ?_
    refine Cod.ret ?_
    obtain rfl := some_eq h
    exact Ends.ret1 (.inl rfl) Try.results22 (ResOK.tmp rfl trivial Imp.refl)

theorem law_TurnsOfLinks_1_ok {c0_1 : Int} {c1_1 : (List Link)} {r : (List Int)}  (h : law_TurnsOfLinks_1 c0_1 c1_1 = some r) : FSpec Try.prog 21 [ref c0_1, ref c1_1] (rep r) := by
  unfold law_TurnsOfLinks_1 at h
  refine FSpec.intro (n := 6) fnok21 Try.func21 rfl Try.ntmps21 rfl (fun F => ?_)
  refine Cod.seq ?_
  refine Cod.region [] mixed (by kernel_rfl) ?_
  refine Chain.cons (StepOK.assign .none (.const (x := ([] : (List Int))) (fun M w => ⟨_, ⟨none, 0, rfl, Nat.le_refl _, by decide, rfl⟩, rfl⟩))) rfl ?_
  refine Chain.nil ?_
  refine Ends.then ?_
  refine Cod.seq ?_
  refine Cod.region [] mixed (by kernel_rfl) ?_
  refine Chain.cons (StepOK.load .none ty3 (.tmp rfl (fun _ => trivial))) rfl ?_
  refine Chain.cons (StepOK.load .none ty23 (.tmp rfl (fun _ => trivial))) rfl ?_
  obtain ⟨r1, hv1, h⟩ := bind_some h
  refine Chain.cons (StepOK.call .none (ref_TurnedOf_ok hv1) (.cons (.tmp rfl (fun _ => trivial)) (.cons (.tmp rfl (fun _ => trivial)) .nil))) rfl ?_
  refine Chain.cons (StepOK.assign .none (.tmp rfl (fun _ => trivial))) rfl ?_
  refine Chain.nil ?_
  refine Ends.then ?_
  refine Cod.ret ?_
  obtain rfl := some_eq h
  exact Ends.ret1 (.inl rfl) Try.results21 (ResOK.tmp rfl trivial Imp.refl)

theorem slices_Equal_int_ok {s1_1 : (List Int)} {s2_1 : (List Int)} {r : Bool}  (h : slices_Equal_int s1_1 s2_1 = some r) : FSpec Try.prog 16 [rep s1_1, rep s2_1] (rep r) := by
  unfold slices_Equal_int at h
  refine FSpec.intro (n := 26) fnok16 Try.func16 rfl Try.ntmps16 rfl (fun F => ?_)
  refine Cod.seq ?_
  refine Cod.region [] mixed (by kernel_rfl) ?_
  refine Chain.cons (StepOK.assign .none .bool) rfl ?_
  refine Chain.nil ?_
  refine Ends.then ?_
  refine Cod.seq ?_
  refine Cod.seq ?_
  refine Cod.region [] mixed (by kernel_rfl) ?_
  refine Chain.cons (StepOK.move .none (.tmp rfl (fun _ => trivial))) rfl ?_
  refine Chain.cons (StepOK.len .none sl32 (.tmp rfl (fun _ => trivial))) rfl ?_
  refine Chain.cons (StepOK.move .none (.tmp rfl (fun _ => trivial))) rfl ?_
  refine Chain.cons (StepOK.len .none sl32 (.tmp rfl (fun _ => trivial))) rfl ?_
  refine Chain.cons (StepOK.neI .none (.tmp rfl (fun _ => trivial)) (.tmp rfl (fun _ => trivial))) rfl ?_
  refine Chain.nil ?_
  refine Ends.then ?_
  refine Cod.cond (t := 10) rfl trivial (fun hb1 => ?_) (fun hb1 => ?_)
  · replace h := bif_t h hb1
    refine Cod.seq ?_
    refine Cod.region [] mixed (by kernel_rfl) ?_
    refine Chain.cons (StepOK.assign .none .bool) rfl ?_
    refine Chain.nil ?_
    refine Ends.then ?_
    refine Cod.ret ?_
    refine Ends.thenRet ?_
    obtain rfl := some_eq h
    exact Ends.ret1 (.inl rfl) Try.results16 (ResOK.tmp rfl trivial Imp.refl)
  · replace h := bif_f h hb1
    refine Cod.skip ?_
    refine Ends.then ?_
    refine Cod.seq ?_
    refine Cod.seq ?_
    refine Cod.region [] mixed (by kernel_rfl) ?_
    refine Chain.cons (StepOK.move .none (.tmp rfl (fun _ => trivial))) rfl ?_
    refine Chain.cons (StepOK.len .none sl32 (.tmp rfl (fun _ => trivial))) rfl ?_
    refine Chain.cons (StepOK.move .none (.int (by decide))) rfl ?_
    refine Chain.nil ?_
    refine Ends.then ?_
    obtain ⟨o_2, h, hK2⟩ := bindR_some h
    refine Cod.thenJ (ι := Unit) (fun j_2 => []) (fun j_2 => []) (fun s => o_2 = Res.nx s) Sub.nil SubB.nil ?_ (fun j_2 hj2 => ?_)
    · skip
      refine Cod.block ?_
      refine Cod.rforEL h (fun p3_ => [(13, ⟨True, rep p3_.1⟩)]) (fun p3_ => []) (.cons (t := 13) rfl Sub.nil) SubB.nil (.cons (t := 0) rfl (.cons (t := 1) rfl (.cons (t := 12) rfl Sub.nil))) SubB.nil (fun p3_ o_3 h hD3 => ?_)
      refine Cod.seq ?_
      refine Cod.region [] mixed (by kernel_rfl) ?_
      refine Chain.cons (StepOK.lt .none (.tmp rfl (fun _ => trivial)) (.tmp rfl (fun _ => trivial))) rfl ?_
      refine Chain.nil ?_
      refine Ends.then ?_
      refine Cod.seq ?_
      refine Cod.cond (t := 14) rfl trivial (fun hb4 => ?_) (fun hb4 => ?_)
      · replace h := bif_t h hb4
        refine Cod.skip ?_
        refine Ends.then ?_
        refine Cod.seq ?_
        obtain ⟨o_5, h, hK5⟩ := bindD_some h
        unfold slices_Equal_int_L1 at h
        refine Cod.thenJ (ι := Unit) (fun j_5 => []) (fun j_5 => []) (fun s => o_5 = Res.nx s) (.cons (t := 0) rfl (.cons (t := 1) rfl (.cons (t := 12) rfl (.cons (t := 13) rfl Sub.nil)))) SubB.nil ?_ (fun j_5 hj5 => ?_)
        · skip
          refine Cod.block ?_
          refine Cod.seq ?_
          refine Cod.region [] mixed (by kernel_rfl) ?_
          refine Chain.cons (StepOK.move .none (.tmp rfl (fun _ => trivial))) rfl ?_
          refine Chain.cons (StepOK.assign .none (.tmp rfl (fun _ => trivial))) rfl ?_
          refine Chain.nil ?_
          refine Ends.then ?_
          refine Cod.seq ?_
          refine Cod.region [] mixed (by kernel_rfl) ?_
          refine Chain.cons (StepOK.move .none (.tmp rfl (fun _ => trivial))) rfl ?_
          refine Chain.cons (StepOK.move .none (.tmp rfl (fun _ => trivial))) rfl ?_
          obtain ⟨hn6, h⟩ := need_some h
          refine Chain.cons (StepOK.indexAddr .none sl32 ty3 (.tmp rfl (fun _ => trivial)) (.tmp rfl (fun _ => trivial)) (fun _ => hn6)) rfl ?_
          refine Chain.cons (StepOK.load .none ty3 (.tmp rfl (fun _ => trivial))) rfl ?_
          refine Chain.cons (StepOK.move .none (.tmp rfl (fun _ => trivial))) rfl ?_
          refine Chain.cons (StepOK.move .none (.tmp rfl (fun _ => trivial))) rfl ?_
          obtain ⟨hn7, h⟩ := need_some h
          refine Chain.cons (StepOK.indexAddr .none sl32 ty3 (.tmp rfl (fun _ => trivial)) (.tmp rfl (fun _ => trivial)) (fun _ => hn7)) rfl ?_
          refine Chain.cons (StepOK.load .none ty3 (.tmp rfl (fun _ => trivial))) rfl ?_
          refine Chain.cons (StepOK.neI .none (.tmp rfl (fun _ => trivial)) (.tmp rfl (fun _ => trivial))) rfl ?_
          refine Chain.nil ?_
          refine Ends.then ?_
          refine Cod.cond (t := 24) rfl trivial (fun hb8 => ?_) (fun hb8 => ?_)
          · replace h := bif_t h hb8
            refine Cod.seq ?_
            refine Cod.region [] mixed (by kernel_rfl) ?_
            refine Chain.cons (StepOK.assign .none .bool) rfl ?_
            refine Chain.nil ?_
            refine Ends.then ?_
            refine Cod.ret ?_
            refine Ends.blkRet ?_
            refine Ends.thenRet ?_
            refine Ends.thenRet ?_
            refine Ends.blkRet ?_
            refine Ends.thenRet ?_
            replace h := resd_ab hK5 (some_eq h)
            replace h := hD3 _ (some_eq h)
            replace h := resb_ab hK2 (some_eq h)
            obtain rfl := some_eq h
            exact Ends.ret1 (.inl rfl) Try.results16 (ResOK.tmp rfl trivial Imp.refl)
          · replace h := bif_f h hb8
            refine Cod.skip ?_
            refine Ends.blkNormal ?_
            exact Ends.join _ (some_eq h) (.cons (t := 0) rfl (.cons (t := 1) rfl (.cons (t := 12) rfl (.cons (t := 13) rfl Sub.nil)))) SubB.nil
        · have h := resd_nx hK5 hj5
          refine Cod.region [] mixed (by kernel_rfl) ?_
          refine Chain.cons (StepOK.addW .none (.tmp rfl (fun _ => trivial)) (.int (by decide))) rfl ?_
          refine Chain.cons (StepOK.move .none (.tmp rfl (fun _ => trivial))) rfl ?_
          refine Chain.nil ?_
          exact Ends.againL (some_eq h) (.cons (t := 13) rfl (.cons (t := 0) rfl (.cons (t := 1) rfl (.cons (t := 12) rfl Sub.nil)))) SubB.nil
      · replace h := bif_f h hb4
        refine Cod.exit ?_
        refine Ends.thenExit ?_
        refine Ends.thenExit ?_
        refine Ends.blkExit ?_
        replace h := hD3 _ (some_eq h)
        exact Ends.join _ (some_eq h) Sub.nil SubB.nil
    · have h := resb_nx hK2 hj2
      refine Cod.seq ?_
      refine Cod.region [] mixed (by kernel_rfl) ?_
      refine Chain.cons (StepOK.assign .none .bool) rfl ?_
      refine Chain.nil ?_
      refine Ends.then ?_
      refine Cod.ret ?_
      obtain rfl := some_eq h
      exact Ends.ret1 (.inl rfl) Try.results16 (ResOK.tmp rfl trivial Imp.refl)

theorem law_lists_int_ok {got1 : (List Int)} {e1 : Int} {want1 : Int} {right1 : (Option (List Int))} {r : Bool}  (h : law_lists_int got1 e1 want1 right1 = some r) : FSpec Try.prog 20 [rep got1, rep e1, rep want1, fn0 Try.prog (rep (α := (List Int))) right1] (rep r) := by
  unfold law_lists_int at h
  refine FSpec.intro (n := 27) fnok20 Try.func20 rfl Try.ntmps20 rfl (fun F => ?_)
  refine Cod.seq ?_
  refine Cod.region [] mixed (by kernel_rfl) ?_
  refine Chain.cons (StepOK.assign .none .bool) rfl ?_
  refine Chain.nil ?_
  refine Ends.then ?_
  refine Cod.seq ?_
  refine Cod.seq ?_
  refine Cod.region [] mixed (by kernel_rfl) ?_
  refine Chain.cons (StepOK.move .none (.tmp rfl (fun _ => trivial))) rfl ?_
  refine Chain.cons (StepOK.neI .none (.tmp rfl (fun _ => trivial)) (.int (by decide))) rfl ?_
  refine Chain.nil ?_
  refine Ends.then ?_
  refine Cod.cond (t := 10) rfl trivial (fun hb1 => ?_) (fun hb1 => ?_)
  · replace h := bif_t h hb1
    refine Cod.seq ?_
    refine Cod.region [] mixed (by kernel_rfl) ?_
    refine Chain.cons (StepOK.move .none (.tmp rfl (fun _ => trivial))) rfl ?_
    refine Chain.cons (StepOK.len .none sl32 (.tmp rfl (fun _ => trivial))) rfl ?_
    refine Chain.cons (StepOK.eqI .none (.tmp rfl (fun _ => trivial)) (.int (by decide))) rfl ?_
    refine Chain.cons (StepOK.move .none (.tmp rfl (fun _ => trivial))) rfl ?_
    refine Chain.cons (StepOK.move (.at rfl rfl) (.tmp rfl (fun _ => trivial))) rfl ?_
    refine Chain.cons (StepOK.move (.at rfl rfl) (.tmp rfl (fun _ => trivial))) rfl ?_
    refine Chain.cons (StepOK.eqI (.at rfl rfl) (.tmp rfl id) (.tmp rfl id)) rfl ?_
    refine Chain.cons (StepOK.pickAnd .none (.tmp rfl (fun _ => trivial)) (.tmp rfl id)) rfl ?_
    refine Chain.cons (StepOK.assign .none (.tmp rfl (fun _ => trivial))) rfl ?_
    refine Chain.nil ?_
    refine Ends.then ?_
    refine Cod.ret ?_
    refine Ends.thenRet ?_
    obtain rfl := some_eq h
    exact Ends.ret1 (.inl rfl) Try.results20 (ResOK.tmp rfl trivial Imp.refl)
  · replace h := bif_f h hb1
    refine Cod.skip ?_
    refine Ends.then ?_
    refine Cod.seq ?_
    refine Cod.region [] mixed (by kernel_rfl) ?_
    refine Chain.cons (StepOK.move .none (.tmp rfl (fun _ => trivial))) rfl ?_
    refine Chain.cons (StepOK.eqI .none (.tmp rfl (fun _ => trivial)) (.int (by decide))) rfl ?_
    refine Chain.cons (StepOK.move .none (.tmp rfl (fun _ => trivial))) rfl ?_
    refine Chain.cons (StepOK.move (.at rfl rfl) (.tmp rfl (fun _ => trivial))) rfl ?_
    refine Chain.cons (StepOK.move (.at rfl rfl) (.tmp rfl (fun _ => trivial))) rfl ?_
    obtain ⟨r1, hv2, h⟩ := bind_some h
    refine Chain.cons (StepOK.callV _ (.at rfl rfl) (.tmp rfl id) (fun hg => gd_some hv2 (hg.2)) .nil) rfl ?_
    obtain ⟨r2, hv3, h⟩ := bind_some h
    refine Chain.cons (StepOK.callIf (.at rfl rfl) fnok16 (fun hg => slices_Equal_int_ok ((fun hg => gd_some hv3 (hg.2)) hg)) (.cons (.tmp rfl id) (.cons (.tmp rfl id) .nil)) (fun h => h)) rfl ?_
    refine Chain.cons (StepOK.pickAnd .none (.tmp rfl (fun _ => trivial)) (.tmp rfl id)) rfl ?_
    refine Chain.cons (StepOK.assign .none (.tmp rfl (fun _ => trivial))) rfl ?_
    refine Chain.nil ?_
    refine Ends.then ?_
    refine Cod.ret ?_
    obtain rfl := some_eq h
    exact Ends.ret1 (.inl rfl) Try.results20 (ResOK.tmp rfl trivial Imp.refl)

theorem slices_Clone_Link_ok {s1 : (List Link)} {r : (List Link)}  (h : slices_Clone_Link s1 = some r) : FSpecO Try.prog 50 [rep s1] [] (anyV) [some (rowV 79 r)] := by
  unfold slices_Clone_Link at h
  refine FSpecO.intro (n := 8) fnok50 Try.func50 rfl Try.ntmps50 rfl (fun F => ?_)
  refine Cod.seq ?_
  refine Cod.region [] mixed (by kernel_rfl) ?_
  refine Chain.cons (StepOK.assign .none (.const (x := ([] : (List Link))) (fun M w => ⟨_, ⟨none, 0, rfl, Nat.le_refl _, by decide, rfl⟩, rfl⟩))) rfl ?_
  refine Chain.nil ?_
  refine Ends.then ?_
  refine Cod.seq ?_
  refine Cod.seq ?_
  refine Cod.region [] mixed (by kernel_rfl) ?_
  refine Chain.cons (StepOK.move .none (.tmp rfl (fun _ => trivial))) rfl ?_
  refine Chain.cons (StepOK.eqNil .none sl23 (.tmp rfl (fun _ => trivial))) rfl ?_
  refine Chain.nil ?_
  refine Ends.then ?_
  refine Cod.condNil (t := 4) rfl trivial (fun hb1 => ?_) ?_
  · replace h := nilc_t h hb1
    refine Cod.seq ?_
    refine Cod.region [([], [2])] mixed (by kernel_rfl) ?_
    refine Chain.consW (StepOK.nilRow (T := 79) (α := Link) rfl) rfl rfl ?_
    refine Chain.nil ?_
    refine Ends.then ?_
    refine Cod.nameRow (t := 2) (g := 5001) rfl rfl rfl (fun s5001 => ?_)
    refine Cod.ret ?_
    refine Ends.thenRet ?_
    refine Ends.anon (t := 2) (g := 5001) rfl rfl trivial rfl ?_
    obtain rfl := some_eq h
    exact Ends.ret1O (.inl rfl) [2] Try.results50 (by decide) (.res rfl rfl) (ResOK.tmp rfl trivial (fun _ _ _ _ => trivial))
  · replace h := nilc_f h
    refine Cod.skip ?_
    refine Ends.then ?_
    refine Cod.seq ?_
    refine Cod.region [([], [5]), ([], []), ([5], [7, 5]), ([7], [2, 7])] mixed (by kernel_rfl) ?_
    refine Chain.consW (StepOK.buildSliceO (xs := []) rfl sl23 ty79 hz79 .nil rfl (by decide)) rfl rfl ?_
    refine Chain.consA (StepOK.move .none (.tmp rfl (fun _ => trivial))) rfl ?_
    obtain ⟨hn2, h⟩ := need_some h
    refine Chain.consW (StepOK.append (k := 5) rk23 rfl (.tmp rfl) (.tmp rfl (fun _ => trivial)) hn2) rfl rfl ?_
    refine Chain.consW (StepOK.passRow rfl (.tmp rfl)) rfl rfl ?_
    refine Chain.nil ?_
    refine Ends.then ?_
    obtain ⟨v1, hv3, h⟩ := bnd_some h
    refine Cod.reB (t := 2) rfl (congrArg (rowV 79) hv3) ?_
    refine Cod.nameRow (t := 2) (g := 5002) rfl rfl rfl (fun s5002 => ?_)
    refine Cod.ret ?_
    refine Ends.anon (t := 2) (g := 5002) rfl rfl trivial rfl ?_
    obtain rfl := some_eq h
    exact Ends.ret1O (.inl rfl) [2] Try.results50 (by decide) (.res rfl rfl) (ResOK.tmp rfl trivial (fun _ _ _ _ => trivial))

theorem ref_Straight_ok {l1 : (List Link)} {turned1 : (List Int)} {r : (List Link)}  (h : ref_Straight l1 turned1 = some r) : FSpec Try.prog 23 [rep l1, rep turned1] (rep r) := by
  unfold ref_Straight at h
  refine FSpec.intro (n := 32) fnok23 Try.func23 rfl Try.ntmps23 rfl (fun F => ?_)
  refine Cod.seq ?_
  refine Cod.region [] mixed (by kernel_rfl) ?_
  refine Chain.cons (StepOK.assign .none (.const (x := ([] : (List Link))) (fun M w => ⟨_, ⟨none, 0, rfl, Nat.le_refl _, by decide, rfl⟩, rfl⟩))) rfl ?_
  refine Chain.nil ?_
  refine Ends.then ?_
  refine Cod.seq ?_
  refine Cod.region [([], []), ([], [9]), ([9], [5, 9])] mixed (by kernel_rfl) ?_
  refine Chain.consA (StepOK.move .none (.tmp rfl (fun _ => trivial))) rfl ?_
  obtain ⟨out1, hv1, h⟩ := bind_some h
  refine Chain.consW (StepOK.callO [] (slices_Clone_Link_ok hv1) (.cons (.tmp rfl (fun _ => trivial)) .nil) .nil rfl (by decide) (by decide) (by intro d h; cases h; decide)) rfl rfl ?_
  refine Chain.consW (StepOK.passRow rfl (.tmp rfl)) rfl rfl ?_
  refine Chain.nil ?_
  refine Ends.then ?_
  refine Cod.nameRow (t := 5) (g := 5001) rfl rfl rfl (fun s5001 => ?_)
  refine Cod.seq ?_
  refine Cod.seq ?_
  refine Cod.region [] mixed (by kernel_rfl) ?_
  refine Chain.cons (StepOK.move .none (.tmp rfl (fun _ => trivial))) rfl ?_
  refine Chain.cons (StepOK.len .none sl32 (.tmp rfl (fun _ => trivial))) rfl ?_
  refine Chain.cons (StepOK.move .none (.int (by decide))) rfl ?_
  refine Chain.nil ?_
  refine Ends.then ?_
  obtain ⟨j_2, h, hK2⟩ := bind_some h
  refine Cod.thenJ (ι := (List Link)) (fun j_2 => []) (fun j_2 => [(5001, some (CPred.at s5001 (rowV 79 j_2)))]) (fun s => j_2 = s) (.cons (t := 5) rfl Sub.nil) SubB.nil ?_ (fun j_2' hj2 => ?_)
  · skip
    refine Cod.block ?_
    refine Cod.rforL h (fun p3_ => [(12, ⟨True, rep p3_.1⟩)]) (fun p3_ => [(5001, some (CPred.at s5001 (rowV 79 p3_.2)))]) (.cons (t := 12) rfl Sub.nil) (.cons (t := 5001) rfl SubB.nil) (.cons (t := 0) rfl (.cons (t := 5) rfl (.cons (t := 10) rfl (.cons (t := 11) rfl Sub.nil)))) SubB.nil (fun p3_ o_3 h hD3 => ?_)
    refine Cod.seq ?_
    refine Cod.region [] mixed (by kernel_rfl) ?_
    refine Chain.cons (StepOK.lt .none (.tmp rfl (fun _ => trivial)) (.tmp rfl (fun _ => trivial))) rfl ?_
    refine Chain.nil ?_
    refine Ends.then ?_
    refine Cod.seq ?_
    refine Cod.cond (t := 13) rfl trivial (fun hb4 => ?_) (fun hb4 => ?_)
    · replace h := bif_t h hb4
      refine Cod.skip ?_
      refine Ends.then ?_
      refine Cod.seq ?_
      obtain ⟨j_5, h, hK5⟩ := bind_some h
      unfold ref_Straight_L1 at h
      refine Cod.thenJ (ι := (List Link)) (fun j_5 => []) (fun j_5 => [(5001, some (CPred.at s5001 (rowV 79 j_5)))]) (fun s => j_5 = s) (.cons (t := 0) rfl (.cons (t := 5) rfl (.cons (t := 10) rfl (.cons (t := 11) rfl (.cons (t := 12) rfl Sub.nil))))) SubB.nil ?_ (fun j_5' hj5 => ?_)
      · skip
        refine Cod.block ?_
        refine Cod.seq ?_
        refine Cod.region [] mixed (by kernel_rfl) ?_
        obtain ⟨hn6, h⟩ := need_some h
        refine Chain.cons (StepOK.indexAddr .none sl32 ty3 (.tmp rfl (fun _ => trivial)) (.tmp rfl (fun _ => trivial)) (fun _ => hn6)) rfl ?_
        refine Chain.cons (StepOK.load .none ty3 (.tmp rfl (fun _ => trivial))) rfl ?_
        obtain ⟨i1, hv7, h⟩ := bnd_some h
        refine Chain.cons (StepOK.re hv7 (StepOK.assign .none (.tmp rfl (fun _ => trivial)))) rfl ?_
        refine Chain.nil ?_
        refine Ends.then ?_
        refine Cod.region [([], []), ([], []), ([], []), ([], []), ([], []), ([], []), ([], []), ([], []), ([], []), ([], []), ([], []), ([], []), ([], []), ([5001], []), ([5001], [5001])] mixed (by kernel_rfl) ?_
        refine Chain.consA (StepOK.move .none (.tmp rfl (fun _ => trivial))) rfl ?_
        refine Chain.consA (StepOK.move .none (.tmp rfl (fun _ => trivial))) rfl ?_
        refine Chain.consA (StepOK.move .none (.tmp rfl (fun _ => trivial))) rfl ?_
        refine Chain.consA (StepOK.move .none (.tmp rfl (fun _ => trivial))) rfl ?_
        obtain ⟨hn8, h⟩ := need_some h
        refine Chain.consA (StepOK.indexAddr .none sl23 ty79 (.tmp rfl (fun _ => trivial)) (.tmp rfl (fun _ => trivial)) (fun _ => hn8)) rfl ?_
        refine Chain.consA (StepOK.fieldAddr .none fd79_1 hfd79_1 (.tmp rfl (fun _ => trivial))) rfl ?_
        refine Chain.consA (StepOK.load .none ty3 (.tmp rfl (fun _ => trivial))) rfl ?_
        refine Chain.consA (StepOK.move .none (.tmp rfl (fun _ => trivial))) rfl ?_
        refine Chain.consA (StepOK.move .none (.tmp rfl (fun _ => trivial))) rfl ?_
        obtain ⟨hn9, h⟩ := need_some h
        refine Chain.consA (StepOK.indexAddr .none sl23 ty79 (.tmp rfl (fun _ => trivial)) (.tmp rfl (fun _ => trivial)) (fun _ => hn9)) rfl ?_
        refine Chain.consA (StepOK.fieldAddr .none fd79_0 hfd79_0 (.tmp rfl (fun _ => trivial))) rfl ?_
        refine Chain.consA (StepOK.load .none ty3 (.tmp rfl (fun _ => trivial))) rfl ?_
        obtain ⟨v1, hv10, h⟩ := bnd_some h
        refine Chain.consA (StepOK.re hv10 (StepOK.buildF (y := (⟨(gx l1 i1).To, (gx l1 i1).From⟩ : Link)) .none bu79 zc79 rfl (.cons (.tmp rfl (fun _ => trivial)) (.cons (.tmp rfl (fun _ => trivial)) .nil)) (.cons rfl sf79_0 (.cons rfl sf79_1 .nil)))) rfl ?_
        obtain ⟨hn11, h⟩ := need_some h
        refine Chain.consA (StepOK.indexAddrO (k := 5001) .none sl23 ty79 (.tmp rfl (fun _ => trivial)) rfl (.tmp rfl (fun _ => trivial)) (fun _ => hn11)) rfl ?_
        refine Chain.consN (StepOK.storeElem0 (k := 5001) ty79 (.tmp rfl (fun _ => trivial)) rfl (.tmp rfl (fun _ => trivial)) hn11) rfl ?_
        refine Chain.nil ?_
        refine Ends.blkNormal ?_
        exact Ends.join _ (some_eq h) (.cons (t := 0) rfl (.cons (t := 5) rfl (.cons (t := 10) rfl (.cons (t := 11) rfl (.cons (t := 12) rfl Sub.nil))))) (.cons (t := 5001) rfl SubB.nil)
      · subst hj5; have h := hK5; clear hK5
        refine Cod.region [] mixed (by kernel_rfl) ?_
        refine Chain.cons (StepOK.addW .none (.tmp rfl (fun _ => trivial)) (.int (by decide))) rfl ?_
        refine Chain.cons (StepOK.move .none (.tmp rfl (fun _ => trivial))) rfl ?_
        refine Chain.nil ?_
        exact Ends.againL (some_eq h) (.cons (t := 12) rfl (.cons (t := 0) rfl (.cons (t := 5) rfl (.cons (t := 10) rfl (.cons (t := 11) rfl Sub.nil))))) (.cons (t := 5001) rfl SubB.nil)
    · replace h := bif_f h hb4
      refine Cod.exit ?_
      refine Ends.thenExit ?_
      refine Ends.thenExit ?_
      refine Ends.blkExit ?_
      replace h := hD3 _ (some_eq h)
      exact Ends.join _ (some_eq h) (.cons (t := 5) rfl Sub.nil) (.cons (t := 5001) rfl SubB.nil)
  · subst hj2; have h := hK2; clear hK2
    refine Cod.freezeRow (g := 5001) (ts := [5]) rfl (.cons (t := 5) rfl trivial .nil) SubB.nil rfl ?_
    refine Cod.seq ?_
    refine Cod.region [] mixed (by kernel_rfl) ?_
    refine Chain.cons (StepOK.move .none (.tmp rfl (fun _ => trivial))) rfl ?_
    refine Chain.cons (StepOK.assign .none (.tmp rfl (fun _ => trivial))) rfl ?_
    refine Chain.nil ?_
    refine Ends.then ?_
    refine Cod.ret ?_
    obtain rfl := some_eq h
    exact Ends.ret1 (.inl rfl) Try.results23 (ResOK.tmp rfl trivial Imp.refl)

theorem law_TurnsOfLinks_ok {n1 : Int} {l1 : (List Link)} {r : Bool}  (h : law_TurnsOfLinks n1 l1 = some r) : FSpec Try.prog 4 [rep n1, rep l1] (rep r) := by
  unfold law_TurnsOfLinks at h
  refine FSpec.intro (n := 45) fnok4 Try.func4 rfl Try.ntmps4 rfl (fun F => ?_)
  refine Cod.seq ?_
  refine Cod.region [] mixed (by kernel_rfl) ?_
  refine Chain.cons (StepOK.box .none (.tmp rfl (fun _ => trivial))) rfl ?_
  refine Chain.cons (StepOK.box .none (.tmp rfl (fun _ => trivial))) rfl ?_
  refine Chain.cons (StepOK.assign .none .bool) rfl ?_
  refine Chain.nil ?_
  refine Ends.then ?_
  refine Cod.seq ?_
  refine Cod.region [] mixed (by kernel_rfl) ?_
  refine Chain.cons (StepOK.load .none ty3 (.tmp rfl (fun _ => trivial))) rfl ?_
  refine Chain.cons (StepOK.load .none ty23 (.tmp rfl (fun _ => trivial))) rfl ?_
  obtain ⟨own1, hv1, h⟩ := bind_some h
  refine Chain.cons (StepOK.call .none (ref_GraphError_ok hv1) (.cons (.tmp rfl (fun _ => trivial)) (.cons (.tmp rfl (fun _ => trivial)) .nil))) rfl ?_
  refine Chain.cons (StepOK.assign .none (.tmp rfl (fun _ => trivial))) rfl ?_
  refine Chain.nil ?_
  refine Ends.then ?_
  refine Cod.seq ?_
  refine Cod.region [] mixed (by kernel_rfl) ?_
  refine Chain.cons (StepOK.load .none ty3 (.tmp rfl (fun _ => trivial))) rfl ?_
  refine Chain.cons (StepOK.load .none ty23 (.tmp rfl (fun _ => trivial))) rfl ?_
  obtain ⟨r1, hv2, h⟩ := bind_some h
  refine Chain.cons (StepOK.call .none (layer_Turned_ok hv2) (.cons (.tmp rfl (fun _ => trivial)) (.cons (.tmp rfl (fun _ => trivial)) .nil))) rfl ?_
  refine Chain.cons (StepOK.move .none (.tmp rfl (fun _ => trivial))) rfl ?_
  refine Chain.cons (StepOK.extract .none (.tmp rfl (fun _ => trivial)) rfl) rfl ?_
  refine Chain.cons (StepOK.extract .none (.tmp rfl (fun _ => trivial)) rfl) rfl ?_
  refine Chain.cons (StepOK.assign .none (.tmp rfl (fun _ => trivial))) rfl ?_
  refine Chain.cons (StepOK.assign .none (.tmp rfl (fun _ => trivial))) rfl ?_
  refine Chain.nil ?_
  refine Ends.then ?_
  refine Cod.seq ?_
  refine Cod.seq ?_
  refine Cod.region [] mixed (by kernel_rfl) ?_
  obtain ⟨r2, hv3, h⟩ := bind_some h
  refine Chain.cons (StepOK.call .none (law_layers_ok hv3) .nil) rfl ?_
  refine Chain.cons (StepOK.not .none (.tmp rfl (fun _ => trivial))) rfl ?_
  refine Chain.cons (StepOK.move .none (.tmp rfl (fun _ => trivial))) rfl ?_
  refine Chain.cons (StepOK.load (.at rfl rfl) ty3 (.tmp rfl (fun _ => trivial))) rfl ?_
  refine Chain.cons (StepOK.load (.at rfl rfl) ty23 (.tmp rfl (fun _ => trivial))) rfl ?_
  obtain ⟨r3, hv4, h⟩ := bind_some h
  refine Chain.cons (StepOK.callIf (.at rfl rfl) fnok19 (fun hg => layer_Check_ok ((fun hg => gd_some hv4 ((notT hg.2))) hg)) (.cons (.tmp rfl id) (.cons (.tmp rfl id) .nil)) (fun h => h)) rfl ?_
  refine Chain.cons (StepOK.move (.at rfl rfl) (.tmp rfl (fun _ => trivial))) rfl ?_
  refine Chain.cons (StepOK.neI (.at rfl rfl) (.tmp rfl id) (.tmp rfl id)) rfl ?_
  refine Chain.cons (StepOK.pickOr .none (.tmp rfl (fun _ => trivial)) (.tmp rfl id)) rfl ?_
  refine Chain.cons (StepOK.move .none (.tmp rfl (fun _ => trivial))) rfl ?_
  refine Chain.cons (StepOK.move (.at rfl rfl) (.tmp rfl (fun _ => trivial))) rfl ?_
  refine Chain.cons (StepOK.move (.at rfl rfl) (.tmp rfl (fun _ => trivial))) rfl ?_
  refine Chain.cons (StepOK.move (.at rfl rfl) (.tmp rfl (fun _ => trivial))) rfl ?_
  refine Chain.cons (StepOK.makeFunc (ι := (List Int)) (pre := fun i => (law_TurnsOfLinks_1 n1 l1)  = some i) (Ss := fun i => []) (S := fun i => rep i) (.at rfl rfl) fnok21 (fun i h => law_TurnsOfLinks_1_ok h) (.cons (.tmp rfl (fun _ => trivial)) (.cons (.tmp rfl (fun _ => trivial)) .nil))) rfl ?_
  obtain ⟨r4, hv5, h⟩ := bind_some h
  refine Chain.cons (StepOK.callIf (.at rfl rfl) fnok20 (fun hg => law_lists_int_ok ((fun hg => gd_some hv5 ((notT hg.2))) hg)) (.cons (.tmp rfl id) (.cons (.tmp rfl id) (.cons (.tmp rfl id) (.cons (.tmp rfl id) .nil)))) (fun h => h)) rfl ?_
  refine Chain.cons (StepOK.not (.at rfl rfl) (.tmp rfl id)) rfl ?_
  refine Chain.cons (StepOK.pickOr .none (.tmp rfl (fun _ => trivial)) (.tmp rfl id)) rfl ?_
  refine Chain.nil ?_
  refine Ends.then ?_
  refine Cod.cond (t := 33) rfl trivial (fun hb6 => ?_) (fun hb6 => ?_)
  · replace h := bif_t h hb6
    refine Cod.seq ?_
    refine Cod.region [] mixed (by kernel_rfl) ?_
    refine Chain.cons (StepOK.assign .none .bool) rfl ?_
    refine Chain.nil ?_
    refine Ends.then ?_
    refine Cod.ret ?_
    refine Ends.thenRet ?_
    obtain rfl := some_eq h
    exact Ends.ret1 (.inl rfl) Try.results4 (ResOK.tmp rfl trivial Imp.refl)
  · replace h := bif_f h hb6
    refine Cod.skip ?_
    refine Ends.then ?_
    refine Cod.seq ?_
    refine Cod.region [] mixed (by kernel_rfl) ?_
    refine Chain.cons (StepOK.move .none (.tmp rfl (fun _ => trivial))) rfl ?_
    refine Chain.cons (StepOK.neI .none (.tmp rfl (fun _ => trivial)) (.int (by decide))) rfl ?_
    refine Chain.cons (StepOK.move .none (.tmp rfl (fun _ => trivial))) rfl ?_
    refine Chain.cons (StepOK.load (.at rfl rfl) ty3 (.tmp rfl (fun _ => trivial))) rfl ?_
    refine Chain.cons (StepOK.load (.at rfl rfl) ty23 (.tmp rfl (fun _ => trivial))) rfl ?_
    refine Chain.cons (StepOK.move (.at rfl rfl) (.tmp rfl (fun _ => trivial))) rfl ?_
    obtain ⟨r5, hv7, h⟩ := bind_some h
    refine Chain.cons (StepOK.callIf (.at rfl rfl) fnok23 (fun hg => ref_Straight_ok ((fun hg => gd_some hv7 ((notT hg.2))) hg)) (.cons (.tmp rfl id) (.cons (.tmp rfl id) .nil)) (fun h => h)) rfl ?_
    obtain ⟨r6, hv8, h⟩ := bind_some h
    refine Chain.cons (StepOK.callIf (.at rfl rfl) fnok22 (fun hg => ref_TurnedOf_ok ((fun hg => gd_some hv8 ((notT hg.2))) hg)) (.cons (.tmp rfl id) (.cons (.tmp rfl id) .nil)) (fun h => h)) rfl ?_
    refine Chain.cons (StepOK.len (.at rfl rfl) sl32 (.tmp rfl id)) rfl ?_
    refine Chain.cons (StepOK.eqI (.at rfl rfl) (.tmp rfl id) (.int (by decide))) rfl ?_
    refine Chain.cons (StepOK.pickOr .none (.tmp rfl (fun _ => trivial)) (.tmp rfl id)) rfl ?_
    refine Chain.cons (StepOK.assign .none (.tmp rfl (fun _ => trivial))) rfl ?_
    refine Chain.nil ?_
    refine Ends.then ?_
    refine Cod.ret ?_
    obtain rfl := some_eq h
    exact Ends.ret1 (.inl rfl) Try.results4 (ResOK.tmp rfl trivial Imp.refl)


end Go.Proofs.Ytbahnfkccdlpnaa
