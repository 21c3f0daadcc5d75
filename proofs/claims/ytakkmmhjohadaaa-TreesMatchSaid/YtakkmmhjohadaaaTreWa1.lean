/-
  The walks: what a function computes is what its plain function says (printed by a program of one's own).
-/
import Derived.Test.YtakkmmhjohadaaaTreFa
set_option maxRecDepth 100000
set_option linter.unusedSimpArgs false
set_option linter.unusedVariables false
namespace Go.Proofs.Ytakkmmhjohadaaa
open Go Go.DB Go.RowKit

theorem slices_Equal_int_ok {s1_1 : (List Int)} {s2_1 : (List Int)} {r : Bool}  (h : slices_Equal_int s1_1 s2_1 = some r) : FSpec Try.prog 28 [rep s1_1, rep s2_1] (rep r) := by
  unfold slices_Equal_int at h
  refine FSpec.intro (n := 26) fnok28 Try.func28 rfl Try.ntmps28 rfl (fun F => ?_)
  refine Cod.seq ?_
  refine Cod.region [] mixed (by kernel_rfl) ?_
  refine Chain.cons (StepOK.assign .none .bool) rfl ?_
  refine Chain.nil ?_
  refine Ends.then ?_
  refine Cod.seq ?_
  refine Cod.seq ?_
  refine Cod.region [] mixed (by kernel_rfl) ?_
  refine Chain.cons (StepOK.move .none (.tmp rfl (fun _ => trivial))) rfl ?_
  refine Chain.cons (StepOK.len .none sl23 (.tmp rfl (fun _ => trivial))) rfl ?_
  refine Chain.cons (StepOK.move .none (.tmp rfl (fun _ => trivial))) rfl ?_
  refine Chain.cons (StepOK.len .none sl23 (.tmp rfl (fun _ => trivial))) rfl ?_
  refine Chain.cons (StepOK.neI .none (.tmp rfl (fun _ => trivial)) (.tmp rfl (fun _ => trivial))) rfl ?_
  refine Chain.nil ?_
  refine Ends.then ?_
  refine Cod.cond (t := 10) rfl trivial (fun hb1 => ?_) (fun hb1 => ?_)
  · replace h := bif_t h hb1
    refine Cod.seq ?_
    refine Cod.region [] mixed (by kernel_rfl) ?_
    refine Chain.cons (StepOK.assign .none .bool) rfl ?_
    refine Chain.nil ?_
    refine Ends.then ?_
    refine Cod.ret ?_
    refine Ends.thenRet ?_
    obtain rfl := some_eq h
    exact Ends.ret1 (.inl rfl) Try.results28 (ResOK.tmp rfl trivial Imp.refl)
  · replace h := bif_f h hb1
    refine Cod.skip ?_
    refine Ends.then ?_
    refine Cod.seq ?_
    refine Cod.seq ?_
    refine Cod.region [] mixed (by kernel_rfl) ?_
    refine Chain.cons (StepOK.move .none (.tmp rfl (fun _ => trivial))) rfl ?_
    refine Chain.cons (StepOK.len .none sl23 (.tmp rfl (fun _ => trivial))) rfl ?_
    refine Chain.cons (StepOK.move .none (.int (by decide))) rfl ?_
    refine Chain.nil ?_
    refine Ends.then ?_
    obtain ⟨o_2, h, hK2⟩ := bindR_some h
    refine Cod.thenJ (ι := Unit) (fun j_2 => []) (fun j_2 => []) (fun s => o_2 = Res.nx s) Sub.nil SubB.nil ?_ (fun j_2 hj2 => ?_)
    · skip
      refine Cod.block ?_
      refine Cod.rforEL h (fun p3_ => [(13, ⟨True, rep p3_.1⟩)]) (fun p3_ => []) (.cons (t := 13) rfl Sub.nil) SubB.nil (.cons (t := 0) rfl (.cons (t := 1) rfl (.cons (t := 12) rfl Sub.nil))) SubB.nil (fun p3_ o_3 h hD3 => ?_)
      refine Cod.seq ?_
      refine Cod.region [] mixed (by kernel_rfl) ?_
      refine Chain.cons (StepOK.lt .none (.tmp rfl (fun _ => trivial)) (.tmp rfl (fun _ => trivial))) rfl ?_
      refine Chain.nil ?_
      refine Ends.then ?_
      refine Cod.seq ?_
      refine Cod.cond (t := 14) rfl trivial (fun hb4 => ?_) (fun hb4 => ?_)
      · replace h := bif_t h hb4
        refine Cod.skip ?_
        refine Ends.then ?_
        refine Cod.seq ?_
        obtain ⟨o_5, h, hK5⟩ := bindD_some h
        unfold slices_Equal_int_L1 at h
        refine Cod.thenJ (ι := Unit) (fun j_5 => []) (fun j_5 => []) (fun s => o_5 = Res.nx s) (.cons (t := 0) rfl (.cons (t := 1) rfl (.cons (t := 12) rfl (.cons (t := 13) rfl Sub.nil)))) SubB.nil ?_ (fun j_5 hj5 => ?_)
        · skip
          refine Cod.block ?_
          refine Cod.seq ?_
          refine Cod.region [] mixed (by kernel_rfl) ?_
          refine Chain.cons (StepOK.move .none (.tmp rfl (fun _ => trivial))) rfl ?_
          refine Chain.cons (StepOK.assign .none (.tmp rfl (fun _ => trivial))) rfl ?_
          refine Chain.nil ?_
          refine Ends.then ?_
          refine Cod.seq ?_
          refine Cod.region [] mixed (by kernel_rfl) ?_
          refine Chain.cons (StepOK.move .none (.tmp rfl (fun _ => trivial))) rfl ?_
          refine Chain.cons (StepOK.move .none (.tmp rfl (fun _ => trivial))) rfl ?_
          obtain ⟨hn6, h⟩ := need_some h
          refine Chain.cons (StepOK.indexAddr .none sl23 ty3 (.tmp rfl (fun _ => trivial)) (.tmp rfl (fun _ => trivial)) (fun _ => hn6)) rfl ?_
          refine Chain.cons (StepOK.load .none ty3 (.tmp rfl (fun _ => trivial))) rfl ?_
          refine Chain.cons (StepOK.move .none (.tmp rfl (fun _ => trivial))) rfl ?_
          refine Chain.cons (StepOK.move .none (.tmp rfl (fun _ => trivial))) rfl ?_
          obtain ⟨hn7, h⟩ := need_some h
          refine Chain.cons (StepOK.indexAddr .none sl23 ty3 (.tmp rfl (fun _ => trivial)) (.tmp rfl (fun _ => trivial)) (fun _ => hn7)) rfl ?_
          refine Chain.cons (StepOK.load .none ty3 (.tmp rfl (fun _ => trivial))) rfl ?_
          refine Chain.cons (StepOK.neI .none (.tmp rfl (fun _ => trivial)) (.tmp rfl (fun _ => trivial))) rfl ?_
          refine Chain.nil ?_
          refine Ends.then ?_
          refine Cod.cond (t := 24) rfl trivial (fun hb8 => ?_) (fun hb8 => ?_)
          · replace h := bif_t h hb8
            refine Cod.seq ?_
            refine Cod.region [] mixed (by kernel_rfl) ?_
            refine Chain.cons (StepOK.assign .none .bool) rfl ?_
            refine Chain.nil ?_
            refine Ends.then ?_
            refine Cod.ret ?_
            refine Ends.blkRet ?_
            refine Ends.thenRet ?_
            refine Ends.thenRet ?_
            refine Ends.blkRet ?_
            refine Ends.thenRet ?_
            replace h := resd_ab hK5 (some_eq h)
            replace h := hD3 _ (some_eq h)
            replace h := resb_ab hK2 (some_eq h)
            obtain rfl := some_eq h
            exact Ends.ret1 (.inl rfl) Try.results28 (ResOK.tmp rfl trivial Imp.refl)
          · replace h := bif_f h hb8
            refine Cod.skip ?_
            refine Ends.blkNormal ?_
            exact Ends.join _ (some_eq h) (.cons (t := 0) rfl (.cons (t := 1) rfl (.cons (t := 12) rfl (.cons (t := 13) rfl Sub.nil)))) SubB.nil
        · have h := resd_nx hK5 hj5
          refine Cod.region [] mixed (by kernel_rfl) ?_
          refine Chain.cons (StepOK.addW .none (.tmp rfl (fun _ => trivial)) (.int (by decide))) rfl ?_
          refine Chain.cons (StepOK.move .none (.tmp rfl (fun _ => trivial))) rfl ?_
          refine Chain.nil ?_
          exact Ends.againL (some_eq h) (.cons (t := 13) rfl (.cons (t := 0) rfl (.cons (t := 1) rfl (.cons (t := 12) rfl Sub.nil)))) SubB.nil
      · replace h := bif_f h hb4
        refine Cod.exit ?_
        refine Ends.thenExit ?_
        refine Ends.thenExit ?_
        refine Ends.blkExit ?_
        replace h := hD3 _ (some_eq h)
        exact Ends.join _ (some_eq h) Sub.nil SubB.nil
    · have h := resb_nx hK2 hj2
      refine Cod.seq ?_
      refine Cod.region [] mixed (by kernel_rfl) ?_
      refine Chain.cons (StepOK.assign .none .bool) rfl ?_
      refine Chain.nil ?_
      refine Ends.then ?_
      refine Cod.ret ?_
      obtain rfl := some_eq h
      exact Ends.ret1 (.inl rfl) Try.results28 (ResOK.tmp rfl trivial Imp.refl)

theorem law_lists_int_ok {got1 : (List Int)} {e1 : Int} {want1 : Int} {right1 : Option (List Int)} {r : Bool}  (h : law_lists_int got1 e1 want1 right1 = some r) : FSpec Try.prog 40 [rep got1, rep e1, rep want1, fn0 Try.prog (rep (α := (List Int))) right1] (rep r) := by
  unfold law_lists_int at h
  refine FSpec.intro (n := 27) fnok40 Try.func40 rfl Try.ntmps40 rfl (fun F => ?_)
  refine Cod.seq ?_
  refine Cod.region [] mixed (by kernel_rfl) ?_
  refine Chain.cons (StepOK.assign .none .bool) rfl ?_
  refine Chain.nil ?_
  refine Ends.then ?_
  refine Cod.seq ?_
  refine Cod.seq ?_
  refine Cod.region [] mixed (by kernel_rfl) ?_
  refine Chain.cons (StepOK.move .none (.tmp rfl (fun _ => trivial))) rfl ?_
  refine Chain.cons (StepOK.neI .none (.tmp rfl (fun _ => trivial)) (.int (by decide))) rfl ?_
  refine Chain.nil ?_
  refine Ends.then ?_
  refine Cod.cond (t := 10) rfl trivial (fun hb1 => ?_) (fun hb1 => ?_)
  · replace h := bif_t h hb1
    refine Cod.seq ?_
    refine Cod.region [] mixed (by kernel_rfl) ?_
    refine Chain.cons (StepOK.move .none (.tmp rfl (fun _ => trivial))) rfl ?_
    refine Chain.cons (StepOK.len .none sl23 (.tmp rfl (fun _ => trivial))) rfl ?_
    refine Chain.cons (StepOK.eqI .none (.tmp rfl (fun _ => trivial)) (.int (by decide))) rfl ?_
    refine Chain.cons (StepOK.move .none (.tmp rfl (fun _ => trivial))) rfl ?_
    refine Chain.cons (StepOK.move (.at rfl rfl) (.tmp rfl (fun _ => trivial))) rfl ?_
    refine Chain.cons (StepOK.move (.at rfl rfl) (.tmp rfl (fun _ => trivial))) rfl ?_
    refine Chain.cons (StepOK.eqI (.at rfl rfl) (.tmp rfl id) (.tmp rfl id)) rfl ?_
    refine Chain.cons (StepOK.pickAnd .none (.tmp rfl (fun _ => trivial)) (.tmp rfl id)) rfl ?_
    refine Chain.cons (StepOK.assign .none (.tmp rfl (fun _ => trivial))) rfl ?_
    refine Chain.nil ?_
    refine Ends.then ?_
    refine Cod.ret ?_
    refine Ends.thenRet ?_
    obtain rfl := some_eq h
    exact Ends.ret1 (.inl rfl) Try.results40 (ResOK.tmp rfl trivial Imp.refl)
  · replace h := bif_f h hb1
    refine Cod.skip ?_
    refine Ends.then ?_
    refine Cod.seq ?_
    refine Cod.region [] mixed (by kernel_rfl) ?_
    refine Chain.cons (StepOK.move .none (.tmp rfl (fun _ => trivial))) rfl ?_
    refine Chain.cons (StepOK.eqI .none (.tmp rfl (fun _ => trivial)) (.int (by decide))) rfl ?_
    refine Chain.cons (StepOK.move .none (.tmp rfl (fun _ => trivial))) rfl ?_
    refine Chain.cons (StepOK.move (.at rfl rfl) (.tmp rfl (fun _ => trivial))) rfl ?_
    refine Chain.cons (StepOK.move (.at rfl rfl) (.tmp rfl (fun _ => trivial))) rfl ?_
    obtain ⟨r1, hv2, h⟩ := bind_some h
    refine Chain.cons (StepOK.callV _ (.at rfl rfl) (.tmp rfl id) (fun hg => gd_some hv2 (by simp [hg.2])) .nil) rfl ?_
    obtain ⟨r2, hv3, h⟩ := bind_some h
    refine Chain.cons (StepOK.callIf (.at rfl rfl) fnok28 (fun hg => slices_Equal_int_ok ((fun hg => gd_some hv3 (by simp [hg.2])) hg)) (.cons (.tmp rfl id) (.cons (.tmp rfl id) .nil)) (fun h => h)) rfl ?_
    refine Chain.cons (StepOK.pickAnd .none (.tmp rfl (fun _ => trivial)) (.tmp rfl id)) rfl ?_
    refine Chain.cons (StepOK.assign .none (.tmp rfl (fun _ => trivial))) rfl ?_
    refine Chain.nil ?_
    refine Ends.then ?_
    refine Cod.ret ?_
    obtain rfl := some_eq h
    exact Ends.ret1 (.inl rfl) Try.results40 (ResOK.tmp rfl trivial Imp.refl)

theorem ref_First_ok {l1 : (List Int)} {r : Int}  (h : ref_First l1 = some r) : FSpec Try.prog 11 [rep l1] (rep r) := by
  unfold ref_First at h
  refine FSpec.intro (n := 15) fnok11 Try.func11 rfl Try.ntmps11 rfl (fun F => ?_)
  refine Cod.seq ?_
  refine Cod.region [] mixed (by kernel_rfl) ?_
  refine Chain.cons (StepOK.assign .none (.int (by decide))) rfl ?_
  refine Chain.nil ?_
  refine Ends.then ?_
  refine Cod.seq ?_
  refine Cod.seq ?_
  refine Cod.region [] mixed (by kernel_rfl) ?_
  refine Chain.cons (StepOK.move .none (.tmp rfl (fun _ => trivial))) rfl ?_
  refine Chain.cons (StepOK.len .none sl87 (.tmp rfl (fun _ => trivial))) rfl ?_
  refine Chain.cons (StepOK.move .none (.int (by decide))) rfl ?_
  refine Chain.nil ?_
  refine Ends.then ?_
  obtain ⟨o_1, h, hK1⟩ := bindR_some h
  refine Cod.thenJ (ι := Unit) (fun j_1 => []) (fun j_1 => []) (fun s => o_1 = Res.nx s) Sub.nil SubB.nil ?_ (fun j_1 hj1 => ?_)
  · skip
    refine Cod.block ?_
    refine Cod.rforEL h (fun p2_ => [(7, ⟨True, rep p2_.1⟩)]) (fun p2_ => []) (.cons (t := 7) rfl Sub.nil) SubB.nil (.cons (t := 5) rfl (.cons (t := 6) rfl Sub.nil)) SubB.nil (fun p2_ o_2 h hD2 => ?_)
    refine Cod.seq ?_
    refine Cod.region [] mixed (by kernel_rfl) ?_
    refine Chain.cons (StepOK.lt .none (.tmp rfl (fun _ => trivial)) (.tmp rfl (fun _ => trivial))) rfl ?_
    refine Chain.nil ?_
    refine Ends.then ?_
    refine Cod.seq ?_
    refine Cod.cond (t := 8) rfl trivial (fun hb3 => ?_) (fun hb3 => ?_)
    · replace h := bif_t h hb3
      refine Cod.skip ?_
      refine Ends.then ?_
      refine Cod.seq ?_
      obtain ⟨o_4, h, hK4⟩ := bindD_some h
      unfold ref_First_L1 at h
      refine Cod.thenJ (ι := Unit) (fun j_4 => []) (fun j_4 => []) (fun s => o_4 = Res.nx s) (.cons (t := 5) rfl (.cons (t := 6) rfl (.cons (t := 7) rfl Sub.nil))) SubB.nil ?_ (fun j_4 hj4 => ?_)
      · skip
        refine Cod.block ?_
        refine Cod.seq ?_
        refine Cod.region [] mixed (by kernel_rfl) ?_
        obtain ⟨hn5, h⟩ := need_some h
        refine Chain.cons (StepOK.indexAddr .none sl87 ty24 (.tmp rfl (fun _ => trivial)) (.tmp rfl (fun _ => trivial)) (fun _ => hn5)) rfl ?_
        refine Chain.cons (StepOK.load .none ty24 (.tmp rfl (fun _ => trivial))) rfl ?_
        obtain ⟨e1, hv6, h⟩ := bnd_some h
        refine Chain.cons (StepOK.re hv6 (StepOK.assign .none (.tmp rfl (fun _ => trivial)))) rfl ?_
        refine Chain.nil ?_
        refine Ends.then ?_
        refine Cod.seq ?_
        refine Cod.region [] mixed (by kernel_rfl) ?_
        refine Chain.cons (StepOK.move .none (.tmp rfl (fun _ => trivial))) rfl ?_
        refine Chain.cons (StepOK.neI .none (.tmp rfl (fun _ => trivial)) (.int (by decide))) rfl ?_
        refine Chain.nil ?_
        refine Ends.then ?_
        refine Cod.cond (t := 12) rfl trivial (fun hb7 => ?_) (fun hb7 => ?_)
        · replace h := bif_t h hb7
          refine Cod.seq ?_
          refine Cod.region [] mixed (by kernel_rfl) ?_
          refine Chain.cons (StepOK.move .none (.tmp rfl (fun _ => trivial))) rfl ?_
          refine Chain.cons (StepOK.assign .none (.tmp rfl (fun _ => trivial))) rfl ?_
          refine Chain.nil ?_
          refine Ends.then ?_
          refine Cod.ret ?_
          refine Ends.blkRet ?_
          refine Ends.thenRet ?_
          refine Ends.thenRet ?_
          refine Ends.blkRet ?_
          refine Ends.thenRet ?_
          replace h := resd_ab hK4 (some_eq h)
          replace h := hD2 _ (some_eq h)
          replace h := resb_ab hK1 (some_eq h)
          obtain rfl := some_eq h
          exact Ends.ret1 (.inl rfl) Try.results11 (ResOK.tmp rfl trivial Imp.refl)
        · replace h := bif_f h hb7
          refine Cod.skip ?_
          refine Ends.blkNormal ?_
          exact Ends.join _ (some_eq h) (.cons (t := 5) rfl (.cons (t := 6) rfl (.cons (t := 7) rfl Sub.nil))) SubB.nil
      · have h := resd_nx hK4 hj4
        refine Cod.region [] mixed (by kernel_rfl) ?_
        refine Chain.cons (StepOK.addW .none (.tmp rfl (fun _ => trivial)) (.int (by decide))) rfl ?_
        refine Chain.cons (StepOK.move .none (.tmp rfl (fun _ => trivial))) rfl ?_
        refine Chain.nil ?_
        exact Ends.againL (some_eq h) (.cons (t := 7) rfl (.cons (t := 5) rfl (.cons (t := 6) rfl Sub.nil))) SubB.nil
    · replace h := bif_f h hb3
      refine Cod.exit ?_
      refine Ends.thenExit ?_
      refine Ends.thenExit ?_
      refine Ends.blkExit ?_
      replace h := hD2 _ (some_eq h)
      exact Ends.join _ (some_eq h) Sub.nil SubB.nil
  · have h := resb_nx hK1 hj1
    refine Cod.seq ?_
    refine Cod.region [] mixed (by kernel_rfl) ?_
    refine Chain.cons (StepOK.assign .none (.int (by decide))) rfl ?_
    refine Chain.nil ?_
    refine Ends.then ?_
    refine Cod.ret ?_
    obtain rfl := some_eq h
    exact Ends.ret1 (.inl rfl) Try.results11 (ResOK.tmp rfl trivial Imp.refl)

theorem ref_When_ok {is1 : Bool} {e1 : Int} {r : Int}  (h : ref_When is1 e1 = some r) : FSpec Try.prog 13 [rep is1, rep e1] (rep r) := by
  unfold ref_When at h
  refine FSpec.intro (n := 7) fnok13 Try.func13 rfl Try.ntmps13 rfl (fun F => ?_)
  refine Cod.seq ?_
  refine Cod.region [] mixed (by kernel_rfl) ?_
  refine Chain.cons (StepOK.assign .none (.int (by decide))) rfl ?_
  refine Chain.nil ?_
  refine Ends.then ?_
  refine Cod.seq ?_
  refine Cod.seq ?_
  refine Cod.region [] mixed (by kernel_rfl) ?_
  refine Chain.cons (StepOK.move .none (.tmp rfl (fun _ => trivial))) rfl ?_
  refine Chain.nil ?_
  refine Ends.then ?_
  refine Cod.cond (t := 5) rfl trivial (fun hb1 => ?_) (fun hb1 => ?_)
  · replace h := bif_t h hb1
    refine Cod.seq ?_
    refine Cod.region [] mixed (by kernel_rfl) ?_
    refine Chain.cons (StepOK.move .none (.tmp rfl (fun _ => trivial))) rfl ?_
    refine Chain.cons (StepOK.assign .none (.tmp rfl (fun _ => trivial))) rfl ?_
    refine Chain.nil ?_
    refine Ends.then ?_
    refine Cod.ret ?_
    refine Ends.thenRet ?_
    obtain rfl := some_eq h
    exact Ends.ret1 (.inl rfl) Try.results13 (ResOK.tmp rfl trivial Imp.refl)
  · replace h := bif_f h hb1
    refine Cod.skip ?_
    refine Ends.then ?_
    refine Cod.seq ?_
    refine Cod.region [] mixed (by kernel_rfl) ?_
    refine Chain.cons (StepOK.assign .none (.int (by decide))) rfl ?_
    refine Chain.nil ?_
    refine Ends.then ?_
    refine Cod.ret ?_
    obtain rfl := some_eq h
    exact Ends.ret1 (.inl rfl) Try.results13 (ResOK.tmp rfl trivial Imp.refl)

theorem slices_Index_int_ok {s1 : (List Int)} {v1 : Int} {r : Int}  (h : slices_Index_int s1 v1 = some r) : FSpec Try.prog 78 [rep s1, rep v1] (rep r) := by
  unfold slices_Index_int at h
  refine FSpec.intro (n := 19) fnok78 Try.func78 rfl Try.ntmps78 rfl (fun F => ?_)
  refine Cod.seq ?_
  refine Cod.region [] mixed (by kernel_rfl) ?_
  refine Chain.cons (StepOK.assign .none (.int (by decide))) rfl ?_
  refine Chain.nil ?_
  refine Ends.then ?_
  refine Cod.seq ?_
  refine Cod.seq ?_
  refine Cod.region [] mixed (by kernel_rfl) ?_
  refine Chain.cons (StepOK.move .none (.tmp rfl (fun _ => trivial))) rfl ?_
  refine Chain.cons (StepOK.len .none sl23 (.tmp rfl (fun _ => trivial))) rfl ?_
  refine Chain.cons (StepOK.move .none (.int (by decide))) rfl ?_
  refine Chain.nil ?_
  refine Ends.then ?_
  obtain ⟨o_1, h, hK1⟩ := bindR_some h
  refine Cod.thenJ (ι := Unit) (fun j_1 => []) (fun j_1 => []) (fun s => o_1 = Res.nx s) Sub.nil SubB.nil ?_ (fun j_1 hj1 => ?_)
  · skip
    refine Cod.block ?_
    refine Cod.rforEL h (fun p2_ => [(8, ⟨True, rep p2_.1⟩)]) (fun p2_ => []) (.cons (t := 8) rfl Sub.nil) SubB.nil (.cons (t := 0) rfl (.cons (t := 1) rfl (.cons (t := 7) rfl Sub.nil))) SubB.nil (fun p2_ o_2 h hD2 => ?_)
    refine Cod.seq ?_
    refine Cod.region [] mixed (by kernel_rfl) ?_
    refine Chain.cons (StepOK.lt .none (.tmp rfl (fun _ => trivial)) (.tmp rfl (fun _ => trivial))) rfl ?_
    refine Chain.nil ?_
    refine Ends.then ?_
    refine Cod.seq ?_
    refine Cod.cond (t := 9) rfl trivial (fun hb3 => ?_) (fun hb3 => ?_)
    · replace h := bif_t h hb3
      refine Cod.skip ?_
      refine Ends.then ?_
      refine Cod.seq ?_
      obtain ⟨o_4, h, hK4⟩ := bindD_some h
      unfold slices_Index_int_L1 at h
      refine Cod.thenJ (ι := Unit) (fun j_4 => []) (fun j_4 => []) (fun s => o_4 = Res.nx s) (.cons (t := 0) rfl (.cons (t := 1) rfl (.cons (t := 7) rfl (.cons (t := 8) rfl Sub.nil)))) SubB.nil ?_ (fun j_4 hj4 => ?_)
      · skip
        refine Cod.block ?_
        refine Cod.seq ?_
        refine Cod.region [] mixed (by kernel_rfl) ?_
        refine Chain.cons (StepOK.move .none (.tmp rfl (fun _ => trivial))) rfl ?_
        refine Chain.cons (StepOK.assign .none (.tmp rfl (fun _ => trivial))) rfl ?_
        refine Chain.nil ?_
        refine Ends.then ?_
        refine Cod.seq ?_
        refine Cod.region [] mixed (by kernel_rfl) ?_
        refine Chain.cons (StepOK.move .none (.tmp rfl (fun _ => trivial))) rfl ?_
        refine Chain.cons (StepOK.move .none (.tmp rfl (fun _ => trivial))) rfl ?_
        refine Chain.cons (StepOK.move .none (.tmp rfl (fun _ => trivial))) rfl ?_
        obtain ⟨hn5, h⟩ := need_some h
        refine Chain.cons (StepOK.indexAddr .none sl23 ty3 (.tmp rfl (fun _ => trivial)) (.tmp rfl (fun _ => trivial)) (fun _ => hn5)) rfl ?_
        refine Chain.cons (StepOK.load .none ty3 (.tmp rfl (fun _ => trivial))) rfl ?_
        refine Chain.cons (StepOK.eqI .none (.tmp rfl (fun _ => trivial)) (.tmp rfl (fun _ => trivial))) rfl ?_
        refine Chain.nil ?_
        refine Ends.then ?_
        refine Cod.cond (t := 16) rfl trivial (fun hb6 => ?_) (fun hb6 => ?_)
        · replace h := bif_t h hb6
          refine Cod.seq ?_
          refine Cod.region [] mixed (by kernel_rfl) ?_
          refine Chain.cons (StepOK.move .none (.tmp rfl (fun _ => trivial))) rfl ?_
          refine Chain.cons (StepOK.assign .none (.tmp rfl (fun _ => trivial))) rfl ?_
          refine Chain.nil ?_
          refine Ends.then ?_
          refine Cod.ret ?_
          refine Ends.blkRet ?_
          refine Ends.thenRet ?_
          refine Ends.thenRet ?_
          refine Ends.blkRet ?_
          refine Ends.thenRet ?_
          replace h := resd_ab hK4 (some_eq h)
          replace h := hD2 _ (some_eq h)
          replace h := resb_ab hK1 (some_eq h)
          obtain rfl := some_eq h
          exact Ends.ret1 (.inl rfl) Try.results78 (ResOK.tmp rfl trivial Imp.refl)
        · replace h := bif_f h hb6
          refine Cod.skip ?_
          refine Ends.blkNormal ?_
          exact Ends.join _ (some_eq h) (.cons (t := 0) rfl (.cons (t := 1) rfl (.cons (t := 7) rfl (.cons (t := 8) rfl Sub.nil)))) SubB.nil
      · have h := resd_nx hK4 hj4
        refine Cod.region [] mixed (by kernel_rfl) ?_
        refine Chain.cons (StepOK.addW .none (.tmp rfl (fun _ => trivial)) (.int (by decide))) rfl ?_
        refine Chain.cons (StepOK.move .none (.tmp rfl (fun _ => trivial))) rfl ?_
        refine Chain.nil ?_
        exact Ends.againL (some_eq h) (.cons (t := 8) rfl (.cons (t := 0) rfl (.cons (t := 1) rfl (.cons (t := 7) rfl Sub.nil)))) SubB.nil
    · replace h := bif_f h hb3
      refine Cod.exit ?_
      refine Ends.thenExit ?_
      refine Ends.thenExit ?_
      refine Ends.blkExit ?_
      replace h := hD2 _ (some_eq h)
      exact Ends.join _ (some_eq h) Sub.nil SubB.nil
  · have h := resb_nx hK1 hj1
    refine Cod.seq ?_
    refine Cod.region [] mixed (by kernel_rfl) ?_
    refine Chain.cons (StepOK.assign .none (.int (by decide))) rfl ?_
    refine Chain.nil ?_
    refine Ends.then ?_
    refine Cod.ret ?_
    obtain rfl := some_eq h
    exact Ends.ret1 (.inl rfl) Try.results78 (ResOK.tmp rfl trivial Imp.refl)

theorem slices_Contains_int_ok {s1 : (List Int)} {v1 : Int} {r : Bool}  (h : slices_Contains_int s1 v1 = some r) : FSpec Try.prog 52 [rep s1, rep v1] (rep r) := by
  unfold slices_Contains_int at h
  refine FSpec.intro (n := 9) fnok52 Try.func52 rfl Try.ntmps52 rfl (fun F => ?_)
  refine Cod.seq ?_
  refine Cod.region [] mixed (by kernel_rfl) ?_
  refine Chain.cons (StepOK.assign .none .bool) rfl ?_
  refine Chain.nil ?_
  refine Ends.then ?_
  refine Cod.seq ?_
  refine Cod.region [] mixed (by kernel_rfl) ?_
  refine Chain.cons (StepOK.move .none (.tmp rfl (fun _ => trivial))) rfl ?_
  refine Chain.cons (StepOK.move .none (.tmp rfl (fun _ => trivial))) rfl ?_
  obtain ⟨r1, hv1, h⟩ := bind_some h
  refine Chain.cons (StepOK.call .none (slices_Index_int_ok hv1) (.cons (.tmp rfl (fun _ => trivial)) (.cons (.tmp rfl (fun _ => trivial)) .nil))) rfl ?_
  refine Chain.cons (StepOK.ge .none (.tmp rfl (fun _ => trivial)) (.int (by decide))) rfl ?_
  refine Chain.cons (StepOK.assign .none (.tmp rfl (fun _ => trivial))) rfl ?_
  refine Chain.nil ?_
  refine Ends.then ?_
  refine Cod.ret ?_
  obtain rfl := some_eq h
  exact Ends.ret1 (.inl rfl) Try.results52 (ResOK.tmp rfl trivial Imp.refl)

theorem ref_In_ok {n1 : Int} {low1 : Int} {high1 : Int} {r : Bool}  (h : ref_In n1 low1 high1 = some r) : FSpec Try.prog 16 [rep n1, rep low1, rep high1] (rep r) := by
  unfold ref_In at h
  refine FSpec.intro (n := 15) fnok16 Try.func16 rfl Try.ntmps16 rfl (fun F => ?_)
  refine Cod.seq ?_
  refine Cod.region [] mixed (by kernel_rfl) ?_
  refine Chain.cons (StepOK.assign .none .bool) rfl ?_
  refine Chain.nil ?_
  refine Ends.then ?_
  refine Cod.seq ?_
  refine Cod.region [] mixed (by kernel_rfl) ?_
  refine Chain.cons (StepOK.move .none (.tmp rfl (fun _ => trivial))) rfl ?_
  refine Chain.cons (StepOK.move .none (.tmp rfl (fun _ => trivial))) rfl ?_
  refine Chain.cons (StepOK.ge .none (.tmp rfl (fun _ => trivial)) (.tmp rfl (fun _ => trivial))) rfl ?_
  refine Chain.cons (StepOK.move .none (.tmp rfl (fun _ => trivial))) rfl ?_
  refine Chain.cons (StepOK.move (.at rfl rfl) (.tmp rfl (fun _ => trivial))) rfl ?_
  refine Chain.cons (StepOK.move (.at rfl rfl) (.tmp rfl (fun _ => trivial))) rfl ?_
  refine Chain.cons (StepOK.le (.at rfl rfl) (.tmp rfl id) (.tmp rfl id)) rfl ?_
  refine Chain.cons (StepOK.pickAnd .none (.tmp rfl (fun _ => trivial)) (.tmp rfl id)) rfl ?_
  refine Chain.cons (StepOK.assign .none (.tmp rfl (fun _ => trivial))) rfl ?_
  refine Chain.nil ?_
  refine Ends.then ?_
  refine Cod.ret ?_
  obtain rfl := some_eq h
  exact Ends.ret1 (.inl rfl) Try.results16 (ResOK.tmp rfl trivial Imp.refl)

theorem slices_Sort_int_ok {l : List Int} {r : List Int} {s : Value} (h : slices_Sort_int l = some r) : FSpecO Try.prog 77 [isV s] [(s, rowV 3 l)] (anyV) [some (rowV 3 r)] := by
  obtain ⟨hl, h⟩ := need_some h
  obtain rfl := some_eq h
  exact sortI_spec sortI_lay rfl fnok77 hl

theorem tree_isNode_ok {t1 : (List Branch)} {k1 : Int} {r : Bool}  (h : tree_isNode t1 k1 = some r) : FSpec Try.prog 74 [rep t1, rep k1] (rep r) := by
  unfold tree_isNode at h
  refine FSpec.intro (n := 13) fnok74 Try.func74 rfl Try.ntmps74 rfl (fun F => ?_)
  refine Cod.seq ?_
  refine Cod.region [] mixed (by kernel_rfl) ?_
  refine Chain.cons (StepOK.assign .none .bool) rfl ?_
  refine Chain.nil ?_
  refine Ends.then ?_
  refine Cod.seq ?_
  refine Cod.region [] mixed (by kernel_rfl) ?_
  refine Chain.cons (StepOK.move .none (.tmp rfl (fun _ => trivial))) rfl ?_
  refine Chain.cons (StepOK.ge .none (.tmp rfl (fun _ => trivial)) (.int (by decide))) rfl ?_
  refine Chain.cons (StepOK.move .none (.tmp rfl (fun _ => trivial))) rfl ?_
  refine Chain.cons (StepOK.move (.at rfl rfl) (.tmp rfl (fun _ => trivial))) rfl ?_
  refine Chain.cons (StepOK.move (.at rfl rfl) (.tmp rfl (fun _ => trivial))) rfl ?_
  refine Chain.cons (StepOK.len (.at rfl rfl) sl56 (.tmp rfl id)) rfl ?_
  refine Chain.cons (StepOK.lt (.at rfl rfl) (.tmp rfl id) (.tmp rfl id)) rfl ?_
  refine Chain.cons (StepOK.pickAnd .none (.tmp rfl (fun _ => trivial)) (.tmp rfl id)) rfl ?_
  refine Chain.cons (StepOK.assign .none (.tmp rfl (fun _ => trivial))) rfl ?_
  refine Chain.nil ?_
  refine Ends.then ?_
  refine Cod.ret ?_
  obtain rfl := some_eq h
  exact Ends.ret1 (.inl rfl) Try.results74 (ResOK.tmp rfl trivial Imp.refl)

theorem tree_levels_ok {t1 : (List Branch)} {r : (List (List Int))}  (h : tree_levels t1 = some r) : FSpec Try.prog 67 [rep t1] (rep r) := by
  unfold tree_levels at h
  refine FSpec.intro (n := 32) fnok67 Try.func67 rfl Try.ntmps67 rfl (fun F => ?_)
  refine Cod.seq ?_
  refine Cod.region [] mixed (by kernel_rfl) ?_
  refine Chain.cons (StepOK.assign .none (.const (x := ([] : (List (List Int)))) (fun M w => ⟨_, ⟨none, 0, rfl, Nat.le_refl _, by decide, rfl⟩, rfl⟩))) rfl ?_
  refine Chain.nil ?_
  refine Ends.then ?_
  refine Cod.seq ?_
  refine Cod.region [([], [3])] mixed (by kernel_rfl) ?_
  refine Chain.consW (StepOK.nilRow (T := 23) (α := (List Int)) rfl) rfl rfl ?_
  refine Chain.nil ?_
  refine Ends.then ?_
  refine Cod.nameRow (t := 3) (g := 5001) rfl rfl rfl (fun s5001 => ?_)
  refine Cod.seq ?_
  refine Cod.seq ?_
  refine Cod.region [] mixed (by kernel_rfl) ?_
  refine Chain.cons (StepOK.buildSlice (xs := [_]) .none sl23 ty3 hz3 (.cons (.int (by decide)) .nil) rfl (by decide)) rfl ?_
  obtain ⟨l1, hv1, h⟩ := bnd_some h
  refine Chain.cons (StepOK.re hv1 (StepOK.assign .none (.tmp rfl (fun _ => trivial)))) rfl ?_
  refine Chain.nil ?_
  refine Ends.then ?_
  obtain ⟨j_2, h, hK2⟩ := bind_some h
  refine Cod.thenJ (ι := (List (List Int))) (fun j_2 => []) (fun j_2 => [(3, some (rowV 23 j_2))]) (fun s => j_2 = s) Sub.nil SubB.nil ?_ (fun j_2' hj2 => ?_)
  · skip
    refine Cod.block ?_
    refine Cod.anon (t := 3) (g := 5001) rfl rfl trivial rfl ?_
    refine Cod.loopL h (fun s3_ => [(4, ⟨True, rep s3_.2⟩)]) (fun s3_ => [(3, some (rowV 23 s3_.1))]) (.cons (t := 4) rfl Sub.nil) (.cons (t := 3) rfl SubB.nil) (.cons (t := 0) rfl Sub.nil) SubB.nil (fun s3_ o_3 h hD3 => ?_)
    unfold tree_levels_L1 at h
    refine Cod.nameRow (t := 3) (g := 5002) rfl rfl rfl (fun s5002 => ?_)
    refine Cod.seq ?_
    refine Cod.seq ?_
    refine Cod.region [] mixed (by kernel_rfl) ?_
    refine Chain.cons (StepOK.move .none (.tmp rfl (fun _ => trivial))) rfl ?_
    refine Chain.cons (StepOK.len .none sl23 (.tmp rfl (fun _ => trivial))) rfl ?_
    refine Chain.cons (StepOK.gt .none (.tmp rfl (fun _ => trivial)) (.int (by decide))) rfl ?_
    refine Chain.nil ?_
    refine Ends.then ?_
    refine Cod.cond (t := 11) rfl trivial (fun hb4 => ?_) (fun hb4 => ?_)
    · replace h := bif_t h hb4
      refine Cod.skip ?_
      refine Ends.then ?_
      refine Cod.block ?_
      refine Cod.seq ?_
      refine Cod.region [([], []), ([], []), ([], []), ([5002], [15, 5002]), ([15], [3, 15])] mixed (by kernel_rfl) ?_
      refine Chain.consA (StepOK.move .none (.tmp rfl (fun _ => trivial))) rfl ?_
      refine Chain.consA (StepOK.move .none (.tmp rfl (fun _ => trivial))) rfl ?_
      refine Chain.consA (StepOK.buildSlice (xs := [_]) .none sl64 ty23 hz23 (.cons (.tmp rfl (fun _ => trivial)) .nil) rfl (by decide)) rfl ?_
      obtain ⟨hn5, h⟩ := need_some h
      refine Chain.consW (StepOK.append (k := 5002) rk64 rfl (.told (.tmp rfl (fun _ => trivial)) rfl) (.tmp rfl (fun _ => trivial)) hn5) rfl rfl ?_
      refine Chain.consWD (StepOK.passRow rfl (.tmp rfl)) rfl rfl ?_
      refine Chain.nil ?_
      refine Ends.then ?_
      obtain ⟨out1, hv6, h⟩ := bnd_some h
      refine Cod.reB (t := 3) rfl (congrArg (rowV 23) hv6) ?_
      refine Cod.nameRow (t := 3) (g := 5003) rfl rfl rfl (fun s5003 => ?_)
      refine Cod.seq ?_
      refine Cod.region [([], [5])] mixed (by kernel_rfl) ?_
      refine Chain.consW (StepOK.nilRow (T := 3) (α := Int) rfl) rfl rfl ?_
      refine Chain.nil ?_
      refine Ends.then ?_
      refine Cod.nameRow (t := 5) (g := 5004) rfl rfl rfl (fun s5004 => ?_)
      refine Cod.seq ?_
      refine Cod.seq ?_
      refine Cod.region [] mixed (by kernel_rfl) ?_
      refine Chain.cons (StepOK.move .none (.tmp rfl (fun _ => trivial))) rfl ?_
      refine Chain.cons (StepOK.len .none sl23 (.tmp rfl (fun _ => trivial))) rfl ?_
      refine Chain.cons (StepOK.move .none (.int (by decide))) rfl ?_
      refine Chain.nil ?_
      refine Ends.then ?_
      obtain ⟨j_7, h, hK7⟩ := bind_some h
      refine Cod.thenJ (ι := (List Int)) (fun j_7 => []) (fun j_7 => [(5, some (rowV 3 j_7))]) (fun s => j_7 = s) (.cons (t := 0) rfl (.cons (t := 3) rfl Sub.nil)) (.cons (t := 5003) rfl SubB.nil) ?_ (fun j_7' hj7 => ?_)
      · skip
        refine Cod.block ?_
        refine Cod.anon (t := 5) (g := 5004) rfl rfl trivial rfl ?_
        refine Cod.rforL h (fun p8_ => [(18, ⟨True, rep p8_.1⟩)]) (fun p8_ => [(5, some (rowV 3 p8_.2))]) (.cons (t := 18) rfl Sub.nil) (.cons (t := 5) rfl SubB.nil) (.cons (t := 0) rfl (.cons (t := 3) rfl (.cons (t := 16) rfl (.cons (t := 17) rfl Sub.nil)))) (.cons (t := 5003) rfl SubB.nil) (fun p8_ o_8 h hD8 => ?_)
        refine Cod.nameRow (t := 5) (g := 5005) rfl rfl rfl (fun s5005 => ?_)
        refine Cod.seq ?_
        refine Cod.region [] mixed (by kernel_rfl) ?_
        refine Chain.cons (StepOK.lt .none (.tmp rfl (fun _ => trivial)) (.tmp rfl (fun _ => trivial))) rfl ?_
        refine Chain.nil ?_
        refine Ends.then ?_
        refine Cod.seq ?_
        refine Cod.cond (t := 19) rfl trivial (fun hb9 => ?_) (fun hb9 => ?_)
        · replace h := bif_t h hb9
          refine Cod.skip ?_
          refine Ends.then ?_
          refine Cod.seq ?_
          obtain ⟨j_10, h, hK10⟩ := bind_some h
          unfold tree_levels_L2 at h
          refine Cod.thenJ (ι := (List Int)) (fun j_10 => []) (fun j_10 => [(5, some (rowV 3 j_10))]) (fun s => j_10 = s) (.cons (t := 0) rfl (.cons (t := 3) rfl (.cons (t := 16) rfl (.cons (t := 17) rfl (.cons (t := 18) rfl Sub.nil))))) (.cons (t := 5003) rfl SubB.nil) ?_ (fun j_10' hj10 => ?_)
          · skip
            refine Cod.block ?_
            refine Cod.seq ?_
            refine Cod.region [] mixed (by kernel_rfl) ?_
            obtain ⟨hn11, h⟩ := need_some h
            refine Chain.cons (StepOK.indexAddr .none sl23 ty3 (.tmp rfl (fun _ => trivial)) (.tmp rfl (fun _ => trivial)) (fun _ => hn11)) rfl ?_
            refine Chain.cons (StepOK.load .none ty3 (.tmp rfl (fun _ => trivial))) rfl ?_
            refine Chain.cons (StepOK.assign .none (.tmp rfl (fun _ => trivial))) rfl ?_
            refine Chain.nil ?_
            refine Ends.then ?_
            refine Cod.region [([], []), ([], []), ([], []), ([], []), ([], []), ([], []), ([5005], [28, 5005]), ([28], [5, 28])] mixed (by kernel_rfl) ?_
            refine Chain.consA (StepOK.move .none (.tmp rfl (fun _ => trivial))) rfl ?_
            refine Chain.consA (StepOK.move .none (.tmp rfl (fun _ => trivial))) rfl ?_
            refine Chain.consA (StepOK.move .none (.tmp rfl (fun _ => trivial))) rfl ?_
            obtain ⟨hn12, h⟩ := need_some h
            refine Chain.consA (StepOK.indexAddr .none sl56 ty67 (.tmp rfl (fun _ => trivial)) (.tmp rfl (fun _ => trivial)) (fun _ => hn12)) rfl ?_
            refine Chain.consA (StepOK.fieldAddr .none fd67_2 hfd67_2 (.tmp rfl (fun _ => trivial))) rfl ?_
            refine Chain.consA (StepOK.load .none ty23 (.tmp rfl (fun _ => trivial))) rfl ?_
            obtain ⟨hn13, h⟩ := need_some h
            refine Chain.consW (StepOK.append (k := 5005) rk23 rfl (.told (.tmp rfl (fun _ => trivial)) rfl) (.tmp rfl (fun _ => trivial)) hn13) rfl rfl ?_
            refine Chain.consWD (StepOK.passRow rfl (.tmp rfl)) rfl rfl ?_
            refine Chain.nil ?_
            refine Ends.blkNormal ?_
            exact Ends.join _ (some_eq h) (.cons (t := 0) rfl (.cons (t := 3) rfl (.cons (t := 16) rfl (.cons (t := 17) rfl (.cons (t := 18) rfl Sub.nil))))) (.cons (t := 5) rfl (.cons (t := 5003) rfl SubB.nil))
          · subst hj10; have h := hK10; clear hK10
            refine Cod.nameRow (t := 5) (g := 5006) rfl rfl rfl (fun s5006 => ?_)
            refine Cod.region [] mixed (by kernel_rfl) ?_
            refine Chain.cons (StepOK.addW .none (.tmp rfl (fun _ => trivial)) (.int (by decide))) rfl ?_
            refine Chain.cons (StepOK.move .none (.tmp rfl (fun _ => trivial))) rfl ?_
            refine Chain.nil ?_
            refine Ends.anon (t := 5) (g := 5006) rfl rfl trivial rfl ?_
            exact Ends.againL (some_eq h) (.cons (t := 18) rfl (.cons (t := 0) rfl (.cons (t := 3) rfl (.cons (t := 16) rfl (.cons (t := 17) rfl Sub.nil))))) (.cons (t := 5) rfl (.cons (t := 5003) rfl SubB.nil))
        · replace h := bif_f h hb9
          refine Cod.exit ?_
          refine Ends.thenExit ?_
          refine Ends.thenExit ?_
          refine Ends.blkExit ?_
          refine Ends.anon (t := 5) (g := 5005) rfl rfl trivial rfl ?_
          replace h := hD8 _ (some_eq h)
          exact Ends.join _ (some_eq h) (.cons (t := 0) rfl (.cons (t := 3) rfl Sub.nil)) (.cons (t := 5) rfl (.cons (t := 5003) rfl SubB.nil))
      · subst hj7; have h := hK7; clear hK7
        refine Cod.freezeRowA (t := 5) rfl rfl (.cons (t := 5003) rfl SubB.nil) rfl ?_
        refine Cod.region [] mixed (by kernel_rfl) ?_
        refine Chain.cons (StepOK.move .none (.tmp rfl (fun _ => trivial))) rfl ?_
        refine Chain.cons (StepOK.assign .none (.tmp rfl (fun _ => trivial))) rfl ?_
        refine Chain.nil ?_
        refine Ends.blkNormal ?_
        refine Ends.anon (t := 3) (g := 5003) rfl rfl trivial rfl ?_
        exact Ends.againL (some_eq h) (.cons (t := 4) rfl (.cons (t := 0) rfl Sub.nil)) (.cons (t := 3) rfl SubB.nil)
    · replace h := bif_f h hb4
      refine Cod.exit ?_
      refine Ends.thenExit ?_
      refine Ends.thenExit ?_
      refine Ends.blkExit ?_
      refine Ends.anon (t := 3) (g := 5002) rfl rfl trivial rfl ?_
      replace h := hD3 _ (some_eq h)
      exact Ends.join _ (some_eq h) Sub.nil (.cons (t := 3) rfl SubB.nil)
  · subst hj2; have h := hK2; clear hK2
    refine Cod.freezeRowA (t := 3) rfl rfl SubB.nil rfl ?_
    refine Cod.seq ?_
    refine Cod.region [] mixed (by kernel_rfl) ?_
    refine Chain.cons (StepOK.move .none (.tmp rfl (fun _ => trivial))) rfl ?_
    refine Chain.cons (StepOK.assign .none (.tmp rfl (fun _ => trivial))) rfl ?_
    refine Chain.nil ?_
    refine Ends.then ?_
    refine Cod.ret ?_
    obtain rfl := some_eq h
    exact Ends.ret1 (.inl rfl) Try.results67 (ResOK.tmp rfl trivial Imp.refl)

theorem slices_Index_bool_ok {s1 : (List Bool)} {v1 : Bool} {r : Int}  (h : slices_Index_bool s1 v1 = some r) : FSpec Try.prog 82 [rep s1, rep v1] (rep r) := by
  unfold slices_Index_bool at h
  refine FSpec.intro (n := 19) fnok82 Try.func82 rfl Try.ntmps82 rfl (fun F => ?_)
  refine Cod.seq ?_
  refine Cod.region [] mixed (by kernel_rfl) ?_
  refine Chain.cons (StepOK.assign .none (.int (by decide))) rfl ?_
  refine Chain.nil ?_
  refine Ends.then ?_
  refine Cod.seq ?_
  refine Cod.seq ?_
  refine Cod.region [] mixed (by kernel_rfl) ?_
  refine Chain.cons (StepOK.move .none (.tmp rfl (fun _ => trivial))) rfl ?_
  refine Chain.cons (StepOK.len .none sl100 (.tmp rfl (fun _ => trivial))) rfl ?_
  refine Chain.cons (StepOK.move .none (.int (by decide))) rfl ?_
  refine Chain.nil ?_
  refine Ends.then ?_
  obtain ⟨o_1, h, hK1⟩ := bindR_some h
  refine Cod.thenJ (ι := Unit) (fun j_1 => []) (fun j_1 => []) (fun s => o_1 = Res.nx s) Sub.nil SubB.nil ?_ (fun j_1 hj1 => ?_)
  · skip
    refine Cod.block ?_
    refine Cod.rforEL h (fun p2_ => [(8, ⟨True, rep p2_.1⟩)]) (fun p2_ => []) (.cons (t := 8) rfl Sub.nil) SubB.nil (.cons (t := 0) rfl (.cons (t := 1) rfl (.cons (t := 7) rfl Sub.nil))) SubB.nil (fun p2_ o_2 h hD2 => ?_)
    refine Cod.seq ?_
    refine Cod.region [] mixed (by kernel_rfl) ?_
    refine Chain.cons (StepOK.lt .none (.tmp rfl (fun _ => trivial)) (.tmp rfl (fun _ => trivial))) rfl ?_
    refine Chain.nil ?_
    refine Ends.then ?_
    refine Cod.seq ?_
    refine Cod.cond (t := 9) rfl trivial (fun hb3 => ?_) (fun hb3 => ?_)
    · replace h := bif_t h hb3
      refine Cod.skip ?_
      refine Ends.then ?_
      refine Cod.seq ?_
      obtain ⟨o_4, h, hK4⟩ := bindD_some h
      unfold slices_Index_bool_L1 at h
      refine Cod.thenJ (ι := Unit) (fun j_4 => []) (fun j_4 => []) (fun s => o_4 = Res.nx s) (.cons (t := 0) rfl (.cons (t := 1) rfl (.cons (t := 7) rfl (.cons (t := 8) rfl Sub.nil)))) SubB.nil ?_ (fun j_4 hj4 => ?_)
      · skip
        refine Cod.block ?_
        refine Cod.seq ?_
        refine Cod.region [] mixed (by kernel_rfl) ?_
        refine Chain.cons (StepOK.move .none (.tmp rfl (fun _ => trivial))) rfl ?_
        refine Chain.cons (StepOK.assign .none (.tmp rfl (fun _ => trivial))) rfl ?_
        refine Chain.nil ?_
        refine Ends.then ?_
        refine Cod.seq ?_
        refine Cod.region [] mixed (by kernel_rfl) ?_
        refine Chain.cons (StepOK.move .none (.tmp rfl (fun _ => trivial))) rfl ?_
        refine Chain.cons (StepOK.move .none (.tmp rfl (fun _ => trivial))) rfl ?_
        refine Chain.cons (StepOK.move .none (.tmp rfl (fun _ => trivial))) rfl ?_
        obtain ⟨hn5, h⟩ := need_some h
        refine Chain.cons (StepOK.indexAddr .none sl100 ty4 (.tmp rfl (fun _ => trivial)) (.tmp rfl (fun _ => trivial)) (fun _ => hn5)) rfl ?_
        refine Chain.cons (StepOK.load .none ty4 (.tmp rfl (fun _ => trivial))) rfl ?_
        refine Chain.cons (StepOK.eqS .none (eqAt_bool Try.underlying4) (.tmp rfl (fun _ => trivial)) (.tmp rfl (fun _ => trivial))) rfl ?_
        refine Chain.nil ?_
        refine Ends.then ?_
        refine Cod.cond (t := 16) rfl trivial (fun hb6 => ?_) (fun hb6 => ?_)
        · replace h := bif_t h hb6
          refine Cod.seq ?_
          refine Cod.region [] mixed (by kernel_rfl) ?_
          refine Chain.cons (StepOK.move .none (.tmp rfl (fun _ => trivial))) rfl ?_
          refine Chain.cons (StepOK.assign .none (.tmp rfl (fun _ => trivial))) rfl ?_
          refine Chain.nil ?_
          refine Ends.then ?_
          refine Cod.ret ?_
          refine Ends.blkRet ?_
          refine Ends.thenRet ?_
          refine Ends.thenRet ?_
          refine Ends.blkRet ?_
          refine Ends.thenRet ?_
          replace h := resd_ab hK4 (some_eq h)
          replace h := hD2 _ (some_eq h)
          replace h := resb_ab hK1 (some_eq h)
          obtain rfl := some_eq h
          exact Ends.ret1 (.inl rfl) Try.results82 (ResOK.tmp rfl trivial Imp.refl)
        · replace h := bif_f h hb6
          refine Cod.skip ?_
          refine Ends.blkNormal ?_
          exact Ends.join _ (some_eq h) (.cons (t := 0) rfl (.cons (t := 1) rfl (.cons (t := 7) rfl (.cons (t := 8) rfl Sub.nil)))) SubB.nil
      · have h := resd_nx hK4 hj4
        refine Cod.region [] mixed (by kernel_rfl) ?_
        refine Chain.cons (StepOK.addW .none (.tmp rfl (fun _ => trivial)) (.int (by decide))) rfl ?_
        refine Chain.cons (StepOK.move .none (.tmp rfl (fun _ => trivial))) rfl ?_
        refine Chain.nil ?_
        exact Ends.againL (some_eq h) (.cons (t := 8) rfl (.cons (t := 0) rfl (.cons (t := 1) rfl (.cons (t := 7) rfl Sub.nil)))) SubB.nil
    · replace h := bif_f h hb3
      refine Cod.exit ?_
      refine Ends.thenExit ?_
      refine Ends.thenExit ?_
      refine Ends.blkExit ?_
      replace h := hD2 _ (some_eq h)
      exact Ends.join _ (some_eq h) Sub.nil SubB.nil
  · have h := resb_nx hK1 hj1
    refine Cod.seq ?_
    refine Cod.region [] mixed (by kernel_rfl) ?_
    refine Chain.cons (StepOK.assign .none (.int (by decide))) rfl ?_
    refine Chain.nil ?_
    refine Ends.then ?_
    refine Cod.ret ?_
    obtain rfl := some_eq h
    exact Ends.ret1 (.inl rfl) Try.results82 (ResOK.tmp rfl trivial Imp.refl)

theorem slices_Contains_bool_ok {s1 : (List Bool)} {v1 : Bool} {r : Bool}  (h : slices_Contains_bool s1 v1 = some r) : FSpec Try.prog 68 [rep s1, rep v1] (rep r) := by
  unfold slices_Contains_bool at h
  refine FSpec.intro (n := 9) fnok68 Try.func68 rfl Try.ntmps68 rfl (fun F => ?_)
  refine Cod.seq ?_
  refine Cod.region [] mixed (by kernel_rfl) ?_
  refine Chain.cons (StepOK.assign .none .bool) rfl ?_
  refine Chain.nil ?_
  refine Ends.then ?_
  refine Cod.seq ?_
  refine Cod.region [] mixed (by kernel_rfl) ?_
  refine Chain.cons (StepOK.move .none (.tmp rfl (fun _ => trivial))) rfl ?_
  refine Chain.cons (StepOK.move .none (.tmp rfl (fun _ => trivial))) rfl ?_
  obtain ⟨r1, hv1, h⟩ := bind_some h
  refine Chain.cons (StepOK.call .none (slices_Index_bool_ok hv1) (.cons (.tmp rfl (fun _ => trivial)) (.cons (.tmp rfl (fun _ => trivial)) .nil))) rfl ?_
  refine Chain.cons (StepOK.ge .none (.tmp rfl (fun _ => trivial)) (.int (by decide))) rfl ?_
  refine Chain.cons (StepOK.assign .none (.tmp rfl (fun _ => trivial))) rfl ?_
  refine Chain.nil ?_
  refine Ends.then ?_
  refine Cod.ret ?_
  obtain rfl := some_eq h
  exact Ends.ret1 (.inl rfl) Try.results68 (ResOK.tmp rfl trivial Imp.refl)

theorem tree_Check_1_ok {n1 : Int} {r : Bool}  (h : tree_Check_1 n1 = some r) : FSpec Try.prog 73 [rep n1] (rep r) := by
  unfold tree_Check_1 at h
  refine FSpec.intro (n := 9) fnok73 Try.func73 rfl Try.ntmps73 rfl (fun F => ?_)
  refine Cod.seq ?_
  refine Cod.region [] mixed (by kernel_rfl) ?_
  refine Chain.cons (StepOK.assign .none .bool) rfl ?_
  refine Chain.nil ?_
  refine Ends.then ?_
  refine Cod.seq ?_
  refine Cod.region [] mixed (by kernel_rfl) ?_
  refine Chain.cons (StepOK.move .none (.tmp rfl (fun _ => trivial))) rfl ?_
  refine Chain.cons (StepOK.ge .none (.tmp rfl (fun _ => trivial)) (.int (by decide))) rfl ?_
  refine Chain.cons (StepOK.move .none (.tmp rfl (fun _ => trivial))) rfl ?_
  refine Chain.cons (StepOK.move (.at rfl rfl) (.tmp rfl (fun _ => trivial))) rfl ?_
  refine Chain.cons (StepOK.le (.at rfl rfl) (.tmp rfl id) (.int (by decide))) rfl ?_
  refine Chain.cons (StepOK.pickAnd .none (.tmp rfl (fun _ => trivial)) (.tmp rfl id)) rfl ?_
  refine Chain.cons (StepOK.assign .none (.tmp rfl (fun _ => trivial))) rfl ?_
  refine Chain.nil ?_
  refine Ends.then ?_
  refine Cod.ret ?_
  obtain rfl := some_eq h
  exact Ends.ret1 (.inl rfl) Try.results73 (ResOK.tmp rfl trivial Imp.refl)

theorem tree_Check_ok {t1 : (List Branch)} {r : Int}  (h : tree_Check t1 = some r) : FSpec Try.prog 39 [rep t1] (rep r) := by
  unfold tree_Check at h
  refine FSpec.intro (n := 89) fnok39 Try.func39 rfl Try.ntmps39 rfl (fun F => ?_)
  refine Cod.seq ?_
  refine Cod.region [] mixed (by kernel_rfl) ?_
  refine Chain.cons (StepOK.assign .none (.int (by decide))) rfl ?_
  refine Chain.nil ?_
  refine Ends.then ?_
  refine Cod.seq ?_
  refine Cod.block ?_
  refine Cod.seq ?_
  refine Cod.region [] mixed (by kernel_rfl) ?_
  refine Chain.cons (StepOK.move .none (.tmp rfl (fun _ => trivial))) rfl ?_
  refine Chain.cons (StepOK.len .none sl56 (.tmp rfl (fun _ => trivial))) rfl ?_
  refine Chain.cons (StepOK.eqI .none (.tmp rfl (fun _ => trivial)) (.int (by decide))) rfl ?_
  refine Chain.cons (StepOK.assign .none (.tmp rfl (fun _ => trivial))) rfl ?_
  refine Chain.nil ?_
  refine Ends.then ?_
  refine Cod.cond (t := 12) rfl trivial (fun hb1 => ?_) (fun hb1 => ?_)
  · replace h := bif_t h hb1
    refine Cod.seq ?_
    refine Cod.region [] mixed (by kernel_rfl) ?_
    refine Chain.cons (StepOK.assign .none (.int (by decide))) rfl ?_
    refine Chain.nil ?_
    refine Ends.then ?_
    refine Cod.ret ?_
    refine Ends.blkRet ?_
    refine Ends.thenRet ?_
    obtain rfl := some_eq h
    exact Ends.ret1 (.inl rfl) Try.results39 (ResOK.tmp rfl trivial Imp.refl)
  · replace h := bif_f h hb1
    refine Cod.seq ?_
    refine Cod.region [] mixed (by kernel_rfl) ?_
    refine Chain.cons (StepOK.move .none (.tmp rfl (fun _ => trivial))) rfl ?_
    refine Chain.cons (StepOK.len .none sl56 (.tmp rfl (fun _ => trivial))) rfl ?_
    refine Chain.cons (StepOK.gt .none (.tmp rfl (fun _ => trivial)) (.int (by decide))) rfl ?_
    refine Chain.cons (StepOK.assign .none (.tmp rfl (fun _ => trivial))) rfl ?_
    refine Chain.nil ?_
    refine Ends.then ?_
    refine Cod.cond (t := 16) rfl trivial (fun hb2 => ?_) (fun hb2 => ?_)
    · replace h := bif_t h hb2
      refine Cod.seq ?_
      refine Cod.region [] mixed (by kernel_rfl) ?_
      refine Chain.cons (StepOK.assign .none (.int (by decide))) rfl ?_
      refine Chain.nil ?_
      refine Ends.then ?_
      refine Cod.ret ?_
      refine Ends.blkRet ?_
      refine Ends.thenRet ?_
      obtain rfl := some_eq h
      exact Ends.ret1 (.inl rfl) Try.results39 (ResOK.tmp rfl trivial Imp.refl)
    · replace h := bif_f h hb2
      refine Cod.skip ?_
      refine Ends.blkNormal ?_
      refine Ends.then ?_
      refine Cod.seq ?_
      refine Cod.region [] mixed (by kernel_rfl) ?_
      refine Chain.cons (StepOK.assign .none (Opd.func (ι := Int × Bool) (pre := fun i => tree_Check_1 i.1 = some i.2) (Ss := fun i => [rep i.1]) (S := fun i => rep i.2) fnok73 (fun i h => tree_Check_1_ok h))) rfl ?_
      refine Chain.nil ?_
      refine Ends.then ?_
      refine Cod.seq ?_
      refine Cod.region [([], []), ([], []), ([], [22]), ([22], [4, 22])] mixed (by kernel_rfl) ?_
      refine Chain.consA (StepOK.move .none (.tmp rfl (fun _ => trivial))) rfl ?_
      obtain ⟨v1, hv3, h⟩ := bnd_some h
      refine Chain.consA (StepOK.re hv3 (StepOK.len .none sl56 (.tmp rfl (fun _ => trivial)))) rfl ?_
      obtain ⟨hn4, h⟩ := need_some h
      refine Chain.consW (StepOK.makeSlice rk100 zo4 rfl (.tmp rfl (fun _ => trivial)) (.tmp rfl (fun _ => trivial)) hn4) rfl rfl ?_
      refine Chain.consW (StepOK.passRow rfl (.tmp rfl)) rfl rfl ?_
      refine Chain.nil ?_
      refine Ends.then ?_
      obtain ⟨isKid1, hv5, h⟩ := bnd_some h
      refine Cod.reB (t := 4) rfl (congrArg (rowV 4) hv5) ?_
      refine Cod.nameRow (t := 4) (g := 5001) rfl rfl rfl (fun s5001 => ?_)
      refine Cod.seq ?_
      refine Cod.seq ?_
      refine Cod.region [] mixed (by kernel_rfl) ?_
      refine Chain.cons (StepOK.move .none (.tmp rfl (fun _ => trivial))) rfl ?_
      refine Chain.cons (StepOK.len .none sl56 (.tmp rfl (fun _ => trivial))) rfl ?_
      refine Chain.cons (StepOK.move .none (.int (by decide))) rfl ?_
      refine Chain.nil ?_
      refine Ends.then ?_
      obtain ⟨o_6, h, hK6⟩ := bindR_some h
      refine Cod.thenJ (ι := (List Bool)) (fun j_6 => []) (fun j_6 => [(5001, some (CPred.at s5001 (rowV 4 j_6)))]) (fun s => o_6 = Res.nx s) (.cons (t := 0) rfl (.cons (t := 4) rfl Sub.nil)) SubB.nil ?_ (fun j_6 hj6 => ?_)
      · skip
        refine Cod.block ?_
        refine Cod.rforEL h (fun p7_ => [(25, ⟨True, rep p7_.1⟩)]) (fun p7_ => [(5001, some (CPred.at s5001 (rowV 4 p7_.2)))]) (.cons (t := 25) rfl Sub.nil) (.cons (t := 5001) rfl SubB.nil) (.cons (t := 0) rfl (.cons (t := 3) rfl (.cons (t := 4) rfl (.cons (t := 23) rfl (.cons (t := 24) rfl Sub.nil))))) SubB.nil (fun p7_ o_7 h hD7 => ?_)
        refine Cod.seq ?_
        refine Cod.region [] mixed (by kernel_rfl) ?_
        refine Chain.cons (StepOK.lt .none (.tmp rfl (fun _ => trivial)) (.tmp rfl (fun _ => trivial))) rfl ?_
        refine Chain.nil ?_
        refine Ends.then ?_
        refine Cod.seq ?_
        refine Cod.cond (t := 26) rfl trivial (fun hb8 => ?_) (fun hb8 => ?_)
        · replace h := bif_t h hb8
          refine Cod.skip ?_
          refine Ends.then ?_
          refine Cod.seq ?_
          obtain ⟨o_9, h, hK9⟩ := bindD_some h
          unfold tree_Check_L1 at h
          refine Cod.thenJ (ι := (List Bool)) (fun j_9 => []) (fun j_9 => [(5001, some (CPred.at s5001 (rowV 4 j_9)))]) (fun s => o_9 = Res.nx s) (.cons (t := 0) rfl (.cons (t := 3) rfl (.cons (t := 4) rfl (.cons (t := 23) rfl (.cons (t := 24) rfl (.cons (t := 25) rfl Sub.nil)))))) SubB.nil ?_ (fun j_9 hj9 => ?_)
          · skip
            refine Cod.block ?_
            refine Cod.seq ?_
            refine Cod.region [([], []), ([], []), ([], [6]), ([6], [6])] mixed (by kernel_rfl) ?_
            obtain ⟨hn10, h⟩ := need_some h
            refine Chain.consA (StepOK.indexAddr .none sl56 ty67 (.tmp rfl (fun _ => trivial)) (.tmp rfl (fun _ => trivial)) (fun _ => hn10)) rfl ?_
            obtain ⟨v2, hv11, h⟩ := bnd_some h
            refine Chain.consA (StepOK.re hv11 (StepOK.load .none ty67 (.tmp rfl (fun _ => trivial)))) rfl ?_
            refine Chain.consW (StepOK.alloc zo67 rfl) rfl rfl ?_
            refine Chain.consN (StepOK.store ty67 rfl rfl (.tmp rfl (fun _ => trivial))) rfl ?_
            refine Chain.nil ?_
            refine Ends.then ?_
            refine Cod.freeze (t := 6) rfl rfl (.cons (t := 5001) rfl SubB.nil) rfl ?_
            refine Cod.seq ?_
            refine Cod.seq ?_
            refine Cod.region [] mixed (by kernel_rfl) ?_
            refine Chain.cons (StepOK.move .none (.tmp rfl (fun _ => trivial))) rfl ?_
            refine Chain.cons (StepOK.fieldAddr .none fd67_0 hfd67_0 (.tmp rfl (fun _ => trivial))) rfl ?_
            refine Chain.cons (StepOK.load .none ty3 (.tmp rfl (fun _ => trivial))) rfl ?_
            obtain ⟨r1, hv12, h⟩ := bind_some h
            refine Chain.cons (StepOK.callV (_, _) .none (.tmp rfl (fun _ => trivial)) (fun _ => hv12) (.cons (.tmp rfl (fun _ => trivial)) .nil)) rfl ?_
            refine Chain.cons (StepOK.not .none (.tmp rfl (fun _ => trivial))) rfl ?_
            refine Chain.cons (StepOK.move .none (.tmp rfl (fun _ => trivial))) rfl ?_
            refine Chain.cons (StepOK.move (.at rfl rfl) (.tmp rfl (fun _ => trivial))) rfl ?_
            refine Chain.cons (StepOK.fieldAddr (.at rfl rfl) fd67_1 hfd67_1 (.tmp rfl (fun _ => trivial))) rfl ?_
            refine Chain.cons (StepOK.load (.at rfl rfl) ty3 (.tmp rfl id)) rfl ?_
            obtain ⟨r2, hv13, h⟩ := bind_some h
            refine Chain.cons (StepOK.callV (_, _) (.at rfl rfl) (.tmp rfl id) (fun hg => gd_some hv13 (by simp [hg.2])) (.cons (.tmp rfl id) .nil)) rfl ?_
            refine Chain.cons (StepOK.not (.at rfl rfl) (.tmp rfl id)) rfl ?_
            refine Chain.cons (StepOK.pickOr .none (.tmp rfl (fun _ => trivial)) (.tmp rfl id)) rfl ?_
            refine Chain.nil ?_
            refine Ends.then ?_
            refine Cod.cond (t := 40) rfl trivial (fun hb14 => ?_) (fun hb14 => ?_)
            · replace h := bif_t h hb14
              refine Cod.seq ?_
              refine Cod.region [] mixed (by kernel_rfl) ?_
              refine Chain.cons (StepOK.assign .none (.int (by decide))) rfl ?_
              refine Chain.nil ?_
              refine Ends.then ?_
              refine Cod.ret ?_
              refine Ends.thenRet ?_
              refine Ends.blkRet ?_
              refine Ends.thenRet ?_
              refine Ends.thenRet ?_
              refine Ends.blkRet ?_
              refine Ends.thenRet ?_
              replace h := resd_ab hK9 (some_eq h)
              replace h := hD7 _ (some_eq h)
              replace h := resb_ab hK6 (some_eq h)
              obtain rfl := some_eq h
              exact Ends.ret1 (.inl rfl) Try.results39 (ResOK.tmp rfl trivial Imp.refl)
            · replace h := bif_f h hb14
              refine Cod.skip ?_
              refine Ends.then ?_
              refine Cod.seq ?_
              refine Cod.region [] mixed (by kernel_rfl) ?_
              refine Chain.cons (StepOK.fieldAddr .none fd67_2 hfd67_2 (.tmp rfl (fun _ => trivial))) rfl ?_
              refine Chain.cons (StepOK.load .none ty23 (.tmp rfl (fun _ => trivial))) rfl ?_
              refine Chain.cons (StepOK.len .none sl23 (.tmp rfl (fun _ => trivial))) rfl ?_
              refine Chain.cons (StepOK.move .none (.int (by decide))) rfl ?_
              refine Chain.nil ?_
              refine Ends.then ?_
              refine Cod.block ?_
              refine Cod.rforEL h (fun p15_ => [(44, ⟨True, rep p15_.1⟩)]) (fun p15_ => [(5001, some (CPred.at s5001 (rowV 4 p15_.2)))]) (.cons (t := 44) rfl Sub.nil) (.cons (t := 5001) rfl SubB.nil) (.cons (t := 0) rfl (.cons (t := 3) rfl (.cons (t := 4) rfl (.cons (t := 23) rfl (.cons (t := 24) rfl (.cons (t := 25) rfl (.cons (t := 42) rfl (.cons (t := 43) rfl Sub.nil)))))))) SubB.nil (fun p15_ o_15 h hD15 => ?_)
              refine Cod.seq ?_
              refine Cod.region [] mixed (by kernel_rfl) ?_
              refine Chain.cons (StepOK.lt .none (.tmp rfl (fun _ => trivial)) (.tmp rfl (fun _ => trivial))) rfl ?_
              refine Chain.nil ?_
              refine Ends.then ?_
              refine Cod.seq ?_
              refine Cod.cond (t := 45) rfl trivial (fun hb16 => ?_) (fun hb16 => ?_)
              · replace h := bif_t h hb16
                refine Cod.skip ?_
                refine Ends.then ?_
                refine Cod.seq ?_
                obtain ⟨o_17, h, hK17⟩ := bindD_some h
                unfold tree_Check_L2 at h
                refine Cod.thenJ (ι := (List Bool)) (fun j_17 => []) (fun j_17 => [(5001, some (CPred.at s5001 (rowV 4 j_17)))]) (fun s => o_17 = Res.nx s) (.cons (t := 0) rfl (.cons (t := 3) rfl (.cons (t := 4) rfl (.cons (t := 23) rfl (.cons (t := 24) rfl (.cons (t := 25) rfl (.cons (t := 42) rfl (.cons (t := 43) rfl (.cons (t := 44) rfl Sub.nil))))))))) SubB.nil ?_ (fun j_17 hj17 => ?_)
                · skip
                  refine Cod.block ?_
                  refine Cod.seq ?_
                  refine Cod.region [] mixed (by kernel_rfl) ?_
                  obtain ⟨hn18, h⟩ := need_some h
                  refine Chain.cons (StepOK.indexAddr .none sl23 ty3 (.tmp rfl (fun _ => trivial)) (.tmp rfl (fun _ => trivial)) (fun _ => hn18)) rfl ?_
                  refine Chain.cons (StepOK.load .none ty3 (.tmp rfl (fun _ => trivial))) rfl ?_
                  obtain ⟨k1, hv19, h⟩ := bnd_some h
                  refine Chain.cons (StepOK.re hv19 (StepOK.assign .none (.tmp rfl (fun _ => trivial)))) rfl ?_
                  refine Chain.nil ?_
                  refine Ends.then ?_
                  refine Cod.seq ?_
                  refine Cod.block ?_
                  refine Cod.seq ?_
                  refine Cod.region [] mixed (by kernel_rfl) ?_
                  refine Chain.cons (StepOK.move .none (.tmp rfl (fun _ => trivial))) rfl ?_
                  refine Chain.cons (StepOK.lt .none (.tmp rfl (fun _ => trivial)) (.int (by decide))) rfl ?_
                  refine Chain.cons (StepOK.move .none (.tmp rfl (fun _ => trivial))) rfl ?_
                  refine Chain.cons (StepOK.move (.at rfl rfl) (.tmp rfl (fun _ => trivial))) rfl ?_
                  refine Chain.cons (StepOK.move (.at rfl rfl) (.tmp rfl (fun _ => trivial))) rfl ?_
                  refine Chain.cons (StepOK.len (.at rfl rfl) sl56 (.tmp rfl id)) rfl ?_
                  refine Chain.cons (StepOK.ge (.at rfl rfl) (.tmp rfl id) (.tmp rfl id)) rfl ?_
                  refine Chain.cons (StepOK.pickOr .none (.tmp rfl (fun _ => trivial)) (.tmp rfl id)) rfl ?_
                  refine Chain.cons (StepOK.assign .none (.tmp rfl (fun _ => trivial))) rfl ?_
                  refine Chain.nil ?_
                  refine Ends.then ?_
                  refine Cod.cond (t := 48) rfl trivial (fun hb20 => ?_) (fun hb20 => ?_)
                  · replace h := bif_t h hb20
                    refine Cod.seq ?_
                    refine Cod.region [] mixed (by kernel_rfl) ?_
                    refine Chain.cons (StepOK.assign .none (.int (by decide))) rfl ?_
                    refine Chain.nil ?_
                    refine Ends.then ?_
                    refine Cod.ret ?_
                    refine Ends.blkRet ?_
                    refine Ends.thenRet ?_
                    refine Ends.blkRet ?_
                    refine Ends.thenRet ?_
                    refine Ends.thenRet ?_
                    refine Ends.blkRet ?_
                    refine Ends.blkRet ?_
                    refine Ends.thenRet ?_
                    refine Ends.thenRet ?_
                    refine Ends.blkRet ?_
                    refine Ends.thenRet ?_
                    replace h := resd_ab hK17 (some_eq h)
                    replace h := hD15 _ (some_eq h)
                    replace h := resd_ab hK9 (some_eq h)
                    replace h := hD7 _ (some_eq h)
                    replace h := resb_ab hK6 (some_eq h)
                    obtain rfl := some_eq h
                    exact Ends.ret1 (.inl rfl) Try.results39 (ResOK.tmp rfl trivial Imp.refl)
                  · replace h := bif_f h hb20
                    refine Cod.seq ?_
                    refine Cod.region [] mixed (by kernel_rfl) ?_
                    refine Chain.cons (StepOK.move .none (.tmp rfl (fun _ => trivial))) rfl ?_
                    refine Chain.cons (StepOK.eqI .none (.tmp rfl (fun _ => trivial)) (.int (by decide))) rfl ?_
                    refine Chain.cons (StepOK.assign .none (.tmp rfl (fun _ => trivial))) rfl ?_
                    refine Chain.nil ?_
                    refine Ends.then ?_
                    refine Cod.cond (t := 57) rfl trivial (fun hb21 => ?_) (fun hb21 => ?_)
                    · replace h := bif_t h hb21
                      refine Cod.seq ?_
                      refine Cod.region [] mixed (by kernel_rfl) ?_
                      refine Chain.cons (StepOK.assign .none (.int (by decide))) rfl ?_
                      refine Chain.nil ?_
                      refine Ends.then ?_
                      refine Cod.ret ?_
                      refine Ends.blkRet ?_
                      refine Ends.thenRet ?_
                      refine Ends.blkRet ?_
                      refine Ends.thenRet ?_
                      refine Ends.thenRet ?_
                      refine Ends.blkRet ?_
                      refine Ends.blkRet ?_
                      refine Ends.thenRet ?_
                      refine Ends.thenRet ?_
                      refine Ends.blkRet ?_
                      refine Ends.thenRet ?_
                      replace h := resd_ab hK17 (some_eq h)
                      replace h := hD15 _ (some_eq h)
                      replace h := resd_ab hK9 (some_eq h)
                      replace h := hD7 _ (some_eq h)
                      replace h := resb_ab hK6 (some_eq h)
                      obtain rfl := some_eq h
                      exact Ends.ret1 (.inl rfl) Try.results39 (ResOK.tmp rfl trivial Imp.refl)
                    · replace h := bif_f h hb21
                      refine Cod.seq ?_
                      refine Cod.region [([], []), ([], []), ([5001], []), ([5001], []), ([], [])] mixed (by kernel_rfl) ?_
                      refine Chain.consA (StepOK.move .none (.tmp rfl (fun _ => trivial))) rfl ?_
                      refine Chain.consA (StepOK.move .none (.tmp rfl (fun _ => trivial))) rfl ?_
                      obtain ⟨hn22, h⟩ := need_some h
                      refine Chain.consA (StepOK.indexAddrO (k := 5001) .none sl100 ty4 (.tmp rfl (fun _ => trivial)) rfl (.tmp rfl (fun _ => trivial)) (fun _ => hn22)) rfl ?_
                      refine Chain.consA (StepOK.loadElem0 (k := 5001) .none ty4 (.tmp rfl (fun _ => trivial)) rfl (fun _ => hn22)) rfl ?_
                      refine Chain.consA (StepOK.assign .none (.tmp rfl (fun _ => trivial))) rfl ?_
                      refine Chain.nil ?_
                      refine Ends.then ?_
                      refine Cod.cond (t := 60) rfl trivial (fun hb23 => ?_) (fun hb23 => ?_)
                      · replace h := bif_t h hb23
                        refine Cod.seq ?_
                        refine Cod.region [] mixed (by kernel_rfl) ?_
                        refine Chain.cons (StepOK.assign .none (.int (by decide))) rfl ?_
                        refine Chain.nil ?_
                        refine Ends.then ?_
                        refine Cod.ret ?_
                        refine Ends.blkRet ?_
                        refine Ends.thenRet ?_
                        refine Ends.blkRet ?_
                        refine Ends.thenRet ?_
                        refine Ends.thenRet ?_
                        refine Ends.blkRet ?_
                        refine Ends.blkRet ?_
                        refine Ends.thenRet ?_
                        refine Ends.thenRet ?_
                        refine Ends.blkRet ?_
                        refine Ends.thenRet ?_
                        replace h := resd_ab hK17 (some_eq h)
                        replace h := hD15 _ (some_eq h)
                        replace h := resd_ab hK9 (some_eq h)
                        replace h := hD7 _ (some_eq h)
                        replace h := resb_ab hK6 (some_eq h)
                        obtain rfl := some_eq h
                        exact Ends.ret1 (.inl rfl) Try.results39 (ResOK.tmp rfl trivial Imp.refl)
                      · replace h := bif_f h hb23
                        refine Cod.skip ?_
                        refine Ends.blkNormal ?_
                        refine Ends.then ?_
                        refine Cod.region [([], []), ([], []), ([5001], []), ([5001], [5001])] mixed (by kernel_rfl) ?_
                        refine Chain.consA (StepOK.move .none (.tmp rfl (fun _ => trivial))) rfl ?_
                        refine Chain.consA (StepOK.move .none (.tmp rfl (fun _ => trivial))) rfl ?_
                        obtain ⟨hn24, h⟩ := need_some h
                        refine Chain.consA (StepOK.indexAddrO (k := 5001) .none sl100 ty4 (.tmp rfl (fun _ => trivial)) rfl (.tmp rfl (fun _ => trivial)) (fun _ => hn24)) rfl ?_
                        refine Chain.consN (StepOK.storeElem0 (k := 5001) ty4 (.tmp rfl (fun _ => trivial)) rfl .bool hn24) rfl ?_
                        refine Chain.nil ?_
                        refine Ends.blkNormal ?_
                        exact Ends.join _ (some_eq h) (.cons (t := 0) rfl (.cons (t := 3) rfl (.cons (t := 4) rfl (.cons (t := 23) rfl (.cons (t := 24) rfl (.cons (t := 25) rfl (.cons (t := 42) rfl (.cons (t := 43) rfl (.cons (t := 44) rfl Sub.nil))))))))) (.cons (t := 5001) rfl SubB.nil)
                · have h := resd_nx hK17 hj17
                  refine Cod.region [] mixed (by kernel_rfl) ?_
                  refine Chain.cons (StepOK.addW .none (.tmp rfl (fun _ => trivial)) (.int (by decide))) rfl ?_
                  refine Chain.cons (StepOK.move .none (.tmp rfl (fun _ => trivial))) rfl ?_
                  refine Chain.nil ?_
                  exact Ends.againL (some_eq h) (.cons (t := 44) rfl (.cons (t := 0) rfl (.cons (t := 3) rfl (.cons (t := 4) rfl (.cons (t := 23) rfl (.cons (t := 24) rfl (.cons (t := 25) rfl (.cons (t := 42) rfl (.cons (t := 43) rfl Sub.nil))))))))) (.cons (t := 5001) rfl SubB.nil)
              · replace h := bif_f h hb16
                refine Cod.exit ?_
                refine Ends.thenExit ?_
                refine Ends.thenExit ?_
                refine Ends.blkExit ?_
                refine Ends.blkNormal ?_
                replace h := hD15 _ (some_eq h)
                exact Ends.join _ (some_eq h) (.cons (t := 0) rfl (.cons (t := 3) rfl (.cons (t := 4) rfl (.cons (t := 23) rfl (.cons (t := 24) rfl (.cons (t := 25) rfl Sub.nil)))))) (.cons (t := 5001) rfl SubB.nil)
          · have h := resd_nx hK9 hj9
            refine Cod.region [] mixed (by kernel_rfl) ?_
            refine Chain.cons (StepOK.addW .none (.tmp rfl (fun _ => trivial)) (.int (by decide))) rfl ?_
            refine Chain.cons (StepOK.move .none (.tmp rfl (fun _ => trivial))) rfl ?_
            refine Chain.nil ?_
            exact Ends.againL (some_eq h) (.cons (t := 25) rfl (.cons (t := 0) rfl (.cons (t := 3) rfl (.cons (t := 4) rfl (.cons (t := 23) rfl (.cons (t := 24) rfl Sub.nil)))))) (.cons (t := 5001) rfl SubB.nil)
        · replace h := bif_f h hb8
          refine Cod.exit ?_
          refine Ends.thenExit ?_
          refine Ends.thenExit ?_
          refine Ends.blkExit ?_
          replace h := hD7 _ (some_eq h)
          exact Ends.join _ (some_eq h) (.cons (t := 0) rfl (.cons (t := 4) rfl Sub.nil)) (.cons (t := 5001) rfl SubB.nil)
      · have h := resb_nx hK6 hj6
        refine Cod.freezeRow (g := 5001) (ts := [4]) rfl (.cons (t := 4) rfl trivial .nil) SubB.nil rfl ?_
        refine Cod.seq ?_
        refine Cod.seq ?_
        refine Cod.region [] mixed (by kernel_rfl) ?_
        refine Chain.cons (StepOK.move .none (.tmp rfl (fun _ => trivial))) rfl ?_
        obtain ⟨hn25, h⟩ := need_some h
        refine Chain.cons (StepOK.slice .none sl100 ty4 (.tmp rfl (fun _ => trivial)) (.int (by decide)) rfl (fun _ => hn25)) rfl ?_
        obtain ⟨r3, hv26, h⟩ := bind_some h
        refine Chain.cons (StepOK.call .none (slices_Contains_bool_ok hv26) (.cons (.tmp rfl (fun _ => trivial)) (.cons .bool .nil))) rfl ?_
        refine Chain.nil ?_
        refine Ends.then ?_
        refine Cod.cond (t := 72) rfl trivial (fun hb27 => ?_) (fun hb27 => ?_)
        · replace h := bif_t h hb27
          refine Cod.seq ?_
          refine Cod.region [] mixed (by kernel_rfl) ?_
          refine Chain.cons (StepOK.assign .none (.int (by decide))) rfl ?_
          refine Chain.nil ?_
          refine Ends.then ?_
          refine Cod.ret ?_
          refine Ends.thenRet ?_
          obtain rfl := some_eq h
          exact Ends.ret1 (.inl rfl) Try.results39 (ResOK.tmp rfl trivial Imp.refl)
        · replace h := bif_f h hb27
          refine Cod.skip ?_
          refine Ends.then ?_
          refine Cod.seq ?_
          refine Cod.region [] mixed (by kernel_rfl) ?_
          refine Chain.cons (StepOK.assign .none (.int (by decide))) rfl ?_
          refine Chain.nil ?_
          refine Ends.then ?_
          refine Cod.seq ?_
          refine Cod.seq ?_
          refine Cod.region [] mixed (by kernel_rfl) ?_
          refine Chain.cons (StepOK.move .none (.tmp rfl (fun _ => trivial))) rfl ?_
          obtain ⟨r4, hv28, h⟩ := bind_some h
          refine Chain.cons (StepOK.call .none (tree_levels_ok hv28) (.cons (.tmp rfl (fun _ => trivial)) .nil)) rfl ?_
          refine Chain.cons (StepOK.len .none sl64 (.tmp rfl (fun _ => trivial))) rfl ?_
          refine Chain.cons (StepOK.move .none (.int (by decide))) rfl ?_
          refine Chain.nil ?_
          refine Ends.then ?_
          obtain ⟨j_29, h, hK29⟩ := bind_some h
          refine Cod.thenJ (ι := Int) (fun j_29 => [(9, ⟨True, rep j_29⟩)]) (fun j_29 => []) (fun s => j_29 = s) (.cons (t := 0) rfl Sub.nil) SubB.nil ?_ (fun j_29' hj29 => ?_)
          · skip
            refine Cod.block ?_
            refine Cod.rforL h (fun p30_ => [(76, ⟨True, rep p30_.1⟩), (9, ⟨True, rep p30_.2⟩)]) (fun p30_ => []) (.cons (t := 76) rfl (.cons (t := 9) rfl Sub.nil)) SubB.nil (.cons (t := 0) rfl (.cons (t := 74) rfl (.cons (t := 75) rfl Sub.nil))) SubB.nil (fun p30_ o_30 h hD30 => ?_)
            refine Cod.seq ?_
            refine Cod.region [] mixed (by kernel_rfl) ?_
            refine Chain.cons (StepOK.lt .none (.tmp rfl (fun _ => trivial)) (.tmp rfl (fun _ => trivial))) rfl ?_
            refine Chain.nil ?_
            refine Ends.then ?_
            refine Cod.seq ?_
            refine Cod.cond (t := 77) rfl trivial (fun hb31 => ?_) (fun hb31 => ?_)
            · replace h := bif_t h hb31
              refine Cod.skip ?_
              refine Ends.then ?_
              refine Cod.seq ?_
              obtain ⟨j_32, h, hK32⟩ := bind_some h
              unfold tree_Check_L3 at h
              refine Cod.thenJ (ι := Int) (fun j_32 => [(9, ⟨True, rep j_32⟩)]) (fun j_32 => []) (fun s => j_32 = s) (.cons (t := 0) rfl (.cons (t := 74) rfl (.cons (t := 75) rfl (.cons (t := 76) rfl Sub.nil)))) SubB.nil ?_ (fun j_32' hj32 => ?_)
              · skip
                refine Cod.block ?_
                refine Cod.seq ?_
                refine Cod.region [] mixed (by kernel_rfl) ?_
                obtain ⟨hn33, h⟩ := need_some h
                refine Chain.cons (StepOK.indexAddr .none sl64 ty23 (.tmp rfl (fun _ => trivial)) (.tmp rfl (fun _ => trivial)) (fun _ => hn33)) rfl ?_
                refine Chain.cons (StepOK.load .none ty23 (.tmp rfl (fun _ => trivial))) rfl ?_
                refine Chain.cons (StepOK.assign .none (.tmp rfl (fun _ => trivial))) rfl ?_
                refine Chain.nil ?_
                refine Ends.then ?_
                refine Cod.region [] mixed (by kernel_rfl) ?_
                refine Chain.cons (StepOK.move .none (.tmp rfl (fun _ => trivial))) rfl ?_
                refine Chain.cons (StepOK.move .none (.tmp rfl (fun _ => trivial))) rfl ?_
                refine Chain.cons (StepOK.len .none sl23 (.tmp rfl (fun _ => trivial))) rfl ?_
                refine Chain.cons (StepOK.addW .none (.tmp rfl (fun _ => trivial)) (.tmp rfl (fun _ => trivial))) rfl ?_
                obtain ⟨many1, hv34, h⟩ := bnd_some h
                refine Chain.cons (StepOK.re hv34 (StepOK.assign .none (.tmp rfl (fun _ => trivial)))) rfl ?_
                refine Chain.nil ?_
                refine Ends.blkNormal ?_
                exact Ends.join _ (some_eq h) (.cons (t := 9) rfl (.cons (t := 0) rfl (.cons (t := 74) rfl (.cons (t := 75) rfl (.cons (t := 76) rfl Sub.nil))))) SubB.nil
              · subst hj32; have h := hK32; clear hK32
                refine Cod.region [] mixed (by kernel_rfl) ?_
                refine Chain.cons (StepOK.addW .none (.tmp rfl (fun _ => trivial)) (.int (by decide))) rfl ?_
                refine Chain.cons (StepOK.move .none (.tmp rfl (fun _ => trivial))) rfl ?_
                refine Chain.nil ?_
                exact Ends.againL (some_eq h) (.cons (t := 76) rfl (.cons (t := 9) rfl (.cons (t := 0) rfl (.cons (t := 74) rfl (.cons (t := 75) rfl Sub.nil))))) SubB.nil
            · replace h := bif_f h hb31
              refine Cod.exit ?_
              refine Ends.thenExit ?_
              refine Ends.thenExit ?_
              refine Ends.blkExit ?_
              replace h := hD30 _ (some_eq h)
              exact Ends.join _ (some_eq h) (.cons (t := 9) rfl (.cons (t := 0) rfl Sub.nil)) SubB.nil
          · subst hj29; have h := hK29; clear hK29
            refine Cod.seq ?_
            refine Cod.seq ?_
            refine Cod.region [] mixed (by kernel_rfl) ?_
            refine Chain.cons (StepOK.move .none (.tmp rfl (fun _ => trivial))) rfl ?_
            refine Chain.cons (StepOK.move .none (.tmp rfl (fun _ => trivial))) rfl ?_
            refine Chain.cons (StepOK.len .none sl56 (.tmp rfl (fun _ => trivial))) rfl ?_
            refine Chain.cons (StepOK.lt .none (.tmp rfl (fun _ => trivial)) (.tmp rfl (fun _ => trivial))) rfl ?_
            refine Chain.nil ?_
            refine Ends.then ?_
            refine Cod.cond (t := 88) rfl trivial (fun hb35 => ?_) (fun hb35 => ?_)
            · replace h := bif_t h hb35
              refine Cod.seq ?_
              refine Cod.region [] mixed (by kernel_rfl) ?_
              refine Chain.cons (StepOK.assign .none (.int (by decide))) rfl ?_
              refine Chain.nil ?_
              refine Ends.then ?_
              refine Cod.ret ?_
              refine Ends.thenRet ?_
              obtain rfl := some_eq h
              exact Ends.ret1 (.inl rfl) Try.results39 (ResOK.tmp rfl trivial Imp.refl)
            · replace h := bif_f h hb35
              refine Cod.skip ?_
              refine Ends.then ?_
              refine Cod.seq ?_
              refine Cod.region [] mixed (by kernel_rfl) ?_
              refine Chain.cons (StepOK.assign .none (.int (by decide))) rfl ?_
              refine Chain.nil ?_
              refine Ends.then ?_
              refine Cod.ret ?_
              obtain rfl := some_eq h
              exact Ends.ret1 (.inl rfl) Try.results39 (ResOK.tmp rfl trivial Imp.refl)

theorem tree_Fold_ok {t1 : (List Branch)} {folded1 : (List Int)} {r : ((List Int) × Int)}  (h : tree_Fold t1 folded1 = some r) : FSpec Try.prog 51 [rep t1, rep folded1] (tup [rep r.1, rep r.2]) := by
  unfold tree_Fold at h
  refine FSpec.intro (n := 73) fnok51 Try.func51 rfl Try.ntmps51 rfl (fun F => ?_)
  refine Cod.seq ?_
  refine Cod.region [] mixed (by kernel_rfl) ?_
  refine Chain.cons (StepOK.assign .none (.const (x := ([] : (List Int))) (fun M w => ⟨_, ⟨none, 0, rfl, Nat.le_refl _, by decide, rfl⟩, rfl⟩))) rfl ?_
  refine Chain.cons (StepOK.assign .none (.int (by decide))) rfl ?_
  refine Chain.nil ?_
  refine Ends.then ?_
  refine Cod.seq ?_
  refine Cod.seq ?_
  refine Cod.region [] mixed (by kernel_rfl) ?_
  refine Chain.cons (StepOK.move .none (.tmp rfl (fun _ => trivial))) rfl ?_
  obtain ⟨e1, hv1, h⟩ := bind_some h
  refine Chain.cons (StepOK.call .none (tree_Check_ok hv1) (.cons (.tmp rfl (fun _ => trivial)) .nil)) rfl ?_
  refine Chain.cons (StepOK.assign .none (.tmp rfl (fun _ => trivial))) rfl ?_
  refine Chain.nil ?_
  refine Ends.then ?_
  refine Cod.seq ?_
  refine Cod.region [] mixed (by kernel_rfl) ?_
  refine Chain.cons (StepOK.move .none (.tmp rfl (fun _ => trivial))) rfl ?_
  refine Chain.cons (StepOK.neI .none (.tmp rfl (fun _ => trivial)) (.int (by decide))) rfl ?_
  refine Chain.nil ?_
  refine Ends.then ?_
  refine Cod.cond (t := 18) rfl trivial (fun hb2 => ?_) (fun hb2 => ?_)
  · replace h := bif_t h hb2
    refine Cod.seq ?_
    refine Cod.region [] mixed (by kernel_rfl) ?_
    refine Chain.cons (StepOK.move .none (.tmp rfl (fun _ => trivial))) rfl ?_
    refine Chain.cons (StepOK.assign .none (.const (x := ([] : (List Int))) (fun M w => ⟨_, ⟨none, 0, rfl, Nat.le_refl _, by decide, rfl⟩, rfl⟩))) rfl ?_
    refine Chain.cons (StepOK.assign .none (.tmp rfl (fun _ => trivial))) rfl ?_
    refine Chain.nil ?_
    refine Ends.then ?_
    refine Cod.ret ?_
    refine Ends.thenRet ?_
    obtain rfl := some_eq h
    exact Ends.ret2 (.inl rfl) Try.results51 (ResOK.tmp rfl trivial Imp.refl) (ResOK.tmp rfl trivial Imp.refl)
  · replace h := bif_f h hb2
    refine Cod.skip ?_
    refine Ends.then ?_
    refine Cod.seq ?_
    refine Cod.region [([], []), ([], []), ([], [22]), ([22], [7, 22])] mixed (by kernel_rfl) ?_
    refine Chain.consA (StepOK.move .none (.tmp rfl (fun _ => trivial))) rfl ?_
    obtain ⟨v1, hv3, h⟩ := bnd_some h
    refine Chain.consA (StepOK.re hv3 (StepOK.len .none sl56 (.tmp rfl (fun _ => trivial)))) rfl ?_
    obtain ⟨hn4, h⟩ := need_some h
    refine Chain.consW (StepOK.makeSlice rk100 zo4 rfl (.tmp rfl (fun _ => trivial)) (.tmp rfl (fun _ => trivial)) hn4) rfl rfl ?_
    refine Chain.consW (StepOK.passRow rfl (.tmp rfl)) rfl rfl ?_
    refine Chain.nil ?_
    refine Ends.then ?_
    obtain ⟨closed1, hv5, h⟩ := bnd_some h
    refine Cod.reB (t := 7) rfl (congrArg (rowV 4) hv5) ?_
    refine Cod.nameRow (t := 7) (g := 5001) rfl rfl rfl (fun s5001 => ?_)
    refine Cod.seq ?_
    refine Cod.seq ?_
    refine Cod.region [] mixed (by kernel_rfl) ?_
    refine Chain.cons (StepOK.move .none (.tmp rfl (fun _ => trivial))) rfl ?_
    refine Chain.cons (StepOK.len .none sl23 (.tmp rfl (fun _ => trivial))) rfl ?_
    refine Chain.cons (StepOK.move .none (.int (by decide))) rfl ?_
    refine Chain.nil ?_
    refine Ends.then ?_
    obtain ⟨o_6, h, hK6⟩ := bindR_some h
    refine Cod.thenJ (ι := (List Bool)) (fun j_6 => []) (fun j_6 => [(5001, some (CPred.at s5001 (rowV 4 j_6)))]) (fun s => o_6 = Res.nx s) (.cons (t := 0) rfl (.cons (t := 7) rfl Sub.nil)) SubB.nil ?_ (fun j_6 hj6 => ?_)
    · skip
      refine Cod.block ?_
      refine Cod.rforEL h (fun p7_ => [(25, ⟨True, rep p7_.1⟩)]) (fun p7_ => [(5001, some (CPred.at s5001 (rowV 4 p7_.2)))]) (.cons (t := 25) rfl Sub.nil) (.cons (t := 5001) rfl SubB.nil) (.cons (t := 0) rfl (.cons (t := 7) rfl (.cons (t := 23) rfl (.cons (t := 24) rfl Sub.nil)))) SubB.nil (fun p7_ o_7 h hD7 => ?_)
      refine Cod.seq ?_
      refine Cod.region [] mixed (by kernel_rfl) ?_
      refine Chain.cons (StepOK.lt .none (.tmp rfl (fun _ => trivial)) (.tmp rfl (fun _ => trivial))) rfl ?_
      refine Chain.nil ?_
      refine Ends.then ?_
      refine Cod.seq ?_
      refine Cod.cond (t := 26) rfl trivial (fun hb8 => ?_) (fun hb8 => ?_)
      · replace h := bif_t h hb8
        refine Cod.skip ?_
        refine Ends.then ?_
        refine Cod.seq ?_
        obtain ⟨o_9, h, hK9⟩ := bindD_some h
        unfold tree_Fold_L1 at h
        refine Cod.thenJ (ι := (List Bool)) (fun j_9 => []) (fun j_9 => [(5001, some (CPred.at s5001 (rowV 4 j_9)))]) (fun s => o_9 = Res.nx s) (.cons (t := 0) rfl (.cons (t := 7) rfl (.cons (t := 23) rfl (.cons (t := 24) rfl (.cons (t := 25) rfl Sub.nil))))) SubB.nil ?_ (fun j_9 hj9 => ?_)
        · skip
          refine Cod.block ?_
          refine Cod.seq ?_
          refine Cod.region [] mixed (by kernel_rfl) ?_
          obtain ⟨hn10, h⟩ := need_some h
          refine Chain.cons (StepOK.indexAddr .none sl23 ty3 (.tmp rfl (fun _ => trivial)) (.tmp rfl (fun _ => trivial)) (fun _ => hn10)) rfl ?_
          refine Chain.cons (StepOK.load .none ty3 (.tmp rfl (fun _ => trivial))) rfl ?_
          obtain ⟨k1, hv11, h⟩ := bnd_some h
          refine Chain.cons (StepOK.re hv11 (StepOK.assign .none (.tmp rfl (fun _ => trivial)))) rfl ?_
          refine Chain.nil ?_
          refine Ends.then ?_
          refine Cod.seq ?_
          refine Cod.block ?_
          refine Cod.seq ?_
          refine Cod.region [] mixed (by kernel_rfl) ?_
          refine Chain.cons (StepOK.move .none (.tmp rfl (fun _ => trivial))) rfl ?_
          refine Chain.cons (StepOK.move .none (.tmp rfl (fun _ => trivial))) rfl ?_
          obtain ⟨r1, hv12, h⟩ := bind_some h
          refine Chain.cons (StepOK.call .none (tree_isNode_ok hv12) (.cons (.tmp rfl (fun _ => trivial)) (.cons (.tmp rfl (fun _ => trivial)) .nil))) rfl ?_
          refine Chain.cons (StepOK.not .none (.tmp rfl (fun _ => trivial))) rfl ?_
          refine Chain.cons (StepOK.assign .none (.tmp rfl (fun _ => trivial))) rfl ?_
          refine Chain.nil ?_
          refine Ends.then ?_
          refine Cod.cond (t := 29) rfl trivial (fun hb13 => ?_) (fun hb13 => ?_)
          · replace h := bif_t h hb13
            refine Cod.seq ?_
            refine Cod.region [] mixed (by kernel_rfl) ?_
            refine Chain.cons (StepOK.assign .none (.const (x := ([] : (List Int))) (fun M w => ⟨_, ⟨none, 0, rfl, Nat.le_refl _, by decide, rfl⟩, rfl⟩))) rfl ?_
            refine Chain.cons (StepOK.assign .none (.int (by decide))) rfl ?_
            refine Chain.nil ?_
            refine Ends.then ?_
            refine Cod.ret ?_
            refine Ends.blkRet ?_
            refine Ends.thenRet ?_
            refine Ends.blkRet ?_
            refine Ends.thenRet ?_
            refine Ends.thenRet ?_
            refine Ends.blkRet ?_
            refine Ends.thenRet ?_
            replace h := resd_ab hK9 (some_eq h)
            replace h := hD7 _ (some_eq h)
            replace h := resb_ab hK6 (some_eq h)
            obtain rfl := some_eq h
            exact Ends.ret2 (.inl rfl) Try.results51 (ResOK.tmp rfl trivial Imp.refl) (ResOK.tmp rfl trivial Imp.refl)
          · replace h := bif_f h hb13
            refine Cod.seq ?_
            refine Cod.region [([], []), ([], []), ([5001], []), ([5001], []), ([], [])] mixed (by kernel_rfl) ?_
            refine Chain.consA (StepOK.move .none (.tmp rfl (fun _ => trivial))) rfl ?_
            refine Chain.consA (StepOK.move .none (.tmp rfl (fun _ => trivial))) rfl ?_
            obtain ⟨hn14, h⟩ := need_some h
            refine Chain.consA (StepOK.indexAddrO (k := 5001) .none sl100 ty4 (.tmp rfl (fun _ => trivial)) rfl (.tmp rfl (fun _ => trivial)) (fun _ => hn14)) rfl ?_
            refine Chain.consA (StepOK.loadElem0 (k := 5001) .none ty4 (.tmp rfl (fun _ => trivial)) rfl (fun _ => hn14)) rfl ?_
            refine Chain.consA (StepOK.assign .none (.tmp rfl (fun _ => trivial))) rfl ?_
            refine Chain.nil ?_
            refine Ends.then ?_
            refine Cod.cond (t := 34) rfl trivial (fun hb15 => ?_) (fun hb15 => ?_)
            · replace h := bif_t h hb15
              refine Cod.seq ?_
              refine Cod.region [] mixed (by kernel_rfl) ?_
              refine Chain.cons (StepOK.assign .none (.const (x := ([] : (List Int))) (fun M w => ⟨_, ⟨none, 0, rfl, Nat.le_refl _, by decide, rfl⟩, rfl⟩))) rfl ?_
              refine Chain.cons (StepOK.assign .none (.int (by decide))) rfl ?_
              refine Chain.nil ?_
              refine Ends.then ?_
              refine Cod.ret ?_
              refine Ends.blkRet ?_
              refine Ends.thenRet ?_
              refine Ends.blkRet ?_
              refine Ends.thenRet ?_
              refine Ends.thenRet ?_
              refine Ends.blkRet ?_
              refine Ends.thenRet ?_
              replace h := resd_ab hK9 (some_eq h)
              replace h := hD7 _ (some_eq h)
              replace h := resb_ab hK6 (some_eq h)
              obtain rfl := some_eq h
              exact Ends.ret2 (.inl rfl) Try.results51 (ResOK.tmp rfl trivial Imp.refl) (ResOK.tmp rfl trivial Imp.refl)
            · replace h := bif_f h hb15
              refine Cod.skip ?_
              refine Ends.blkNormal ?_
              refine Ends.then ?_
              refine Cod.region [([], []), ([], []), ([5001], []), ([5001], [5001])] mixed (by kernel_rfl) ?_
              refine Chain.consA (StepOK.move .none (.tmp rfl (fun _ => trivial))) rfl ?_
              refine Chain.consA (StepOK.move .none (.tmp rfl (fun _ => trivial))) rfl ?_
              obtain ⟨hn16, h⟩ := need_some h
              refine Chain.consA (StepOK.indexAddrO (k := 5001) .none sl100 ty4 (.tmp rfl (fun _ => trivial)) rfl (.tmp rfl (fun _ => trivial)) (fun _ => hn16)) rfl ?_
              refine Chain.consN (StepOK.storeElem0 (k := 5001) ty4 (.tmp rfl (fun _ => trivial)) rfl .bool hn16) rfl ?_
              refine Chain.nil ?_
              refine Ends.blkNormal ?_
              exact Ends.join _ (some_eq h) (.cons (t := 0) rfl (.cons (t := 7) rfl (.cons (t := 23) rfl (.cons (t := 24) rfl (.cons (t := 25) rfl Sub.nil))))) (.cons (t := 5001) rfl SubB.nil)
        · have h := resd_nx hK9 hj9
          refine Cod.region [] mixed (by kernel_rfl) ?_
          refine Chain.cons (StepOK.addW .none (.tmp rfl (fun _ => trivial)) (.int (by decide))) rfl ?_
          refine Chain.cons (StepOK.move .none (.tmp rfl (fun _ => trivial))) rfl ?_
          refine Chain.nil ?_
          exact Ends.againL (some_eq h) (.cons (t := 25) rfl (.cons (t := 0) rfl (.cons (t := 7) rfl (.cons (t := 23) rfl (.cons (t := 24) rfl Sub.nil))))) (.cons (t := 5001) rfl SubB.nil)
      · replace h := bif_f h hb8
        refine Cod.exit ?_
        refine Ends.thenExit ?_
        refine Ends.thenExit ?_
        refine Ends.blkExit ?_
        replace h := hD7 _ (some_eq h)
        exact Ends.join _ (some_eq h) (.cons (t := 0) rfl (.cons (t := 7) rfl Sub.nil)) (.cons (t := 5001) rfl SubB.nil)
    · have h := resb_nx hK6 hj6
      refine Cod.freezeRow (g := 5001) (ts := [7]) rfl (.cons (t := 7) rfl trivial .nil) SubB.nil rfl ?_
      refine Cod.seq ?_
      refine Cod.region [([], [10])] mixed (by kernel_rfl) ?_
      refine Chain.consW (StepOK.nilRow (T := 3) (α := Int) rfl) rfl rfl ?_
      refine Chain.nil ?_
      refine Ends.then ?_
      refine Cod.nameRow (t := 10) (g := 5002) rfl rfl rfl (fun s5002 => ?_)
      refine Cod.seq ?_
      refine Cod.seq ?_
      refine Cod.region [] mixed (by kernel_rfl) ?_
      refine Chain.cons (StepOK.buildSlice (xs := [_]) .none sl23 ty3 hz3 (.cons (.int (by decide)) .nil) rfl (by decide)) rfl ?_
      obtain ⟨l1, hv17, h⟩ := bnd_some h
      refine Chain.cons (StepOK.re hv17 (StepOK.assign .none (.tmp rfl (fun _ => trivial)))) rfl ?_
      refine Chain.nil ?_
      refine Ends.then ?_
      obtain ⟨j_18, h, hK18⟩ := bind_some h
      refine Cod.thenJ (ι := (List Int)) (fun j_18 => []) (fun j_18 => [(10, some (rowV 3 j_18))]) (fun s => j_18 = s) Sub.nil SubB.nil ?_ (fun j_18' hj18 => ?_)
      · skip
        refine Cod.block ?_
        refine Cod.anon (t := 10) (g := 5002) rfl rfl trivial rfl ?_
        refine Cod.loopL h (fun s19_ => [(11, ⟨True, rep s19_.2⟩)]) (fun s19_ => [(10, some (rowV 3 s19_.1))]) (.cons (t := 11) rfl Sub.nil) (.cons (t := 10) rfl SubB.nil) (.cons (t := 0) rfl (.cons (t := 7) rfl Sub.nil)) SubB.nil (fun s19_ o_19 h hD19 => ?_)
        unfold tree_Fold_L2 at h
        refine Cod.nameRow (t := 10) (g := 5003) rfl rfl rfl (fun s5003 => ?_)
        refine Cod.seq ?_
        refine Cod.seq ?_
        refine Cod.region [] mixed (by kernel_rfl) ?_
        refine Chain.cons (StepOK.move .none (.tmp rfl (fun _ => trivial))) rfl ?_
        refine Chain.cons (StepOK.len .none sl23 (.tmp rfl (fun _ => trivial))) rfl ?_
        refine Chain.cons (StepOK.gt .none (.tmp rfl (fun _ => trivial)) (.int (by decide))) rfl ?_
        refine Chain.nil ?_
        refine Ends.then ?_
        refine Cod.cond (t := 46) rfl trivial (fun hb20 => ?_) (fun hb20 => ?_)
        · replace h := bif_t h hb20
          refine Cod.skip ?_
          refine Ends.then ?_
          refine Cod.block ?_
          refine Cod.seq ?_
          refine Cod.region [([], []), ([], []), ([5003], [49, 5003]), ([49], [10, 49])] mixed (by kernel_rfl) ?_
          refine Chain.consA (StepOK.move .none (.tmp rfl (fun _ => trivial))) rfl ?_
          refine Chain.consA (StepOK.move .none (.tmp rfl (fun _ => trivial))) rfl ?_
          obtain ⟨hn21, h⟩ := need_some h
          refine Chain.consW (StepOK.append (k := 5003) rk23 rfl (.told (.tmp rfl (fun _ => trivial)) rfl) (.tmp rfl (fun _ => trivial)) hn21) rfl rfl ?_
          refine Chain.consWD (StepOK.passRow rfl (.tmp rfl)) rfl rfl ?_
          refine Chain.nil ?_
          refine Ends.then ?_
          obtain ⟨out1, hv22, h⟩ := bnd_some h
          refine Cod.reB (t := 10) rfl (congrArg (rowV 3) hv22) ?_
          refine Cod.nameRow (t := 10) (g := 5004) rfl rfl rfl (fun s5004 => ?_)
          refine Cod.seq ?_
          refine Cod.region [([], [12])] mixed (by kernel_rfl) ?_
          refine Chain.consW (StepOK.nilRow (T := 3) (α := Int) rfl) rfl rfl ?_
          refine Chain.nil ?_
          refine Ends.then ?_
          refine Cod.nameRow (t := 12) (g := 5005) rfl rfl rfl (fun s5005 => ?_)
          refine Cod.seq ?_
          refine Cod.seq ?_
          refine Cod.region [] mixed (by kernel_rfl) ?_
          refine Chain.cons (StepOK.move .none (.tmp rfl (fun _ => trivial))) rfl ?_
          refine Chain.cons (StepOK.len .none sl23 (.tmp rfl (fun _ => trivial))) rfl ?_
          refine Chain.cons (StepOK.move .none (.int (by decide))) rfl ?_
          refine Chain.nil ?_
          refine Ends.then ?_
          obtain ⟨j_23, h, hK23⟩ := bind_some h
          refine Cod.thenJ (ι := (List Int)) (fun j_23 => []) (fun j_23 => [(12, some (rowV 3 j_23))]) (fun s => j_23 = s) (.cons (t := 0) rfl (.cons (t := 7) rfl (.cons (t := 10) rfl Sub.nil))) (.cons (t := 5004) rfl SubB.nil) ?_ (fun j_23' hj23 => ?_)
          · skip
            refine Cod.block ?_
            refine Cod.anon (t := 12) (g := 5005) rfl rfl trivial rfl ?_
            refine Cod.rforL h (fun p24_ => [(52, ⟨True, rep p24_.1⟩)]) (fun p24_ => [(12, some (rowV 3 p24_.2))]) (.cons (t := 52) rfl Sub.nil) (.cons (t := 12) rfl SubB.nil) (.cons (t := 0) rfl (.cons (t := 7) rfl (.cons (t := 10) rfl (.cons (t := 50) rfl (.cons (t := 51) rfl Sub.nil))))) (.cons (t := 5004) rfl SubB.nil) (fun p24_ o_24 h hD24 => ?_)
            refine Cod.nameRow (t := 12) (g := 5006) rfl rfl rfl (fun s5006 => ?_)
            refine Cod.seq ?_
            refine Cod.region [] mixed (by kernel_rfl) ?_
            refine Chain.cons (StepOK.lt .none (.tmp rfl (fun _ => trivial)) (.tmp rfl (fun _ => trivial))) rfl ?_
            refine Chain.nil ?_
            refine Ends.then ?_
            refine Cod.seq ?_
            refine Cod.cond (t := 53) rfl trivial (fun hb25 => ?_) (fun hb25 => ?_)
            · replace h := bif_t h hb25
              refine Cod.skip ?_
              refine Ends.then ?_
              refine Cod.seq ?_
              obtain ⟨j_26, h, hK26⟩ := bind_some h
              unfold tree_Fold_L3 at h
              refine Cod.thenJ (ι := (List Int)) (fun j_26 => []) (fun j_26 => [(12, some (rowV 3 j_26))]) (fun s => j_26 = s) (.cons (t := 0) rfl (.cons (t := 7) rfl (.cons (t := 10) rfl (.cons (t := 50) rfl (.cons (t := 51) rfl (.cons (t := 52) rfl Sub.nil)))))) (.cons (t := 5004) rfl SubB.nil) ?_ (fun j_26' hj26 => ?_)
              · skip
                refine Cod.block ?_
                refine Cod.seq ?_
                refine Cod.region [] mixed (by kernel_rfl) ?_
                obtain ⟨hn27, h⟩ := need_some h
                refine Chain.cons (StepOK.indexAddr .none sl23 ty3 (.tmp rfl (fun _ => trivial)) (.tmp rfl (fun _ => trivial)) (fun _ => hn27)) rfl ?_
                refine Chain.cons (StepOK.load .none ty3 (.tmp rfl (fun _ => trivial))) rfl ?_
                obtain ⟨k2, hv28, h⟩ := bnd_some h
                refine Chain.cons (StepOK.re hv28 (StepOK.assign .none (.tmp rfl (fun _ => trivial)))) rfl ?_
                refine Chain.nil ?_
                refine Ends.then ?_
                refine Cod.seq ?_
                refine Cod.region [] mixed (by kernel_rfl) ?_
                refine Chain.cons (StepOK.move .none (.tmp rfl (fun _ => trivial))) rfl ?_
                refine Chain.cons (StepOK.move .none (.tmp rfl (fun _ => trivial))) rfl ?_
                obtain ⟨hn29, h⟩ := need_some h
                refine Chain.cons (StepOK.indexAddr .none sl100 ty4 (.tmp rfl (fun _ => trivial)) (.tmp rfl (fun _ => trivial)) (fun _ => hn29)) rfl ?_
                refine Chain.cons (StepOK.load .none ty4 (.tmp rfl (fun _ => trivial))) rfl ?_
                refine Chain.cons (StepOK.not .none (.tmp rfl (fun _ => trivial))) rfl ?_
                refine Chain.nil ?_
                refine Ends.then ?_
                refine Cod.cond (t := 60) rfl trivial (fun hb30 => ?_) (fun hb30 => ?_)
                · replace h := bif_t h hb30
                  refine Cod.region [([], []), ([], []), ([], []), ([], []), ([], []), ([], []), ([5006], [67, 5006]), ([67], [12, 67])] mixed (by kernel_rfl) ?_
                  refine Chain.consA (StepOK.move .none (.tmp rfl (fun _ => trivial))) rfl ?_
                  refine Chain.consA (StepOK.move .none (.tmp rfl (fun _ => trivial))) rfl ?_
                  refine Chain.consA (StepOK.move .none (.tmp rfl (fun _ => trivial))) rfl ?_
                  obtain ⟨hn31, h⟩ := need_some h
                  refine Chain.consA (StepOK.indexAddr .none sl56 ty67 (.tmp rfl (fun _ => trivial)) (.tmp rfl (fun _ => trivial)) (fun _ => hn31)) rfl ?_
                  refine Chain.consA (StepOK.fieldAddr .none fd67_2 hfd67_2 (.tmp rfl (fun _ => trivial))) rfl ?_
                  refine Chain.consA (StepOK.load .none ty23 (.tmp rfl (fun _ => trivial))) rfl ?_
                  obtain ⟨hn32, h⟩ := need_some h
                  refine Chain.consW (StepOK.append (k := 5006) rk23 rfl (.told (.tmp rfl (fun _ => trivial)) rfl) (.tmp rfl (fun _ => trivial)) hn32) rfl rfl ?_
                  refine Chain.consWD (StepOK.passRow rfl (.tmp rfl)) rfl rfl ?_
                  refine Chain.nil ?_
                  refine Ends.blkNormal ?_
                  exact Ends.join _ (some_eq h) (.cons (t := 0) rfl (.cons (t := 7) rfl (.cons (t := 10) rfl (.cons (t := 50) rfl (.cons (t := 51) rfl (.cons (t := 52) rfl Sub.nil)))))) (.cons (t := 12) rfl (.cons (t := 5004) rfl SubB.nil))
                · replace h := bif_f h hb30
                  refine Cod.skip ?_
                  refine Ends.blkNormal ?_
                  refine Ends.anon (t := 12) (g := 5006) rfl rfl trivial rfl ?_
                  exact Ends.join _ (some_eq h) (.cons (t := 0) rfl (.cons (t := 7) rfl (.cons (t := 10) rfl (.cons (t := 50) rfl (.cons (t := 51) rfl (.cons (t := 52) rfl Sub.nil)))))) (.cons (t := 12) rfl (.cons (t := 5004) rfl SubB.nil))
              · subst hj26; have h := hK26; clear hK26
                refine Cod.nameRow (t := 12) (g := 5007) rfl rfl rfl (fun s5007 => ?_)
                refine Cod.region [] mixed (by kernel_rfl) ?_
                refine Chain.cons (StepOK.addW .none (.tmp rfl (fun _ => trivial)) (.int (by decide))) rfl ?_
                refine Chain.cons (StepOK.move .none (.tmp rfl (fun _ => trivial))) rfl ?_
                refine Chain.nil ?_
                refine Ends.anon (t := 12) (g := 5007) rfl rfl trivial rfl ?_
                exact Ends.againL (some_eq h) (.cons (t := 52) rfl (.cons (t := 0) rfl (.cons (t := 7) rfl (.cons (t := 10) rfl (.cons (t := 50) rfl (.cons (t := 51) rfl Sub.nil)))))) (.cons (t := 12) rfl (.cons (t := 5004) rfl SubB.nil))
            · replace h := bif_f h hb25
              refine Cod.exit ?_
              refine Ends.thenExit ?_
              refine Ends.thenExit ?_
              refine Ends.blkExit ?_
              refine Ends.anon (t := 12) (g := 5006) rfl rfl trivial rfl ?_
              replace h := hD24 _ (some_eq h)
              exact Ends.join _ (some_eq h) (.cons (t := 0) rfl (.cons (t := 7) rfl (.cons (t := 10) rfl Sub.nil))) (.cons (t := 12) rfl (.cons (t := 5004) rfl SubB.nil))
          · subst hj23; have h := hK23; clear hK23
            refine Cod.freezeRowA (t := 12) rfl rfl (.cons (t := 5004) rfl SubB.nil) rfl ?_
            refine Cod.region [] mixed (by kernel_rfl) ?_
            refine Chain.cons (StepOK.move .none (.tmp rfl (fun _ => trivial))) rfl ?_
            refine Chain.cons (StepOK.assign .none (.tmp rfl (fun _ => trivial))) rfl ?_
            refine Chain.nil ?_
            refine Ends.blkNormal ?_
            refine Ends.anon (t := 10) (g := 5004) rfl rfl trivial rfl ?_
            exact Ends.againL (some_eq h) (.cons (t := 11) rfl (.cons (t := 0) rfl (.cons (t := 7) rfl Sub.nil))) (.cons (t := 10) rfl SubB.nil)
        · replace h := bif_f h hb20
          refine Cod.exit ?_
          refine Ends.thenExit ?_
          refine Ends.thenExit ?_
          refine Ends.blkExit ?_
          refine Ends.anon (t := 10) (g := 5003) rfl rfl trivial rfl ?_
          replace h := hD19 _ (some_eq h)
          exact Ends.join _ (some_eq h) Sub.nil (.cons (t := 10) rfl SubB.nil)
      · subst hj18; have h := hK18; clear hK18
        refine Cod.nameRow (t := 10) (g := 5008) rfl rfl rfl (fun s5008 => ?_)
        refine Cod.seq ?_
        refine Cod.region [([], []), ([5008], [5008])] mixed (by kernel_rfl) ?_
        refine Chain.consA (StepOK.move .none (.tmp rfl (fun _ => trivial))) rfl ?_
        obtain ⟨r2, hv33, h⟩ := bind_some h
        refine Chain.consW (StepOK.callO [5008] (slices_Sort_int_ok hv33) (.cons (.tmp rfl (fun _ => trivial)) .nil) (.cons (k := 5008) rfl .nil) rfl (by decide) (by decide) (by intro d h; cases h; decide)) rfl rfl ?_
        refine Chain.nil ?_
        refine Ends.then ?_
        refine Cod.freezeRow (g := 5008) (ts := [10]) rfl (.cons (t := 10) rfl trivial .nil) SubB.nil rfl ?_
        refine Cod.seq ?_
        refine Cod.region [] mixed (by kernel_rfl) ?_
        refine Chain.cons (StepOK.move .none (.tmp rfl (fun _ => trivial))) rfl ?_
        refine Chain.cons (StepOK.assign .none (.tmp rfl (fun _ => trivial))) rfl ?_
        refine Chain.cons (StepOK.assign .none (.int (by decide))) rfl ?_
        refine Chain.nil ?_
        refine Ends.then ?_
        refine Cod.ret ?_
        obtain rfl := some_eq h
        exact Ends.ret2 (.inl rfl) Try.results51 (ResOK.tmp rfl trivial Imp.refl) (ResOK.tmp rfl trivial Imp.refl)

theorem law_is_int_ok {got1 : Int} {e1 : Int} {want1 : Int} {right1 : Option Int} {r : Bool}  (h : law_is_int got1 e1 want1 right1 = some r) : FSpec Try.prog 18 [rep got1, rep e1, rep want1, fn0 Try.prog (rep (α := Int)) right1] (rep r) := by
  unfold law_is_int at h
  refine FSpec.intro (n := 28) fnok18 Try.func18 rfl Try.ntmps18 rfl (fun F => ?_)
  refine Cod.seq ?_
  refine Cod.region [] mixed (by kernel_rfl) ?_
  refine Chain.cons (StepOK.assign .none .bool) rfl ?_
  refine Chain.nil ?_
  refine Ends.then ?_
  refine Cod.seq ?_
  refine Cod.region [] mixed (by kernel_rfl) ?_
  refine Chain.cons (StepOK.assign .none (.int (by decide))) rfl ?_
  refine Chain.nil ?_
  refine Ends.then ?_
  refine Cod.seq ?_
  refine Cod.seq ?_
  refine Cod.region [] mixed (by kernel_rfl) ?_
  refine Chain.cons (StepOK.move .none (.tmp rfl (fun _ => trivial))) rfl ?_
  refine Chain.cons (StepOK.neI .none (.tmp rfl (fun _ => trivial)) (.int (by decide))) rfl ?_
  refine Chain.nil ?_
  refine Ends.then ?_
  refine Cod.cond (t := 11) rfl trivial (fun hb1 => ?_) (fun hb1 => ?_)
  · replace h := bif_t h hb1
    refine Cod.seq ?_
    refine Cod.region [] mixed (by kernel_rfl) ?_
    refine Chain.cons (StepOK.move .none (.tmp rfl (fun _ => trivial))) rfl ?_
    refine Chain.cons (StepOK.move .none (.tmp rfl (fun _ => trivial))) rfl ?_
    refine Chain.cons (StepOK.eqI .none (.tmp rfl (fun _ => trivial)) (.tmp rfl (fun _ => trivial))) rfl ?_
    refine Chain.cons (StepOK.move .none (.tmp rfl (fun _ => trivial))) rfl ?_
    refine Chain.cons (StepOK.move (.at rfl rfl) (.tmp rfl (fun _ => trivial))) rfl ?_
    refine Chain.cons (StepOK.move (.at rfl rfl) (.tmp rfl (fun _ => trivial))) rfl ?_
    refine Chain.cons (StepOK.eqI (.at rfl rfl) (.tmp rfl id) (.tmp rfl id)) rfl ?_
    refine Chain.cons (StepOK.pickAnd .none (.tmp rfl (fun _ => trivial)) (.tmp rfl id)) rfl ?_
    refine Chain.cons (StepOK.assign .none (.tmp rfl (fun _ => trivial))) rfl ?_
    refine Chain.nil ?_
    refine Ends.then ?_
    refine Cod.ret ?_
    refine Ends.thenRet ?_
    obtain rfl := some_eq h
    exact Ends.ret1 (.inl rfl) Try.results18 (ResOK.tmp rfl trivial Imp.refl)
  · replace h := bif_f h hb1
    refine Cod.skip ?_
    refine Ends.then ?_
    refine Cod.seq ?_
    refine Cod.region [] mixed (by kernel_rfl) ?_
    refine Chain.cons (StepOK.move .none (.tmp rfl (fun _ => trivial))) rfl ?_
    refine Chain.cons (StepOK.eqI .none (.tmp rfl (fun _ => trivial)) (.int (by decide))) rfl ?_
    refine Chain.cons (StepOK.move .none (.tmp rfl (fun _ => trivial))) rfl ?_
    refine Chain.cons (StepOK.move (.at rfl rfl) (.tmp rfl (fun _ => trivial))) rfl ?_
    refine Chain.cons (StepOK.move (.at rfl rfl) (.tmp rfl (fun _ => trivial))) rfl ?_
    obtain ⟨r1, hv2, h⟩ := bind_some h
    refine Chain.cons (StepOK.callV _ (.at rfl rfl) (.tmp rfl id) (fun hg => gd_some hv2 (by simp [hg.2])) .nil) rfl ?_
    refine Chain.cons (StepOK.eqI (.at rfl rfl) (.tmp rfl id) (.tmp rfl id)) rfl ?_
    refine Chain.cons (StepOK.pickAnd .none (.tmp rfl (fun _ => trivial)) (.tmp rfl id)) rfl ?_
    refine Chain.cons (StepOK.assign .none (.tmp rfl (fun _ => trivial))) rfl ?_
    refine Chain.nil ?_
    refine Ends.then ?_
    refine Cod.ret ?_
    obtain rfl := some_eq h
    exact Ends.ret1 (.inl rfl) Try.results18 (ResOK.tmp rfl trivial Imp.refl)

theorem law_is_bool_ok {got1 : Bool} {e1 : Int} {want1 : Int} {right1 : Option Bool} {r : Bool}  (h : law_is_bool got1 e1 want1 right1 = some r) : FSpec Try.prog 47 [rep got1, rep e1, rep want1, fn0 Try.prog (rep (α := Bool)) right1] (rep r) := by
  unfold law_is_bool at h
  refine FSpec.intro (n := 28) fnok47 Try.func47 rfl Try.ntmps47 rfl (fun F => ?_)
  refine Cod.seq ?_
  refine Cod.region [] mixed (by kernel_rfl) ?_
  refine Chain.cons (StepOK.assign .none .bool) rfl ?_
  refine Chain.nil ?_
  refine Ends.then ?_
  refine Cod.seq ?_
  refine Cod.region [] mixed (by kernel_rfl) ?_
  refine Chain.cons (StepOK.assign .none .bool) rfl ?_
  refine Chain.nil ?_
  refine Ends.then ?_
  refine Cod.seq ?_
  refine Cod.seq ?_
  refine Cod.region [] mixed (by kernel_rfl) ?_
  refine Chain.cons (StepOK.move .none (.tmp rfl (fun _ => trivial))) rfl ?_
  refine Chain.cons (StepOK.neI .none (.tmp rfl (fun _ => trivial)) (.int (by decide))) rfl ?_
  refine Chain.nil ?_
  refine Ends.then ?_
  refine Cod.cond (t := 11) rfl trivial (fun hb1 => ?_) (fun hb1 => ?_)
  · replace h := bif_t h hb1
    refine Cod.seq ?_
    refine Cod.region [] mixed (by kernel_rfl) ?_
    refine Chain.cons (StepOK.move .none (.tmp rfl (fun _ => trivial))) rfl ?_
    refine Chain.cons (StepOK.move .none (.tmp rfl (fun _ => trivial))) rfl ?_
    refine Chain.cons (StepOK.eqS .none (eqAt_bool Try.underlying4) (.tmp rfl (fun _ => trivial)) (.tmp rfl (fun _ => trivial))) rfl ?_
    refine Chain.cons (StepOK.move .none (.tmp rfl (fun _ => trivial))) rfl ?_
    refine Chain.cons (StepOK.move (.at rfl rfl) (.tmp rfl (fun _ => trivial))) rfl ?_
    refine Chain.cons (StepOK.move (.at rfl rfl) (.tmp rfl (fun _ => trivial))) rfl ?_
    refine Chain.cons (StepOK.eqI (.at rfl rfl) (.tmp rfl id) (.tmp rfl id)) rfl ?_
    refine Chain.cons (StepOK.pickAnd .none (.tmp rfl (fun _ => trivial)) (.tmp rfl id)) rfl ?_
    refine Chain.cons (StepOK.assign .none (.tmp rfl (fun _ => trivial))) rfl ?_
    refine Chain.nil ?_
    refine Ends.then ?_
    refine Cod.ret ?_
    refine Ends.thenRet ?_
    obtain rfl := some_eq h
    exact Ends.ret1 (.inl rfl) Try.results47 (ResOK.tmp rfl trivial Imp.refl)
  · replace h := bif_f h hb1
    refine Cod.skip ?_
    refine Ends.then ?_
    refine Cod.seq ?_
    refine Cod.region [] mixed (by kernel_rfl) ?_
    refine Chain.cons (StepOK.move .none (.tmp rfl (fun _ => trivial))) rfl ?_
    refine Chain.cons (StepOK.eqI .none (.tmp rfl (fun _ => trivial)) (.int (by decide))) rfl ?_
    refine Chain.cons (StepOK.move .none (.tmp rfl (fun _ => trivial))) rfl ?_
    refine Chain.cons (StepOK.move (.at rfl rfl) (.tmp rfl (fun _ => trivial))) rfl ?_
    refine Chain.cons (StepOK.move (.at rfl rfl) (.tmp rfl (fun _ => trivial))) rfl ?_
    obtain ⟨r1, hv2, h⟩ := bind_some h
    refine Chain.cons (StepOK.callV _ (.at rfl rfl) (.tmp rfl id) (fun hg => gd_some hv2 (by simp [hg.2])) .nil) rfl ?_
    refine Chain.cons (StepOK.eqS (.at rfl rfl) (eqAt_bool Try.underlying4) (.tmp rfl id) (.tmp rfl id)) rfl ?_
    refine Chain.cons (StepOK.pickAnd .none (.tmp rfl (fun _ => trivial)) (.tmp rfl id)) rfl ?_
    refine Chain.cons (StepOK.assign .none (.tmp rfl (fun _ => trivial))) rfl ?_
    refine Chain.nil ?_
    refine Ends.then ?_
    refine Cod.ret ?_
    obtain rfl := some_eq h
    exact Ends.ret1 (.inl rfl) Try.results47 (ResOK.tmp rfl trivial Imp.refl)

theorem tree_leaves_ok {t1 : (List Branch)} {r : (List Int)}  (h : tree_leaves t1 = some r) : FSpec Try.prog 72 [rep t1] (rep r) := by
  unfold tree_leaves at h
  refine FSpec.intro (n := 62) fnok72 Try.func72 rfl Try.ntmps72 rfl (fun F => ?_)
  refine Cod.seq ?_
  refine Cod.region [] mixed (by kernel_rfl) ?_
  refine Chain.cons (StepOK.assign .none (.const (x := ([] : (List Int))) (fun M w => ⟨_, ⟨none, 0, rfl, Nat.le_refl _, by decide, rfl⟩, rfl⟩))) rfl ?_
  refine Chain.nil ?_
  refine Ends.then ?_
  refine Cod.seq ?_
  refine Cod.region [([], []), ([], []), ([], [12]), ([12], [3, 12])] mixed (by kernel_rfl) ?_
  refine Chain.consA (StepOK.move .none (.tmp rfl (fun _ => trivial))) rfl ?_
  obtain ⟨v1, hv1, h⟩ := bnd_some h
  refine Chain.consA (StepOK.re hv1 (StepOK.len .none sl56 (.tmp rfl (fun _ => trivial)))) rfl ?_
  obtain ⟨hn2, h⟩ := need_some h
  refine Chain.consW (StepOK.makeSlice rk23 zo3 rfl (.tmp rfl (fun _ => trivial)) (.tmp rfl (fun _ => trivial)) hn2) rfl rfl ?_
  refine Chain.consW (StepOK.passRow rfl (.tmp rfl)) rfl rfl ?_
  refine Chain.nil ?_
  refine Ends.then ?_
  obtain ⟨out1, hv3, h⟩ := bnd_some h
  refine Cod.reB (t := 3) rfl (congrArg (rowV 3) hv3) ?_
  refine Cod.nameRow (t := 3) (g := 5001) rfl rfl rfl (fun s5001 => ?_)
  refine Cod.seq ?_
  refine Cod.region [] mixed (by kernel_rfl) ?_
  refine Chain.cons (StepOK.move .none (.tmp rfl (fun _ => trivial))) rfl ?_
  obtain ⟨l1, hv4, h⟩ := bind_some h
  refine Chain.cons (StepOK.call .none (tree_levels_ok hv4) (.cons (.tmp rfl (fun _ => trivial)) .nil)) rfl ?_
  refine Chain.cons (StepOK.assign .none (.tmp rfl (fun _ => trivial))) rfl ?_
  refine Chain.nil ?_
  refine Ends.then ?_
  refine Cod.seq ?_
  refine Cod.seq ?_
  refine Cod.region [] mixed (by kernel_rfl) ?_
  refine Chain.cons (StepOK.move .none (.tmp rfl (fun _ => trivial))) rfl ?_
  refine Chain.cons (StepOK.len .none sl64 (.tmp rfl (fun _ => trivial))) rfl ?_
  refine Chain.cons (StepOK.subW .none (.tmp rfl (fun _ => trivial)) (.int (by decide))) rfl ?_
  obtain ⟨i1, hv5, h⟩ := bnd_some h
  refine Chain.cons (StepOK.re hv5 (StepOK.assign .none (.tmp rfl (fun _ => trivial)))) rfl ?_
  refine Chain.nil ?_
  refine Ends.then ?_
  obtain ⟨j_6, h, hK6⟩ := bind_some h
  refine Cod.thenJ (ι := (List Int)) (fun j_6 => []) (fun j_6 => [(5001, some (CPred.at s5001 (rowV 3 j_6)))]) (fun s => j_6 = s) (.cons (t := 3) rfl Sub.nil) SubB.nil ?_ (fun j_6' hj6 => ?_)
  · skip
    refine Cod.block ?_
    refine Cod.loopL h (fun s7_ => [(5, ⟨True, rep s7_.1⟩)]) (fun s7_ => [(5001, some (CPred.at s5001 (rowV 3 s7_.2)))]) (.cons (t := 5) rfl Sub.nil) (.cons (t := 5001) rfl SubB.nil) (.cons (t := 0) rfl (.cons (t := 3) rfl (.cons (t := 4) rfl Sub.nil))) SubB.nil (fun s7_ o_7 h hD7 => ?_)
    unfold tree_leaves_L1 at h
    refine Cod.seq ?_
    refine Cod.seq ?_
    refine Cod.region [] mixed (by kernel_rfl) ?_
    refine Chain.cons (StepOK.move .none (.tmp rfl (fun _ => trivial))) rfl ?_
    refine Chain.cons (StepOK.ge .none (.tmp rfl (fun _ => trivial)) (.int (by decide))) rfl ?_
    refine Chain.nil ?_
    refine Ends.then ?_
    refine Cod.cond (t := 19) rfl trivial (fun hb8 => ?_) (fun hb8 => ?_)
    · replace h := bif_t h hb8
      refine Cod.skip ?_
      refine Ends.then ?_
      refine Cod.seq ?_
      obtain ⟨j_9, h, hK9⟩ := bind_some h
      refine Cod.thenJ (ι := (List Int)) (fun j_9 => []) (fun j_9 => [(5001, some (CPred.at s5001 (rowV 3 j_9)))]) (fun s => j_9 = s) (.cons (t := 0) rfl (.cons (t := 3) rfl (.cons (t := 4) rfl (.cons (t := 5) rfl Sub.nil)))) SubB.nil ?_ (fun j_9' hj9 => ?_)
      · skip
        refine Cod.block ?_
        refine Cod.seq ?_
        refine Cod.region [] mixed (by kernel_rfl) ?_
        refine Chain.cons (StepOK.move .none (.tmp rfl (fun _ => trivial))) rfl ?_
        refine Chain.cons (StepOK.move .none (.tmp rfl (fun _ => trivial))) rfl ?_
        obtain ⟨hn10, h⟩ := need_some h
        refine Chain.cons (StepOK.indexAddr .none sl64 ty23 (.tmp rfl (fun _ => trivial)) (.tmp rfl (fun _ => trivial)) (fun _ => hn10)) rfl ?_
        obtain ⟨v2, hv11, h⟩ := bnd_some h
        refine Chain.cons (StepOK.re hv11 (StepOK.load .none ty23 (.tmp rfl (fun _ => trivial)))) rfl ?_
        refine Chain.cons (StepOK.len .none sl23 (.tmp rfl (fun _ => trivial))) rfl ?_
        refine Chain.cons (StepOK.move .none (.int (by decide))) rfl ?_
        refine Chain.nil ?_
        refine Ends.then ?_
        refine Cod.block ?_
        refine Cod.rforL h (fun p12_ => [(27, ⟨True, rep p12_.1⟩)]) (fun p12_ => [(5001, some (CPred.at s5001 (rowV 3 p12_.2)))]) (.cons (t := 27) rfl Sub.nil) (.cons (t := 5001) rfl SubB.nil) (.cons (t := 0) rfl (.cons (t := 3) rfl (.cons (t := 4) rfl (.cons (t := 5) rfl (.cons (t := 25) rfl (.cons (t := 26) rfl Sub.nil)))))) SubB.nil (fun p12_ o_12 h hD12 => ?_)
        refine Cod.seq ?_
        refine Cod.region [] mixed (by kernel_rfl) ?_
        refine Chain.cons (StepOK.lt .none (.tmp rfl (fun _ => trivial)) (.tmp rfl (fun _ => trivial))) rfl ?_
        refine Chain.nil ?_
        refine Ends.then ?_
        refine Cod.seq ?_
        refine Cod.cond (t := 28) rfl trivial (fun hb13 => ?_) (fun hb13 => ?_)
        · replace h := bif_t h hb13
          refine Cod.skip ?_
          refine Ends.then ?_
          refine Cod.seq ?_
          obtain ⟨j_14, h, hK14⟩ := bind_some h
          unfold tree_leaves_L2 at h
          refine Cod.thenJ (ι := (List Int)) (fun j_14 => []) (fun j_14 => [(5001, some (CPred.at s5001 (rowV 3 j_14)))]) (fun s => j_14 = s) (.cons (t := 0) rfl (.cons (t := 3) rfl (.cons (t := 4) rfl (.cons (t := 5) rfl (.cons (t := 25) rfl (.cons (t := 26) rfl (.cons (t := 27) rfl Sub.nil))))))) SubB.nil ?_ (fun j_14' hj14 => ?_)
          · skip
            refine Cod.block ?_
            refine Cod.seq ?_
            refine Cod.region [] mixed (by kernel_rfl) ?_
            obtain ⟨hn15, h⟩ := need_some h
            refine Chain.cons (StepOK.indexAddr .none sl23 ty3 (.tmp rfl (fun _ => trivial)) (.tmp rfl (fun _ => trivial)) (fun _ => hn15)) rfl ?_
            refine Chain.cons (StepOK.load .none ty3 (.tmp rfl (fun _ => trivial))) rfl ?_
            obtain ⟨k1, hv16, h⟩ := bnd_some h
            refine Chain.cons (StepOK.re hv16 (StepOK.assign .none (.tmp rfl (fun _ => trivial)))) rfl ?_
            refine Chain.nil ?_
            refine Ends.then ?_
            refine Cod.seq ?_
            refine Cod.seq ?_
            refine Cod.region [] mixed (by kernel_rfl) ?_
            refine Chain.cons (StepOK.move .none (.tmp rfl (fun _ => trivial))) rfl ?_
            refine Chain.cons (StepOK.move .none (.tmp rfl (fun _ => trivial))) rfl ?_
            obtain ⟨hn17, h⟩ := need_some h
            refine Chain.cons (StepOK.indexAddr .none sl56 ty67 (.tmp rfl (fun _ => trivial)) (.tmp rfl (fun _ => trivial)) (fun _ => hn17)) rfl ?_
            refine Chain.cons (StepOK.fieldAddr .none fd67_2 hfd67_2 (.tmp rfl (fun _ => trivial))) rfl ?_
            obtain ⟨v3, hv18, h⟩ := bnd_some h
            refine Chain.cons (StepOK.re hv18 (StepOK.load .none ty23 (.tmp rfl (fun _ => trivial)))) rfl ?_
            refine Chain.cons (StepOK.len .none sl23 (.tmp rfl (fun _ => trivial))) rfl ?_
            refine Chain.cons (StepOK.move .none (.int (by decide))) rfl ?_
            refine Chain.nil ?_
            refine Ends.then ?_
            obtain ⟨j_19, h, hK19⟩ := bind_some h
            refine Cod.thenJ (ι := (List Int)) (fun j_19 => []) (fun j_19 => [(5001, some (CPred.at s5001 (rowV 3 j_19)))]) (fun s => j_19 = s) (.cons (t := 0) rfl (.cons (t := 3) rfl (.cons (t := 4) rfl (.cons (t := 5) rfl (.cons (t := 7) rfl (.cons (t := 25) rfl (.cons (t := 26) rfl (.cons (t := 27) rfl Sub.nil)))))))) SubB.nil ?_ (fun j_19' hj19 => ?_)
            · skip
              refine Cod.block ?_
              refine Cod.rforL h (fun p20_ => [(37, ⟨True, rep p20_.1⟩)]) (fun p20_ => [(5001, some (CPred.at s5001 (rowV 3 p20_.2)))]) (.cons (t := 37) rfl Sub.nil) (.cons (t := 5001) rfl SubB.nil) (.cons (t := 0) rfl (.cons (t := 3) rfl (.cons (t := 4) rfl (.cons (t := 5) rfl (.cons (t := 7) rfl (.cons (t := 25) rfl (.cons (t := 26) rfl (.cons (t := 27) rfl (.cons (t := 35) rfl (.cons (t := 36) rfl Sub.nil)))))))))) SubB.nil (fun p20_ o_20 h hD20 => ?_)
              refine Cod.seq ?_
              refine Cod.region [] mixed (by kernel_rfl) ?_
              refine Chain.cons (StepOK.lt .none (.tmp rfl (fun _ => trivial)) (.tmp rfl (fun _ => trivial))) rfl ?_
              refine Chain.nil ?_
              refine Ends.then ?_
              refine Cod.seq ?_
              refine Cod.cond (t := 38) rfl trivial (fun hb21 => ?_) (fun hb21 => ?_)
              · replace h := bif_t h hb21
                refine Cod.skip ?_
                refine Ends.then ?_
                refine Cod.seq ?_
                obtain ⟨j_22, h, hK22⟩ := bind_some h
                unfold tree_leaves_L3 at h
                refine Cod.thenJ (ι := (List Int)) (fun j_22 => []) (fun j_22 => [(5001, some (CPred.at s5001 (rowV 3 j_22)))]) (fun s => j_22 = s) (.cons (t := 0) rfl (.cons (t := 3) rfl (.cons (t := 4) rfl (.cons (t := 5) rfl (.cons (t := 7) rfl (.cons (t := 25) rfl (.cons (t := 26) rfl (.cons (t := 27) rfl (.cons (t := 35) rfl (.cons (t := 36) rfl (.cons (t := 37) rfl Sub.nil))))))))))) SubB.nil ?_ (fun j_22' hj22 => ?_)
                · skip
                  refine Cod.block ?_
                  refine Cod.seq ?_
                  refine Cod.region [] mixed (by kernel_rfl) ?_
                  obtain ⟨hn23, h⟩ := need_some h
                  refine Chain.cons (StepOK.indexAddr .none sl23 ty3 (.tmp rfl (fun _ => trivial)) (.tmp rfl (fun _ => trivial)) (fun _ => hn23)) rfl ?_
                  refine Chain.cons (StepOK.load .none ty3 (.tmp rfl (fun _ => trivial))) rfl ?_
                  refine Chain.cons (StepOK.assign .none (.tmp rfl (fun _ => trivial))) rfl ?_
                  refine Chain.nil ?_
                  refine Ends.then ?_
                  refine Cod.region [([], []), ([], []), ([5001], []), ([5001], []), ([], []), ([], []), ([5001], []), ([5001], []), ([], []), ([5001], []), ([5001], [5001])] mixed (by kernel_rfl) ?_
                  refine Chain.consA (StepOK.move .none (.tmp rfl (fun _ => trivial))) rfl ?_
                  refine Chain.consA (StepOK.move .none (.tmp rfl (fun _ => trivial))) rfl ?_
                  obtain ⟨hn24, h⟩ := need_some h
                  refine Chain.consA (StepOK.indexAddrO (k := 5001) .none sl23 ty3 (.tmp rfl (fun _ => trivial)) rfl (.tmp rfl (fun _ => trivial)) (fun _ => hn24)) rfl ?_
                  refine Chain.consA (StepOK.loadElem0 (k := 5001) .none ty3 (.tmp rfl (fun _ => trivial)) rfl (fun _ => hn24)) rfl ?_
                  refine Chain.consA (StepOK.move .none (.tmp rfl (fun _ => trivial))) rfl ?_
                  refine Chain.consA (StepOK.move .none (.tmp rfl (fun _ => trivial))) rfl ?_
                  obtain ⟨hn25, h⟩ := need_some h
                  refine Chain.consA (StepOK.indexAddrO (k := 5001) .none sl23 ty3 (.tmp rfl (fun _ => trivial)) rfl (.tmp rfl (fun _ => trivial)) (fun _ => hn25)) rfl ?_
                  refine Chain.consA (StepOK.loadElem0 (k := 5001) .none ty3 (.tmp rfl (fun _ => trivial)) rfl (fun _ => hn25)) rfl ?_
                  obtain ⟨v4, hv26, h⟩ := bnd_some h
                  refine Chain.consA (StepOK.re hv26 (StepOK.addW .none (.tmp rfl (fun _ => trivial)) (.tmp rfl (fun _ => trivial)))) rfl ?_
                  obtain ⟨hn27, h⟩ := need_some h
                  refine Chain.consA (StepOK.indexAddrO (k := 5001) .none sl23 ty3 (.tmp rfl (fun _ => trivial)) rfl (.tmp rfl (fun _ => trivial)) (fun _ => hn27)) rfl ?_
                  refine Chain.consN (StepOK.storeElem0 (k := 5001) ty3 (.tmp rfl (fun _ => trivial)) rfl (.tmp rfl (fun _ => trivial)) hn27) rfl ?_
                  refine Chain.nil ?_
                  refine Ends.blkNormal ?_
                  exact Ends.join _ (some_eq h) (.cons (t := 0) rfl (.cons (t := 3) rfl (.cons (t := 4) rfl (.cons (t := 5) rfl (.cons (t := 7) rfl (.cons (t := 25) rfl (.cons (t := 26) rfl (.cons (t := 27) rfl (.cons (t := 35) rfl (.cons (t := 36) rfl (.cons (t := 37) rfl Sub.nil))))))))))) (.cons (t := 5001) rfl SubB.nil)
                · subst hj22; have h := hK22; clear hK22
                  refine Cod.region [] mixed (by kernel_rfl) ?_
                  refine Chain.cons (StepOK.addW .none (.tmp rfl (fun _ => trivial)) (.int (by decide))) rfl ?_
                  refine Chain.cons (StepOK.move .none (.tmp rfl (fun _ => trivial))) rfl ?_
                  refine Chain.nil ?_
                  exact Ends.againL (some_eq h) (.cons (t := 37) rfl (.cons (t := 0) rfl (.cons (t := 3) rfl (.cons (t := 4) rfl (.cons (t := 5) rfl (.cons (t := 7) rfl (.cons (t := 25) rfl (.cons (t := 26) rfl (.cons (t := 27) rfl (.cons (t := 35) rfl (.cons (t := 36) rfl Sub.nil))))))))))) (.cons (t := 5001) rfl SubB.nil)
              · replace h := bif_f h hb21
                refine Cod.exit ?_
                refine Ends.thenExit ?_
                refine Ends.thenExit ?_
                refine Ends.blkExit ?_
                replace h := hD20 _ (some_eq h)
                exact Ends.join _ (some_eq h) (.cons (t := 0) rfl (.cons (t := 3) rfl (.cons (t := 4) rfl (.cons (t := 5) rfl (.cons (t := 7) rfl (.cons (t := 25) rfl (.cons (t := 26) rfl (.cons (t := 27) rfl Sub.nil)))))))) (.cons (t := 5001) rfl SubB.nil)
            · subst hj19; have h := hK19; clear hK19
              refine Cod.region [([], []), ([], []), ([], []), ([], []), ([5001], []), ([5001], []), ([], []), ([5001], []), ([5001], [5001])] mixed (by kernel_rfl) ?_
              refine Chain.consA (StepOK.move .none (.tmp rfl (fun _ => trivial))) rfl ?_
              refine Chain.consA (StepOK.move .none (.tmp rfl (fun _ => trivial))) rfl ?_
              refine Chain.consA (StepOK.move .none (.tmp rfl (fun _ => trivial))) rfl ?_
              refine Chain.consA (StepOK.move .none (.tmp rfl (fun _ => trivial))) rfl ?_
              obtain ⟨hn28, h⟩ := need_some h
              refine Chain.consA (StepOK.indexAddrO (k := 5001) .none sl23 ty3 (.tmp rfl (fun _ => trivial)) rfl (.tmp rfl (fun _ => trivial)) (fun _ => hn28)) rfl ?_
              refine Chain.consA (StepOK.loadElem0 (k := 5001) .none ty3 (.tmp rfl (fun _ => trivial)) rfl (fun _ => hn28)) rfl ?_
              obtain ⟨v5, hv29, h⟩ := bnd_some h
              refine Chain.consA (StepOK.re hv29 (StepOK.max2 .none (.tmp rfl (fun _ => trivial)) (.int (by decide)))) rfl ?_
              obtain ⟨hn30, h⟩ := need_some h
              refine Chain.consA (StepOK.indexAddrO (k := 5001) .none sl23 ty3 (.tmp rfl (fun _ => trivial)) rfl (.tmp rfl (fun _ => trivial)) (fun _ => hn30)) rfl ?_
              refine Chain.consN (StepOK.storeElem0 (k := 5001) ty3 (.tmp rfl (fun _ => trivial)) rfl (.tmp rfl (fun _ => trivial)) hn30) rfl ?_
              refine Chain.nil ?_
              refine Ends.blkNormal ?_
              exact Ends.join _ (some_eq h) (.cons (t := 0) rfl (.cons (t := 3) rfl (.cons (t := 4) rfl (.cons (t := 5) rfl (.cons (t := 25) rfl (.cons (t := 26) rfl (.cons (t := 27) rfl Sub.nil))))))) (.cons (t := 5001) rfl SubB.nil)
          · subst hj14; have h := hK14; clear hK14
            refine Cod.region [] mixed (by kernel_rfl) ?_
            refine Chain.cons (StepOK.addW .none (.tmp rfl (fun _ => trivial)) (.int (by decide))) rfl ?_
            refine Chain.cons (StepOK.move .none (.tmp rfl (fun _ => trivial))) rfl ?_
            refine Chain.nil ?_
            exact Ends.againL (some_eq h) (.cons (t := 27) rfl (.cons (t := 0) rfl (.cons (t := 3) rfl (.cons (t := 4) rfl (.cons (t := 5) rfl (.cons (t := 25) rfl (.cons (t := 26) rfl Sub.nil))))))) (.cons (t := 5001) rfl SubB.nil)
        · replace h := bif_f h hb13
          refine Cod.exit ?_
          refine Ends.thenExit ?_
          refine Ends.thenExit ?_
          refine Ends.blkExit ?_
          refine Ends.blkNormal ?_
          replace h := hD12 _ (some_eq h)
          exact Ends.join _ (some_eq h) (.cons (t := 0) rfl (.cons (t := 3) rfl (.cons (t := 4) rfl (.cons (t := 5) rfl Sub.nil)))) (.cons (t := 5001) rfl SubB.nil)
      · subst hj9; have h := hK9; clear hK9
        refine Cod.region [] mixed (by kernel_rfl) ?_
        refine Chain.cons (StepOK.move .none (.tmp rfl (fun _ => trivial))) rfl ?_
        refine Chain.cons (StepOK.subW .none (.tmp rfl (fun _ => trivial)) (.int (by decide))) rfl ?_
        obtain ⟨i2, hv31, h⟩ := bnd_some h
        refine Chain.cons (StepOK.re hv31 (StepOK.assign .none (.tmp rfl (fun _ => trivial)))) rfl ?_
        refine Chain.nil ?_
        exact Ends.againL (some_eq h) (.cons (t := 5) rfl (.cons (t := 0) rfl (.cons (t := 3) rfl (.cons (t := 4) rfl Sub.nil)))) (.cons (t := 5001) rfl SubB.nil)
    · replace h := bif_f h hb8
      refine Cod.exit ?_
      refine Ends.thenExit ?_
      refine Ends.thenExit ?_
      refine Ends.blkExit ?_
      replace h := hD7 _ (some_eq h)
      exact Ends.join _ (some_eq h) (.cons (t := 3) rfl Sub.nil) (.cons (t := 5001) rfl SubB.nil)
  · subst hj6; have h := hK6; clear hK6
    refine Cod.freezeRow (g := 5001) (ts := [3]) rfl (.cons (t := 3) rfl trivial .nil) SubB.nil rfl ?_
    refine Cod.seq ?_
    refine Cod.region [] mixed (by kernel_rfl) ?_
    refine Chain.cons (StepOK.move .none (.tmp rfl (fun _ => trivial))) rfl ?_
    refine Chain.cons (StepOK.assign .none (.tmp rfl (fun _ => trivial))) rfl ?_
    refine Chain.nil ?_
    refine Ends.then ?_
    refine Cod.ret ?_
    obtain rfl := some_eq h
    exact Ends.ret1 (.inl rfl) Try.results72 (ResOK.tmp rfl trivial Imp.refl)

theorem tree_Halves_ok {t1 : (List Branch)} {r : (Int × Int)}  (h : tree_Halves t1 = some r) : FSpec Try.prog 46 [rep t1] (tup [rep r.1, rep r.2]) := by
  unfold tree_Halves at h
  refine FSpec.intro (n := 72) fnok46 Try.func46 rfl Try.ntmps46 rfl (fun F => ?_)
  refine Cod.seq ?_
  refine Cod.region [] mixed (by kernel_rfl) ?_
  refine Chain.cons (StepOK.assign .none (.int (by decide))) rfl ?_
  refine Chain.cons (StepOK.assign .none (.int (by decide))) rfl ?_
  refine Chain.nil ?_
  refine Ends.then ?_
  refine Cod.seq ?_
  refine Cod.seq ?_
  refine Cod.region [] mixed (by kernel_rfl) ?_
  refine Chain.cons (StepOK.move .none (.tmp rfl (fun _ => trivial))) rfl ?_
  obtain ⟨e1, hv1, h⟩ := bind_some h
  refine Chain.cons (StepOK.call .none (tree_Check_ok hv1) (.cons (.tmp rfl (fun _ => trivial)) .nil)) rfl ?_
  refine Chain.cons (StepOK.assign .none (.tmp rfl (fun _ => trivial))) rfl ?_
  refine Chain.nil ?_
  refine Ends.then ?_
  refine Cod.seq ?_
  refine Cod.region [] mixed (by kernel_rfl) ?_
  refine Chain.cons (StepOK.move .none (.tmp rfl (fun _ => trivial))) rfl ?_
  refine Chain.cons (StepOK.neI .none (.tmp rfl (fun _ => trivial)) (.int (by decide))) rfl ?_
  refine Chain.nil ?_
  refine Ends.then ?_
  refine Cod.cond (t := 18) rfl trivial (fun hb2 => ?_) (fun hb2 => ?_)
  · replace h := bif_t h hb2
    refine Cod.seq ?_
    refine Cod.region [] mixed (by kernel_rfl) ?_
    refine Chain.cons (StepOK.move .none (.tmp rfl (fun _ => trivial))) rfl ?_
    refine Chain.cons (StepOK.assign .none (.int (by decide))) rfl ?_
    refine Chain.cons (StepOK.assign .none (.tmp rfl (fun _ => trivial))) rfl ?_
    refine Chain.nil ?_
    refine Ends.then ?_
    refine Cod.ret ?_
    refine Ends.thenRet ?_
    obtain rfl := some_eq h
    exact Ends.ret2 (.inl rfl) Try.results46 (ResOK.tmp rfl trivial Imp.refl) (ResOK.tmp rfl trivial Imp.refl)
  · replace h := bif_f h hb2
    refine Cod.skip ?_
    refine Ends.then ?_
    refine Cod.seq ?_
    refine Cod.region [] mixed (by kernel_rfl) ?_
    refine Chain.cons (StepOK.move .none (.tmp rfl (fun _ => trivial))) rfl ?_
    obtain ⟨l1, hv3, h⟩ := bind_some h
    refine Chain.cons (StepOK.call .none (tree_leaves_ok hv3) (.cons (.tmp rfl (fun _ => trivial)) .nil)) rfl ?_
    refine Chain.cons (StepOK.assign .none (.tmp rfl (fun _ => trivial))) rfl ?_
    refine Chain.nil ?_
    refine Ends.then ?_
    refine Cod.seq ?_
    refine Cod.region [] mixed (by kernel_rfl) ?_
    refine Chain.cons (StepOK.assign .none (.int (by decide))) rfl ?_
    refine Chain.nil ?_
    refine Ends.then ?_
    refine Cod.seq ?_
    refine Cod.seq ?_
    refine Cod.region [] mixed (by kernel_rfl) ?_
    refine Chain.cons (StepOK.move .none (.tmp rfl (fun _ => trivial))) rfl ?_
    obtain ⟨hn4, h⟩ := need_some h
    refine Chain.cons (StepOK.indexAddr .none sl56 ty67 (.tmp rfl (fun _ => trivial)) (.int (by decide)) (fun _ => hn4)) rfl ?_
    refine Chain.cons (StepOK.fieldAddr .none fd67_2 hfd67_2 (.tmp rfl (fun _ => trivial))) rfl ?_
    obtain ⟨v1, hv5, h⟩ := bnd_some h
    refine Chain.cons (StepOK.re hv5 (StepOK.load .none ty23 (.tmp rfl (fun _ => trivial)))) rfl ?_
    refine Chain.cons (StepOK.len .none sl23 (.tmp rfl (fun _ => trivial))) rfl ?_
    refine Chain.cons (StepOK.move .none (.int (by decide))) rfl ?_
    refine Chain.nil ?_
    refine Ends.then ?_
    obtain ⟨j_6, h, hK6⟩ := bind_some h
    refine Cod.thenJ (ι := Int) (fun j_6 => [(6, ⟨True, rep j_6⟩)]) (fun j_6 => []) (fun s => j_6 = s) (.cons (t := 0) rfl (.cons (t := 5) rfl Sub.nil)) SubB.nil ?_ (fun j_6' hj6 => ?_)
    · skip
      refine Cod.block ?_
      refine Cod.rforL h (fun p7_ => [(27, ⟨True, rep p7_.1⟩), (6, ⟨True, rep p7_.2⟩)]) (fun p7_ => []) (.cons (t := 27) rfl (.cons (t := 6) rfl Sub.nil)) SubB.nil (.cons (t := 0) rfl (.cons (t := 5) rfl (.cons (t := 25) rfl (.cons (t := 26) rfl Sub.nil)))) SubB.nil (fun p7_ o_7 h hD7 => ?_)
      refine Cod.seq ?_
      refine Cod.region [] mixed (by kernel_rfl) ?_
      refine Chain.cons (StepOK.lt .none (.tmp rfl (fun _ => trivial)) (.tmp rfl (fun _ => trivial))) rfl ?_
      refine Chain.nil ?_
      refine Ends.then ?_
      refine Cod.seq ?_
      refine Cod.cond (t := 28) rfl trivial (fun hb8 => ?_) (fun hb8 => ?_)
      · replace h := bif_t h hb8
        refine Cod.skip ?_
        refine Ends.then ?_
        refine Cod.seq ?_
        obtain ⟨j_9, h, hK9⟩ := bind_some h
        unfold tree_Halves_L1 at h
        refine Cod.thenJ (ι := Int) (fun j_9 => [(6, ⟨True, rep j_9⟩)]) (fun j_9 => []) (fun s => j_9 = s) (.cons (t := 0) rfl (.cons (t := 5) rfl (.cons (t := 25) rfl (.cons (t := 26) rfl (.cons (t := 27) rfl Sub.nil))))) SubB.nil ?_ (fun j_9' hj9 => ?_)
        · skip
          refine Cod.block ?_
          refine Cod.seq ?_
          refine Cod.region [] mixed (by kernel_rfl) ?_
          obtain ⟨hn10, h⟩ := need_some h
          refine Chain.cons (StepOK.indexAddr .none sl23 ty3 (.tmp rfl (fun _ => trivial)) (.tmp rfl (fun _ => trivial)) (fun _ => hn10)) rfl ?_
          refine Chain.cons (StepOK.load .none ty3 (.tmp rfl (fun _ => trivial))) rfl ?_
          refine Chain.cons (StepOK.assign .none (.tmp rfl (fun _ => trivial))) rfl ?_
          refine Chain.nil ?_
          refine Ends.then ?_
          refine Cod.region [] mixed (by kernel_rfl) ?_
          refine Chain.cons (StepOK.move .none (.tmp rfl (fun _ => trivial))) rfl ?_
          refine Chain.cons (StepOK.move .none (.tmp rfl (fun _ => trivial))) rfl ?_
          refine Chain.cons (StepOK.move .none (.tmp rfl (fun _ => trivial))) rfl ?_
          obtain ⟨hn11, h⟩ := need_some h
          refine Chain.cons (StepOK.indexAddr .none sl23 ty3 (.tmp rfl (fun _ => trivial)) (.tmp rfl (fun _ => trivial)) (fun _ => hn11)) rfl ?_
          refine Chain.cons (StepOK.load .none ty3 (.tmp rfl (fun _ => trivial))) rfl ?_
          refine Chain.cons (StepOK.addW .none (.tmp rfl (fun _ => trivial)) (.tmp rfl (fun _ => trivial))) rfl ?_
          obtain ⟨all1, hv12, h⟩ := bnd_some h
          refine Chain.cons (StepOK.re hv12 (StepOK.assign .none (.tmp rfl (fun _ => trivial)))) rfl ?_
          refine Chain.nil ?_
          refine Ends.blkNormal ?_
          exact Ends.join _ (some_eq h) (.cons (t := 6) rfl (.cons (t := 0) rfl (.cons (t := 5) rfl (.cons (t := 25) rfl (.cons (t := 26) rfl (.cons (t := 27) rfl Sub.nil)))))) SubB.nil
        · subst hj9; have h := hK9; clear hK9
          refine Cod.region [] mixed (by kernel_rfl) ?_
          refine Chain.cons (StepOK.addW .none (.tmp rfl (fun _ => trivial)) (.int (by decide))) rfl ?_
          refine Chain.cons (StepOK.move .none (.tmp rfl (fun _ => trivial))) rfl ?_
          refine Chain.nil ?_
          exact Ends.againL (some_eq h) (.cons (t := 27) rfl (.cons (t := 6) rfl (.cons (t := 0) rfl (.cons (t := 5) rfl (.cons (t := 25) rfl (.cons (t := 26) rfl Sub.nil)))))) SubB.nil
      · replace h := bif_f h hb8
        refine Cod.exit ?_
        refine Ends.thenExit ?_
        refine Ends.thenExit ?_
        refine Ends.blkExit ?_
        replace h := hD7 _ (some_eq h)
        exact Ends.join _ (some_eq h) (.cons (t := 6) rfl (.cons (t := 0) rfl (.cons (t := 5) rfl Sub.nil))) SubB.nil
    · subst hj6; have h := hK6; clear hK6
      refine Cod.seq ?_
      refine Cod.region [] mixed (by kernel_rfl) ?_
      refine Chain.cons (StepOK.move .none (.tmp rfl (fun _ => trivial))) rfl ?_
      refine Chain.cons (StepOK.assign .none (.int (by decide))) rfl ?_
      refine Chain.cons (StepOK.assign .none (.tmp rfl (fun _ => trivial))) rfl ?_
      refine Chain.cons (StepOK.assign .none (.int (by decide))) rfl ?_
      refine Chain.nil ?_
      refine Ends.then ?_
      refine Cod.seq ?_
      refine Cod.seq ?_
      refine Cod.region [] mixed (by kernel_rfl) ?_
      refine Chain.cons (StepOK.move .none (.tmp rfl (fun _ => trivial))) rfl ?_
      obtain ⟨hn13, h⟩ := need_some h
      refine Chain.cons (StepOK.indexAddr .none sl56 ty67 (.tmp rfl (fun _ => trivial)) (.int (by decide)) (fun _ => hn13)) rfl ?_
      refine Chain.cons (StepOK.fieldAddr .none fd67_2 hfd67_2 (.tmp rfl (fun _ => trivial))) rfl ?_
      obtain ⟨v2, hv14, h⟩ := bnd_some h
      refine Chain.cons (StepOK.re hv14 (StepOK.load .none ty23 (.tmp rfl (fun _ => trivial)))) rfl ?_
      refine Chain.cons (StepOK.len .none sl23 (.tmp rfl (fun _ => trivial))) rfl ?_
      refine Chain.cons (StepOK.move .none (.int (by decide))) rfl ?_
      refine Chain.nil ?_
      refine Ends.then ?_
      obtain ⟨j_15, h, hK15⟩ := bind_some h
      refine Cod.thenJ (ι := (Int × Int × Int)) (fun j_15 => [(9, ⟨True, rep j_15.1⟩), (10, ⟨True, rep j_15.2.1⟩), (11, ⟨True, rep j_15.2.2⟩)]) (fun j_15 => []) (fun s => j_15 = s) Sub.nil SubB.nil ?_ (fun j_15' hj15 => ?_)
      · skip
        refine Cod.block ?_
        refine Cod.rforL h (fun p16_ => [(44, ⟨True, rep p16_.1⟩), (9, ⟨True, rep p16_.2.1⟩), (10, ⟨True, rep p16_.2.2.1⟩), (11, ⟨True, rep p16_.2.2.2⟩)]) (fun p16_ => []) (.cons (t := 44) rfl (.cons (t := 9) rfl (.cons (t := 10) rfl (.cons (t := 11) rfl Sub.nil)))) SubB.nil (.cons (t := 5) rfl (.cons (t := 6) rfl (.cons (t := 42) rfl (.cons (t := 43) rfl Sub.nil)))) SubB.nil (fun p16_ o_16 h hD16 => ?_)
        refine Cod.seq ?_
        refine Cod.region [] mixed (by kernel_rfl) ?_
        refine Chain.cons (StepOK.lt .none (.tmp rfl (fun _ => trivial)) (.tmp rfl (fun _ => trivial))) rfl ?_
        refine Chain.nil ?_
        refine Ends.then ?_
        refine Cod.seq ?_
        refine Cod.cond (t := 45) rfl trivial (fun hb17 => ?_) (fun hb17 => ?_)
        · replace h := bif_t h hb17
          refine Cod.skip ?_
          refine Ends.then ?_
          refine Cod.seq ?_
          obtain ⟨j_18, h, hK18⟩ := bind_some h
          unfold tree_Halves_L2 at h
          refine Cod.thenJ (ι := (Int × Int × Int)) (fun j_18 => [(9, ⟨True, rep j_18.1⟩), (10, ⟨True, rep j_18.2.1⟩), (11, ⟨True, rep j_18.2.2⟩)]) (fun j_18 => []) (fun s => j_18 = s) (.cons (t := 5) rfl (.cons (t := 6) rfl (.cons (t := 42) rfl (.cons (t := 43) rfl (.cons (t := 44) rfl Sub.nil))))) SubB.nil ?_ (fun j_18' hj18 => ?_)
          · skip
            refine Cod.block ?_
            refine Cod.seq ?_
            refine Cod.region [] mixed (by kernel_rfl) ?_
            refine Chain.cons (StepOK.move .none (.tmp rfl (fun _ => trivial))) rfl ?_
            obtain ⟨hn19, h⟩ := need_some h
            refine Chain.cons (StepOK.indexAddr .none sl23 ty3 (.tmp rfl (fun _ => trivial)) (.tmp rfl (fun _ => trivial)) (fun _ => hn19)) rfl ?_
            refine Chain.cons (StepOK.load .none ty3 (.tmp rfl (fun _ => trivial))) rfl ?_
            refine Chain.cons (StepOK.assign .none (.tmp rfl (fun _ => trivial))) rfl ?_
            refine Chain.cons (StepOK.assign .none (.tmp rfl (fun _ => trivial))) rfl ?_
            refine Chain.nil ?_
            refine Ends.then ?_
            refine Cod.seq ?_
            refine Cod.region [] mixed (by kernel_rfl) ?_
            refine Chain.cons (StepOK.move .none (.tmp rfl (fun _ => trivial))) rfl ?_
            refine Chain.cons (StepOK.move .none (.tmp rfl (fun _ => trivial))) rfl ?_
            refine Chain.cons (StepOK.move .none (.tmp rfl (fun _ => trivial))) rfl ?_
            obtain ⟨hn20, h⟩ := need_some h
            refine Chain.cons (StepOK.indexAddr .none sl23 ty3 (.tmp rfl (fun _ => trivial)) (.tmp rfl (fun _ => trivial)) (fun _ => hn20)) rfl ?_
            refine Chain.cons (StepOK.load .none ty3 (.tmp rfl (fun _ => trivial))) rfl ?_
            refine Chain.cons (StepOK.addW .none (.tmp rfl (fun _ => trivial)) (.tmp rfl (fun _ => trivial))) rfl ?_
            obtain ⟨left1, hv21, h⟩ := bnd_some h
            refine Chain.cons (StepOK.re hv21 (StepOK.assign .none (.tmp rfl (fun _ => trivial)))) rfl ?_
            refine Chain.nil ?_
            refine Ends.then ?_
            refine Cod.seq ?_
            refine Cod.region [] mixed (by kernel_rfl) ?_
            refine Chain.cons (StepOK.move .none (.tmp rfl (fun _ => trivial))) rfl ?_
            refine Chain.cons (StepOK.mulW .none (.int (by decide)) (.tmp rfl (fun _ => trivial))) rfl ?_
            refine Chain.cons (StepOK.move .none (.tmp rfl (fun _ => trivial))) rfl ?_
            refine Chain.cons (StepOK.subW .none (.tmp rfl (fun _ => trivial)) (.tmp rfl (fun _ => trivial))) rfl ?_
            refine Chain.cons (StepOK.move .none (.tmp rfl (fun _ => trivial))) rfl ?_
            refine Chain.cons (StepOK.move .none (.tmp rfl (fun _ => trivial))) rfl ?_
            refine Chain.cons (StepOK.mulW .none (.int (by decide)) (.tmp rfl (fun _ => trivial))) rfl ?_
            refine Chain.cons (StepOK.subW .none (.tmp rfl (fun _ => trivial)) (.tmp rfl (fun _ => trivial))) rfl ?_
            refine Chain.cons (StepOK.max2 .none (.tmp rfl (fun _ => trivial)) (.tmp rfl (fun _ => trivial))) rfl ?_
            obtain ⟨d1, hv22, h⟩ := bnd_some h
            refine Chain.cons (StepOK.re hv22 (StepOK.assign .none (.tmp rfl (fun _ => trivial)))) rfl ?_
            refine Chain.nil ?_
            refine Ends.then ?_
            refine Cod.seq ?_
            refine Cod.region [] mixed (by kernel_rfl) ?_
            refine Chain.cons (StepOK.move .none (.tmp rfl (fun _ => trivial))) rfl ?_
            refine Chain.cons (StepOK.move .none (.tmp rfl (fun _ => trivial))) rfl ?_
            refine Chain.cons (StepOK.lt .none (.tmp rfl (fun _ => trivial)) (.tmp rfl (fun _ => trivial))) rfl ?_
            refine Chain.nil ?_
            refine Ends.then ?_
            refine Cod.cond (t := 66) rfl trivial (fun hb23 => ?_) (fun hb23 => ?_)
            · replace h := bif_t h hb23
              refine Cod.region [] mixed (by kernel_rfl) ?_
              refine Chain.cons (StepOK.move .none (.tmp rfl (fun _ => trivial))) rfl ?_
              refine Chain.cons (StepOK.addW .none (.tmp rfl (fun _ => trivial)) (.int (by decide))) rfl ?_
              refine Chain.cons (StepOK.move .none (.tmp rfl (fun _ => trivial))) rfl ?_
              refine Chain.cons (StepOK.assign .none (.tmp rfl (fun _ => trivial))) rfl ?_
              refine Chain.cons (StepOK.assign .none (.tmp rfl (fun _ => trivial))) rfl ?_
              refine Chain.nil ?_
              refine Ends.blkNormal ?_
              exact Ends.join _ (some_eq h) (.cons (t := 9) rfl (.cons (t := 10) rfl (.cons (t := 11) rfl (.cons (t := 5) rfl (.cons (t := 6) rfl (.cons (t := 42) rfl (.cons (t := 43) rfl (.cons (t := 44) rfl Sub.nil)))))))) SubB.nil
            · replace h := bif_f h hb23
              refine Cod.skip ?_
              refine Ends.blkNormal ?_
              exact Ends.join _ (some_eq h) (.cons (t := 9) rfl (.cons (t := 10) rfl (.cons (t := 11) rfl (.cons (t := 5) rfl (.cons (t := 6) rfl (.cons (t := 42) rfl (.cons (t := 43) rfl (.cons (t := 44) rfl Sub.nil)))))))) SubB.nil
          · subst hj18; have h := hK18; clear hK18
            refine Cod.region [] mixed (by kernel_rfl) ?_
            refine Chain.cons (StepOK.addW .none (.tmp rfl (fun _ => trivial)) (.int (by decide))) rfl ?_
            refine Chain.cons (StepOK.move .none (.tmp rfl (fun _ => trivial))) rfl ?_
            refine Chain.nil ?_
            exact Ends.againL (some_eq h) (.cons (t := 44) rfl (.cons (t := 9) rfl (.cons (t := 10) rfl (.cons (t := 11) rfl (.cons (t := 5) rfl (.cons (t := 6) rfl (.cons (t := 42) rfl (.cons (t := 43) rfl Sub.nil)))))))) SubB.nil
        · replace h := bif_f h hb17
          refine Cod.exit ?_
          refine Ends.thenExit ?_
          refine Ends.thenExit ?_
          refine Ends.blkExit ?_
          replace h := hD16 _ (some_eq h)
          exact Ends.join _ (some_eq h) (.cons (t := 9) rfl (.cons (t := 10) rfl (.cons (t := 11) rfl Sub.nil))) SubB.nil
      · subst hj15; have h := hK15; clear hK15
        refine Cod.seq ?_
        refine Cod.region [] mixed (by kernel_rfl) ?_
        refine Chain.cons (StepOK.move .none (.tmp rfl (fun _ => trivial))) rfl ?_
        refine Chain.cons (StepOK.assign .none (.tmp rfl (fun _ => trivial))) rfl ?_
        refine Chain.cons (StepOK.assign .none (.int (by decide))) rfl ?_
        refine Chain.nil ?_
        refine Ends.then ?_
        refine Cod.ret ?_
        obtain rfl := some_eq h
        exact Ends.ret2 (.inl rfl) Try.results46 (ResOK.tmp rfl trivial Imp.refl) (ResOK.tmp rfl trivial Imp.refl)

theorem tree_same_okS {self : ((List Branch) × Int × Int) → Option Bool} (hself : ∀  (x : ((List Branch) × Int × Int)) (r : Bool), self x = some r → FSpec Try.prog 75 [rep x.1, rep x.2.1, rep x.2.2] (rep r))  {x : ((List Branch) × Int × Int)} {r : Bool} (h : tree_same_body self x = some r) : FSpec Try.prog 75 [rep x.1, rep x.2.1, rep x.2.2] (rep r) := by
  unfold tree_same_body at h
  refine FSpec.intro (n := 59) fnok75 Try.func75 rfl Try.ntmps75 rfl (fun F => ?_)
  refine Cod.seq ?_
  refine Cod.region [] mixed (by kernel_rfl) ?_
  refine Chain.cons (StepOK.assign .none .bool) rfl ?_
  refine Chain.nil ?_
  refine Ends.then ?_
  refine Cod.seq ?_
  refine Cod.region [([], []), ([], []), ([], []), ([], []), ([], []), ([], []), ([], []), ([], []), ([], [7]), ([], [8]), ([7], [7]), ([8], [8])] mixed (by kernel_rfl) ?_
  refine Chain.consA (StepOK.move .none (.tmp rfl (fun _ => trivial))) rfl ?_
  refine Chain.consA (StepOK.move .none (.tmp rfl (fun _ => trivial))) rfl ?_
  obtain ⟨hn1, h⟩ := need_some h
  refine Chain.consA (StepOK.indexAddr .none sl56 ty67 (.tmp rfl (fun _ => trivial)) (.tmp rfl (fun _ => trivial)) (fun _ => hn1)) rfl ?_
  obtain ⟨v1, hv2, h⟩ := bnd_some h
  refine Chain.consA (StepOK.re hv2 (StepOK.load .none ty67 (.tmp rfl (fun _ => trivial)))) rfl ?_
  refine Chain.consA (StepOK.move .none (.tmp rfl (fun _ => trivial))) rfl ?_
  refine Chain.consA (StepOK.move .none (.tmp rfl (fun _ => trivial))) rfl ?_
  obtain ⟨hn3, h⟩ := need_some h
  refine Chain.consA (StepOK.indexAddr .none sl56 ty67 (.tmp rfl (fun _ => trivial)) (.tmp rfl (fun _ => trivial)) (fun _ => hn3)) rfl ?_
  obtain ⟨v2, hv4, h⟩ := bnd_some h
  refine Chain.consA (StepOK.re hv4 (StepOK.load .none ty67 (.tmp rfl (fun _ => trivial)))) rfl ?_
  refine Chain.consW (StepOK.alloc zo67 rfl) rfl rfl ?_
  refine Chain.consW (StepOK.alloc zo67 rfl) rfl rfl ?_
  refine Chain.consN (StepOK.store ty67 rfl rfl (.tmp rfl (fun _ => trivial))) rfl ?_
  refine Chain.consN (StepOK.store ty67 rfl rfl (.tmp rfl (fun _ => trivial))) rfl ?_
  refine Chain.nil ?_
  refine Ends.then ?_
  refine Cod.freeze (t := 7) rfl rfl (.cons (t := 8) rfl SubB.nil) rfl ?_
  refine Cod.freeze (t := 8) rfl rfl SubB.nil rfl ?_
  refine Cod.seq ?_
  refine Cod.seq ?_
  refine Cod.region [] mixed (by kernel_rfl) ?_
  refine Chain.cons (StepOK.fieldAddr .none fd67_0 hfd67_0 (.tmp rfl (fun _ => trivial))) rfl ?_
  refine Chain.cons (StepOK.load .none ty3 (.tmp rfl (fun _ => trivial))) rfl ?_
  refine Chain.cons (StepOK.fieldAddr .none fd67_0 hfd67_0 (.tmp rfl (fun _ => trivial))) rfl ?_
  refine Chain.cons (StepOK.load .none ty3 (.tmp rfl (fun _ => trivial))) rfl ?_
  refine Chain.cons (StepOK.neI .none (.tmp rfl (fun _ => trivial)) (.tmp rfl (fun _ => trivial))) rfl ?_
  refine Chain.cons (StepOK.move .none (.tmp rfl (fun _ => trivial))) rfl ?_
  refine Chain.cons (StepOK.fieldAddr (.at rfl rfl) fd67_1 hfd67_1 (.tmp rfl (fun _ => trivial))) rfl ?_
  refine Chain.cons (StepOK.load (.at rfl rfl) ty3 (.tmp rfl id)) rfl ?_
  refine Chain.cons (StepOK.fieldAddr (.at rfl rfl) fd67_1 hfd67_1 (.tmp rfl (fun _ => trivial))) rfl ?_
  refine Chain.cons (StepOK.load (.at rfl rfl) ty3 (.tmp rfl id)) rfl ?_
  refine Chain.cons (StepOK.neI (.at rfl rfl) (.tmp rfl id) (.tmp rfl id)) rfl ?_
  refine Chain.cons (StepOK.pickOr .none (.tmp rfl (fun _ => trivial)) (.tmp rfl id)) rfl ?_
  refine Chain.cons (StepOK.move .none (.tmp rfl (fun _ => trivial))) rfl ?_
  refine Chain.cons (StepOK.fieldAddr (.at rfl rfl) fd67_2 hfd67_2 (.tmp rfl (fun _ => trivial))) rfl ?_
  refine Chain.cons (StepOK.load (.at rfl rfl) ty23 (.tmp rfl id)) rfl ?_
  refine Chain.cons (StepOK.len (.at rfl rfl) sl23 (.tmp rfl id)) rfl ?_
  refine Chain.cons (StepOK.fieldAddr (.at rfl rfl) fd67_2 hfd67_2 (.tmp rfl (fun _ => trivial))) rfl ?_
  refine Chain.cons (StepOK.load (.at rfl rfl) ty23 (.tmp rfl id)) rfl ?_
  refine Chain.cons (StepOK.len (.at rfl rfl) sl23 (.tmp rfl id)) rfl ?_
  refine Chain.cons (StepOK.neI (.at rfl rfl) (.tmp rfl id) (.tmp rfl id)) rfl ?_
  refine Chain.cons (StepOK.pickOr .none (.tmp rfl (fun _ => trivial)) (.tmp rfl id)) rfl ?_
  refine Chain.nil ?_
  refine Ends.then ?_
  refine Cod.cond (t := 38) rfl trivial (fun hb5 => ?_) (fun hb5 => ?_)
  · replace h := bif_t h hb5
    refine Cod.seq ?_
    refine Cod.region [] mixed (by kernel_rfl) ?_
    refine Chain.cons (StepOK.assign .none .bool) rfl ?_
    refine Chain.nil ?_
    refine Ends.then ?_
    refine Cod.ret ?_
    refine Ends.thenRet ?_
    obtain rfl := some_eq h
    exact Ends.ret1 (.inl rfl) Try.results75 (ResOK.tmp rfl trivial Imp.refl)
  · replace h := bif_f h hb5
    refine Cod.skip ?_
    refine Ends.then ?_
    refine Cod.seq ?_
    refine Cod.seq ?_
    refine Cod.region [] mixed (by kernel_rfl) ?_
    refine Chain.cons (StepOK.fieldAddr .none fd67_2 hfd67_2 (.tmp rfl (fun _ => trivial))) rfl ?_
    refine Chain.cons (StepOK.load .none ty23 (.tmp rfl (fun _ => trivial))) rfl ?_
    refine Chain.cons (StepOK.len .none sl23 (.tmp rfl (fun _ => trivial))) rfl ?_
    refine Chain.cons (StepOK.move .none (.int (by decide))) rfl ?_
    refine Chain.nil ?_
    refine Ends.then ?_
    obtain ⟨o_6, h, hK6⟩ := bindR_some h
    refine Cod.thenJ (ι := Unit) (fun j_6 => []) (fun j_6 => []) (fun s => o_6 = Res.nx s) Sub.nil SubB.nil ?_ (fun j_6 hj6 => ?_)
    · skip
      refine Cod.block ?_
      refine Cod.rforEL h (fun p7_ => [(42, ⟨True, rep p7_.1⟩)]) (fun p7_ => []) (.cons (t := 42) rfl Sub.nil) SubB.nil (.cons (t := 0) rfl (.cons (t := 7) rfl (.cons (t := 8) rfl (.cons (t := 41) rfl Sub.nil)))) SubB.nil (fun p7_ o_7 h hD7 => ?_)
      refine Cod.seq ?_
      refine Cod.region [] mixed (by kernel_rfl) ?_
      refine Chain.cons (StepOK.lt .none (.tmp rfl (fun _ => trivial)) (.tmp rfl (fun _ => trivial))) rfl ?_
      refine Chain.nil ?_
      refine Ends.then ?_
      refine Cod.seq ?_
      refine Cod.cond (t := 43) rfl trivial (fun hb8 => ?_) (fun hb8 => ?_)
      · replace h := bif_t h hb8
        refine Cod.skip ?_
        refine Ends.then ?_
        refine Cod.seq ?_
        obtain ⟨o_9, h, hK9⟩ := bindD_some h
        unfold tree_same_L1 at h
        refine Cod.thenJ (ι := Unit) (fun j_9 => []) (fun j_9 => []) (fun s => o_9 = Res.nx s) (.cons (t := 0) rfl (.cons (t := 7) rfl (.cons (t := 8) rfl (.cons (t := 41) rfl (.cons (t := 42) rfl Sub.nil))))) SubB.nil ?_ (fun j_9 hj9 => ?_)
        · skip
          refine Cod.block ?_
          refine Cod.seq ?_
          refine Cod.region [] mixed (by kernel_rfl) ?_
          refine Chain.cons (StepOK.move .none (.tmp rfl (fun _ => trivial))) rfl ?_
          refine Chain.cons (StepOK.assign .none (.tmp rfl (fun _ => trivial))) rfl ?_
          refine Chain.nil ?_
          refine Ends.then ?_
          refine Cod.seq ?_
          refine Cod.region [] mixed (by kernel_rfl) ?_
          refine Chain.cons (StepOK.move .none (.tmp rfl (fun _ => trivial))) rfl ?_
          refine Chain.cons (StepOK.fieldAddr .none fd67_2 hfd67_2 (.tmp rfl (fun _ => trivial))) rfl ?_
          refine Chain.cons (StepOK.load .none ty23 (.tmp rfl (fun _ => trivial))) rfl ?_
          refine Chain.cons (StepOK.move .none (.tmp rfl (fun _ => trivial))) rfl ?_
          obtain ⟨hn10, h⟩ := need_some h
          refine Chain.cons (StepOK.indexAddr .none sl23 ty3 (.tmp rfl (fun _ => trivial)) (.tmp rfl (fun _ => trivial)) (fun _ => hn10)) rfl ?_
          refine Chain.cons (StepOK.load .none ty3 (.tmp rfl (fun _ => trivial))) rfl ?_
          refine Chain.cons (StepOK.fieldAddr .none fd67_2 hfd67_2 (.tmp rfl (fun _ => trivial))) rfl ?_
          refine Chain.cons (StepOK.load .none ty23 (.tmp rfl (fun _ => trivial))) rfl ?_
          refine Chain.cons (StepOK.move .none (.tmp rfl (fun _ => trivial))) rfl ?_
          obtain ⟨hn11, h⟩ := need_some h
          refine Chain.cons (StepOK.indexAddr .none sl23 ty3 (.tmp rfl (fun _ => trivial)) (.tmp rfl (fun _ => trivial)) (fun _ => hn11)) rfl ?_
          refine Chain.cons (StepOK.load .none ty3 (.tmp rfl (fun _ => trivial))) rfl ?_
          obtain ⟨r1, hv12, h⟩ := bind_some h
          refine Chain.cons (StepOK.call .none (hself _ _ hv12) (.cons (.tmp rfl (fun _ => trivial)) (.cons (.tmp rfl (fun _ => trivial)) (.cons (.tmp rfl (fun _ => trivial)) .nil)))) rfl ?_
          refine Chain.cons (StepOK.not .none (.tmp rfl (fun _ => trivial))) rfl ?_
          refine Chain.nil ?_
          refine Ends.then ?_
          refine Cod.cond (t := 57) rfl trivial (fun hb13 => ?_) (fun hb13 => ?_)
          · replace h := bif_t h hb13
            refine Cod.seq ?_
            refine Cod.region [] mixed (by kernel_rfl) ?_
            refine Chain.cons (StepOK.assign .none .bool) rfl ?_
            refine Chain.nil ?_
            refine Ends.then ?_
            refine Cod.ret ?_
            refine Ends.blkRet ?_
            refine Ends.thenRet ?_
            refine Ends.thenRet ?_
            refine Ends.blkRet ?_
            refine Ends.thenRet ?_
            replace h := resd_ab hK9 (some_eq h)
            replace h := hD7 _ (some_eq h)
            replace h := resb_ab hK6 (some_eq h)
            obtain rfl := some_eq h
            exact Ends.ret1 (.inl rfl) Try.results75 (ResOK.tmp rfl trivial Imp.refl)
          · replace h := bif_f h hb13
            refine Cod.skip ?_
            refine Ends.blkNormal ?_
            exact Ends.join _ (some_eq h) (.cons (t := 0) rfl (.cons (t := 7) rfl (.cons (t := 8) rfl (.cons (t := 41) rfl (.cons (t := 42) rfl Sub.nil))))) SubB.nil
        · have h := resd_nx hK9 hj9
          refine Cod.region [] mixed (by kernel_rfl) ?_
          refine Chain.cons (StepOK.addW .none (.tmp rfl (fun _ => trivial)) (.int (by decide))) rfl ?_
          refine Chain.cons (StepOK.move .none (.tmp rfl (fun _ => trivial))) rfl ?_
          refine Chain.nil ?_
          exact Ends.againL (some_eq h) (.cons (t := 42) rfl (.cons (t := 0) rfl (.cons (t := 7) rfl (.cons (t := 8) rfl (.cons (t := 41) rfl Sub.nil))))) SubB.nil
      · replace h := bif_f h hb8
        refine Cod.exit ?_
        refine Ends.thenExit ?_
        refine Ends.thenExit ?_
        refine Ends.blkExit ?_
        replace h := hD7 _ (some_eq h)
        exact Ends.join _ (some_eq h) Sub.nil SubB.nil
    · have h := resb_nx hK6 hj6
      refine Cod.seq ?_
      refine Cod.region [] mixed (by kernel_rfl) ?_
      refine Chain.cons (StepOK.assign .none .bool) rfl ?_
      refine Chain.nil ?_
      refine Ends.then ?_
      refine Cod.ret ?_
      obtain rfl := some_eq h
      exact Ends.ret1 (.inl rfl) Try.results75 (ResOK.tmp rfl trivial Imp.refl)
theorem tree_same_okN : ∀ (k : Nat)  (x : ((List Branch) × Int × Int)) (r : Bool) (h : fixN tree_same_body k x = some r), FSpec Try.prog 75 [rep x.1, rep x.2.1, rep x.2.2] (rep r)
  | 0, x, r, h => by simp [fixN] at h
  | k + 1, x, r, h => tree_same_okS (tree_same_okN k) h
theorem tree_same_ok {t1 : (List Branch)} {a1 : Int} {b1 : Int} {r : Bool}  (h : tree_same t1 a1 b1 = some r) : FSpec Try.prog 75 [rep t1, rep a1, rep b1] (rep r) :=
  let ⟨k, hk⟩ := fixp_some h
  tree_same_okN k (t1, a1, b1) r hk

theorem tree_Same_ok {t1 : (List Branch)} {a1 : Int} {b1 : Int} {r : (Bool × Int)}  (h : tree_Same t1 a1 b1 = some r) : FSpec Try.prog 45 [rep t1, rep a1, rep b1] (tup [rep r.1, rep r.2]) := by
  unfold tree_Same at h
  refine FSpec.intro (n := 28) fnok45 Try.func45 rfl Try.ntmps45 rfl (fun F => ?_)
  refine Cod.seq ?_
  refine Cod.region [] mixed (by kernel_rfl) ?_
  refine Chain.cons (StepOK.assign .none .bool) rfl ?_
  refine Chain.cons (StepOK.assign .none (.int (by decide))) rfl ?_
  refine Chain.nil ?_
  refine Ends.then ?_
  refine Cod.seq ?_
  refine Cod.seq ?_
  refine Cod.region [] mixed (by kernel_rfl) ?_
  refine Chain.cons (StepOK.move .none (.tmp rfl (fun _ => trivial))) rfl ?_
  obtain ⟨e1, hv1, h⟩ := bind_some h
  refine Chain.cons (StepOK.call .none (tree_Check_ok hv1) (.cons (.tmp rfl (fun _ => trivial)) .nil)) rfl ?_
  refine Chain.cons (StepOK.assign .none (.tmp rfl (fun _ => trivial))) rfl ?_
  refine Chain.nil ?_
  refine Ends.then ?_
  refine Cod.seq ?_
  refine Cod.region [] mixed (by kernel_rfl) ?_
  refine Chain.cons (StepOK.move .none (.tmp rfl (fun _ => trivial))) rfl ?_
  refine Chain.cons (StepOK.neI .none (.tmp rfl (fun _ => trivial)) (.int (by decide))) rfl ?_
  refine Chain.nil ?_
  refine Ends.then ?_
  refine Cod.cond (t := 12) rfl trivial (fun hb2 => ?_) (fun hb2 => ?_)
  · replace h := bif_t h hb2
    refine Cod.seq ?_
    refine Cod.region [] mixed (by kernel_rfl) ?_
    refine Chain.cons (StepOK.move .none (.tmp rfl (fun _ => trivial))) rfl ?_
    refine Chain.cons (StepOK.assign .none .bool) rfl ?_
    refine Chain.cons (StepOK.assign .none (.tmp rfl (fun _ => trivial))) rfl ?_
    refine Chain.nil ?_
    refine Ends.then ?_
    refine Cod.ret ?_
    refine Ends.thenRet ?_
    obtain rfl := some_eq h
    exact Ends.ret2 (.inl rfl) Try.results45 (ResOK.tmp rfl trivial Imp.refl) (ResOK.tmp rfl trivial Imp.refl)
  · replace h := bif_f h hb2
    refine Cod.skip ?_
    refine Ends.then ?_
    refine Cod.seq ?_
    refine Cod.seq ?_
    refine Cod.region [] mixed (by kernel_rfl) ?_
    refine Chain.cons (StepOK.move .none (.tmp rfl (fun _ => trivial))) rfl ?_
    refine Chain.cons (StepOK.move .none (.tmp rfl (fun _ => trivial))) rfl ?_
    obtain ⟨r1, hv3, h⟩ := bind_some h
    refine Chain.cons (StepOK.call .none (tree_isNode_ok hv3) (.cons (.tmp rfl (fun _ => trivial)) (.cons (.tmp rfl (fun _ => trivial)) .nil))) rfl ?_
    refine Chain.cons (StepOK.not .none (.tmp rfl (fun _ => trivial))) rfl ?_
    refine Chain.cons (StepOK.move .none (.tmp rfl (fun _ => trivial))) rfl ?_
    refine Chain.cons (StepOK.move (.at rfl rfl) (.tmp rfl (fun _ => trivial))) rfl ?_
    refine Chain.cons (StepOK.move (.at rfl rfl) (.tmp rfl (fun _ => trivial))) rfl ?_
    obtain ⟨r2, hv4, h⟩ := bind_some h
    refine Chain.cons (StepOK.callIf (.at rfl rfl) fnok74 (fun hg => tree_isNode_ok ((fun hg => gd_some hv4 (by simp [hg.2])) hg)) (.cons (.tmp rfl id) (.cons (.tmp rfl id) .nil)) (fun h => h)) rfl ?_
    refine Chain.cons (StepOK.not (.at rfl rfl) (.tmp rfl id)) rfl ?_
    refine Chain.cons (StepOK.pickOr .none (.tmp rfl (fun _ => trivial)) (.tmp rfl id)) rfl ?_
    refine Chain.nil ?_
    refine Ends.then ?_
    refine Cod.cond (t := 23) rfl trivial (fun hb5 => ?_) (fun hb5 => ?_)
    · replace h := bif_t h hb5
      refine Cod.seq ?_
      refine Cod.region [] mixed (by kernel_rfl) ?_
      refine Chain.cons (StepOK.assign .none .bool) rfl ?_
      refine Chain.cons (StepOK.assign .none (.int (by decide))) rfl ?_
      refine Chain.nil ?_
      refine Ends.then ?_
      refine Cod.ret ?_
      refine Ends.thenRet ?_
      obtain rfl := some_eq h
      exact Ends.ret2 (.inl rfl) Try.results45 (ResOK.tmp rfl trivial Imp.refl) (ResOK.tmp rfl trivial Imp.refl)
    · replace h := bif_f h hb5
      refine Cod.skip ?_
      refine Ends.then ?_
      refine Cod.seq ?_
      refine Cod.region [] mixed (by kernel_rfl) ?_
      refine Chain.cons (StepOK.move .none (.tmp rfl (fun _ => trivial))) rfl ?_
      refine Chain.cons (StepOK.move .none (.tmp rfl (fun _ => trivial))) rfl ?_
      refine Chain.cons (StepOK.move .none (.tmp rfl (fun _ => trivial))) rfl ?_
      obtain ⟨r3, hv6, h⟩ := bind_some h
      refine Chain.cons (StepOK.call .none (tree_same_ok hv6) (.cons (.tmp rfl (fun _ => trivial)) (.cons (.tmp rfl (fun _ => trivial)) (.cons (.tmp rfl (fun _ => trivial)) .nil)))) rfl ?_
      refine Chain.cons (StepOK.assign .none (.tmp rfl (fun _ => trivial))) rfl ?_
      refine Chain.cons (StepOK.assign .none (.int (by decide))) rfl ?_
      refine Chain.nil ?_
      refine Ends.then ?_
      refine Cod.ret ?_
      obtain rfl := some_eq h
      exact Ends.ret2 (.inl rfl) Try.results45 (ResOK.tmp rfl trivial Imp.refl) (ResOK.tmp rfl trivial Imp.refl)

theorem slices_EqualFunc_int_ok {s1_1 : (List (List Int))} {s2_1 : (List (List Int))} {eq1 : (List Int) → (List Int) → Option Bool} {r : Bool}  (h : slices_EqualFunc_int s1_1 s2_1 eq1 = some r) : FSpec Try.prog 43 [rep s1_1, rep s2_1, fn2 Try.prog (rep (α := Bool)) eq1] (rep r) := by
  unfold slices_EqualFunc_int at h
  refine FSpec.intro (n := 32) fnok43 Try.func43 rfl Try.ntmps43 rfl (fun F => ?_)
  refine Cod.seq ?_
  refine Cod.region [] mixed (by kernel_rfl) ?_
  refine Chain.cons (StepOK.assign .none .bool) rfl ?_
  refine Chain.nil ?_
  refine Ends.then ?_
  refine Cod.seq ?_
  refine Cod.seq ?_
  refine Cod.region [] mixed (by kernel_rfl) ?_
  refine Chain.cons (StepOK.move .none (.tmp rfl (fun _ => trivial))) rfl ?_
  refine Chain.cons (StepOK.len .none sl64 (.tmp rfl (fun _ => trivial))) rfl ?_
  refine Chain.cons (StepOK.move .none (.tmp rfl (fun _ => trivial))) rfl ?_
  refine Chain.cons (StepOK.len .none sl64 (.tmp rfl (fun _ => trivial))) rfl ?_
  refine Chain.cons (StepOK.neI .none (.tmp rfl (fun _ => trivial)) (.tmp rfl (fun _ => trivial))) rfl ?_
  refine Chain.nil ?_
  refine Ends.then ?_
  refine Cod.cond (t := 14) rfl trivial (fun hb1 => ?_) (fun hb1 => ?_)
  · replace h := bif_t h hb1
    refine Cod.seq ?_
    refine Cod.region [] mixed (by kernel_rfl) ?_
    refine Chain.cons (StepOK.assign .none .bool) rfl ?_
    refine Chain.nil ?_
    refine Ends.then ?_
    refine Cod.ret ?_
    refine Ends.thenRet ?_
    obtain rfl := some_eq h
    exact Ends.ret1 (.inl rfl) Try.results43 (ResOK.tmp rfl trivial Imp.refl)
  · replace h := bif_f h hb1
    refine Cod.skip ?_
    refine Ends.then ?_
    refine Cod.seq ?_
    refine Cod.seq ?_
    refine Cod.region [] mixed (by kernel_rfl) ?_
    refine Chain.cons (StepOK.move .none (.tmp rfl (fun _ => trivial))) rfl ?_
    refine Chain.cons (StepOK.len .none sl64 (.tmp rfl (fun _ => trivial))) rfl ?_
    refine Chain.cons (StepOK.move .none (.int (by decide))) rfl ?_
    refine Chain.nil ?_
    refine Ends.then ?_
    obtain ⟨o_2, h, hK2⟩ := bindR_some h
    refine Cod.thenJ (ι := Unit) (fun j_2 => []) (fun j_2 => []) (fun s => o_2 = Res.nx s) Sub.nil SubB.nil ?_ (fun j_2 hj2 => ?_)
    · skip
      refine Cod.block ?_
      refine Cod.rforEL h (fun p3_ => [(17, ⟨True, rep p3_.1⟩)]) (fun p3_ => []) (.cons (t := 17) rfl Sub.nil) SubB.nil (.cons (t := 1) rfl (.cons (t := 2) rfl (.cons (t := 15) rfl (.cons (t := 16) rfl Sub.nil)))) SubB.nil (fun p3_ o_3 h hD3 => ?_)
      refine Cod.seq ?_
      refine Cod.region [] mixed (by kernel_rfl) ?_
      refine Chain.cons (StepOK.lt .none (.tmp rfl (fun _ => trivial)) (.tmp rfl (fun _ => trivial))) rfl ?_
      refine Chain.nil ?_
      refine Ends.then ?_
      refine Cod.seq ?_
      refine Cod.cond (t := 18) rfl trivial (fun hb4 => ?_) (fun hb4 => ?_)
      · replace h := bif_t h hb4
        refine Cod.skip ?_
        refine Ends.then ?_
        refine Cod.seq ?_
        obtain ⟨o_5, h, hK5⟩ := bindD_some h
        unfold slices_EqualFunc_int_L1 at h
        refine Cod.thenJ (ι := Unit) (fun j_5 => []) (fun j_5 => []) (fun s => o_5 = Res.nx s) (.cons (t := 1) rfl (.cons (t := 2) rfl (.cons (t := 15) rfl (.cons (t := 16) rfl (.cons (t := 17) rfl Sub.nil))))) SubB.nil ?_ (fun j_5 hj5 => ?_)
        · skip
          refine Cod.block ?_
          refine Cod.seq ?_
          refine Cod.region [] mixed (by kernel_rfl) ?_
          refine Chain.cons (StepOK.move .none (.tmp rfl (fun _ => trivial))) rfl ?_
          obtain ⟨hn6, h⟩ := need_some h
          refine Chain.cons (StepOK.indexAddr .none sl64 ty23 (.tmp rfl (fun _ => trivial)) (.tmp rfl (fun _ => trivial)) (fun _ => hn6)) rfl ?_
          refine Chain.cons (StepOK.load .none ty23 (.tmp rfl (fun _ => trivial))) rfl ?_
          refine Chain.cons (StepOK.assign .none (.tmp rfl (fun _ => trivial))) rfl ?_
          refine Chain.cons (StepOK.assign .none (.tmp rfl (fun _ => trivial))) rfl ?_
          refine Chain.nil ?_
          refine Ends.then ?_
          refine Cod.seq ?_
          refine Cod.region [] mixed (by kernel_rfl) ?_
          refine Chain.cons (StepOK.move .none (.tmp rfl (fun _ => trivial))) rfl ?_
          refine Chain.cons (StepOK.move .none (.tmp rfl (fun _ => trivial))) rfl ?_
          obtain ⟨hn7, h⟩ := need_some h
          refine Chain.cons (StepOK.indexAddr .none sl64 ty23 (.tmp rfl (fun _ => trivial)) (.tmp rfl (fun _ => trivial)) (fun _ => hn7)) rfl ?_
          refine Chain.cons (StepOK.load .none ty23 (.tmp rfl (fun _ => trivial))) rfl ?_
          refine Chain.cons (StepOK.assign .none (.tmp rfl (fun _ => trivial))) rfl ?_
          refine Chain.nil ?_
          refine Ends.then ?_
          refine Cod.seq ?_
          refine Cod.region [] mixed (by kernel_rfl) ?_
          refine Chain.cons (StepOK.move .none (.tmp rfl (fun _ => trivial))) rfl ?_
          refine Chain.cons (StepOK.move .none (.tmp rfl (fun _ => trivial))) rfl ?_
          refine Chain.cons (StepOK.move .none (.tmp rfl (fun _ => trivial))) rfl ?_
          obtain ⟨r1, hv8, h⟩ := bind_some h
          refine Chain.cons (StepOK.callV (_, _, _) .none (.tmp rfl (fun _ => trivial)) (fun _ => hv8) (.cons (.tmp rfl (fun _ => trivial)) (.cons (.tmp rfl (fun _ => trivial)) .nil))) rfl ?_
          refine Chain.cons (StepOK.not .none (.tmp rfl (fun _ => trivial))) rfl ?_
          refine Chain.nil ?_
          refine Ends.then ?_
          refine Cod.cond (t := 30) rfl trivial (fun hb9 => ?_) (fun hb9 => ?_)
          · replace h := bif_t h hb9
            refine Cod.seq ?_
            refine Cod.region [] mixed (by kernel_rfl) ?_
            refine Chain.cons (StepOK.assign .none .bool) rfl ?_
            refine Chain.nil ?_
            refine Ends.then ?_
            refine Cod.ret ?_
            refine Ends.blkRet ?_
            refine Ends.thenRet ?_
            refine Ends.thenRet ?_
            refine Ends.blkRet ?_
            refine Ends.thenRet ?_
            replace h := resd_ab hK5 (some_eq h)
            replace h := hD3 _ (some_eq h)
            replace h := resb_ab hK2 (some_eq h)
            obtain rfl := some_eq h
            exact Ends.ret1 (.inl rfl) Try.results43 (ResOK.tmp rfl trivial Imp.refl)
          · replace h := bif_f h hb9
            refine Cod.skip ?_
            refine Ends.blkNormal ?_
            exact Ends.join _ (some_eq h) (.cons (t := 1) rfl (.cons (t := 2) rfl (.cons (t := 15) rfl (.cons (t := 16) rfl (.cons (t := 17) rfl Sub.nil))))) SubB.nil
        · have h := resd_nx hK5 hj5
          refine Cod.region [] mixed (by kernel_rfl) ?_
          refine Chain.cons (StepOK.addW .none (.tmp rfl (fun _ => trivial)) (.int (by decide))) rfl ?_
          refine Chain.cons (StepOK.move .none (.tmp rfl (fun _ => trivial))) rfl ?_
          refine Chain.nil ?_
          exact Ends.againL (some_eq h) (.cons (t := 17) rfl (.cons (t := 1) rfl (.cons (t := 2) rfl (.cons (t := 15) rfl (.cons (t := 16) rfl Sub.nil))))) SubB.nil
      · replace h := bif_f h hb4
        refine Cod.exit ?_
        refine Ends.thenExit ?_
        refine Ends.thenExit ?_
        refine Ends.blkExit ?_
        replace h := hD3 _ (some_eq h)
        exact Ends.join _ (some_eq h) Sub.nil SubB.nil
    · have h := resb_nx hK2 hj2
      refine Cod.seq ?_
      refine Cod.region [] mixed (by kernel_rfl) ?_
      refine Chain.cons (StepOK.assign .none .bool) rfl ?_
      refine Chain.nil ?_
      refine Ends.then ?_
      refine Cod.ret ?_
      obtain rfl := some_eq h
      exact Ends.ret1 (.inl rfl) Try.results43 (ResOK.tmp rfl trivial Imp.refl)

theorem ref_LevelsOf_ok {t1 : (List Branch)} {r : (List (List Int))}  (h : ref_LevelsOf t1 = some r) : FSpec Try.prog 34 [rep t1] (rep r) := by
  unfold ref_LevelsOf at h
  refine FSpec.intro (n := 32) fnok34 Try.func34 rfl Try.ntmps34 rfl (fun F => ?_)
  refine Cod.seq ?_
  refine Cod.region [] mixed (by kernel_rfl) ?_
  refine Chain.cons (StepOK.assign .none (.const (x := ([] : (List (List Int)))) (fun M w => ⟨_, ⟨none, 0, rfl, Nat.le_refl _, by decide, rfl⟩, rfl⟩))) rfl ?_
  refine Chain.nil ?_
  refine Ends.then ?_
  refine Cod.seq ?_
  refine Cod.region [([], [3])] mixed (by kernel_rfl) ?_
  refine Chain.consW (StepOK.nilRow (T := 23) (α := (List Int)) rfl) rfl rfl ?_
  refine Chain.nil ?_
  refine Ends.then ?_
  refine Cod.nameRow (t := 3) (g := 5001) rfl rfl rfl (fun s5001 => ?_)
  refine Cod.seq ?_
  refine Cod.seq ?_
  refine Cod.region [] mixed (by kernel_rfl) ?_
  refine Chain.cons (StepOK.buildSlice (xs := [_]) .none sl23 ty3 hz3 (.cons (.int (by decide)) .nil) rfl (by decide)) rfl ?_
  obtain ⟨now1, hv1, h⟩ := bnd_some h
  refine Chain.cons (StepOK.re hv1 (StepOK.assign .none (.tmp rfl (fun _ => trivial)))) rfl ?_
  refine Chain.nil ?_
  refine Ends.then ?_
  obtain ⟨j_2, h, hK2⟩ := bind_some h
  refine Cod.thenJ (ι := (List (List Int))) (fun j_2 => []) (fun j_2 => [(3, some (rowV 23 j_2))]) (fun s => j_2 = s) Sub.nil SubB.nil ?_ (fun j_2' hj2 => ?_)
  · skip
    refine Cod.block ?_
    refine Cod.anon (t := 3) (g := 5001) rfl rfl trivial rfl ?_
    refine Cod.loopL h (fun s3_ => [(4, ⟨True, rep s3_.2⟩)]) (fun s3_ => [(3, some (rowV 23 s3_.1))]) (.cons (t := 4) rfl Sub.nil) (.cons (t := 3) rfl SubB.nil) (.cons (t := 0) rfl Sub.nil) SubB.nil (fun s3_ o_3 h hD3 => ?_)
    unfold ref_LevelsOf_L1 at h
    refine Cod.nameRow (t := 3) (g := 5002) rfl rfl rfl (fun s5002 => ?_)
    refine Cod.seq ?_
    refine Cod.seq ?_
    refine Cod.region [] mixed (by kernel_rfl) ?_
    refine Chain.cons (StepOK.move .none (.tmp rfl (fun _ => trivial))) rfl ?_
    refine Chain.cons (StepOK.len .none sl23 (.tmp rfl (fun _ => trivial))) rfl ?_
    refine Chain.cons (StepOK.gt .none (.tmp rfl (fun _ => trivial)) (.int (by decide))) rfl ?_
    refine Chain.nil ?_
    refine Ends.then ?_
    refine Cod.cond (t := 11) rfl trivial (fun hb4 => ?_) (fun hb4 => ?_)
    · replace h := bif_t h hb4
      refine Cod.skip ?_
      refine Ends.then ?_
      refine Cod.block ?_
      refine Cod.seq ?_
      refine Cod.region [([], []), ([], []), ([], []), ([5002], [15, 5002]), ([15], [3, 15])] mixed (by kernel_rfl) ?_
      refine Chain.consA (StepOK.move .none (.tmp rfl (fun _ => trivial))) rfl ?_
      refine Chain.consA (StepOK.move .none (.tmp rfl (fun _ => trivial))) rfl ?_
      refine Chain.consA (StepOK.buildSlice (xs := [_]) .none sl64 ty23 hz23 (.cons (.tmp rfl (fun _ => trivial)) .nil) rfl (by decide)) rfl ?_
      obtain ⟨hn5, h⟩ := need_some h
      refine Chain.consW (StepOK.append (k := 5002) rk64 rfl (.told (.tmp rfl (fun _ => trivial)) rfl) (.tmp rfl (fun _ => trivial)) hn5) rfl rfl ?_
      refine Chain.consWD (StepOK.passRow rfl (.tmp rfl)) rfl rfl ?_
      refine Chain.nil ?_
      refine Ends.then ?_
      obtain ⟨out1, hv6, h⟩ := bnd_some h
      refine Cod.reB (t := 3) rfl (congrArg (rowV 23) hv6) ?_
      refine Cod.nameRow (t := 3) (g := 5003) rfl rfl rfl (fun s5003 => ?_)
      refine Cod.seq ?_
      refine Cod.region [([], [5])] mixed (by kernel_rfl) ?_
      refine Chain.consW (StepOK.nilRow (T := 3) (α := Int) rfl) rfl rfl ?_
      refine Chain.nil ?_
      refine Ends.then ?_
      refine Cod.nameRow (t := 5) (g := 5004) rfl rfl rfl (fun s5004 => ?_)
      refine Cod.seq ?_
      refine Cod.seq ?_
      refine Cod.region [] mixed (by kernel_rfl) ?_
      refine Chain.cons (StepOK.move .none (.tmp rfl (fun _ => trivial))) rfl ?_
      refine Chain.cons (StepOK.len .none sl23 (.tmp rfl (fun _ => trivial))) rfl ?_
      refine Chain.cons (StepOK.move .none (.int (by decide))) rfl ?_
      refine Chain.nil ?_
      refine Ends.then ?_
      obtain ⟨j_7, h, hK7⟩ := bind_some h
      refine Cod.thenJ (ι := (List Int)) (fun j_7 => []) (fun j_7 => [(5, some (rowV 3 j_7))]) (fun s => j_7 = s) (.cons (t := 0) rfl (.cons (t := 3) rfl Sub.nil)) (.cons (t := 5003) rfl SubB.nil) ?_ (fun j_7' hj7 => ?_)
      · skip
        refine Cod.block ?_
        refine Cod.anon (t := 5) (g := 5004) rfl rfl trivial rfl ?_
        refine Cod.rforL h (fun p8_ => [(18, ⟨True, rep p8_.1⟩)]) (fun p8_ => [(5, some (rowV 3 p8_.2))]) (.cons (t := 18) rfl Sub.nil) (.cons (t := 5) rfl SubB.nil) (.cons (t := 0) rfl (.cons (t := 3) rfl (.cons (t := 16) rfl (.cons (t := 17) rfl Sub.nil)))) (.cons (t := 5003) rfl SubB.nil) (fun p8_ o_8 h hD8 => ?_)
        refine Cod.nameRow (t := 5) (g := 5005) rfl rfl rfl (fun s5005 => ?_)
        refine Cod.seq ?_
        refine Cod.region [] mixed (by kernel_rfl) ?_
        refine Chain.cons (StepOK.lt .none (.tmp rfl (fun _ => trivial)) (.tmp rfl (fun _ => trivial))) rfl ?_
        refine Chain.nil ?_
        refine Ends.then ?_
        refine Cod.seq ?_
        refine Cod.cond (t := 19) rfl trivial (fun hb9 => ?_) (fun hb9 => ?_)
        · replace h := bif_t h hb9
          refine Cod.skip ?_
          refine Ends.then ?_
          refine Cod.seq ?_
          obtain ⟨j_10, h, hK10⟩ := bind_some h
          unfold ref_LevelsOf_L2 at h
          refine Cod.thenJ (ι := (List Int)) (fun j_10 => []) (fun j_10 => [(5, some (rowV 3 j_10))]) (fun s => j_10 = s) (.cons (t := 0) rfl (.cons (t := 3) rfl (.cons (t := 16) rfl (.cons (t := 17) rfl (.cons (t := 18) rfl Sub.nil))))) (.cons (t := 5003) rfl SubB.nil) ?_ (fun j_10' hj10 => ?_)
          · skip
            refine Cod.block ?_
            refine Cod.seq ?_
            refine Cod.region [] mixed (by kernel_rfl) ?_
            obtain ⟨hn11, h⟩ := need_some h
            refine Chain.cons (StepOK.indexAddr .none sl23 ty3 (.tmp rfl (fun _ => trivial)) (.tmp rfl (fun _ => trivial)) (fun _ => hn11)) rfl ?_
            refine Chain.cons (StepOK.load .none ty3 (.tmp rfl (fun _ => trivial))) rfl ?_
            refine Chain.cons (StepOK.assign .none (.tmp rfl (fun _ => trivial))) rfl ?_
            refine Chain.nil ?_
            refine Ends.then ?_
            refine Cod.region [([], []), ([], []), ([], []), ([], []), ([], []), ([], []), ([5005], [28, 5005]), ([28], [5, 28])] mixed (by kernel_rfl) ?_
            refine Chain.consA (StepOK.move .none (.tmp rfl (fun _ => trivial))) rfl ?_
            refine Chain.consA (StepOK.move .none (.tmp rfl (fun _ => trivial))) rfl ?_
            refine Chain.consA (StepOK.move .none (.tmp rfl (fun _ => trivial))) rfl ?_
            obtain ⟨hn12, h⟩ := need_some h
            refine Chain.consA (StepOK.indexAddr .none sl56 ty67 (.tmp rfl (fun _ => trivial)) (.tmp rfl (fun _ => trivial)) (fun _ => hn12)) rfl ?_
            refine Chain.consA (StepOK.fieldAddr .none fd67_2 hfd67_2 (.tmp rfl (fun _ => trivial))) rfl ?_
            refine Chain.consA (StepOK.load .none ty23 (.tmp rfl (fun _ => trivial))) rfl ?_
            obtain ⟨hn13, h⟩ := need_some h
            refine Chain.consW (StepOK.append (k := 5005) rk23 rfl (.told (.tmp rfl (fun _ => trivial)) rfl) (.tmp rfl (fun _ => trivial)) hn13) rfl rfl ?_
            refine Chain.consWD (StepOK.passRow rfl (.tmp rfl)) rfl rfl ?_
            refine Chain.nil ?_
            refine Ends.blkNormal ?_
            exact Ends.join _ (some_eq h) (.cons (t := 0) rfl (.cons (t := 3) rfl (.cons (t := 16) rfl (.cons (t := 17) rfl (.cons (t := 18) rfl Sub.nil))))) (.cons (t := 5) rfl (.cons (t := 5003) rfl SubB.nil))
          · subst hj10; have h := hK10; clear hK10
            refine Cod.nameRow (t := 5) (g := 5006) rfl rfl rfl (fun s5006 => ?_)
            refine Cod.region [] mixed (by kernel_rfl) ?_
            refine Chain.cons (StepOK.addW .none (.tmp rfl (fun _ => trivial)) (.int (by decide))) rfl ?_
            refine Chain.cons (StepOK.move .none (.tmp rfl (fun _ => trivial))) rfl ?_
            refine Chain.nil ?_
            refine Ends.anon (t := 5) (g := 5006) rfl rfl trivial rfl ?_
            exact Ends.againL (some_eq h) (.cons (t := 18) rfl (.cons (t := 0) rfl (.cons (t := 3) rfl (.cons (t := 16) rfl (.cons (t := 17) rfl Sub.nil))))) (.cons (t := 5) rfl (.cons (t := 5003) rfl SubB.nil))
        · replace h := bif_f h hb9
          refine Cod.exit ?_
          refine Ends.thenExit ?_
          refine Ends.thenExit ?_
          refine Ends.blkExit ?_
          refine Ends.anon (t := 5) (g := 5005) rfl rfl trivial rfl ?_
          replace h := hD8 _ (some_eq h)
          exact Ends.join _ (some_eq h) (.cons (t := 0) rfl (.cons (t := 3) rfl Sub.nil)) (.cons (t := 5) rfl (.cons (t := 5003) rfl SubB.nil))
      · subst hj7; have h := hK7; clear hK7
        refine Cod.freezeRowA (t := 5) rfl rfl (.cons (t := 5003) rfl SubB.nil) rfl ?_
        refine Cod.region [] mixed (by kernel_rfl) ?_
        refine Chain.cons (StepOK.move .none (.tmp rfl (fun _ => trivial))) rfl ?_
        refine Chain.cons (StepOK.assign .none (.tmp rfl (fun _ => trivial))) rfl ?_
        refine Chain.nil ?_
        refine Ends.blkNormal ?_
        refine Ends.anon (t := 3) (g := 5003) rfl rfl trivial rfl ?_
        exact Ends.againL (some_eq h) (.cons (t := 4) rfl (.cons (t := 0) rfl Sub.nil)) (.cons (t := 3) rfl SubB.nil)
    · replace h := bif_f h hb4
      refine Cod.exit ?_
      refine Ends.thenExit ?_
      refine Ends.thenExit ?_
      refine Ends.blkExit ?_
      refine Ends.anon (t := 3) (g := 5002) rfl rfl trivial rfl ?_
      replace h := hD3 _ (some_eq h)
      exact Ends.join _ (some_eq h) Sub.nil (.cons (t := 3) rfl SubB.nil)
  · subst hj2; have h := hK2; clear hK2
    refine Cod.freezeRowA (t := 3) rfl rfl SubB.nil rfl ?_
    refine Cod.seq ?_
    refine Cod.region [] mixed (by kernel_rfl) ?_
    refine Chain.cons (StepOK.move .none (.tmp rfl (fun _ => trivial))) rfl ?_
    refine Chain.cons (StepOK.assign .none (.tmp rfl (fun _ => trivial))) rfl ?_
    refine Chain.nil ?_
    refine Ends.then ?_
    refine Cod.ret ?_
    obtain rfl := some_eq h
    exact Ends.ret1 (.inl rfl) Try.results34 (ResOK.tmp rfl trivial Imp.refl)

theorem tree_Levels_ok {t1 : (List Branch)} {r : ((List (List Int)) × Int)}  (h : tree_Levels t1 = some r) : FSpec Try.prog 37 [rep t1] (tup [rep r.1, rep r.2]) := by
  unfold tree_Levels at h
  refine FSpec.intro (n := 12) fnok37 Try.func37 rfl Try.ntmps37 rfl (fun F => ?_)
  refine Cod.seq ?_
  refine Cod.region [] mixed (by kernel_rfl) ?_
  refine Chain.cons (StepOK.assign .none (.const (x := ([] : (List (List Int)))) (fun M w => ⟨_, ⟨none, 0, rfl, Nat.le_refl _, by decide, rfl⟩, rfl⟩))) rfl ?_
  refine Chain.cons (StepOK.assign .none (.int (by decide))) rfl ?_
  refine Chain.nil ?_
  refine Ends.then ?_
  refine Cod.seq ?_
  refine Cod.seq ?_
  refine Cod.region [] mixed (by kernel_rfl) ?_
  refine Chain.cons (StepOK.move .none (.tmp rfl (fun _ => trivial))) rfl ?_
  obtain ⟨e1, hv1, h⟩ := bind_some h
  refine Chain.cons (StepOK.call .none (tree_Check_ok hv1) (.cons (.tmp rfl (fun _ => trivial)) .nil)) rfl ?_
  refine Chain.cons (StepOK.assign .none (.tmp rfl (fun _ => trivial))) rfl ?_
  refine Chain.nil ?_
  refine Ends.then ?_
  refine Cod.seq ?_
  refine Cod.region [] mixed (by kernel_rfl) ?_
  refine Chain.cons (StepOK.move .none (.tmp rfl (fun _ => trivial))) rfl ?_
  refine Chain.cons (StepOK.neI .none (.tmp rfl (fun _ => trivial)) (.int (by decide))) rfl ?_
  refine Chain.nil ?_
  refine Ends.then ?_
  refine Cod.cond (t := 8) rfl trivial (fun hb2 => ?_) (fun hb2 => ?_)
  · replace h := bif_t h hb2
    refine Cod.seq ?_
    refine Cod.region [] mixed (by kernel_rfl) ?_
    refine Chain.cons (StepOK.move .none (.tmp rfl (fun _ => trivial))) rfl ?_
    refine Chain.cons (StepOK.assign .none (.const (x := ([] : (List (List Int)))) (fun M w => ⟨_, ⟨none, 0, rfl, Nat.le_refl _, by decide, rfl⟩, rfl⟩))) rfl ?_
    refine Chain.cons (StepOK.assign .none (.tmp rfl (fun _ => trivial))) rfl ?_
    refine Chain.nil ?_
    refine Ends.then ?_
    refine Cod.ret ?_
    refine Ends.thenRet ?_
    obtain rfl := some_eq h
    exact Ends.ret2 (.inl rfl) Try.results37 (ResOK.tmp rfl trivial Imp.refl) (ResOK.tmp rfl trivial Imp.refl)
  · replace h := bif_f h hb2
    refine Cod.skip ?_
    refine Ends.then ?_
    refine Cod.seq ?_
    refine Cod.region [] mixed (by kernel_rfl) ?_
    refine Chain.cons (StepOK.move .none (.tmp rfl (fun _ => trivial))) rfl ?_
    obtain ⟨r1, hv3, h⟩ := bind_some h
    refine Chain.cons (StepOK.call .none (tree_levels_ok hv3) (.cons (.tmp rfl (fun _ => trivial)) .nil)) rfl ?_
    refine Chain.cons (StepOK.assign .none (.tmp rfl (fun _ => trivial))) rfl ?_
    refine Chain.cons (StepOK.assign .none (.int (by decide))) rfl ?_
    refine Chain.nil ?_
    refine Ends.then ?_
    refine Cod.ret ?_
    obtain rfl := some_eq h
    exact Ends.ret2 (.inl rfl) Try.results37 (ResOK.tmp rfl trivial Imp.refl) (ResOK.tmp rfl trivial Imp.refl)

theorem law_trees_ok  {r : Bool}  (h : law_trees  = some r) : FSpec Try.prog 22 [] (rep r) := by
  unfold law_trees at h
  refine FSpec.intro (n := 9) fnok22 Try.func22 rfl Try.ntmps22 rfl (fun F => ?_)
  refine Cod.seq ?_
  refine Cod.region [] mixed (by kernel_rfl) ?_
  refine Chain.cons (StepOK.assign .none .bool) rfl ?_
  refine Chain.nil ?_
  refine Ends.then ?_
  refine Cod.seq ?_
  refine Cod.region [] mixed (by kernel_rfl) ?_
  refine Chain.cons (StepOK.buildF (y := (⟨1, 1, ([] : (List Int))⟩ : Branch)) .none bu67 zc67 rfl (.cons (.int (by decide)) (.cons (.int (by decide)) .nil)) (.cons rfl sf67_0 (.cons rfl sf67_1 .nil))) rfl ?_
  refine Chain.cons (StepOK.buildSlice (xs := [_]) .none sl56 ty67 hz67 (.cons (.tmp rfl (fun _ => trivial)) .nil) rfl (by decide)) rfl ?_
  obtain ⟨r1, hv1, h⟩ := bind_some h
  refine Chain.cons (StepOK.call .none (tree_Check_ok hv1) (.cons (.tmp rfl (fun _ => trivial)) .nil)) rfl ?_
  refine Chain.cons (StepOK.eqI .none (.tmp rfl (fun _ => trivial)) (.int (by decide))) rfl ?_
  refine Chain.cons (StepOK.move .none (.tmp rfl (fun _ => trivial))) rfl ?_
  obtain ⟨r2, hv2, h⟩ := bind_some h
  refine Chain.cons (StepOK.callIf (.at rfl rfl) fnok39 (fun hg => tree_Check_ok ((fun hg => gd_some hv2 (by simp [hg.2])) hg)) (.cons (.const (x := ([] : (List Branch))) (fun M w => ⟨_, ⟨none, 0, rfl, Nat.le_refl _, by decide, rfl⟩, rfl⟩)) .nil) (fun h => h)) rfl ?_
  refine Chain.cons (StepOK.eqI (.at rfl rfl) (.tmp rfl id) (.int (by decide))) rfl ?_
  refine Chain.cons (StepOK.pickAnd .none (.tmp rfl (fun _ => trivial)) (.tmp rfl id)) rfl ?_
  refine Chain.cons (StepOK.assign .none (.tmp rfl (fun _ => trivial))) rfl ?_
  refine Chain.nil ?_
  refine Ends.then ?_
  refine Cod.ret ?_
  obtain rfl := some_eq h
  exact Ends.ret1 (.inl rfl) Try.results22 (ResOK.tmp rfl trivial Imp.refl)

theorem tree_Leaves_ok {t1 : (List Branch)} {r : ((List Int) × Int)}  (h : tree_Leaves t1 = some r) : FSpec Try.prog 38 [rep t1] (tup [rep r.1, rep r.2]) := by
  unfold tree_Leaves at h
  refine FSpec.intro (n := 12) fnok38 Try.func38 rfl Try.ntmps38 rfl (fun F => ?_)
  refine Cod.seq ?_
  refine Cod.region [] mixed (by kernel_rfl) ?_
  refine Chain.cons (StepOK.assign .none (.const (x := ([] : (List Int))) (fun M w => ⟨_, ⟨none, 0, rfl, Nat.le_refl _, by decide, rfl⟩, rfl⟩))) rfl ?_
  refine Chain.cons (StepOK.assign .none (.int (by decide))) rfl ?_
  refine Chain.nil ?_
  refine Ends.then ?_
  refine Cod.seq ?_
  refine Cod.seq ?_
  refine Cod.region [] mixed (by kernel_rfl) ?_
  refine Chain.cons (StepOK.move .none (.tmp rfl (fun _ => trivial))) rfl ?_
  obtain ⟨e1, hv1, h⟩ := bind_some h
  refine Chain.cons (StepOK.call .none (tree_Check_ok hv1) (.cons (.tmp rfl (fun _ => trivial)) .nil)) rfl ?_
  refine Chain.cons (StepOK.assign .none (.tmp rfl (fun _ => trivial))) rfl ?_
  refine Chain.nil ?_
  refine Ends.then ?_
  refine Cod.seq ?_
  refine Cod.region [] mixed (by kernel_rfl) ?_
  refine Chain.cons (StepOK.move .none (.tmp rfl (fun _ => trivial))) rfl ?_
  refine Chain.cons (StepOK.neI .none (.tmp rfl (fun _ => trivial)) (.int (by decide))) rfl ?_
  refine Chain.nil ?_
  refine Ends.then ?_
  refine Cod.cond (t := 8) rfl trivial (fun hb2 => ?_) (fun hb2 => ?_)
  · replace h := bif_t h hb2
    refine Cod.seq ?_
    refine Cod.region [] mixed (by kernel_rfl) ?_
    refine Chain.cons (StepOK.move .none (.tmp rfl (fun _ => trivial))) rfl ?_
    refine Chain.cons (StepOK.assign .none (.const (x := ([] : (List Int))) (fun M w => ⟨_, ⟨none, 0, rfl, Nat.le_refl _, by decide, rfl⟩, rfl⟩))) rfl ?_
    refine Chain.cons (StepOK.assign .none (.tmp rfl (fun _ => trivial))) rfl ?_
    refine Chain.nil ?_
    refine Ends.then ?_
    refine Cod.ret ?_
    refine Ends.thenRet ?_
    obtain rfl := some_eq h
    exact Ends.ret2 (.inl rfl) Try.results38 (ResOK.tmp rfl trivial Imp.refl) (ResOK.tmp rfl trivial Imp.refl)
  · replace h := bif_f h hb2
    refine Cod.skip ?_
    refine Ends.then ?_
    refine Cod.seq ?_
    refine Cod.region [] mixed (by kernel_rfl) ?_
    refine Chain.cons (StepOK.move .none (.tmp rfl (fun _ => trivial))) rfl ?_
    obtain ⟨r1, hv3, h⟩ := bind_some h
    refine Chain.cons (StepOK.call .none (tree_leaves_ok hv3) (.cons (.tmp rfl (fun _ => trivial)) .nil)) rfl ?_
    refine Chain.cons (StepOK.assign .none (.tmp rfl (fun _ => trivial))) rfl ?_
    refine Chain.cons (StepOK.assign .none (.int (by decide))) rfl ?_
    refine Chain.nil ?_
    refine Ends.then ?_
    refine Cod.ret ?_
    obtain rfl := some_eq h
    exact Ends.ret2 (.inl rfl) Try.results38 (ResOK.tmp rfl trivial Imp.refl) (ResOK.tmp rfl trivial Imp.refl)


end Go.Proofs.Ytakkmmhjohadaaa
