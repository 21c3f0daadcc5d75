/-
  The walks: what a function computes is what its plain function says (printed by a program of one's own).
-/
import Derived.Test.YtakkmmhjohadaaaTdmFa
set_option maxRecDepth 100000
set_option linter.unusedSimpArgs false
set_option linter.unusedVariables false
namespace Go.Proofs.Ytakkmmhjohadaaa
open Go Go.DB Go.RowKit

theorem tree_Check_1_ok {n1 : Int} {r : Bool}  (h : tree_Check_1 n1 = some r) : FSpec Try.prog 73 [rep n1] (rep r) := by
  unfold tree_Check_1 at h
  refine FSpec.intro (n := 9) fnok73 Try.func73 rfl Try.ntmps73 rfl (fun F => ?_)
  refine Cod.seq ?_
  refine Cod.region [] mixed (by kernel_rfl) ?_
  refine Chain.cons (StepOK.assign .none .bool) rfl ?_
  refine Chain.nil ?_
  refine Ends.then ?_
  refine Cod.seq ?_
  refine Cod.region [] mixed (by kernel_rfl) ?_
  refine Chain.cons (StepOK.move .none (.tmp rfl (fun _ => trivial))) rfl ?_
  refine Chain.cons (StepOK.ge .none (.tmp rfl (fun _ => trivial)) (.int (by decide))) rfl ?_
  refine Chain.cons (StepOK.move .none (.tmp rfl (fun _ => trivial))) rfl ?_
  refine Chain.cons (StepOK.move (.at rfl rfl) (.tmp rfl (fun _ => trivial))) rfl ?_
  refine Chain.cons (StepOK.le (.at rfl rfl) (.tmp rfl id) (.int (by decide))) rfl ?_
  refine Chain.cons (StepOK.pickAnd .none (.tmp rfl (fun _ => trivial)) (.tmp rfl id)) rfl ?_
  refine Chain.cons (StepOK.assign .none (.tmp rfl (fun _ => trivial))) rfl ?_
  refine Chain.nil ?_
  refine Ends.then ?_
  refine Cod.ret ?_
  obtain rfl := some_eq h
  exact Ends.ret1 (.inl rfl) Try.results73 (ResOK.tmp rfl trivial Imp.refl)

theorem slices_Index_bool_ok {s1 : (List Bool)} {v1 : Bool} {r : Int}  (h : slices_Index_bool s1 v1 = some r) : FSpec Try.prog 82 [rep s1, rep v1] (rep r) := by
  unfold slices_Index_bool at h
  refine FSpec.intro (n := 19) fnok82 Try.func82 rfl Try.ntmps82 rfl (fun F => ?_)
  refine Cod.seq ?_
  refine Cod.region [] mixed (by kernel_rfl) ?_
  refine Chain.cons (StepOK.assign .none (.int (by decide))) rfl ?_
  refine Chain.nil ?_
  refine Ends.then ?_
  refine Cod.seq ?_
  refine Cod.seq ?_
  refine Cod.region [] mixed (by kernel_rfl) ?_
  refine Chain.cons (StepOK.move .none (.tmp rfl (fun _ => trivial))) rfl ?_
  refine Chain.cons (StepOK.len .none sl100 (.tmp rfl (fun _ => trivial))) rfl ?_
  refine Chain.cons (StepOK.move .none (.int (by decide))) rfl ?_
  refine Chain.nil ?_
  refine Ends.then ?_
  obtain ⟨o_1, h, hK1⟩ := bindR_some h
  refine Cod.thenJ (ι := Unit) (fun j_1 => []) (fun j_1 => []) (fun s => o_1 = Res.nx s) Sub.nil SubB.nil ?_ (fun j_1 hj1 => ?_)
  · skip
    refine Cod.block ?_
    refine Cod.rforEL h (fun p2_ => [(8, ⟨True, rep p2_.1⟩)]) (fun p2_ => []) (.cons (t := 8) rfl Sub.nil) SubB.nil (.cons (t := 0) rfl (.cons (t := 1) rfl (.cons (t := 7) rfl Sub.nil))) SubB.nil (fun p2_ o_2 h hD2 => ?_)
    refine Cod.seq ?_
    refine Cod.region [] mixed (by kernel_rfl) ?_
    refine Chain.cons (StepOK.lt .none (.tmp rfl (fun _ => trivial)) (.tmp rfl (fun _ => trivial))) rfl ?_
    refine Chain.nil ?_
    refine Ends.then ?_
    refine Cod.seq ?_
    refine Cod.cond (t := 9) rfl trivial (fun hb3 => ?_) (fun hb3 => ?_)
    · replace h := bif_t h hb3
      refine Cod.skip ?_
      refine Ends.then ?_
      refine Cod.seq ?_
      obtain ⟨o_4, h, hK4⟩ := bindD_some h
      unfold slices_Index_bool_L1 at h
      refine Cod.thenJ (ι := Unit) (fun j_4 => []) (fun j_4 => []) (fun s => o_4 = Res.nx s) (.cons (t := 0) rfl (.cons (t := 1) rfl (.cons (t := 7) rfl (.cons (t := 8) rfl Sub.nil)))) SubB.nil ?_ (fun j_4 hj4 => ?_)
      · skip
        refine Cod.block ?_
        refine Cod.seq ?_
        refine Cod.region [] mixed (by kernel_rfl) ?_
        refine Chain.cons (StepOK.move .none (.tmp rfl (fun _ => trivial))) rfl ?_
        refine Chain.cons (StepOK.assign .none (.tmp rfl (fun _ => trivial))) rfl ?_
        refine Chain.nil ?_
        refine Ends.then ?_
        refine Cod.seq ?_
        refine Cod.region [] mixed (by kernel_rfl) ?_
        refine Chain.cons (StepOK.move .none (.tmp rfl (fun _ => trivial))) rfl ?_
        refine Chain.cons (StepOK.move .none (.tmp rfl (fun _ => trivial))) rfl ?_
        refine Chain.cons (StepOK.move .none (.tmp rfl (fun _ => trivial))) rfl ?_
        obtain ⟨hn5, h⟩ := need_some h
        refine Chain.cons (StepOK.indexAddr .none sl100 ty4 (.tmp rfl (fun _ => trivial)) (.tmp rfl (fun _ => trivial)) (fun _ => hn5)) rfl ?_
        refine Chain.cons (StepOK.load .none ty4 (.tmp rfl (fun _ => trivial))) rfl ?_
        refine Chain.cons (StepOK.eqS .none (eqAt_bool Try.underlying4) (.tmp rfl (fun _ => trivial)) (.tmp rfl (fun _ => trivial))) rfl ?_
        refine Chain.nil ?_
        refine Ends.then ?_
        refine Cod.cond (t := 16) rfl trivial (fun hb6 => ?_) (fun hb6 => ?_)
        · replace h := bif_t h hb6
          refine Cod.seq ?_
          refine Cod.region [] mixed (by kernel_rfl) ?_
          refine Chain.cons (StepOK.move .none (.tmp rfl (fun _ => trivial))) rfl ?_
          refine Chain.cons (StepOK.assign .none (.tmp rfl (fun _ => trivial))) rfl ?_
          refine Chain.nil ?_
          refine Ends.then ?_
          refine Cod.ret ?_
          refine Ends.blkRet ?_
          refine Ends.thenRet ?_
          refine Ends.thenRet ?_
          refine Ends.blkRet ?_
          refine Ends.thenRet ?_
          replace h := resd_ab hK4 (some_eq h)
          replace h := hD2 _ (some_eq h)
          replace h := resb_ab hK1 (some_eq h)
          obtain rfl := some_eq h
          exact Ends.ret1 (.inl rfl) Try.results82 (ResOK.tmp rfl trivial Imp.refl)
        · replace h := bif_f h hb6
          refine Cod.skip ?_
          refine Ends.blkNormal ?_
          exact Ends.join _ (some_eq h) (.cons (t := 0) rfl (.cons (t := 1) rfl (.cons (t := 7) rfl (.cons (t := 8) rfl Sub.nil)))) SubB.nil
      · have h := resd_nx hK4 hj4
        refine Cod.region [] mixed (by kernel_rfl) ?_
        refine Chain.cons (StepOK.addW .none (.tmp rfl (fun _ => trivial)) (.int (by decide))) rfl ?_
        refine Chain.cons (StepOK.move .none (.tmp rfl (fun _ => trivial))) rfl ?_
        refine Chain.nil ?_
        exact Ends.againL (some_eq h) (.cons (t := 8) rfl (.cons (t := 0) rfl (.cons (t := 1) rfl (.cons (t := 7) rfl Sub.nil)))) SubB.nil
    · replace h := bif_f h hb3
      refine Cod.exit ?_
      refine Ends.thenExit ?_
      refine Ends.thenExit ?_
      refine Ends.blkExit ?_
      replace h := hD2 _ (some_eq h)
      exact Ends.join _ (some_eq h) Sub.nil SubB.nil
  · have h := resb_nx hK1 hj1
    refine Cod.seq ?_
    refine Cod.region [] mixed (by kernel_rfl) ?_
    refine Chain.cons (StepOK.assign .none (.int (by decide))) rfl ?_
    refine Chain.nil ?_
    refine Ends.then ?_
    refine Cod.ret ?_
    obtain rfl := some_eq h
    exact Ends.ret1 (.inl rfl) Try.results82 (ResOK.tmp rfl trivial Imp.refl)

theorem slices_Contains_bool_ok {s1 : (List Bool)} {v1 : Bool} {r : Bool}  (h : slices_Contains_bool s1 v1 = some r) : FSpec Try.prog 68 [rep s1, rep v1] (rep r) := by
  unfold slices_Contains_bool at h
  refine FSpec.intro (n := 9) fnok68 Try.func68 rfl Try.ntmps68 rfl (fun F => ?_)
  refine Cod.seq ?_
  refine Cod.region [] mixed (by kernel_rfl) ?_
  refine Chain.cons (StepOK.assign .none .bool) rfl ?_
  refine Chain.nil ?_
  refine Ends.then ?_
  refine Cod.seq ?_
  refine Cod.region [] mixed (by kernel_rfl) ?_
  refine Chain.cons (StepOK.move .none (.tmp rfl (fun _ => trivial))) rfl ?_
  refine Chain.cons (StepOK.move .none (.tmp rfl (fun _ => trivial))) rfl ?_
  obtain ⟨r1, hv1, h⟩ := bind_some h
  refine Chain.cons (StepOK.call .none (slices_Index_bool_ok hv1) (.cons (.tmp rfl (fun _ => trivial)) (.cons (.tmp rfl (fun _ => trivial)) .nil))) rfl ?_
  refine Chain.cons (StepOK.ge .none (.tmp rfl (fun _ => trivial)) (.int (by decide))) rfl ?_
  refine Chain.cons (StepOK.assign .none (.tmp rfl (fun _ => trivial))) rfl ?_
  refine Chain.nil ?_
  refine Ends.then ?_
  refine Cod.ret ?_
  obtain rfl := some_eq h
  exact Ends.ret1 (.inl rfl) Try.results68 (ResOK.tmp rfl trivial Imp.refl)

theorem tree_levels_ok {t1 : (List Branch)} {r : (List (List Int))}  (h : tree_levels t1 = some r) : FSpec Try.prog 67 [rep t1] (rep r) := by
  unfold tree_levels at h
  refine FSpec.intro (n := 32) fnok67 Try.func67 rfl Try.ntmps67 rfl (fun F => ?_)
  refine Cod.seq ?_
  refine Cod.region [] mixed (by kernel_rfl) ?_
  refine Chain.cons (StepOK.assign .none (.const (x := ([] : (List (List Int)))) (fun M w => ⟨_, ⟨none, 0, rfl, Nat.le_refl _, by decide, rfl⟩, rfl⟩))) rfl ?_
  refine Chain.nil ?_
  refine Ends.then ?_
  refine Cod.seq ?_
  refine Cod.region [([], [3])] mixed (by kernel_rfl) ?_
  refine Chain.consW (StepOK.nilRow (T := 23) (α := (List Int)) rfl) rfl rfl ?_
  refine Chain.nil ?_
  refine Ends.then ?_
  refine Cod.nameRow (t := 3) (g := 5001) rfl rfl rfl (fun s5001 => ?_)
  refine Cod.seq ?_
  refine Cod.seq ?_
  refine Cod.region [] mixed (by kernel_rfl) ?_
  refine Chain.cons (StepOK.buildSlice (xs := [_]) .none sl23 ty3 hz3 (.cons (.int (by decide)) .nil) rfl (by decide)) rfl ?_
  obtain ⟨l1, hv1, h⟩ := bnd_some h
  refine Chain.cons (StepOK.re hv1 (StepOK.assign .none (.tmp rfl (fun _ => trivial)))) rfl ?_
  refine Chain.nil ?_
  refine Ends.then ?_
  obtain ⟨j_2, h, hK2⟩ := bind_some h
  refine Cod.thenJ (ι := (List (List Int))) (fun j_2 => []) (fun j_2 => [(3, some (rowV 23 j_2))]) (fun s => j_2 = s) Sub.nil SubB.nil ?_ (fun j_2' hj2 => ?_)
  · skip
    refine Cod.block ?_
    refine Cod.anon (t := 3) (g := 5001) rfl rfl trivial rfl ?_
    refine Cod.loopL h (fun s3_ => [(4, ⟨True, rep s3_.2⟩)]) (fun s3_ => [(3, some (rowV 23 s3_.1))]) (.cons (t := 4) rfl Sub.nil) (.cons (t := 3) rfl SubB.nil) (.cons (t := 0) rfl Sub.nil) SubB.nil (fun s3_ o_3 h hD3 => ?_)
    unfold tree_levels_L1 at h
    refine Cod.nameRow (t := 3) (g := 5002) rfl rfl rfl (fun s5002 => ?_)
    refine Cod.seq ?_
    refine Cod.seq ?_
    refine Cod.region [] mixed (by kernel_rfl) ?_
    refine Chain.cons (StepOK.move .none (.tmp rfl (fun _ => trivial))) rfl ?_
    refine Chain.cons (StepOK.len .none sl23 (.tmp rfl (fun _ => trivial))) rfl ?_
    refine Chain.cons (StepOK.gt .none (.tmp rfl (fun _ => trivial)) (.int (by decide))) rfl ?_
    refine Chain.nil ?_
    refine Ends.then ?_
    refine Cod.cond (t := 11) rfl trivial (fun hb4 => ?_) (fun hb4 => ?_)
    · replace h := bif_t h hb4
      refine Cod.skip ?_
      refine Ends.then ?_
      refine Cod.block ?_
      refine Cod.seq ?_
      refine Cod.region [([], []), ([], []), ([], []), ([5002], [15, 5002]), ([15], [3, 15])] mixed (by kernel_rfl) ?_
      refine Chain.consA (StepOK.move .none (.tmp rfl (fun _ => trivial))) rfl ?_
      refine Chain.consA (StepOK.move .none (.tmp rfl (fun _ => trivial))) rfl ?_
      refine Chain.consA (StepOK.buildSlice (xs := [_]) .none sl64 ty23 hz23 (.cons (.tmp rfl (fun _ => trivial)) .nil) rfl (by decide)) rfl ?_
      obtain ⟨hn5, h⟩ := need_some h
      refine Chain.consW (StepOK.append (k := 5002) rk64 rfl (.told (.tmp rfl (fun _ => trivial)) rfl) (.tmp rfl (fun _ => trivial)) hn5) rfl rfl ?_
      refine Chain.consWD (StepOK.passRow rfl (.tmp rfl)) rfl rfl ?_
      refine Chain.nil ?_
      refine Ends.then ?_
      obtain ⟨out1, hv6, h⟩ := bnd_some h
      refine Cod.reB (t := 3) rfl (congrArg (rowV 23) hv6) ?_
      refine Cod.nameRow (t := 3) (g := 5003) rfl rfl rfl (fun s5003 => ?_)
      refine Cod.seq ?_
      refine Cod.region [([], [5])] mixed (by kernel_rfl) ?_
      refine Chain.consW (StepOK.nilRow (T := 3) (α := Int) rfl) rfl rfl ?_
      refine Chain.nil ?_
      refine Ends.then ?_
      refine Cod.nameRow (t := 5) (g := 5004) rfl rfl rfl (fun s5004 => ?_)
      refine Cod.seq ?_
      refine Cod.seq ?_
      refine Cod.region [] mixed (by kernel_rfl) ?_
      refine Chain.cons (StepOK.move .none (.tmp rfl (fun _ => trivial))) rfl ?_
      refine Chain.cons (StepOK.len .none sl23 (.tmp rfl (fun _ => trivial))) rfl ?_
      refine Chain.cons (StepOK.move .none (.int (by decide))) rfl ?_
      refine Chain.nil ?_
      refine Ends.then ?_
      obtain ⟨j_7, h, hK7⟩ := bind_some h
      refine Cod.thenJ (ι := (List Int)) (fun j_7 => []) (fun j_7 => [(5, some (rowV 3 j_7))]) (fun s => j_7 = s) (.cons (t := 0) rfl (.cons (t := 3) rfl Sub.nil)) (.cons (t := 5003) rfl SubB.nil) ?_ (fun j_7' hj7 => ?_)
      · skip
        refine Cod.block ?_
        refine Cod.anon (t := 5) (g := 5004) rfl rfl trivial rfl ?_
        refine Cod.rforL h (fun p8_ => [(18, ⟨True, rep p8_.1⟩)]) (fun p8_ => [(5, some (rowV 3 p8_.2))]) (.cons (t := 18) rfl Sub.nil) (.cons (t := 5) rfl SubB.nil) (.cons (t := 0) rfl (.cons (t := 3) rfl (.cons (t := 16) rfl (.cons (t := 17) rfl Sub.nil)))) (.cons (t := 5003) rfl SubB.nil) (fun p8_ o_8 h hD8 => ?_)
        refine Cod.nameRow (t := 5) (g := 5005) rfl rfl rfl (fun s5005 => ?_)
        refine Cod.seq ?_
        refine Cod.region [] mixed (by kernel_rfl) ?_
        refine Chain.cons (StepOK.lt .none (.tmp rfl (fun _ => trivial)) (.tmp rfl (fun _ => trivial))) rfl ?_
        refine Chain.nil ?_
        refine Ends.then ?_
        refine Cod.seq ?_
        refine Cod.cond (t := 19) rfl trivial (fun hb9 => ?_) (fun hb9 => ?_)
        · replace h := bif_t h hb9
          refine Cod.skip ?_
          refine Ends.then ?_
          refine Cod.seq ?_
          obtain ⟨j_10, h, hK10⟩ := bind_some h
          unfold tree_levels_L2 at h
          refine Cod.thenJ (ι := (List Int)) (fun j_10 => []) (fun j_10 => [(5, some (rowV 3 j_10))]) (fun s => j_10 = s) (.cons (t := 0) rfl (.cons (t := 3) rfl (.cons (t := 16) rfl (.cons (t := 17) rfl (.cons (t := 18) rfl Sub.nil))))) (.cons (t := 5003) rfl SubB.nil) ?_ (fun j_10' hj10 => ?_)
          · skip
            refine Cod.block ?_
            refine Cod.seq ?_
            refine Cod.region [] mixed (by kernel_rfl) ?_
            obtain ⟨hn11, h⟩ := need_some h
            refine Chain.cons (StepOK.indexAddr .none sl23 ty3 (.tmp rfl (fun _ => trivial)) (.tmp rfl (fun _ => trivial)) (fun _ => hn11)) rfl ?_
            refine Chain.cons (StepOK.load .none ty3 (.tmp rfl (fun _ => trivial))) rfl ?_
            refine Chain.cons (StepOK.assign .none (.tmp rfl (fun _ => trivial))) rfl ?_
            refine Chain.nil ?_
            refine Ends.then ?_
            refine Cod.region [([], []), ([], []), ([], []), ([], []), ([], []), ([], []), ([5005], [28, 5005]), ([28], [5, 28])] mixed (by kernel_rfl) ?_
            refine Chain.consA (StepOK.move .none (.tmp rfl (fun _ => trivial))) rfl ?_
            refine Chain.consA (StepOK.move .none (.tmp rfl (fun _ => trivial))) rfl ?_
            refine Chain.consA (StepOK.move .none (.tmp rfl (fun _ => trivial))) rfl ?_
            obtain ⟨hn12, h⟩ := need_some h
            refine Chain.consA (StepOK.indexAddr .none sl56 ty67 (.tmp rfl (fun _ => trivial)) (.tmp rfl (fun _ => trivial)) (fun _ => hn12)) rfl ?_
            refine Chain.consA (StepOK.fieldAddr .none fd67_2 hfd67_2 (.tmp rfl (fun _ => trivial))) rfl ?_
            refine Chain.consA (StepOK.load .none ty23 (.tmp rfl (fun _ => trivial))) rfl ?_
            obtain ⟨hn13, h⟩ := need_some h
            refine Chain.consW (StepOK.append (k := 5005) rk23 rfl (.told (.tmp rfl (fun _ => trivial)) rfl) (.tmp rfl (fun _ => trivial)) hn13) rfl rfl ?_
            refine Chain.consWD (StepOK.passRow rfl (.tmp rfl)) rfl rfl ?_
            refine Chain.nil ?_
            refine Ends.blkNormal ?_
            exact Ends.join _ (some_eq h) (.cons (t := 0) rfl (.cons (t := 3) rfl (.cons (t := 16) rfl (.cons (t := 17) rfl (.cons (t := 18) rfl Sub.nil))))) (.cons (t := 5) rfl (.cons (t := 5003) rfl SubB.nil))
          · subst hj10; have h := hK10; clear hK10
            refine Cod.nameRow (t := 5) (g := 5006) rfl rfl rfl (fun s5006 => ?_)
            refine Cod.region [] mixed (by kernel_rfl) ?_
            refine Chain.cons (StepOK.addW .none (.tmp rfl (fun _ => trivial)) (.int (by decide))) rfl ?_
            refine Chain.cons (StepOK.move .none (.tmp rfl (fun _ => trivial))) rfl ?_
            refine Chain.nil ?_
            refine Ends.anon (t := 5) (g := 5006) rfl rfl trivial rfl ?_
            exact Ends.againL (some_eq h) (.cons (t := 18) rfl (.cons (t := 0) rfl (.cons (t := 3) rfl (.cons (t := 16) rfl (.cons (t := 17) rfl Sub.nil))))) (.cons (t := 5) rfl (.cons (t := 5003) rfl SubB.nil))
        · replace h := bif_f h hb9
          refine Cod.exit ?_
          refine Ends.thenExit ?_
          refine Ends.thenExit ?_
          refine Ends.blkExit ?_
          refine Ends.anon (t := 5) (g := 5005) rfl rfl trivial rfl ?_
          replace h := hD8 _ (some_eq h)
          exact Ends.join _ (some_eq h) (.cons (t := 0) rfl (.cons (t := 3) rfl Sub.nil)) (.cons (t := 5) rfl (.cons (t := 5003) rfl SubB.nil))
      · subst hj7; have h := hK7; clear hK7
        refine Cod.freezeRowA (t := 5) rfl rfl (.cons (t := 5003) rfl SubB.nil) rfl ?_
        refine Cod.region [] mixed (by kernel_rfl) ?_
        refine Chain.cons (StepOK.move .none (.tmp rfl (fun _ => trivial))) rfl ?_
        refine Chain.cons (StepOK.assign .none (.tmp rfl (fun _ => trivial))) rfl ?_
        refine Chain.nil ?_
        refine Ends.blkNormal ?_
        refine Ends.anon (t := 3) (g := 5003) rfl rfl trivial rfl ?_
        exact Ends.againL (some_eq h) (.cons (t := 4) rfl (.cons (t := 0) rfl Sub.nil)) (.cons (t := 3) rfl SubB.nil)
    · replace h := bif_f h hb4
      refine Cod.exit ?_
      refine Ends.thenExit ?_
      refine Ends.thenExit ?_
      refine Ends.blkExit ?_
      refine Ends.anon (t := 3) (g := 5002) rfl rfl trivial rfl ?_
      replace h := hD3 _ (some_eq h)
      exact Ends.join _ (some_eq h) Sub.nil (.cons (t := 3) rfl SubB.nil)
  · subst hj2; have h := hK2; clear hK2
    refine Cod.freezeRowA (t := 3) rfl rfl SubB.nil rfl ?_
    refine Cod.seq ?_
    refine Cod.region [] mixed (by kernel_rfl) ?_
    refine Chain.cons (StepOK.move .none (.tmp rfl (fun _ => trivial))) rfl ?_
    refine Chain.cons (StepOK.assign .none (.tmp rfl (fun _ => trivial))) rfl ?_
    refine Chain.nil ?_
    refine Ends.then ?_
    refine Cod.ret ?_
    obtain rfl := some_eq h
    exact Ends.ret1 (.inl rfl) Try.results67 (ResOK.tmp rfl trivial Imp.refl)

theorem tree_Check_ok {t1 : (List Branch)} {r : Int}  (h : tree_Check t1 = some r) : FSpec Try.prog 39 [rep t1] (rep r) := by
  unfold tree_Check at h
  refine FSpec.intro (n := 89) fnok39 Try.func39 rfl Try.ntmps39 rfl (fun F => ?_)
  refine Cod.seq ?_
  refine Cod.region [] mixed (by kernel_rfl) ?_
  refine Chain.cons (StepOK.assign .none (.int (by decide))) rfl ?_
  refine Chain.nil ?_
  refine Ends.then ?_
  refine Cod.seq ?_
  refine Cod.block ?_
  refine Cod.seq ?_
  refine Cod.region [] mixed (by kernel_rfl) ?_
  refine Chain.cons (StepOK.move .none (.tmp rfl (fun _ => trivial))) rfl ?_
  refine Chain.cons (StepOK.len .none sl56 (.tmp rfl (fun _ => trivial))) rfl ?_
  refine Chain.cons (StepOK.eqI .none (.tmp rfl (fun _ => trivial)) (.int (by decide))) rfl ?_
  refine Chain.cons (StepOK.assign .none (.tmp rfl (fun _ => trivial))) rfl ?_
  refine Chain.nil ?_
  refine Ends.then ?_
  refine Cod.cond (t := 12) rfl trivial (fun hb1 => ?_) (fun hb1 => ?_)
  · replace h := bif_t h hb1
    refine Cod.seq ?_
    refine Cod.region [] mixed (by kernel_rfl) ?_
    refine Chain.cons (StepOK.assign .none (.int (by decide))) rfl ?_
    refine Chain.nil ?_
    refine Ends.then ?_
    refine Cod.ret ?_
    refine Ends.blkRet ?_
    refine Ends.thenRet ?_
    obtain rfl := some_eq h
    exact Ends.ret1 (.inl rfl) Try.results39 (ResOK.tmp rfl trivial Imp.refl)
  · replace h := bif_f h hb1
    refine Cod.seq ?_
    refine Cod.region [] mixed (by kernel_rfl) ?_
    refine Chain.cons (StepOK.move .none (.tmp rfl (fun _ => trivial))) rfl ?_
    refine Chain.cons (StepOK.len .none sl56 (.tmp rfl (fun _ => trivial))) rfl ?_
    refine Chain.cons (StepOK.gt .none (.tmp rfl (fun _ => trivial)) (.int (by decide))) rfl ?_
    refine Chain.cons (StepOK.assign .none (.tmp rfl (fun _ => trivial))) rfl ?_
    refine Chain.nil ?_
    refine Ends.then ?_
    refine Cod.cond (t := 16) rfl trivial (fun hb2 => ?_) (fun hb2 => ?_)
    · replace h := bif_t h hb2
      refine Cod.seq ?_
      refine Cod.region [] mixed (by kernel_rfl) ?_
      refine Chain.cons (StepOK.assign .none (.int (by decide))) rfl ?_
      refine Chain.nil ?_
      refine Ends.then ?_
      refine Cod.ret ?_
      refine Ends.blkRet ?_
      refine Ends.thenRet ?_
      obtain rfl := some_eq h
      exact Ends.ret1 (.inl rfl) Try.results39 (ResOK.tmp rfl trivial Imp.refl)
    · replace h := bif_f h hb2
      refine Cod.skip ?_
      refine Ends.blkNormal ?_
      refine Ends.then ?_
      refine Cod.seq ?_
      refine Cod.region [] mixed (by kernel_rfl) ?_
      refine Chain.cons (StepOK.assign .none (Opd.func (ι := Int × Bool) (pre := fun i => tree_Check_1 i.1 = some i.2) (Ss := fun i => [rep i.1]) (S := fun i => rep i.2) fnok73 (fun i h => tree_Check_1_ok h))) rfl ?_
      refine Chain.nil ?_
      refine Ends.then ?_
      refine Cod.seq ?_
      refine Cod.region [([], []), ([], []), ([], [22]), ([22], [4, 22])] mixed (by kernel_rfl) ?_
      refine Chain.consA (StepOK.move .none (.tmp rfl (fun _ => trivial))) rfl ?_
      obtain ⟨v1, hv3, h⟩ := bnd_some h
      refine Chain.consA (StepOK.re hv3 (StepOK.len .none sl56 (.tmp rfl (fun _ => trivial)))) rfl ?_
      obtain ⟨hn4, h⟩ := need_some h
      refine Chain.consW (StepOK.makeSlice rk100 zo4 rfl (.tmp rfl (fun _ => trivial)) (.tmp rfl (fun _ => trivial)) hn4) rfl rfl ?_
      refine Chain.consW (StepOK.passRow rfl (.tmp rfl)) rfl rfl ?_
      refine Chain.nil ?_
      refine Ends.then ?_
      obtain ⟨isKid1, hv5, h⟩ := bnd_some h
      refine Cod.reB (t := 4) rfl (congrArg (rowV 4) hv5) ?_
      refine Cod.nameRow (t := 4) (g := 5001) rfl rfl rfl (fun s5001 => ?_)
      refine Cod.seq ?_
      refine Cod.seq ?_
      refine Cod.region [] mixed (by kernel_rfl) ?_
      refine Chain.cons (StepOK.move .none (.tmp rfl (fun _ => trivial))) rfl ?_
      refine Chain.cons (StepOK.len .none sl56 (.tmp rfl (fun _ => trivial))) rfl ?_
      refine Chain.cons (StepOK.move .none (.int (by decide))) rfl ?_
      refine Chain.nil ?_
      refine Ends.then ?_
      obtain ⟨o_6, h, hK6⟩ := bindR_some h
      refine Cod.thenJ (ι := (List Bool)) (fun j_6 => []) (fun j_6 => [(5001, some (CPred.at s5001 (rowV 4 j_6)))]) (fun s => o_6 = Res.nx s) (.cons (t := 0) rfl (.cons (t := 4) rfl Sub.nil)) SubB.nil ?_ (fun j_6 hj6 => ?_)
      · skip
        refine Cod.block ?_
        refine Cod.rforEL h (fun p7_ => [(25, ⟨True, rep p7_.1⟩)]) (fun p7_ => [(5001, some (CPred.at s5001 (rowV 4 p7_.2)))]) (.cons (t := 25) rfl Sub.nil) (.cons (t := 5001) rfl SubB.nil) (.cons (t := 0) rfl (.cons (t := 3) rfl (.cons (t := 4) rfl (.cons (t := 23) rfl (.cons (t := 24) rfl Sub.nil))))) SubB.nil (fun p7_ o_7 h hD7 => ?_)
        refine Cod.seq ?_
        refine Cod.region [] mixed (by kernel_rfl) ?_
        refine Chain.cons (StepOK.lt .none (.tmp rfl (fun _ => trivial)) (.tmp rfl (fun _ => trivial))) rfl ?_
        refine Chain.nil ?_
        refine Ends.then ?_
        refine Cod.seq ?_
        refine Cod.cond (t := 26) rfl trivial (fun hb8 => ?_) (fun hb8 => ?_)
        · replace h := bif_t h hb8
          refine Cod.skip ?_
          refine Ends.then ?_
          refine Cod.seq ?_
          obtain ⟨o_9, h, hK9⟩ := bindD_some h
          unfold tree_Check_L1 at h
          refine Cod.thenJ (ι := (List Bool)) (fun j_9 => []) (fun j_9 => [(5001, some (CPred.at s5001 (rowV 4 j_9)))]) (fun s => o_9 = Res.nx s) (.cons (t := 0) rfl (.cons (t := 3) rfl (.cons (t := 4) rfl (.cons (t := 23) rfl (.cons (t := 24) rfl (.cons (t := 25) rfl Sub.nil)))))) SubB.nil ?_ (fun j_9 hj9 => ?_)
          · skip
            refine Cod.block ?_
            refine Cod.seq ?_
            refine Cod.region [([], []), ([], []), ([], [6]), ([6], [6])] mixed (by kernel_rfl) ?_
            obtain ⟨hn10, h⟩ := need_some h
            refine Chain.consA (StepOK.indexAddr .none sl56 ty67 (.tmp rfl (fun _ => trivial)) (.tmp rfl (fun _ => trivial)) (fun _ => hn10)) rfl ?_
            obtain ⟨v2, hv11, h⟩ := bnd_some h
            refine Chain.consA (StepOK.re hv11 (StepOK.load .none ty67 (.tmp rfl (fun _ => trivial)))) rfl ?_
            refine Chain.consW (StepOK.alloc zo67 rfl) rfl rfl ?_
            refine Chain.consN (StepOK.store ty67 rfl rfl (.tmp rfl (fun _ => trivial))) rfl ?_
            refine Chain.nil ?_
            refine Ends.then ?_
            refine Cod.freeze (t := 6) rfl rfl (.cons (t := 5001) rfl SubB.nil) rfl ?_
            refine Cod.seq ?_
            refine Cod.seq ?_
            refine Cod.region [] mixed (by kernel_rfl) ?_
            refine Chain.cons (StepOK.move .none (.tmp rfl (fun _ => trivial))) rfl ?_
            refine Chain.cons (StepOK.fieldAddr .none fd67_0 hfd67_0 (.tmp rfl (fun _ => trivial))) rfl ?_
            refine Chain.cons (StepOK.load .none ty3 (.tmp rfl (fun _ => trivial))) rfl ?_
            obtain ⟨r1, hv12, h⟩ := bind_some h
            refine Chain.cons (StepOK.callV (v2.W_, r1) .none (.tmp rfl (fun _ => trivial)) (fun _ => hv12) (.cons (.tmp rfl (fun _ => trivial)) .nil)) rfl ?_
            refine Chain.cons (StepOK.not .none (.tmp rfl (fun _ => trivial))) rfl ?_
            refine Chain.cons (StepOK.move .none (.tmp rfl (fun _ => trivial))) rfl ?_
            refine Chain.cons (StepOK.move (.at rfl rfl) (.tmp rfl (fun _ => trivial))) rfl ?_
            refine Chain.cons (StepOK.fieldAddr (.at rfl rfl) fd67_1 hfd67_1 (.tmp rfl (fun _ => trivial))) rfl ?_
            refine Chain.cons (StepOK.load (.at rfl rfl) ty3 (.tmp rfl id)) rfl ?_
            obtain ⟨r2, hv13, h⟩ := bind_some h
            refine Chain.cons (StepOK.callV (v2.H, r2) (.at rfl rfl) (.tmp rfl id) (fun hg => gd_some hv13 ((notT hg.2))) (.cons (.tmp rfl id) .nil)) rfl ?_
            refine Chain.cons (StepOK.not (.at rfl rfl) (.tmp rfl id)) rfl ?_
            refine Chain.cons (StepOK.pickOr .none (.tmp rfl (fun _ => trivial)) (.tmp rfl id)) rfl ?_
            refine Chain.nil ?_
            refine Ends.then ?_
            refine Cod.cond (t := 40) rfl trivial (fun hb14 => ?_) (fun hb14 => ?_)
            · replace h := bif_t h hb14
              refine Cod.seq ?_
              refine Cod.region [] mixed (by kernel_rfl) ?_
              refine Chain.cons (StepOK.assign .none (.int (by decide))) rfl ?_
              refine Chain.nil ?_
              refine Ends.then ?_
              refine Cod.ret ?_
              refine Ends.thenRet ?_
              refine Ends.blkRet ?_
              refine Ends.thenRet ?_
              refine Ends.thenRet ?_
              refine Ends.blkRet ?_
              refine Ends.thenRet ?_
              replace h := resd_ab hK9 (some_eq h)
              replace h := hD7 _ (some_eq h)
              replace h := resb_ab hK6 (some_eq h)
              obtain rfl := some_eq h
              exact Ends.ret1 (.inl rfl) Try.results39 (ResOK.tmp rfl trivial Imp.refl)
            · replace h := bif_f h hb14
              refine Cod.skip ?_
              refine Ends.then ?_
              refine Cod.seq ?_
              refine Cod.region [] mixed (by kernel_rfl) ?_
              refine Chain.cons (StepOK.fieldAddr .none fd67_2 hfd67_2 (.tmp rfl (fun _ => trivial))) rfl ?_
              refine Chain.cons (StepOK.load .none ty23 (.tmp rfl (fun _ => trivial))) rfl ?_
              refine Chain.cons (StepOK.len .none sl23 (.tmp rfl (fun _ => trivial))) rfl ?_
              refine Chain.cons (StepOK.move .none (.int (by decide))) rfl ?_
              refine Chain.nil ?_
              refine Ends.then ?_
              refine Cod.block ?_
              refine Cod.rforEL h (fun p15_ => [(44, ⟨True, rep p15_.1⟩)]) (fun p15_ => [(5001, some (CPred.at s5001 (rowV 4 p15_.2)))]) (.cons (t := 44) rfl Sub.nil) (.cons (t := 5001) rfl SubB.nil) (.cons (t := 0) rfl (.cons (t := 3) rfl (.cons (t := 4) rfl (.cons (t := 23) rfl (.cons (t := 24) rfl (.cons (t := 25) rfl (.cons (t := 42) rfl (.cons (t := 43) rfl Sub.nil)))))))) SubB.nil (fun p15_ o_15 h hD15 => ?_)
              refine Cod.seq ?_
              refine Cod.region [] mixed (by kernel_rfl) ?_
              refine Chain.cons (StepOK.lt .none (.tmp rfl (fun _ => trivial)) (.tmp rfl (fun _ => trivial))) rfl ?_
              refine Chain.nil ?_
              refine Ends.then ?_
              refine Cod.seq ?_
              refine Cod.cond (t := 45) rfl trivial (fun hb16 => ?_) (fun hb16 => ?_)
              · replace h := bif_t h hb16
                refine Cod.skip ?_
                refine Ends.then ?_
                refine Cod.seq ?_
                obtain ⟨o_17, h, hK17⟩ := bindD_some h
                unfold tree_Check_L2 at h
                refine Cod.thenJ (ι := (List Bool)) (fun j_17 => []) (fun j_17 => [(5001, some (CPred.at s5001 (rowV 4 j_17)))]) (fun s => o_17 = Res.nx s) (.cons (t := 0) rfl (.cons (t := 3) rfl (.cons (t := 4) rfl (.cons (t := 23) rfl (.cons (t := 24) rfl (.cons (t := 25) rfl (.cons (t := 42) rfl (.cons (t := 43) rfl (.cons (t := 44) rfl Sub.nil))))))))) SubB.nil ?_ (fun j_17 hj17 => ?_)
                · skip
                  refine Cod.block ?_
                  refine Cod.seq ?_
                  refine Cod.region [] mixed (by kernel_rfl) ?_
                  obtain ⟨hn18, h⟩ := need_some h
                  refine Chain.cons (StepOK.indexAddr .none sl23 ty3 (.tmp rfl (fun _ => trivial)) (.tmp rfl (fun _ => trivial)) (fun _ => hn18)) rfl ?_
                  refine Chain.cons (StepOK.load .none ty3 (.tmp rfl (fun _ => trivial))) rfl ?_
                  obtain ⟨k1, hv19, h⟩ := bnd_some h
                  refine Chain.cons (StepOK.re hv19 (StepOK.assign .none (.tmp rfl (fun _ => trivial)))) rfl ?_
                  refine Chain.nil ?_
                  refine Ends.then ?_
                  refine Cod.seq ?_
                  refine Cod.block ?_
                  refine Cod.seq ?_
                  refine Cod.region [] mixed (by kernel_rfl) ?_
                  refine Chain.cons (StepOK.move .none (.tmp rfl (fun _ => trivial))) rfl ?_
                  refine Chain.cons (StepOK.lt .none (.tmp rfl (fun _ => trivial)) (.int (by decide))) rfl ?_
                  refine Chain.cons (StepOK.move .none (.tmp rfl (fun _ => trivial))) rfl ?_
                  refine Chain.cons (StepOK.move (.at rfl rfl) (.tmp rfl (fun _ => trivial))) rfl ?_
                  refine Chain.cons (StepOK.move (.at rfl rfl) (.tmp rfl (fun _ => trivial))) rfl ?_
                  refine Chain.cons (StepOK.len (.at rfl rfl) sl56 (.tmp rfl id)) rfl ?_
                  refine Chain.cons (StepOK.ge (.at rfl rfl) (.tmp rfl id) (.tmp rfl id)) rfl ?_
                  refine Chain.cons (StepOK.pickOr .none (.tmp rfl (fun _ => trivial)) (.tmp rfl id)) rfl ?_
                  refine Chain.cons (StepOK.assign .none (.tmp rfl (fun _ => trivial))) rfl ?_
                  refine Chain.nil ?_
                  refine Ends.then ?_
                  refine Cod.cond (t := 48) rfl trivial (fun hb20 => ?_) (fun hb20 => ?_)
                  · replace h := bif_t h hb20
                    refine Cod.seq ?_
                    refine Cod.region [] mixed (by kernel_rfl) ?_
                    refine Chain.cons (StepOK.assign .none (.int (by decide))) rfl ?_
                    refine Chain.nil ?_
                    refine Ends.then ?_
                    refine Cod.ret ?_
                    refine Ends.blkRet ?_
                    refine Ends.thenRet ?_
                    refine Ends.blkRet ?_
                    refine Ends.thenRet ?_
                    refine Ends.thenRet ?_
                    refine Ends.blkRet ?_
                    refine Ends.blkRet ?_
                    refine Ends.thenRet ?_
                    refine Ends.thenRet ?_
                    refine Ends.blkRet ?_
                    refine Ends.thenRet ?_
                    replace h := resd_ab hK17 (some_eq h)
                    replace h := hD15 _ (some_eq h)
                    replace h := resd_ab hK9 (some_eq h)
                    replace h := hD7 _ (some_eq h)
                    replace h := resb_ab hK6 (some_eq h)
                    obtain rfl := some_eq h
                    exact Ends.ret1 (.inl rfl) Try.results39 (ResOK.tmp rfl trivial Imp.refl)
                  · replace h := bif_f h hb20
                    refine Cod.seq ?_
                    refine Cod.region [] mixed (by kernel_rfl) ?_
                    refine Chain.cons (StepOK.move .none (.tmp rfl (fun _ => trivial))) rfl ?_
                    refine Chain.cons (StepOK.eqI .none (.tmp rfl (fun _ => trivial)) (.int (by decide))) rfl ?_
                    refine Chain.cons (StepOK.assign .none (.tmp rfl (fun _ => trivial))) rfl ?_
                    refine Chain.nil ?_
                    refine Ends.then ?_
                    refine Cod.cond (t := 57) rfl trivial (fun hb21 => ?_) (fun hb21 => ?_)
                    · replace h := bif_t h hb21
                      refine Cod.seq ?_
                      refine Cod.region [] mixed (by kernel_rfl) ?_
                      refine Chain.cons (StepOK.assign .none (.int (by decide))) rfl ?_
                      refine Chain.nil ?_
                      refine Ends.then ?_
                      refine Cod.ret ?_
                      refine Ends.blkRet ?_
                      refine Ends.thenRet ?_
                      refine Ends.blkRet ?_
                      refine Ends.thenRet ?_
                      refine Ends.thenRet ?_
                      refine Ends.blkRet ?_
                      refine Ends.blkRet ?_
                      refine Ends.thenRet ?_
                      refine Ends.thenRet ?_
                      refine Ends.blkRet ?_
                      refine Ends.thenRet ?_
                      replace h := resd_ab hK17 (some_eq h)
                      replace h := hD15 _ (some_eq h)
                      replace h := resd_ab hK9 (some_eq h)
                      replace h := hD7 _ (some_eq h)
                      replace h := resb_ab hK6 (some_eq h)
                      obtain rfl := some_eq h
                      exact Ends.ret1 (.inl rfl) Try.results39 (ResOK.tmp rfl trivial Imp.refl)
                    · replace h := bif_f h hb21
                      refine Cod.seq ?_
                      refine Cod.region [([], []), ([], []), ([5001], []), ([5001], []), ([], [])] mixed (by kernel_rfl) ?_
                      refine Chain.consA (StepOK.move .none (.tmp rfl (fun _ => trivial))) rfl ?_
                      refine Chain.consA (StepOK.move .none (.tmp rfl (fun _ => trivial))) rfl ?_
                      obtain ⟨hn22, h⟩ := need_some h
                      refine Chain.consA (StepOK.indexAddrO (k := 5001) .none sl100 ty4 (.tmp rfl (fun _ => trivial)) rfl (.tmp rfl (fun _ => trivial)) (fun _ => hn22)) rfl ?_
                      refine Chain.consA (StepOK.loadElem0 (k := 5001) .none ty4 (.tmp rfl (fun _ => trivial)) rfl (fun _ => hn22)) rfl ?_
                      refine Chain.consA (StepOK.assign .none (.tmp rfl (fun _ => trivial))) rfl ?_
                      refine Chain.nil ?_
                      refine Ends.then ?_
                      refine Cod.cond (t := 60) rfl trivial (fun hb23 => ?_) (fun hb23 => ?_)
                      · replace h := bif_t h hb23
                        refine Cod.seq ?_
                        refine Cod.region [] mixed (by kernel_rfl) ?_
                        refine Chain.cons (StepOK.assign .none (.int (by decide))) rfl ?_
                        refine Chain.nil ?_
                        refine Ends.then ?_
                        refine Cod.ret ?_
                        refine Ends.blkRet ?_
                        refine Ends.thenRet ?_
                        refine Ends.blkRet ?_
                        refine Ends.thenRet ?_
                        refine Ends.thenRet ?_
                        refine Ends.blkRet ?_
                        refine Ends.blkRet ?_
                        refine Ends.thenRet ?_
                        refine Ends.thenRet ?_
                        refine Ends.blkRet ?_
                        refine Ends.thenRet ?_
                        replace h := resd_ab hK17 (some_eq h)
                        replace h := hD15 _ (some_eq h)
                        replace h := resd_ab hK9 (some_eq h)
                        replace h := hD7 _ (some_eq h)
                        replace h := resb_ab hK6 (some_eq h)
                        obtain rfl := some_eq h
                        exact Ends.ret1 (.inl rfl) Try.results39 (ResOK.tmp rfl trivial Imp.refl)
                      · replace h := bif_f h hb23
                        refine Cod.skip ?_
                        refine Ends.blkNormal ?_
                        refine Ends.then ?_
                        refine Cod.region [([], []), ([], []), ([5001], []), ([5001], [5001])] mixed (by kernel_rfl) ?_
                        refine Chain.consA (StepOK.move .none (.tmp rfl (fun _ => trivial))) rfl ?_
                        refine Chain.consA (StepOK.move .none (.tmp rfl (fun _ => trivial))) rfl ?_
                        obtain ⟨hn24, h⟩ := need_some h
                        refine Chain.consA (StepOK.indexAddrO (k := 5001) .none sl100 ty4 (.tmp rfl (fun _ => trivial)) rfl (.tmp rfl (fun _ => trivial)) (fun _ => hn24)) rfl ?_
                        refine Chain.consN (StepOK.storeElem0 (k := 5001) ty4 (.tmp rfl (fun _ => trivial)) rfl .bool hn24) rfl ?_
                        refine Chain.nil ?_
                        refine Ends.blkNormal ?_
                        exact Ends.join _ (some_eq h) (.cons (t := 0) rfl (.cons (t := 3) rfl (.cons (t := 4) rfl (.cons (t := 23) rfl (.cons (t := 24) rfl (.cons (t := 25) rfl (.cons (t := 42) rfl (.cons (t := 43) rfl (.cons (t := 44) rfl Sub.nil))))))))) (.cons (t := 5001) rfl SubB.nil)
                · have h := resd_nx hK17 hj17
                  refine Cod.region [] mixed (by kernel_rfl) ?_
                  refine Chain.cons (StepOK.addW .none (.tmp rfl (fun _ => trivial)) (.int (by decide))) rfl ?_
                  refine Chain.cons (StepOK.move .none (.tmp rfl (fun _ => trivial))) rfl ?_
                  refine Chain.nil ?_
                  exact Ends.againL (some_eq h) (.cons (t := 44) rfl (.cons (t := 0) rfl (.cons (t := 3) rfl (.cons (t := 4) rfl (.cons (t := 23) rfl (.cons (t := 24) rfl (.cons (t := 25) rfl (.cons (t := 42) rfl (.cons (t := 43) rfl Sub.nil))))))))) (.cons (t := 5001) rfl SubB.nil)
              · replace h := bif_f h hb16
                refine Cod.exit ?_
                refine Ends.thenExit ?_
                refine Ends.thenExit ?_
                refine Ends.blkExit ?_
                refine Ends.blkNormal ?_
                replace h := hD15 _ (some_eq h)
                exact Ends.join _ (some_eq h) (.cons (t := 0) rfl (.cons (t := 3) rfl (.cons (t := 4) rfl (.cons (t := 23) rfl (.cons (t := 24) rfl (.cons (t := 25) rfl Sub.nil)))))) (.cons (t := 5001) rfl SubB.nil)
          · have h := resd_nx hK9 hj9
            refine Cod.region [] mixed (by kernel_rfl) ?_
            refine Chain.cons (StepOK.addW .none (.tmp rfl (fun _ => trivial)) (.int (by decide))) rfl ?_
            refine Chain.cons (StepOK.move .none (.tmp rfl (fun _ => trivial))) rfl ?_
            refine Chain.nil ?_
            exact Ends.againL (some_eq h) (.cons (t := 25) rfl (.cons (t := 0) rfl (.cons (t := 3) rfl (.cons (t := 4) rfl (.cons (t := 23) rfl (.cons (t := 24) rfl Sub.nil)))))) (.cons (t := 5001) rfl SubB.nil)
        · replace h := bif_f h hb8
          refine Cod.exit ?_
          refine Ends.thenExit ?_
          refine Ends.thenExit ?_
          refine Ends.blkExit ?_
          replace h := hD7 _ (some_eq h)
          exact Ends.join _ (some_eq h) (.cons (t := 0) rfl (.cons (t := 4) rfl Sub.nil)) (.cons (t := 5001) rfl SubB.nil)
      · have h := resb_nx hK6 hj6
        refine Cod.freezeRow (g := 5001) (ts := [4]) rfl (.cons (t := 4) rfl trivial .nil) SubB.nil rfl ?_
        refine Cod.seq ?_
        refine Cod.seq ?_
        refine Cod.region [] mixed (by kernel_rfl) ?_
        refine Chain.cons (StepOK.move .none (.tmp rfl (fun _ => trivial))) rfl ?_
        obtain ⟨hn25, h⟩ := need_some h
        refine Chain.cons (StepOK.slice .none sl100 ty4 (.tmp rfl (fun _ => trivial)) (.int (by decide)) rfl (fun _ => hn25)) rfl ?_
        obtain ⟨r3, hv26, h⟩ := bind_some h
        refine Chain.cons (StepOK.call .none (slices_Contains_bool_ok hv26) (.cons (.tmp rfl (fun _ => trivial)) (.cons .bool .nil))) rfl ?_
        refine Chain.nil ?_
        refine Ends.then ?_
        refine Cod.cond (t := 72) rfl trivial (fun hb27 => ?_) (fun hb27 => ?_)
        · replace h := bif_t h hb27
          refine Cod.seq ?_
          refine Cod.region [] mixed (by kernel_rfl) ?_
          refine Chain.cons (StepOK.assign .none (.int (by decide))) rfl ?_
          refine Chain.nil ?_
          refine Ends.then ?_
          refine Cod.ret ?_
          refine Ends.thenRet ?_
          obtain rfl := some_eq h
          exact Ends.ret1 (.inl rfl) Try.results39 (ResOK.tmp rfl trivial Imp.refl)
        · replace h := bif_f h hb27
          refine Cod.skip ?_
          refine Ends.then ?_
          refine Cod.seq ?_
          refine Cod.region [] mixed (by kernel_rfl) ?_
          refine Chain.cons (StepOK.assign .none (.int (by decide))) rfl ?_
          refine Chain.nil ?_
          refine Ends.then ?_
          refine Cod.seq ?_
          refine Cod.seq ?_
          refine Cod.region [] mixed (by kernel_rfl) ?_
          refine Chain.cons (StepOK.move .none (.tmp rfl (fun _ => trivial))) rfl ?_
          obtain ⟨r4, hv28, h⟩ := bind_some h
          refine Chain.cons (StepOK.call .none (tree_levels_ok hv28) (.cons (.tmp rfl (fun _ => trivial)) .nil)) rfl ?_
          refine Chain.cons (StepOK.len .none sl64 (.tmp rfl (fun _ => trivial))) rfl ?_
          refine Chain.cons (StepOK.move .none (.int (by decide))) rfl ?_
          refine Chain.nil ?_
          refine Ends.then ?_
          obtain ⟨j_29, h, hK29⟩ := bind_some h
          refine Cod.thenJ (ι := Int) (fun j_29 => [(9, ⟨True, rep j_29⟩)]) (fun j_29 => []) (fun s => j_29 = s) (.cons (t := 0) rfl Sub.nil) SubB.nil ?_ (fun j_29' hj29 => ?_)
          · skip
            refine Cod.block ?_
            refine Cod.rforL h (fun p30_ => [(76, ⟨True, rep p30_.1⟩), (9, ⟨True, rep p30_.2⟩)]) (fun p30_ => []) (.cons (t := 76) rfl (.cons (t := 9) rfl Sub.nil)) SubB.nil (.cons (t := 0) rfl (.cons (t := 74) rfl (.cons (t := 75) rfl Sub.nil))) SubB.nil (fun p30_ o_30 h hD30 => ?_)
            refine Cod.seq ?_
            refine Cod.region [] mixed (by kernel_rfl) ?_
            refine Chain.cons (StepOK.lt .none (.tmp rfl (fun _ => trivial)) (.tmp rfl (fun _ => trivial))) rfl ?_
            refine Chain.nil ?_
            refine Ends.then ?_
            refine Cod.seq ?_
            refine Cod.cond (t := 77) rfl trivial (fun hb31 => ?_) (fun hb31 => ?_)
            · replace h := bif_t h hb31
              refine Cod.skip ?_
              refine Ends.then ?_
              refine Cod.seq ?_
              obtain ⟨j_32, h, hK32⟩ := bind_some h
              unfold tree_Check_L3 at h
              refine Cod.thenJ (ι := Int) (fun j_32 => [(9, ⟨True, rep j_32⟩)]) (fun j_32 => []) (fun s => j_32 = s) (.cons (t := 0) rfl (.cons (t := 74) rfl (.cons (t := 75) rfl (.cons (t := 76) rfl Sub.nil)))) SubB.nil ?_ (fun j_32' hj32 => ?_)
              · skip
                refine Cod.block ?_
                refine Cod.seq ?_
                refine Cod.region [] mixed (by kernel_rfl) ?_
                obtain ⟨hn33, h⟩ := need_some h
                refine Chain.cons (StepOK.indexAddr .none sl64 ty23 (.tmp rfl (fun _ => trivial)) (.tmp rfl (fun _ => trivial)) (fun _ => hn33)) rfl ?_
                refine Chain.cons (StepOK.load .none ty23 (.tmp rfl (fun _ => trivial))) rfl ?_
                refine Chain.cons (StepOK.assign .none (.tmp rfl (fun _ => trivial))) rfl ?_
                refine Chain.nil ?_
                refine Ends.then ?_
                refine Cod.region [] mixed (by kernel_rfl) ?_
                refine Chain.cons (StepOK.move .none (.tmp rfl (fun _ => trivial))) rfl ?_
                refine Chain.cons (StepOK.move .none (.tmp rfl (fun _ => trivial))) rfl ?_
                refine Chain.cons (StepOK.len .none sl23 (.tmp rfl (fun _ => trivial))) rfl ?_
                refine Chain.cons (StepOK.addW .none (.tmp rfl (fun _ => trivial)) (.tmp rfl (fun _ => trivial))) rfl ?_
                obtain ⟨many1, hv34, h⟩ := bnd_some h
                refine Chain.cons (StepOK.re hv34 (StepOK.assign .none (.tmp rfl (fun _ => trivial)))) rfl ?_
                refine Chain.nil ?_
                refine Ends.blkNormal ?_
                exact Ends.join _ (some_eq h) (.cons (t := 9) rfl (.cons (t := 0) rfl (.cons (t := 74) rfl (.cons (t := 75) rfl (.cons (t := 76) rfl Sub.nil))))) SubB.nil
              · subst hj32; have h := hK32; clear hK32
                refine Cod.region [] mixed (by kernel_rfl) ?_
                refine Chain.cons (StepOK.addW .none (.tmp rfl (fun _ => trivial)) (.int (by decide))) rfl ?_
                refine Chain.cons (StepOK.move .none (.tmp rfl (fun _ => trivial))) rfl ?_
                refine Chain.nil ?_
                exact Ends.againL (some_eq h) (.cons (t := 76) rfl (.cons (t := 9) rfl (.cons (t := 0) rfl (.cons (t := 74) rfl (.cons (t := 75) rfl Sub.nil))))) SubB.nil
            · replace h := bif_f h hb31
              refine Cod.exit ?_
              refine Ends.thenExit ?_
              refine Ends.thenExit ?_
              refine Ends.blkExit ?_
              replace h := hD30 _ (some_eq h)
              exact Ends.join _ (some_eq h) (.cons (t := 9) rfl (.cons (t := 0) rfl Sub.nil)) SubB.nil
          · subst hj29; have h := hK29; clear hK29
            refine Cod.seq ?_
            refine Cod.seq ?_
            refine Cod.region [] mixed (by kernel_rfl) ?_
            refine Chain.cons (StepOK.move .none (.tmp rfl (fun _ => trivial))) rfl ?_
            refine Chain.cons (StepOK.move .none (.tmp rfl (fun _ => trivial))) rfl ?_
            refine Chain.cons (StepOK.len .none sl56 (.tmp rfl (fun _ => trivial))) rfl ?_
            refine Chain.cons (StepOK.lt .none (.tmp rfl (fun _ => trivial)) (.tmp rfl (fun _ => trivial))) rfl ?_
            refine Chain.nil ?_
            refine Ends.then ?_
            refine Cod.cond (t := 88) rfl trivial (fun hb35 => ?_) (fun hb35 => ?_)
            · replace h := bif_t h hb35
              refine Cod.seq ?_
              refine Cod.region [] mixed (by kernel_rfl) ?_
              refine Chain.cons (StepOK.assign .none (.int (by decide))) rfl ?_
              refine Chain.nil ?_
              refine Ends.then ?_
              refine Cod.ret ?_
              refine Ends.thenRet ?_
              obtain rfl := some_eq h
              exact Ends.ret1 (.inl rfl) Try.results39 (ResOK.tmp rfl trivial Imp.refl)
            · replace h := bif_f h hb35
              refine Cod.skip ?_
              refine Ends.then ?_
              refine Cod.seq ?_
              refine Cod.region [] mixed (by kernel_rfl) ?_
              refine Chain.cons (StepOK.assign .none (.int (by decide))) rfl ?_
              refine Chain.nil ?_
              refine Ends.then ?_
              refine Cod.ret ?_
              obtain rfl := some_eq h
              exact Ends.ret1 (.inl rfl) Try.results39 (ResOK.tmp rfl trivial Imp.refl)

theorem tree_floor_ok {a1 : Int} {b1 : Int} {r : Int}  (h : tree_floor a1 b1 = some r) : FSpec Try.prog 81 [rep a1, rep b1] (rep r) := by
  unfold tree_floor at h
  refine FSpec.intro (n := 16) fnok81 Try.func81 rfl Try.ntmps81 rfl (fun F => ?_)
  refine Cod.seq ?_
  refine Cod.region [] mixed (by kernel_rfl) ?_
  refine Chain.cons (StepOK.assign .none (.int (by decide))) rfl ?_
  refine Chain.nil ?_
  refine Ends.then ?_
  refine Cod.seq ?_
  refine Cod.region [] mixed (by kernel_rfl) ?_
  refine Chain.cons (StepOK.move .none (.tmp rfl (fun _ => trivial))) rfl ?_
  refine Chain.cons (StepOK.move .none (.tmp rfl (fun _ => trivial))) rfl ?_
  obtain ⟨hn1, h⟩ := need_some h
  refine Chain.cons (StepOK.quo .none (.tmp rfl (fun _ => trivial)) (.tmp rfl (fun _ => trivial)) (fun _ => hn1)) rfl ?_
  obtain ⟨q1, hv2, h⟩ := bnd_some h
  refine Chain.cons (StepOK.re hv2 (StepOK.assign .none (.tmp rfl (fun _ => trivial)))) rfl ?_
  refine Chain.nil ?_
  refine Ends.then ?_
  refine Cod.seq ?_
  refine Cod.seq ?_
  refine Cod.region [] mixed (by kernel_rfl) ?_
  refine Chain.cons (StepOK.move .none (.tmp rfl (fun _ => trivial))) rfl ?_
  refine Chain.cons (StepOK.move .none (.tmp rfl (fun _ => trivial))) rfl ?_
  obtain ⟨hn3, h⟩ := need_some h
  refine Chain.cons (StepOK.rem .none (.tmp rfl (fun _ => trivial)) (.tmp rfl (fun _ => trivial)) (fun _ => hn3)) rfl ?_
  refine Chain.cons (StepOK.lt .none (.tmp rfl (fun _ => trivial)) (.int (by decide))) rfl ?_
  refine Chain.nil ?_
  refine Ends.then ?_
  obtain ⟨j_4, h, hK4⟩ := bind_some h
  refine Cod.thenJ (ι := Int) (fun j_4 => [(5, ⟨True, rep j_4⟩)]) (fun j_4 => []) (fun s => j_4 = s) Sub.nil SubB.nil ?_ (fun j_4' hj4 => ?_)
  · skip
    refine Cod.cond (t := 12) rfl trivial (fun hb5 => ?_) (fun hb5 => ?_)
    · replace h := bif_t h hb5
      refine Cod.region [] mixed (by kernel_rfl) ?_
      refine Chain.cons (StepOK.move .none (.tmp rfl (fun _ => trivial))) rfl ?_
      refine Chain.cons (StepOK.subW .none (.tmp rfl (fun _ => trivial)) (.int (by decide))) rfl ?_
      obtain ⟨q2, hv6, h⟩ := bnd_some h
      refine Chain.cons (StepOK.re hv6 (StepOK.assign .none (.tmp rfl (fun _ => trivial)))) rfl ?_
      refine Chain.nil ?_
      exact Ends.join _ (some_eq h) (.cons (t := 5) rfl Sub.nil) SubB.nil
    · replace h := bif_f h hb5
      refine Cod.skip ?_
      exact Ends.join _ (some_eq h) (.cons (t := 5) rfl Sub.nil) SubB.nil
  · subst hj4; have h := hK4; clear hK4
    refine Cod.seq ?_
    refine Cod.region [] mixed (by kernel_rfl) ?_
    refine Chain.cons (StepOK.move .none (.tmp rfl (fun _ => trivial))) rfl ?_
    refine Chain.cons (StepOK.assign .none (.tmp rfl (fun _ => trivial))) rfl ?_
    refine Chain.nil ?_
    refine Ends.then ?_
    refine Cod.ret ?_
    obtain rfl := some_eq h
    exact Ends.ret1 (.inl rfl) Try.results81 (ResOK.tmp rfl trivial Imp.refl)

theorem tree_drawer_draw_okS {self : (Tree_drawer × Int) → Option ((List Tree_stretch) × Tree_drawer)} (hself : ∀ {m153 : Nat} {s154 : Value} {s155 : Value} (x : (Tree_drawer × Int)) (r : ((List Tree_stretch) × Tree_drawer)), self x = some r → FSpecO Try.prog 66 [isV (ptr m153 0), rep x.2] [(ptr m153 0, cont 97 (⟨x.1.t, x.1.gap, ⟨s154⟩, ⟨s155⟩⟩ : Tree_drawer_o23)), (s154, rowV 3 x.1.x), (s155, rowV 3 x.1.moved)] (rep r.1) [some (deep (fun z0 => deep (fun z1 => cont 97 (⟨r.2.t, r.2.gap, ⟨z0⟩, ⟨z1⟩⟩ : Tree_drawer_o23)) (rowV 3 r.2.moved)) (rowV 3 r.2.x)), none, none]) {m153 : Nat} {s154 : Value} {s155 : Value} {x : (Tree_drawer × Int)} {r : ((List Tree_stretch) × Tree_drawer)} (h : tree_drawer_draw_body self x = some r) : FSpecO Try.prog 66 [isV (ptr m153 0), rep x.2] [(ptr m153 0, cont 97 (⟨x.1.t, x.1.gap, ⟨s154⟩, ⟨s155⟩⟩ : Tree_drawer_o23)), (s154, rowV 3 x.1.x), (s155, rowV 3 x.1.moved)] (rep r.1) [some (deep (fun z0 => deep (fun z1 => cont 97 (⟨r.2.t, r.2.gap, ⟨z0⟩, ⟨z1⟩⟩ : Tree_drawer_o23)) (rowV 3 r.2.moved)) (rowV 3 r.2.x)), none, none] := by
  unfold tree_drawer_draw_body at h
  refine FSpecO.intro (n := 153) fnok66 Try.func66 rfl Try.ntmps66 rfl (fun F => ?_)
  refine Cod.seq ?_
  refine Cod.region [] mixed (by kernel_rfl) ?_
  refine Chain.cons (StepOK.assign .none (.const (x := ([] : (List Tree_stretch))) (fun M w => ⟨_, ⟨none, 0, rfl, Nat.le_refl _, by decide, rfl⟩, rfl⟩))) rfl ?_
  refine Chain.nil ?_
  refine Ends.then ?_
  refine Cod.seq ?_
  refine Cod.region [([], []), ([], []), ([], []), ([153], []), ([], []), ([], []), ([], []), ([], [5]), ([5], [5])] mixed (by kernel_rfl) ?_
  refine Chain.consA (StepOK.move .none (.tmp rfl (fun _ => trivial))) rfl ?_
  refine Chain.consA (StepOK.nilCheckP .none (.tmp rfl (fun _ => trivial))) rfl ?_
  refine Chain.consA (StepOK.fieldPtr .none fd97_0 (.tmp rfl (fun _ => trivial))) rfl ?_
  refine Chain.consA (StepOK.loadAt (k := 153) .none ty56 rfl (.tmp rfl (fun _ => trivial)) hv_Tree_drawer_o23_0) rfl ?_
  refine Chain.consA (StepOK.move .none (.tmp rfl (fun _ => trivial))) rfl ?_
  obtain ⟨hn1, h⟩ := need_some h
  refine Chain.consA (StepOK.indexAddr .none sl56 ty67 (.tmp rfl (fun _ => trivial)) (.tmp rfl (fun _ => trivial)) (fun _ => hn1)) rfl ?_
  obtain ⟨v1, hv2, h⟩ := bnd_some h
  refine Chain.consA (StepOK.re hv2 (StepOK.load .none ty67 (.tmp rfl (fun _ => trivial)))) rfl ?_
  refine Chain.consW (StepOK.alloc zo67 rfl) rfl rfl ?_
  refine Chain.consN (StepOK.store ty67 rfl rfl (.tmp rfl (fun _ => trivial))) rfl ?_
  refine Chain.nil ?_
  refine Ends.then ?_
  refine Cod.freeze (t := 5) rfl rfl (.cons (t := 153) rfl (.cons (t := 154) rfl (.cons (t := 155) rfl SubB.nil))) rfl ?_
  refine Cod.seq ?_
  refine Cod.region [([], [6])] mixed (by kernel_rfl) ?_
  refine Chain.consW (StepOK.nilRow (T := 113) (α := Tree_stretch) rfl) rfl rfl ?_
  refine Chain.nil ?_
  refine Ends.then ?_
  refine Cod.nameRow (t := 6) (g := 5001) rfl rfl rfl (fun s5001 => ?_)
  refine Cod.seq ?_
  refine Cod.seq ?_
  refine Cod.region [] mixed (by kernel_rfl) ?_
  refine Chain.cons (StepOK.fieldAddr .none fd67_2 hfd67_2 (.tmp rfl (fun _ => trivial))) rfl ?_
  refine Chain.cons (StepOK.load .none ty23 (.tmp rfl (fun _ => trivial))) rfl ?_
  refine Chain.cons (StepOK.len .none sl23 (.tmp rfl (fun _ => trivial))) rfl ?_
  refine Chain.cons (StepOK.move .none (.int (by decide))) rfl ?_
  refine Chain.nil ?_
  refine Ends.then ?_
  obtain ⟨j_3, h, hK3⟩ := bind_some h
  refine Cod.thenJ (ι := ((List Tree_stretch) × Tree_drawer)) (fun j_3 => []) (fun j_3 => [(6, some (rowV 113 j_3.1)), (153, some (CPred.at (ptr m153 0) (deep (fun z0 => deep (fun z1 => cont 97 (⟨j_3.2.t, j_3.2.gap, ⟨z0⟩, ⟨z1⟩⟩ : Tree_drawer_o23)) (rowV 3 j_3.2.moved)) (rowV 3 j_3.2.x))))]) (fun s => j_3 = s) (.cons (t := 0) rfl (.cons (t := 1) rfl (.cons (t := 5) rfl Sub.nil))) SubB.nil ?_ (fun j_3' hj3 => ?_)
  · skip
    refine Cod.block ?_
    refine Cod.anon (t := 6) (g := 5001) rfl rfl trivial rfl ?_
    refine Cod.close (k := 153) (g := 155) (fun z => cont 97 (⟨x.1.t, x.1.gap, ⟨s154⟩, ⟨z⟩⟩ : Tree_drawer_o23)) rfl rfl rfl ?_
    refine Cod.close (k := 153) (g := 154) (fun z => deep (fun z0 => cont 97 (⟨x.1.t, x.1.gap, ⟨z⟩, ⟨z0⟩⟩ : Tree_drawer_o23)) (rowV 3 x.1.moved)) rfl rfl rfl ?_
    refine Cod.rforL h (fun p4_ => [(25, ⟨True, rep p4_.1⟩)]) (fun p4_ => [(6, some (rowV 113 p4_.2.1)), (153, some (CPred.at (ptr m153 0) (deep (fun z0 => deep (fun z1 => cont 97 (⟨p4_.2.2.t, p4_.2.2.gap, ⟨z0⟩, ⟨z1⟩⟩ : Tree_drawer_o23)) (rowV 3 p4_.2.2.moved)) (rowV 3 p4_.2.2.x))))]) (.cons (t := 25) rfl Sub.nil) (.cons (t := 6) rfl (.cons (t := 153) rfl SubB.nil)) (.cons (t := 0) rfl (.cons (t := 1) rfl (.cons (t := 5) rfl (.cons (t := 23) rfl (.cons (t := 24) rfl Sub.nil))))) SubB.nil (fun p4_ o_4 h hD4 => ?_)
    refine Cod.nameRow (t := 6) (g := 5002) rfl rfl rfl (fun s5002 => ?_)
    refine Cod.open (k := 153) (g := 5003) rfl rfl (fun s5003 => ?_)
    refine Cod.open (k := 153) (g := 5004) rfl rfl (fun s5004 => ?_)
    refine Cod.seq ?_
    refine Cod.region [] mixed (by kernel_rfl) ?_
    refine Chain.cons (StepOK.lt .none (.tmp rfl (fun _ => trivial)) (.tmp rfl (fun _ => trivial))) rfl ?_
    refine Chain.nil ?_
    refine Ends.then ?_
    refine Cod.seq ?_
    refine Cod.cond (t := 26) rfl trivial (fun hb5 => ?_) (fun hb5 => ?_)
    · replace h := bif_t h hb5
      refine Cod.skip ?_
      refine Ends.then ?_
      refine Cod.seq ?_
      obtain ⟨j_6, h, hK6⟩ := bind_some h
      unfold tree_drawer_draw_L1 at h
      refine Cod.thenJ (ι := ((List Tree_stretch) × Tree_drawer)) (fun j_6 => []) (fun j_6 => [(6, some (rowV 113 j_6.1)), (153, some (CPred.at (ptr m153 0) (deep (fun z0 => deep (fun z1 => cont 97 (⟨j_6.2.t, j_6.2.gap, ⟨z0⟩, ⟨z1⟩⟩ : Tree_drawer_o23)) (rowV 3 j_6.2.moved)) (rowV 3 j_6.2.x))))]) (fun s => j_6 = s) (.cons (t := 0) rfl (.cons (t := 1) rfl (.cons (t := 5) rfl (.cons (t := 23) rfl (.cons (t := 24) rfl (.cons (t := 25) rfl Sub.nil)))))) SubB.nil ?_ (fun j_6' hj6 => ?_)
      · skip
        refine Cod.block ?_
        refine Cod.seq ?_
        refine Cod.region [] mixed (by kernel_rfl) ?_
        refine Chain.cons (StepOK.move .none (.tmp rfl (fun _ => trivial))) rfl ?_
        obtain ⟨hn7, h⟩ := need_some h
        refine Chain.cons (StepOK.indexAddr .none sl23 ty3 (.tmp rfl (fun _ => trivial)) (.tmp rfl (fun _ => trivial)) (fun _ => hn7)) rfl ?_
        refine Chain.cons (StepOK.load .none ty3 (.tmp rfl (fun _ => trivial))) rfl ?_
        refine Chain.cons (StepOK.assign .none (.tmp rfl (fun _ => trivial))) rfl ?_
        obtain ⟨kid1, hv8, h⟩ := bnd_some h
        refine Chain.cons (StepOK.re hv8 (StepOK.assign .none (.tmp rfl (fun _ => trivial)))) rfl ?_
        refine Chain.nil ?_
        refine Ends.then ?_
        refine Cod.seq ?_
        refine Cod.region [([], []), ([], []), ([153, 5003, 5004], [153, 5003, 5004]), ([], [])] mixed (by kernel_rfl) ?_
        refine Chain.consA (StepOK.move .none (.tmp rfl (fun _ => trivial))) rfl ?_
        refine Chain.consA (StepOK.move .none (.tmp rfl (fun _ => trivial))) rfl ?_
        obtain ⟨l1, hv9, h⟩ := bind_some h
        refine Chain.consW (StepOK.callO [153, 5003, 5004] (hself _ _ hv9) (.cons (.tmp rfl (fun _ => trivial)) (.cons (.tmp rfl (fun _ => trivial)) .nil)) (.cons (k := 153) rfl (.cons (k := 5003) rfl (.cons (k := 5004) rfl .nil))) rfl (by decide) (by decide) (by intro d h; cases h; decide)) rfl rfl ?_
        refine Chain.consA (StepOK.assign .none (.tmp rfl (fun _ => trivial))) rfl ?_
        refine Chain.nil ?_
        refine Ends.then ?_
        refine Cod.open (k := 153) (g := 5005) rfl rfl (fun s5005 => ?_)
        refine Cod.open (k := 153) (g := 5006) rfl rfl (fun s5006 => ?_)
        refine Cod.seq ?_
        refine Cod.region [] mixed (by kernel_rfl) ?_
        refine Chain.cons (StepOK.assign .none (.int (by decide))) rfl ?_
        refine Chain.nil ?_
        refine Ends.then ?_
        refine Cod.seq ?_
        refine Cod.seq ?_
        refine Cod.region [([], []), ([5002], []), ([], []), ([], []), ([], []), ([], [])] mixed (by kernel_rfl) ?_
        refine Chain.consA (StepOK.move .none (.tmp rfl (fun _ => trivial))) rfl ?_
        refine Chain.consA (StepOK.lenO (k := 5002) sl98 (.told (.tmp rfl (fun _ => trivial)) rfl)) rfl ?_
        refine Chain.consA (StepOK.move .none (.tmp rfl (fun _ => trivial))) rfl ?_
        refine Chain.consA (StepOK.len .none sl98 (.tmp rfl (fun _ => trivial))) rfl ?_
        refine Chain.consA (StepOK.min2 .none (.tmp rfl (fun _ => trivial)) (.tmp rfl (fun _ => trivial))) rfl ?_
        refine Chain.consA (StepOK.move .none (.int (by decide))) rfl ?_
        refine Chain.nil ?_
        refine Ends.then ?_
        obtain ⟨j_10, h, hK10⟩ := bind_some h
        refine Cod.thenJ (ι := Int) (fun j_10 => [(10, ⟨True, rep j_10⟩)]) (fun j_10 => []) (fun s => j_10 = s) (.cons (t := 0) rfl (.cons (t := 1) rfl (.cons (t := 5) rfl (.cons (t := 6) rfl (.cons (t := 7) rfl (.cons (t := 8) rfl (.cons (t := 9) rfl (.cons (t := 23) rfl (.cons (t := 24) rfl (.cons (t := 25) rfl Sub.nil)))))))))) (.cons (t := 153) rfl (.cons (t := 5002) rfl (.cons (t := 5005) rfl (.cons (t := 5006) rfl SubB.nil)))) ?_ (fun j_10' hj10 => ?_)
        · skip
          refine Cod.block ?_
          refine Cod.rforL h (fun p11_ => [(38, ⟨True, rep p11_.1⟩), (10, ⟨True, rep p11_.2⟩)]) (fun p11_ => []) (.cons (t := 38) rfl (.cons (t := 10) rfl Sub.nil)) SubB.nil (.cons (t := 0) rfl (.cons (t := 1) rfl (.cons (t := 5) rfl (.cons (t := 6) rfl (.cons (t := 7) rfl (.cons (t := 8) rfl (.cons (t := 9) rfl (.cons (t := 23) rfl (.cons (t := 24) rfl (.cons (t := 25) rfl (.cons (t := 37) rfl Sub.nil))))))))))) (.cons (t := 153) rfl (.cons (t := 5002) rfl (.cons (t := 5005) rfl (.cons (t := 5006) rfl SubB.nil)))) (fun p11_ o_11 h hD11 => ?_)
          refine Cod.seq ?_
          refine Cod.region [] mixed (by kernel_rfl) ?_
          refine Chain.cons (StepOK.lt .none (.tmp rfl (fun _ => trivial)) (.tmp rfl (fun _ => trivial))) rfl ?_
          refine Chain.nil ?_
          refine Ends.then ?_
          refine Cod.seq ?_
          refine Cod.cond (t := 39) rfl trivial (fun hb12 => ?_) (fun hb12 => ?_)
          · replace h := bif_t h hb12
            refine Cod.skip ?_
            refine Ends.then ?_
            refine Cod.seq ?_
            obtain ⟨j_13, h, hK13⟩ := bind_some h
            unfold tree_drawer_draw_L2 at h
            refine Cod.thenJ (ι := Int) (fun j_13 => [(10, ⟨True, rep j_13⟩)]) (fun j_13 => []) (fun s => j_13 = s) (.cons (t := 0) rfl (.cons (t := 1) rfl (.cons (t := 5) rfl (.cons (t := 6) rfl (.cons (t := 7) rfl (.cons (t := 8) rfl (.cons (t := 9) rfl (.cons (t := 23) rfl (.cons (t := 24) rfl (.cons (t := 25) rfl (.cons (t := 37) rfl (.cons (t := 38) rfl Sub.nil)))))))))))) (.cons (t := 153) rfl (.cons (t := 5002) rfl (.cons (t := 5005) rfl (.cons (t := 5006) rfl SubB.nil)))) ?_ (fun j_13' hj13 => ?_)
            · skip
              refine Cod.block ?_
              refine Cod.seq ?_
              refine Cod.region [] mixed (by kernel_rfl) ?_
              refine Chain.cons (StepOK.move .none (.tmp rfl (fun _ => trivial))) rfl ?_
              refine Chain.cons (StepOK.assign .none (.tmp rfl (fun _ => trivial))) rfl ?_
              refine Chain.nil ?_
              refine Ends.then ?_
              refine Cod.seq ?_
              refine Cod.region [([], []), ([], []), ([5002], []), ([5002], []), ([5002], []), ([], []), ([], []), ([], []), ([153], []), ([], []), ([], []), ([], []), ([], []), ([], []), ([], []), ([], []), ([], [])] mixed (by kernel_rfl) ?_
              refine Chain.consA (StepOK.move .none (.tmp rfl (fun _ => trivial))) rfl ?_
              refine Chain.consA (StepOK.move .none (.tmp rfl (fun _ => trivial))) rfl ?_
              obtain ⟨hn14, h⟩ := need_some h
              refine Chain.consA (StepOK.indexAddrO (k := 5002) .none sl98 ty113 (.tmp rfl (fun _ => trivial)) rfl (.tmp rfl (fun _ => trivial)) (fun _ => hn14)) rfl ?_
              refine Chain.consA (StepOK.fieldElem (k := 5002) .none fd113_1 (.tmp rfl (fun _ => trivial)) rfl (fun _ => hn14)) rfl ?_
              refine Chain.consA (StepOK.loadElem (k := 5002) .none ty3 (.tmp rfl (fun _ => trivial)) rfl hfd113_1 (fun _ => hn14)) rfl ?_
              refine Chain.consA (StepOK.move .none (.tmp rfl (fun _ => trivial))) rfl ?_
              refine Chain.consA (StepOK.nilCheckP .none (.tmp rfl (fun _ => trivial))) rfl ?_
              refine Chain.consA (StepOK.fieldPtr .none fd97_1 (.tmp rfl (fun _ => trivial))) rfl ?_
              refine Chain.consA (StepOK.loadAt (k := 153) .none ty3 rfl (.tmp rfl (fun _ => trivial)) hv_Tree_drawer_o23_1) rfl ?_
              refine Chain.consA (StepOK.addW .none (.tmp rfl (fun _ => trivial)) (.tmp rfl (fun _ => trivial))) rfl ?_
              refine Chain.consA (StepOK.move .none (.tmp rfl (fun _ => trivial))) rfl ?_
              refine Chain.consA (StepOK.move .none (.tmp rfl (fun _ => trivial))) rfl ?_
              obtain ⟨hn15, h⟩ := need_some h
              refine Chain.consA (StepOK.indexAddr .none sl98 ty113 (.tmp rfl (fun _ => trivial)) (.tmp rfl (fun _ => trivial)) (fun _ => hn15)) rfl ?_
              refine Chain.consA (StepOK.fieldAddr .none fd113_0 hfd113_0 (.tmp rfl (fun _ => trivial))) rfl ?_
              refine Chain.consA (StepOK.load .none ty3 (.tmp rfl (fun _ => trivial))) rfl ?_
              refine Chain.consA (StepOK.subW .none (.tmp rfl (fun _ => trivial)) (.tmp rfl (fun _ => trivial))) rfl ?_
              obtain ⟨n1, hv16, h⟩ := bnd_some h
              refine Chain.consA (StepOK.re hv16 (StepOK.assign .none (.tmp rfl (fun _ => trivial)))) rfl ?_
              refine Chain.nil ?_
              refine Ends.then ?_
              refine Cod.seq ?_
              refine Cod.region [] mixed (by kernel_rfl) ?_
              refine Chain.cons (StepOK.move .none (.tmp rfl (fun _ => trivial))) rfl ?_
              refine Chain.cons (StepOK.eqI .none (.tmp rfl (fun _ => trivial)) (.int (by decide))) rfl ?_
              refine Chain.cons (StepOK.move .none (.tmp rfl (fun _ => trivial))) rfl ?_
              refine Chain.cons (StepOK.move (.at rfl rfl) (.tmp rfl (fun _ => trivial))) rfl ?_
              refine Chain.cons (StepOK.move (.at rfl rfl) (.tmp rfl (fun _ => trivial))) rfl ?_
              refine Chain.cons (StepOK.gt (.at rfl rfl) (.tmp rfl id) (.tmp rfl id)) rfl ?_
              refine Chain.cons (StepOK.pickOr .none (.tmp rfl (fun _ => trivial)) (.tmp rfl id)) rfl ?_
              refine Chain.nil ?_
              refine Ends.then ?_
              refine Cod.cond (t := 63) rfl trivial (fun hb17 => ?_) (fun hb17 => ?_)
              · replace h := bif_t h hb17
                refine Cod.region [] mixed (by kernel_rfl) ?_
                refine Chain.cons (StepOK.move .none (.tmp rfl (fun _ => trivial))) rfl ?_
                refine Chain.cons (StepOK.assign .none (.tmp rfl (fun _ => trivial))) rfl ?_
                refine Chain.nil ?_
                refine Ends.blkNormal ?_
                exact Ends.join _ (some_eq h) (.cons (t := 10) rfl (.cons (t := 0) rfl (.cons (t := 1) rfl (.cons (t := 5) rfl (.cons (t := 6) rfl (.cons (t := 7) rfl (.cons (t := 8) rfl (.cons (t := 9) rfl (.cons (t := 23) rfl (.cons (t := 24) rfl (.cons (t := 25) rfl (.cons (t := 37) rfl (.cons (t := 38) rfl Sub.nil))))))))))))) (.cons (t := 153) rfl (.cons (t := 5002) rfl (.cons (t := 5005) rfl (.cons (t := 5006) rfl SubB.nil))))
              · replace h := bif_f h hb17
                refine Cod.skip ?_
                refine Ends.blkNormal ?_
                exact Ends.join _ (some_eq h) (.cons (t := 10) rfl (.cons (t := 0) rfl (.cons (t := 1) rfl (.cons (t := 5) rfl (.cons (t := 6) rfl (.cons (t := 7) rfl (.cons (t := 8) rfl (.cons (t := 9) rfl (.cons (t := 23) rfl (.cons (t := 24) rfl (.cons (t := 25) rfl (.cons (t := 37) rfl (.cons (t := 38) rfl Sub.nil))))))))))))) (.cons (t := 153) rfl (.cons (t := 5002) rfl (.cons (t := 5005) rfl (.cons (t := 5006) rfl SubB.nil))))
            · subst hj13; have h := hK13; clear hK13
              refine Cod.region [] mixed (by kernel_rfl) ?_
              refine Chain.cons (StepOK.addW .none (.tmp rfl (fun _ => trivial)) (.int (by decide))) rfl ?_
              refine Chain.cons (StepOK.move .none (.tmp rfl (fun _ => trivial))) rfl ?_
              refine Chain.nil ?_
              exact Ends.againL (some_eq h) (.cons (t := 38) rfl (.cons (t := 10) rfl (.cons (t := 0) rfl (.cons (t := 1) rfl (.cons (t := 5) rfl (.cons (t := 6) rfl (.cons (t := 7) rfl (.cons (t := 8) rfl (.cons (t := 9) rfl (.cons (t := 23) rfl (.cons (t := 24) rfl (.cons (t := 25) rfl (.cons (t := 37) rfl Sub.nil))))))))))))) (.cons (t := 153) rfl (.cons (t := 5002) rfl (.cons (t := 5005) rfl (.cons (t := 5006) rfl SubB.nil))))
          · replace h := bif_f h hb12
            refine Cod.exit ?_
            refine Ends.thenExit ?_
            refine Ends.thenExit ?_
            refine Ends.blkExit ?_
            replace h := hD11 _ (some_eq h)
            exact Ends.join _ (some_eq h) (.cons (t := 10) rfl (.cons (t := 0) rfl (.cons (t := 1) rfl (.cons (t := 5) rfl (.cons (t := 6) rfl (.cons (t := 7) rfl (.cons (t := 8) rfl (.cons (t := 9) rfl (.cons (t := 23) rfl (.cons (t := 24) rfl (.cons (t := 25) rfl Sub.nil))))))))))) (.cons (t := 153) rfl (.cons (t := 5002) rfl (.cons (t := 5005) rfl (.cons (t := 5006) rfl SubB.nil))))
        · subst hj10; have h := hK10; clear hK10
          refine Cod.seq ?_
          refine Cod.seq ?_
          refine Cod.region [] mixed (by kernel_rfl) ?_
          refine Chain.cons (StepOK.move .none (.tmp rfl (fun _ => trivial))) rfl ?_
          refine Chain.cons (StepOK.eqI .none (.tmp rfl (fun _ => trivial)) (.int (by decide))) rfl ?_
          refine Chain.nil ?_
          refine Ends.then ?_
          obtain ⟨j_18, h, hK18⟩ := bind_some h
          refine Cod.thenJ (ι := Int) (fun j_18 => [(10, ⟨True, rep j_18⟩)]) (fun j_18 => []) (fun s => j_18 = s) (.cons (t := 0) rfl (.cons (t := 1) rfl (.cons (t := 5) rfl (.cons (t := 6) rfl (.cons (t := 8) rfl (.cons (t := 9) rfl (.cons (t := 23) rfl (.cons (t := 24) rfl (.cons (t := 25) rfl Sub.nil))))))))) (.cons (t := 153) rfl (.cons (t := 5002) rfl (.cons (t := 5005) rfl (.cons (t := 5006) rfl SubB.nil)))) ?_ (fun j_18' hj18 => ?_)
          · skip
            refine Cod.cond (t := 67) rfl trivial (fun hb19 => ?_) (fun hb19 => ?_)
            · replace h := bif_t h hb19
              refine Cod.region [] mixed (by kernel_rfl) ?_
              refine Chain.cons (StepOK.assign .none (.int (by decide))) rfl ?_
              refine Chain.nil ?_
              exact Ends.join _ (some_eq h) (.cons (t := 10) rfl (.cons (t := 0) rfl (.cons (t := 1) rfl (.cons (t := 5) rfl (.cons (t := 6) rfl (.cons (t := 8) rfl (.cons (t := 9) rfl (.cons (t := 23) rfl (.cons (t := 24) rfl (.cons (t := 25) rfl Sub.nil)))))))))) (.cons (t := 153) rfl (.cons (t := 5002) rfl (.cons (t := 5005) rfl (.cons (t := 5006) rfl SubB.nil))))
            · replace h := bif_f h hb19
              refine Cod.skip ?_
              exact Ends.join _ (some_eq h) (.cons (t := 10) rfl (.cons (t := 0) rfl (.cons (t := 1) rfl (.cons (t := 5) rfl (.cons (t := 6) rfl (.cons (t := 8) rfl (.cons (t := 9) rfl (.cons (t := 23) rfl (.cons (t := 24) rfl (.cons (t := 25) rfl Sub.nil)))))))))) (.cons (t := 153) rfl (.cons (t := 5002) rfl (.cons (t := 5005) rfl (.cons (t := 5006) rfl SubB.nil))))
          · subst hj18; have h := hK18; clear hK18
            refine Cod.seq ?_
            refine Cod.region [([], []), ([], []), ([], []), ([153], []), ([], []), ([], []), ([5006], []), ([5006], [5006])] mixed (by kernel_rfl) ?_
            refine Chain.consA (StepOK.move .none (.tmp rfl (fun _ => trivial))) rfl ?_
            refine Chain.consA (StepOK.nilCheckP .none (.tmp rfl (fun _ => trivial))) rfl ?_
            refine Chain.consA (StepOK.fieldPtr .none fd97_3 (.tmp rfl (fun _ => trivial))) rfl ?_
            refine Chain.consA (StepOK.loadAt (k := 153) .none tr23 rfl (.tmp rfl (fun _ => trivial)) hv_Tree_drawer_o23_3) rfl ?_
            refine Chain.consA (StepOK.move .none (.tmp rfl (fun _ => trivial))) rfl ?_
            refine Chain.consA (StepOK.move .none (.tmp rfl (fun _ => trivial))) rfl ?_
            obtain ⟨hn20, h⟩ := need_some h
            refine Chain.consA (StepOK.indexAddrO (k := 5006) .none sl23 ty3 (.tmp rfl (fun _ => trivial)) rfl (.tmp rfl (fun _ => trivial)) (fun _ => hn20)) rfl ?_
            refine Chain.consN (StepOK.storeElem0 (k := 5006) ty3 (.tmp rfl (fun _ => trivial)) rfl (.tmp rfl (fun _ => trivial)) hn20) rfl ?_
            refine Chain.nil ?_
            refine Ends.then ?_
            obtain ⟨c1, hv21, h⟩ := bnd_some h
            refine Cod.reB (t := 5006) rfl (congrArg (fun y => CPred.at s5006 (rowV 3 y)) hv21) ?_
            refine Cod.seq ?_
            refine Cod.region [] mixed (by kernel_rfl) ?_
            refine Chain.cons (StepOK.move .none (.tmp rfl (fun _ => trivial))) rfl ?_
            refine Chain.cons (StepOK.len .none sl98 (.tmp rfl (fun _ => trivial))) rfl ?_
            refine Chain.cons (StepOK.move .none (.int (by decide))) rfl ?_
            refine Chain.nil ?_
            refine Ends.then ?_
            obtain ⟨j_22, h, hK22⟩ := bind_some h
            refine Cod.tailJ (ι := (List Tree_stretch)) (fun j_22 => []) (fun j_22 => [(6, some (rowV 113 j_22))]) (fun s => j_22 = s) (.cons (t := 0) rfl (.cons (t := 1) rfl (.cons (t := 5) rfl (.cons (t := 23) rfl (.cons (t := 24) rfl (.cons (t := 25) rfl Sub.nil)))))) (.cons (t := 153) rfl (.cons (t := 5005) rfl (.cons (t := 5006) rfl SubB.nil))) ?_ (fun j_22' hj22 => ?_)
            · skip
              refine Cod.block ?_
              refine Cod.anon (t := 6) (g := 5002) rfl rfl trivial rfl ?_
              refine Cod.rforL h (fun p23_ => [(77, ⟨True, rep p23_.1⟩)]) (fun p23_ => [(6, some (rowV 113 p23_.2))]) (.cons (t := 77) rfl Sub.nil) (.cons (t := 6) rfl SubB.nil) (.cons (t := 0) rfl (.cons (t := 1) rfl (.cons (t := 5) rfl (.cons (t := 10) rfl (.cons (t := 23) rfl (.cons (t := 24) rfl (.cons (t := 25) rfl (.cons (t := 75) rfl (.cons (t := 76) rfl Sub.nil))))))))) (.cons (t := 153) rfl (.cons (t := 5005) rfl (.cons (t := 5006) rfl SubB.nil))) (fun p23_ o_23 h hD23 => ?_)
              refine Cod.nameRow (t := 6) (g := 5007) rfl rfl rfl (fun s5007 => ?_)
              refine Cod.seq ?_
              refine Cod.region [] mixed (by kernel_rfl) ?_
              refine Chain.cons (StepOK.lt .none (.tmp rfl (fun _ => trivial)) (.tmp rfl (fun _ => trivial))) rfl ?_
              refine Chain.nil ?_
              refine Ends.then ?_
              refine Cod.seq ?_
              refine Cod.cond (t := 78) rfl trivial (fun hb24 => ?_) (fun hb24 => ?_)
              · replace h := bif_t h hb24
                refine Cod.skip ?_
                refine Ends.then ?_
                refine Cod.seq ?_
                obtain ⟨j_25, h, hK25⟩ := bind_some h
                unfold tree_drawer_draw_L3 at h
                refine Cod.thenJ (ι := (List Tree_stretch)) (fun j_25 => []) (fun j_25 => [(6, some (rowV 113 j_25))]) (fun s => j_25 = s) (.cons (t := 0) rfl (.cons (t := 1) rfl (.cons (t := 5) rfl (.cons (t := 10) rfl (.cons (t := 23) rfl (.cons (t := 24) rfl (.cons (t := 25) rfl (.cons (t := 75) rfl (.cons (t := 76) rfl (.cons (t := 77) rfl Sub.nil)))))))))) (.cons (t := 153) rfl (.cons (t := 5005) rfl (.cons (t := 5006) rfl SubB.nil))) ?_ (fun j_25' hj25 => ?_)
                · skip
                  refine Cod.block ?_
                  refine Cod.seq ?_
                  refine Cod.region [([], []), ([], []), ([], []), ([], [14]), ([], []), ([14], [14])] mixed (by kernel_rfl) ?_
                  refine Chain.consA (StepOK.move .none (.tmp rfl (fun _ => trivial))) rfl ?_
                  obtain ⟨hn26, h⟩ := need_some h
                  refine Chain.consA (StepOK.indexAddr .none sl98 ty113 (.tmp rfl (fun _ => trivial)) (.tmp rfl (fun _ => trivial)) (fun _ => hn26)) rfl ?_
                  obtain ⟨v2, hv27, h⟩ := bnd_some h
                  refine Chain.consA (StepOK.re hv27 (StepOK.load .none ty113 (.tmp rfl (fun _ => trivial)))) rfl ?_
                  refine Chain.consW (StepOK.alloc zo113 rfl) rfl rfl ?_
                  refine Chain.consA (StepOK.assign .none (.tmp rfl (fun _ => trivial))) rfl ?_
                  refine Chain.consN (StepOK.store ty113 rfl rfl (.tmp rfl (fun _ => trivial))) rfl ?_
                  refine Chain.nil ?_
                  refine Ends.then ?_
                  refine Cod.freeze (t := 14) rfl rfl (.cons (t := 153) rfl (.cons (t := 5005) rfl (.cons (t := 5006) rfl (.cons (t := 5007) rfl SubB.nil)))) rfl ?_
                  refine Cod.seq ?_
                  refine Cod.seq ?_
                  refine Cod.region [([], []), ([], []), ([5007], []), ([], [])] mixed (by kernel_rfl) ?_
                  refine Chain.consA (StepOK.move .none (.tmp rfl (fun _ => trivial))) rfl ?_
                  refine Chain.consA (StepOK.move .none (.tmp rfl (fun _ => trivial))) rfl ?_
                  refine Chain.consA (StepOK.lenO (k := 5007) sl98 (.told (.tmp rfl (fun _ => trivial)) rfl)) rfl ?_
                  refine Chain.consA (StepOK.eqI .none (.tmp rfl (fun _ => trivial)) (.tmp rfl (fun _ => trivial))) rfl ?_
                  refine Chain.nil ?_
                  refine Ends.then ?_
                  obtain ⟨j_28, h, hK28⟩ := bind_some h
                  refine Cod.thenJ (ι := (List Tree_stretch)) (fun j_28 => []) (fun j_28 => [(6, some (rowV 113 j_28))]) (fun s => j_28 = s) (.cons (t := 0) rfl (.cons (t := 1) rfl (.cons (t := 5) rfl (.cons (t := 10) rfl (.cons (t := 13) rfl (.cons (t := 14) rfl (.cons (t := 23) rfl (.cons (t := 24) rfl (.cons (t := 25) rfl (.cons (t := 75) rfl (.cons (t := 76) rfl (.cons (t := 77) rfl Sub.nil)))))))))))) (.cons (t := 153) rfl (.cons (t := 5005) rfl (.cons (t := 5006) rfl SubB.nil))) ?_ (fun j_28' hj28 => ?_)
                  · skip
                    refine Cod.cond (t := 85) rfl trivial (fun hb29 => ?_) (fun hb29 => ?_)
                    · replace h := bif_t h hb29
                      refine Cod.region [([], []), ([], []), ([], []), ([], []), ([], []), ([], []), ([], []), ([], []), ([], []), ([], []), ([], []), ([5007], [97, 5007]), ([97], [6, 97])] mixed (by kernel_rfl) ?_
                      refine Chain.consA (StepOK.move .none (.tmp rfl (fun _ => trivial))) rfl ?_
                      refine Chain.consA (StepOK.fieldAddr .none fd113_0 hfd113_0 (.tmp rfl (fun _ => trivial))) rfl ?_
                      refine Chain.consA (StepOK.load .none ty3 (.tmp rfl (fun _ => trivial))) rfl ?_
                      refine Chain.consA (StepOK.move .none (.tmp rfl (fun _ => trivial))) rfl ?_
                      refine Chain.consA (StepOK.addW .none (.tmp rfl (fun _ => trivial)) (.tmp rfl (fun _ => trivial))) rfl ?_
                      refine Chain.consA (StepOK.fieldAddr .none fd113_1 hfd113_1 (.tmp rfl (fun _ => trivial))) rfl ?_
                      refine Chain.consA (StepOK.load .none ty3 (.tmp rfl (fun _ => trivial))) rfl ?_
                      refine Chain.consA (StepOK.move .none (.tmp rfl (fun _ => trivial))) rfl ?_
                      refine Chain.consA (StepOK.addW .none (.tmp rfl (fun _ => trivial)) (.tmp rfl (fun _ => trivial))) rfl ?_
                      refine Chain.consA (StepOK.buildF (y := (⟨W (v2.from_ + j_18), W (v2.to_ + j_18)⟩ : Tree_stretch)) .none bu113 zc113 rfl (.cons (.tmp rfl (fun _ => trivial)) (.cons (.tmp rfl (fun _ => trivial)) .nil)) (.cons rfl sf113_0 (.cons rfl sf113_1 .nil))) rfl ?_
                      refine Chain.consA (StepOK.buildSlice (xs := [_]) .none sl98 ty113 hz113 (.cons (.tmp rfl (fun _ => trivial)) .nil) rfl (by decide)) rfl ?_
                      obtain ⟨hn30, h⟩ := need_some h
                      refine Chain.consW (StepOK.append (k := 5007) rk98 rfl (.told (.tmp rfl (fun _ => trivial)) rfl) (.tmp rfl (fun _ => trivial)) hn30) rfl rfl ?_
                      refine Chain.consW (StepOK.passRow rfl (.tmp rfl)) rfl rfl ?_
                      refine Chain.nil ?_
                      exact Ends.join _ (some_eq h) (.cons (t := 0) rfl (.cons (t := 1) rfl (.cons (t := 5) rfl (.cons (t := 10) rfl (.cons (t := 13) rfl (.cons (t := 14) rfl (.cons (t := 23) rfl (.cons (t := 24) rfl (.cons (t := 25) rfl (.cons (t := 75) rfl (.cons (t := 76) rfl (.cons (t := 77) rfl Sub.nil)))))))))))) (.cons (t := 6) rfl (.cons (t := 153) rfl (.cons (t := 5005) rfl (.cons (t := 5006) rfl SubB.nil))))
                    · replace h := bif_f h hb29
                      refine Cod.skip ?_
                      refine Ends.anon (t := 6) (g := 5007) rfl rfl trivial rfl ?_
                      exact Ends.join _ (some_eq h) (.cons (t := 0) rfl (.cons (t := 1) rfl (.cons (t := 5) rfl (.cons (t := 10) rfl (.cons (t := 13) rfl (.cons (t := 14) rfl (.cons (t := 23) rfl (.cons (t := 24) rfl (.cons (t := 25) rfl (.cons (t := 75) rfl (.cons (t := 76) rfl (.cons (t := 77) rfl Sub.nil)))))))))))) (.cons (t := 6) rfl (.cons (t := 153) rfl (.cons (t := 5005) rfl (.cons (t := 5006) rfl SubB.nil))))
                  · subst hj28; have h := hK28; clear hK28
                    refine Cod.nameRow (t := 6) (g := 5008) rfl rfl rfl (fun s5008 => ?_)
                    refine Cod.region [([], []), ([], []), ([], []), ([], []), ([], []), ([], []), ([5008], []), ([5008], []), ([5008], [5008])] mixed (by kernel_rfl) ?_
                    refine Chain.consA (StepOK.move .none (.tmp rfl (fun _ => trivial))) rfl ?_
                    refine Chain.consA (StepOK.move .none (.tmp rfl (fun _ => trivial))) rfl ?_
                    refine Chain.consA (StepOK.fieldAddr .none fd113_1 hfd113_1 (.tmp rfl (fun _ => trivial))) rfl ?_
                    refine Chain.consA (StepOK.load .none ty3 (.tmp rfl (fun _ => trivial))) rfl ?_
                    refine Chain.consA (StepOK.move .none (.tmp rfl (fun _ => trivial))) rfl ?_
                    obtain ⟨v3, hv31, h⟩ := bnd_some h
                    refine Chain.consA (StepOK.re hv31 (StepOK.addW .none (.tmp rfl (fun _ => trivial)) (.tmp rfl (fun _ => trivial)))) rfl ?_
                    obtain ⟨hn32, h⟩ := need_some h
                    refine Chain.consA (StepOK.indexAddrO (k := 5008) .none sl98 ty113 (.tmp rfl (fun _ => trivial)) rfl (.tmp rfl (fun _ => trivial)) (fun _ => hn32)) rfl ?_
                    refine Chain.consA (StepOK.fieldElem (k := 5008) .none fd113_1 (.tmp rfl (fun _ => trivial)) rfl (fun _ => hn32)) rfl ?_
                    refine Chain.consN (StepOK.storeElem (k := 5008) ty3 (.tmp rfl (fun _ => trivial)) rfl sf113_1 (.tmp rfl (fun _ => trivial)) hn32) rfl ?_
                    refine Chain.nil ?_
                    refine Ends.blkNormal ?_
                    refine Ends.anon (t := 6) (g := 5008) rfl rfl trivial rfl ?_
                    exact Ends.join _ (some_eq h) (.cons (t := 0) rfl (.cons (t := 1) rfl (.cons (t := 5) rfl (.cons (t := 10) rfl (.cons (t := 23) rfl (.cons (t := 24) rfl (.cons (t := 25) rfl (.cons (t := 75) rfl (.cons (t := 76) rfl (.cons (t := 77) rfl Sub.nil)))))))))) (.cons (t := 6) rfl (.cons (t := 153) rfl (.cons (t := 5005) rfl (.cons (t := 5006) rfl SubB.nil))))
                · subst hj25; have h := hK25; clear hK25
                  refine Cod.nameRow (t := 6) (g := 5009) rfl rfl rfl (fun s5009 => ?_)
                  refine Cod.region [] mixed (by kernel_rfl) ?_
                  refine Chain.cons (StepOK.addW .none (.tmp rfl (fun _ => trivial)) (.int (by decide))) rfl ?_
                  refine Chain.cons (StepOK.move .none (.tmp rfl (fun _ => trivial))) rfl ?_
                  refine Chain.nil ?_
                  refine Ends.anon (t := 6) (g := 5009) rfl rfl trivial rfl ?_
                  exact Ends.againL (some_eq h) (.cons (t := 77) rfl (.cons (t := 0) rfl (.cons (t := 1) rfl (.cons (t := 5) rfl (.cons (t := 10) rfl (.cons (t := 23) rfl (.cons (t := 24) rfl (.cons (t := 25) rfl (.cons (t := 75) rfl (.cons (t := 76) rfl Sub.nil)))))))))) (.cons (t := 6) rfl (.cons (t := 153) rfl (.cons (t := 5005) rfl (.cons (t := 5006) rfl SubB.nil))))
              · replace h := bif_f h hb24
                refine Cod.exit ?_
                refine Ends.thenExit ?_
                refine Ends.thenExit ?_
                refine Ends.blkExit ?_
                refine Ends.anon (t := 6) (g := 5007) rfl rfl trivial rfl ?_
                replace h := hD23 _ (some_eq h)
                exact Ends.join _ (some_eq h) (.cons (t := 0) rfl (.cons (t := 1) rfl (.cons (t := 5) rfl (.cons (t := 23) rfl (.cons (t := 24) rfl (.cons (t := 25) rfl Sub.nil)))))) (.cons (t := 6) rfl (.cons (t := 153) rfl (.cons (t := 5005) rfl (.cons (t := 5006) rfl SubB.nil))))
            · subst hj22; have h := hK22; clear hK22
              refine Ends.blkNormal ?_
              refine Ends.close (k := 153) (g := 5006) (fun z => cont 97 (⟨l1.2.t, l1.2.gap, ⟨s5005⟩, ⟨z⟩⟩ : Tree_drawer_o23)) rfl rfl rfl ?_
              refine Ends.close (k := 153) (g := 5005) (fun z => deep (fun z0 => cont 97 (⟨l1.2.t, l1.2.gap, ⟨z⟩, ⟨z0⟩⟩ : Tree_drawer_o23)) (rowV 3 c1)) rfl rfl rfl ?_
              exact Ends.join _ (some_eq h) (.cons (t := 0) rfl (.cons (t := 1) rfl (.cons (t := 5) rfl (.cons (t := 23) rfl (.cons (t := 24) rfl (.cons (t := 25) rfl Sub.nil)))))) (.cons (t := 6) rfl (.cons (t := 153) rfl SubB.nil))
      · subst hj6; have h := hK6; clear hK6
        refine Cod.nameRow (t := 6) (g := 5010) rfl rfl rfl (fun s5010 => ?_)
        refine Cod.open (k := 153) (g := 5011) rfl rfl (fun s5011 => ?_)
        refine Cod.open (k := 153) (g := 5012) rfl rfl (fun s5012 => ?_)
        refine Cod.region [] mixed (by kernel_rfl) ?_
        refine Chain.cons (StepOK.addW .none (.tmp rfl (fun _ => trivial)) (.int (by decide))) rfl ?_
        refine Chain.cons (StepOK.move .none (.tmp rfl (fun _ => trivial))) rfl ?_
        refine Chain.nil ?_
        refine Ends.anon (t := 6) (g := 5010) rfl rfl trivial rfl ?_
        refine Ends.close (k := 153) (g := 5012) (fun z => cont 97 (⟨j_6.2.t, j_6.2.gap, ⟨s5011⟩, ⟨z⟩⟩ : Tree_drawer_o23)) rfl rfl rfl ?_
        refine Ends.close (k := 153) (g := 5011) (fun z => deep (fun z0 => cont 97 (⟨j_6.2.t, j_6.2.gap, ⟨z⟩, ⟨z0⟩⟩ : Tree_drawer_o23)) (rowV 3 j_6.2.moved)) rfl rfl rfl ?_
        exact Ends.againL (some_eq h) (.cons (t := 25) rfl (.cons (t := 0) rfl (.cons (t := 1) rfl (.cons (t := 5) rfl (.cons (t := 23) rfl (.cons (t := 24) rfl Sub.nil)))))) (.cons (t := 6) rfl (.cons (t := 153) rfl SubB.nil))
    · replace h := bif_f h hb5
      refine Cod.exit ?_
      refine Ends.thenExit ?_
      refine Ends.thenExit ?_
      refine Ends.blkExit ?_
      refine Ends.anon (t := 6) (g := 5002) rfl rfl trivial rfl ?_
      refine Ends.close (k := 153) (g := 5004) (fun z => cont 97 (⟨p4_.2.2.t, p4_.2.2.gap, ⟨s5003⟩, ⟨z⟩⟩ : Tree_drawer_o23)) rfl rfl rfl ?_
      refine Ends.close (k := 153) (g := 5003) (fun z => deep (fun z0 => cont 97 (⟨p4_.2.2.t, p4_.2.2.gap, ⟨z⟩, ⟨z0⟩⟩ : Tree_drawer_o23)) (rowV 3 p4_.2.2.moved)) rfl rfl rfl ?_
      replace h := hD4 _ (some_eq h)
      exact Ends.join _ (some_eq h) (.cons (t := 0) rfl (.cons (t := 1) rfl (.cons (t := 5) rfl Sub.nil))) (.cons (t := 6) rfl (.cons (t := 153) rfl SubB.nil))
  · subst hj3; have h := hK3; clear hK3
    refine Cod.freezeRowA (t := 6) rfl rfl (.cons (t := 153) rfl SubB.nil) rfl ?_
    refine Cod.open (k := 153) (g := 5013) rfl rfl (fun s5013 => ?_)
    refine Cod.open (k := 153) (g := 5014) rfl rfl (fun s5014 => ?_)
    refine Cod.seq ?_
    refine Cod.seq ?_
    refine Cod.region [] mixed (by kernel_rfl) ?_
    refine Chain.cons (StepOK.fieldAddr .none fd67_2 hfd67_2 (.tmp rfl (fun _ => trivial))) rfl ?_
    refine Chain.cons (StepOK.load .none ty23 (.tmp rfl (fun _ => trivial))) rfl ?_
    refine Chain.cons (StepOK.len .none sl23 (.tmp rfl (fun _ => trivial))) rfl ?_
    refine Chain.cons (StepOK.gt .none (.tmp rfl (fun _ => trivial)) (.int (by decide))) rfl ?_
    refine Chain.nil ?_
    refine Ends.then ?_
    obtain ⟨j_33, h, hK33⟩ := bind_some h
    refine Cod.thenJ (ι := (List Int)) (fun j_33 => []) (fun j_33 => [(5013, some (CPred.at s5013 (rowV 3 j_33)))]) (fun s => j_33 = s) (.cons (t := 0) rfl (.cons (t := 1) rfl (.cons (t := 5) rfl (.cons (t := 6) rfl Sub.nil)))) (.cons (t := 153) rfl (.cons (t := 5014) rfl SubB.nil)) ?_ (fun j_33' hj33 => ?_)
    · skip
      refine Cod.cond (t := 111) rfl trivial (fun hb34 => ?_) (fun hb34 => ?_)
      · replace h := bif_t h hb34
        refine Cod.region [([], []), ([], []), ([], []), ([153], []), ([], []), ([], []), ([], []), ([], []), ([], []), ([], []), ([], []), ([], []), ([], []), ([], []), ([], []), ([], []), ([], []), ([], []), ([], []), ([5013], []), ([5013], [5013])] mixed (by kernel_rfl) ?_
        refine Chain.consA (StepOK.move .none (.tmp rfl (fun _ => trivial))) rfl ?_
        refine Chain.consA (StepOK.nilCheckP .none (.tmp rfl (fun _ => trivial))) rfl ?_
        refine Chain.consA (StepOK.fieldPtr .none fd97_2 (.tmp rfl (fun _ => trivial))) rfl ?_
        refine Chain.consA (StepOK.loadAt (k := 153) .none tr23 rfl (.tmp rfl (fun _ => trivial)) hv_Tree_drawer_o23_2) rfl ?_
        refine Chain.consA (StepOK.move .none (.tmp rfl (fun _ => trivial))) rfl ?_
        refine Chain.consA (StepOK.move .none (.tmp rfl (fun _ => trivial))) rfl ?_
        obtain ⟨hn35, h⟩ := need_some h
        refine Chain.consA (StepOK.indexAddr .none sl98 ty113 (.tmp rfl (fun _ => trivial)) (.int (by decide)) (fun _ => hn35)) rfl ?_
        refine Chain.consA (StepOK.fieldAddr .none fd113_0 hfd113_0 (.tmp rfl (fun _ => trivial))) rfl ?_
        refine Chain.consA (StepOK.load .none ty3 (.tmp rfl (fun _ => trivial))) rfl ?_
        refine Chain.consA (StepOK.move .none (.tmp rfl (fun _ => trivial))) rfl ?_
        obtain ⟨hn36, h⟩ := need_some h
        refine Chain.consA (StepOK.indexAddr .none sl98 ty113 (.tmp rfl (fun _ => trivial)) (.int (by decide)) (fun _ => hn36)) rfl ?_
        refine Chain.consA (StepOK.fieldAddr .none fd113_1 hfd113_1 (.tmp rfl (fun _ => trivial))) rfl ?_
        refine Chain.consA (StepOK.load .none ty3 (.tmp rfl (fun _ => trivial))) rfl ?_
        refine Chain.consA (StepOK.addW .none (.tmp rfl (fun _ => trivial)) (.tmp rfl (fun _ => trivial))) rfl ?_
        obtain ⟨r1, hv37, h⟩ := bind_some h
        refine Chain.consA (StepOK.call .none (tree_floor_ok hv37) (.cons (.tmp rfl (fun _ => trivial)) (.cons (.int (by decide)) .nil))) rfl ?_
        refine Chain.consA (StepOK.fieldAddr .none fd67_0 hfd67_0 (.tmp rfl (fun _ => trivial))) rfl ?_
        refine Chain.consA (StepOK.load .none ty3 (.tmp rfl (fun _ => trivial))) rfl ?_
        refine Chain.consA (StepOK.quo .none (.tmp rfl (fun _ => trivial)) (.int (by decide)) (fun _ => by decide)) rfl ?_
        obtain ⟨v4, hv38, h⟩ := bnd_some h
        refine Chain.consA (StepOK.re hv38 (StepOK.subW .none (.tmp rfl (fun _ => trivial)) (.tmp rfl (fun _ => trivial)))) rfl ?_
        obtain ⟨hn39, h⟩ := need_some h
        refine Chain.consA (StepOK.indexAddrO (k := 5013) .none sl23 ty3 (.tmp rfl (fun _ => trivial)) rfl (.tmp rfl (fun _ => trivial)) (fun _ => hn39)) rfl ?_
        refine Chain.consN (StepOK.storeElem0 (k := 5013) ty3 (.tmp rfl (fun _ => trivial)) rfl (.tmp rfl (fun _ => trivial)) hn39) rfl ?_
        refine Chain.nil ?_
        exact Ends.join _ (some_eq h) (.cons (t := 0) rfl (.cons (t := 1) rfl (.cons (t := 5) rfl (.cons (t := 6) rfl Sub.nil)))) (.cons (t := 5013) rfl (.cons (t := 153) rfl (.cons (t := 5014) rfl SubB.nil)))
      · replace h := bif_f h hb34
        refine Cod.skip ?_
        exact Ends.join _ (some_eq h) (.cons (t := 0) rfl (.cons (t := 1) rfl (.cons (t := 5) rfl (.cons (t := 6) rfl Sub.nil)))) (.cons (t := 5013) rfl (.cons (t := 153) rfl (.cons (t := 5014) rfl SubB.nil)))
    · subst hj33; have h := hK33; clear hK33
      refine Cod.seq ?_
      refine Cod.region [([], []), ([], []), ([], []), ([153], []), ([], []), ([5013], []), ([5013], []), ([], []), ([], []), ([], []), ([153], []), ([], []), ([5013], []), ([5013], []), ([], []), ([], []), ([], []), ([], []), ([], [150]), ([], []), ([150], [152, 150]), ([152], [4, 152])] mixed (by kernel_rfl) ?_
      refine Chain.consA (StepOK.move .none (.tmp rfl (fun _ => trivial))) rfl ?_
      refine Chain.consA (StepOK.nilCheckP .none (.tmp rfl (fun _ => trivial))) rfl ?_
      refine Chain.consA (StepOK.fieldPtr .none fd97_2 (.tmp rfl (fun _ => trivial))) rfl ?_
      refine Chain.consA (StepOK.loadAt (k := 153) .none tr23 rfl (.tmp rfl (fun _ => trivial)) hv_Tree_drawer_o23_2) rfl ?_
      refine Chain.consA (StepOK.move .none (.tmp rfl (fun _ => trivial))) rfl ?_
      obtain ⟨hn40, h⟩ := need_some h
      refine Chain.consA (StepOK.indexAddrO (k := 5013) .none sl23 ty3 (.tmp rfl (fun _ => trivial)) rfl (.tmp rfl (fun _ => trivial)) (fun _ => hn40)) rfl ?_
      refine Chain.consA (StepOK.loadElem0 (k := 5013) .none ty3 (.tmp rfl (fun _ => trivial)) rfl (fun _ => hn40)) rfl ?_
      refine Chain.consA (StepOK.move .none (.tmp rfl (fun _ => trivial))) rfl ?_
      refine Chain.consA (StepOK.nilCheckP .none (.tmp rfl (fun _ => trivial))) rfl ?_
      refine Chain.consA (StepOK.fieldPtr .none fd97_2 (.tmp rfl (fun _ => trivial))) rfl ?_
      refine Chain.consA (StepOK.loadAt (k := 153) .none tr23 rfl (.tmp rfl (fun _ => trivial)) hv_Tree_drawer_o23_2) rfl ?_
      refine Chain.consA (StepOK.move .none (.tmp rfl (fun _ => trivial))) rfl ?_
      obtain ⟨hn41, h⟩ := need_some h
      refine Chain.consA (StepOK.indexAddrO (k := 5013) .none sl23 ty3 (.tmp rfl (fun _ => trivial)) rfl (.tmp rfl (fun _ => trivial)) (fun _ => hn41)) rfl ?_
      refine Chain.consA (StepOK.loadElem0 (k := 5013) .none ty3 (.tmp rfl (fun _ => trivial)) rfl (fun _ => hn41)) rfl ?_
      refine Chain.consA (StepOK.fieldAddr .none fd67_0 hfd67_0 (.tmp rfl (fun _ => trivial))) rfl ?_
      refine Chain.consA (StepOK.load .none ty3 (.tmp rfl (fun _ => trivial))) rfl ?_
      refine Chain.consA (StepOK.addW .none (.tmp rfl (fun _ => trivial)) (.tmp rfl (fun _ => trivial))) rfl ?_
      refine Chain.consA (StepOK.buildF (y := (⟨gx j_33 x.2, W ((gx j_33 x.2) + v1.W_)⟩ : Tree_stretch)) .none bu113 zc113 rfl (.cons (.tmp rfl (fun _ => trivial)) (.cons (.tmp rfl (fun _ => trivial)) .nil)) (.cons rfl sf113_0 (.cons rfl sf113_1 .nil))) rfl ?_
      refine Chain.consW (StepOK.buildSliceO (xs := [_]) rfl sl98 ty113 hz113 (.cons (.tmp rfl (fun _ => trivial)) .nil) rfl (by decide)) rfl rfl ?_
      refine Chain.consA (StepOK.move .none (.tmp rfl (fun _ => trivial))) rfl ?_
      obtain ⟨hn42, h⟩ := need_some h
      refine Chain.consW (StepOK.append (k := 150) rk98 rfl (.tmp rfl) (.tmp rfl (fun _ => trivial)) hn42) rfl rfl ?_
      refine Chain.consW (StepOK.passRow rfl (.tmp rfl)) rfl rfl ?_
      refine Chain.nil ?_
      refine Ends.then ?_
      refine Cod.freezeRowA (t := 4) rfl rfl (.cons (t := 153) rfl (.cons (t := 5013) rfl (.cons (t := 5014) rfl SubB.nil))) rfl ?_
      refine Cod.ret ?_
      refine Ends.close (k := 153) (g := 5014) (fun z => cont 97 (⟨j_3.2.t, j_3.2.gap, ⟨s5013⟩, ⟨z⟩⟩ : Tree_drawer_o23)) rfl rfl rfl ?_
      refine Ends.close (k := 153) (g := 5013) (fun z => deep (fun z0 => cont 97 (⟨j_3.2.t, j_3.2.gap, ⟨z⟩, ⟨z0⟩⟩ : Tree_drawer_o23)) (rowV 3 j_3.2.moved)) rfl rfl rfl ?_
      obtain rfl := some_eq h
      exact Ends.ret1O (.inl rfl) [153, 154, 155] Try.results66 (by decide) (.held rfl (.skip (.skip .nil))) (ResOK.tmp rfl trivial Imp.refl)
theorem tree_drawer_draw_okN : ∀ (k : Nat) {m153 : Nat} {s154 : Value} {s155 : Value} (x : (Tree_drawer × Int)) (r : ((List Tree_stretch) × Tree_drawer)) (h : fixN tree_drawer_draw_body k x = some r), FSpecO Try.prog 66 [isV (ptr m153 0), rep x.2] [(ptr m153 0, cont 97 (⟨x.1.t, x.1.gap, ⟨s154⟩, ⟨s155⟩⟩ : Tree_drawer_o23)), (s154, rowV 3 x.1.x), (s155, rowV 3 x.1.moved)] (rep r.1) [some (deep (fun z0 => deep (fun z1 => cont 97 (⟨r.2.t, r.2.gap, ⟨z0⟩, ⟨z1⟩⟩ : Tree_drawer_o23)) (rowV 3 r.2.moved)) (rowV 3 r.2.x)), none, none]
  | 0, _, _, _, x, r, h => by simp [fixN] at h
  | k + 1, _, _, _, x, r, h => tree_drawer_draw_okS (tree_drawer_draw_okN k) h
theorem tree_drawer_draw_ok {d1 : Tree_drawer} {k1 : Int} {r : ((List Tree_stretch) × Tree_drawer)} {m153 : Nat} {s154 : Value} {s155 : Value} (h : tree_drawer_draw d1 k1 = some r) : FSpecO Try.prog 66 [isV (ptr m153 0), rep k1] [(ptr m153 0, cont 97 (⟨d1.t, d1.gap, ⟨s154⟩, ⟨s155⟩⟩ : Tree_drawer_o23)), (s154, rowV 3 d1.x), (s155, rowV 3 d1.moved)] (rep r.1) [some (deep (fun z0 => deep (fun z1 => cont 97 (⟨r.2.t, r.2.gap, ⟨z0⟩, ⟨z1⟩⟩ : Tree_drawer_o23)) (rowV 3 r.2.moved)) (rowV 3 r.2.x)), none, none] :=
  let ⟨k, hk⟩ := fixp_some h
  tree_drawer_draw_okN k (d1, k1) r hk

theorem tree_Tidy_ok {t1 : (List Branch)} {gapx1 : Int} {gapy1 : Int} {r : ((List Point) × Int)}  (h : tree_Tidy t1 gapx1 gapy1 = some r) : FSpec Try.prog 29 [rep t1, rep gapx1, rep gapy1] (tup [rep r.1, rep r.2]) := by
  unfold tree_Tidy at h
  refine FSpec.intro (n := 162) fnok29 Try.func29 rfl Try.ntmps29 rfl (fun F => ?_)
  refine Cod.seq ?_
  refine Cod.region [] mixed (by kernel_rfl) ?_
  refine Chain.cons (StepOK.assign .none (.const (x := ([] : (List Point))) (fun M w => ⟨_, ⟨none, 0, rfl, Nat.le_refl _, by decide, rfl⟩, rfl⟩))) rfl ?_
  refine Chain.cons (StepOK.assign .none (.int (by decide))) rfl ?_
  refine Chain.nil ?_
  refine Ends.then ?_
  refine Cod.seq ?_
  refine Cod.seq ?_
  refine Cod.region [] mixed (by kernel_rfl) ?_
  refine Chain.cons (StepOK.move .none (.tmp rfl (fun _ => trivial))) rfl ?_
  obtain ⟨e1, hv1, h⟩ := bind_some h
  refine Chain.cons (StepOK.call .none (tree_Check_ok hv1) (.cons (.tmp rfl (fun _ => trivial)) .nil)) rfl ?_
  refine Chain.cons (StepOK.assign .none (.tmp rfl (fun _ => trivial))) rfl ?_
  refine Chain.nil ?_
  refine Ends.then ?_
  refine Cod.seq ?_
  refine Cod.region [] mixed (by kernel_rfl) ?_
  refine Chain.cons (StepOK.move .none (.tmp rfl (fun _ => trivial))) rfl ?_
  refine Chain.cons (StepOK.neI .none (.tmp rfl (fun _ => trivial)) (.int (by decide))) rfl ?_
  refine Chain.nil ?_
  refine Ends.then ?_
  refine Cod.cond (t := 27) rfl trivial (fun hb2 => ?_) (fun hb2 => ?_)
  · replace h := bif_t h hb2
    refine Cod.seq ?_
    refine Cod.region [] mixed (by kernel_rfl) ?_
    refine Chain.cons (StepOK.move .none (.tmp rfl (fun _ => trivial))) rfl ?_
    refine Chain.cons (StepOK.assign .none (.const (x := ([] : (List Point))) (fun M w => ⟨_, ⟨none, 0, rfl, Nat.le_refl _, by decide, rfl⟩, rfl⟩))) rfl ?_
    refine Chain.cons (StepOK.assign .none (.tmp rfl (fun _ => trivial))) rfl ?_
    refine Chain.nil ?_
    refine Ends.then ?_
    refine Cod.ret ?_
    refine Ends.thenRet ?_
    obtain rfl := some_eq h
    exact Ends.ret2 (.inl rfl) Try.results29 (ResOK.tmp rfl trivial Imp.refl) (ResOK.tmp rfl trivial Imp.refl)
  · replace h := bif_f h hb2
    refine Cod.skip ?_
    refine Ends.then ?_
    refine Cod.seq ?_
    refine Cod.seq ?_
    refine Cod.region [] mixed (by kernel_rfl) ?_
    refine Chain.cons (StepOK.move .none (.tmp rfl (fun _ => trivial))) rfl ?_
    refine Chain.cons (StepOK.lt .none (.tmp rfl (fun _ => trivial)) (.int (by decide))) rfl ?_
    refine Chain.cons (StepOK.move .none (.tmp rfl (fun _ => trivial))) rfl ?_
    refine Chain.cons (StepOK.move (.at rfl rfl) (.tmp rfl (fun _ => trivial))) rfl ?_
    refine Chain.cons (StepOK.gt (.at rfl rfl) (.tmp rfl id) (.int (by decide))) rfl ?_
    refine Chain.cons (StepOK.pickOr .none (.tmp rfl (fun _ => trivial)) (.tmp rfl id)) rfl ?_
    refine Chain.cons (StepOK.move .none (.tmp rfl (fun _ => trivial))) rfl ?_
    refine Chain.cons (StepOK.move (.at rfl rfl) (.tmp rfl (fun _ => trivial))) rfl ?_
    refine Chain.cons (StepOK.lt (.at rfl rfl) (.tmp rfl id) (.int (by decide))) rfl ?_
    refine Chain.cons (StepOK.pickOr .none (.tmp rfl (fun _ => trivial)) (.tmp rfl id)) rfl ?_
    refine Chain.cons (StepOK.move .none (.tmp rfl (fun _ => trivial))) rfl ?_
    refine Chain.cons (StepOK.move (.at rfl rfl) (.tmp rfl (fun _ => trivial))) rfl ?_
    refine Chain.cons (StepOK.gt (.at rfl rfl) (.tmp rfl id) (.int (by decide))) rfl ?_
    refine Chain.cons (StepOK.pickOr .none (.tmp rfl (fun _ => trivial)) (.tmp rfl id)) rfl ?_
    refine Chain.nil ?_
    refine Ends.then ?_
    refine Cod.cond (t := 42) rfl trivial (fun hb3 => ?_) (fun hb3 => ?_)
    · replace h := bif_t h hb3
      refine Cod.seq ?_
      refine Cod.region [] mixed (by kernel_rfl) ?_
      refine Chain.cons (StepOK.assign .none (.const (x := ([] : (List Point))) (fun M w => ⟨_, ⟨none, 0, rfl, Nat.le_refl _, by decide, rfl⟩, rfl⟩))) rfl ?_
      refine Chain.cons (StepOK.assign .none (.int (by decide))) rfl ?_
      refine Chain.nil ?_
      refine Ends.then ?_
      refine Cod.ret ?_
      refine Ends.thenRet ?_
      obtain rfl := some_eq h
      exact Ends.ret2 (.inl rfl) Try.results29 (ResOK.tmp rfl trivial Imp.refl) (ResOK.tmp rfl trivial Imp.refl)
    · replace h := bif_f h hb3
      refine Cod.skip ?_
      refine Ends.then ?_
      refine Cod.seq ?_
      refine Cod.region [([], []), ([], []), ([], []), ([], []), ([], [47]), ([], []), ([], []), ([], [50]), ([47, 50], [51, 47, 50]), ([51], [52, 51]), ([52], [9, 52])] mixed (by kernel_rfl) ?_
      refine Chain.consA (StepOK.move .none (.tmp rfl (fun _ => trivial))) rfl ?_
      refine Chain.consA (StepOK.move .none (.tmp rfl (fun _ => trivial))) rfl ?_
      refine Chain.consA (StepOK.move .none (.tmp rfl (fun _ => trivial))) rfl ?_
      obtain ⟨v1, hv4, h⟩ := bnd_some h
      refine Chain.consA (StepOK.re hv4 (StepOK.len .none sl56 (.tmp rfl (fun _ => trivial)))) rfl ?_
      obtain ⟨hn5, h⟩ := need_some h
      refine Chain.consW (StepOK.makeSlice rk23 zo3 rfl (.tmp rfl (fun _ => trivial)) (.tmp rfl (fun _ => trivial)) hn5) rfl rfl ?_
      refine Chain.consA (StepOK.move .none (.tmp rfl (fun _ => trivial))) rfl ?_
      obtain ⟨v2, hv6, h⟩ := bnd_some h
      refine Chain.consA (StepOK.re hv6 (StepOK.len .none sl56 (.tmp rfl (fun _ => trivial)))) rfl ?_
      obtain ⟨hn7, h⟩ := need_some h
      refine Chain.consW (StepOK.makeSlice rk23 zo3 rfl (.tmp rfl (fun _ => trivial)) (.tmp rfl (fun _ => trivial)) hn7) rfl rfl ?_
      refine Chain.consW (StepOK.buildG2 (t1 := 47) (t2 := 50) oneRow oneRow (mk := (fun z1 z2 => (⟨t1, gapx1, ⟨z1⟩, ⟨z2⟩⟩ : Tree_drawer_o23))) bu97 zvc_Tree_drawer_o23 rfl rfl rfl rfl rfl rfl rfl rfl rfl (fun _ _ => (.cons (.tmp rfl (fun _ => trivial)) (.cons (.tmp rfl (fun _ => trivial)) (.cons (.tmp rfl (fun _ => trivial)) (.cons (.tmp rfl (fun _ => trivial)) .nil))))) (fun _ _ => (.cons rfl sv_Tree_drawer_o23_0 (.cons rfl sv_Tree_drawer_o23_1 (.cons rfl sv_Tree_drawer_o23_2 (.cons rfl sv_Tree_drawer_o23_3 .nil)))))) rfl rfl ?_
      refine Chain.consW (StepOK.boxG2 (t := 51) rfl rfl) rfl rfl ?_
      refine Chain.consW (StepOK.passRow rfl (.tmp rfl)) rfl rfl ?_
      refine Chain.nil ?_
      refine Ends.then ?_
      refine Cod.nameAt (t := 9) (g := 5001) rfl rfl (isBox_deep fun _ => (isBox_deep fun _ => isBox_cont)) rfl (fun m5001 => ?_)
      refine Cod.open (k := 5001) (g := 5002) rfl rfl (fun s5002 => ?_)
      refine Cod.open (k := 5001) (g := 5003) rfl rfl (fun s5003 => ?_)
      refine Cod.seq ?_
      refine Cod.region [([], []), ([5001, 5002, 5003], [5001, 5002, 5003])] mixed (by kernel_rfl) ?_
      refine Chain.consA (StepOK.move .none (.tmp rfl (fun _ => trivial))) rfl ?_
      obtain ⟨r1, hv8, h⟩ := bind_some h
      refine Chain.consW (StepOK.callO [5001, 5002, 5003] (tree_drawer_draw_ok hv8) (.cons (.tmp rfl (fun _ => trivial)) (.cons (.int (by decide)) .nil)) (.cons (k := 5001) rfl (.cons (k := 5002) rfl (.cons (k := 5003) rfl .nil))) rfl (by decide) (by decide) (by intro d h; cases h; decide)) rfl rfl ?_
      refine Chain.nil ?_
      refine Ends.then ?_
      refine Cod.open (k := 5001) (g := 5004) rfl rfl (fun s5004 => ?_)
      refine Cod.open (k := 5001) (g := 5005) rfl rfl (fun s5005 => ?_)
      refine Cod.seq ?_
      refine Cod.region [([], []), ([], []), ([], [57]), ([57], [10, 57])] mixed (by kernel_rfl) ?_
      refine Chain.consA (StepOK.move .none (.tmp rfl (fun _ => trivial))) rfl ?_
      obtain ⟨v3, hv9, h⟩ := bnd_some h
      refine Chain.consA (StepOK.re hv9 (StepOK.len .none sl56 (.tmp rfl (fun _ => trivial)))) rfl ?_
      obtain ⟨hn10, h⟩ := need_some h
      refine Chain.consW (StepOK.makeSlice rk39 zo47 rfl (.tmp rfl (fun _ => trivial)) (.tmp rfl (fun _ => trivial)) hn10) rfl rfl ?_
      refine Chain.consW (StepOK.passRow rfl (.tmp rfl)) rfl rfl ?_
      refine Chain.nil ?_
      refine Ends.then ?_
      refine Cod.close (k := 5001) (g := 5005) (fun z => cont 97 (⟨r1.2.t, r1.2.gap, ⟨s5004⟩, ⟨z⟩⟩ : Tree_drawer_o23)) rfl rfl rfl ?_
      refine Cod.close (k := 5001) (g := 5004) (fun z => deep (fun z0 => cont 97 (⟨r1.2.t, r1.2.gap, ⟨z⟩, ⟨z0⟩⟩ : Tree_drawer_o23)) (rowV 3 r1.2.moved)) rfl rfl rfl ?_
      refine Cod.freezeAt (g := 5001) (S := ref ({ r1.2 with x := r1.2.x, moved := r1.2.moved } : Tree_drawer)) (ts := [9]) rfl (.cons (t := 9) rfl trivial .nil) (.cons (t := 10) rfl SubB.nil) rfl (fun M D w h hms => deep_ref2 (mk := (fun s1_ s2_ => (⟨r1.2.t, r1.2.gap, ⟨s1_⟩, ⟨s2_⟩⟩ : Tree_drawer_o23))) (y := ({ r1.2 with x := r1.2.x, moved := r1.2.moved } : Tree_drawer)) frzRow frzRow rfl (fun M s1_ s2_ cs w hc g1 g2 => by obtain ⟨c0, q0, e0, h0, c1, q1, e1, h1, c2, q2, e2, h2, h3⟩ := hc; exact ⟨c0, q0, e0, h0, c1, q1, e1, h1, c2, q2, e2, raw_cells rfl rfl h2 g1, raw_cells rfl rfl h3 g2⟩) M D w h hms) ?_
      obtain ⟨out1, hv11, h⟩ := bnd_some h
      refine Cod.reB (t := 10) rfl (congrArg (rowV 47) hv11) ?_
      refine Cod.nameRow (t := 10) (g := 5006) rfl rfl rfl (fun s5006 => ?_)
      refine Cod.seq ?_
      refine Cod.region [([], []), ([], []), ([], [60]), ([60], [11, 60])] mixed (by kernel_rfl) ?_
      refine Chain.consA (StepOK.move .none (.tmp rfl (fun _ => trivial))) rfl ?_
      obtain ⟨v4, hv12, h⟩ := bnd_some h
      refine Chain.consA (StepOK.re hv12 (StepOK.len .none sl56 (.tmp rfl (fun _ => trivial)))) rfl ?_
      obtain ⟨hn13, h⟩ := need_some h
      refine Chain.consW (StepOK.makeSlice rk23 zo3 rfl (.tmp rfl (fun _ => trivial)) (.tmp rfl (fun _ => trivial)) hn13) rfl rfl ?_
      refine Chain.consW (StepOK.passRow rfl (.tmp rfl)) rfl rfl ?_
      refine Chain.nil ?_
      refine Ends.then ?_
      obtain ⟨shift1, hv14, h⟩ := bnd_some h
      refine Cod.reB (t := 11) rfl (congrArg (rowV 3) hv14) ?_
      refine Cod.nameRow (t := 11) (g := 5007) rfl rfl rfl (fun s5007 => ?_)
      refine Cod.seq ?_
      refine Cod.region [] mixed (by kernel_rfl) ?_
      refine Chain.cons (StepOK.assign .none (.int (by decide))) rfl ?_
      refine Chain.nil ?_
      refine Ends.then ?_
      refine Cod.seq ?_
      refine Cod.seq ?_
      refine Cod.region [] mixed (by kernel_rfl) ?_
      refine Chain.cons (StepOK.move .none (.tmp rfl (fun _ => trivial))) rfl ?_
      obtain ⟨r2, hv15, h⟩ := bind_some h
      refine Chain.cons (StepOK.call .none (tree_levels_ok hv15) (.cons (.tmp rfl (fun _ => trivial)) .nil)) rfl ?_
      refine Chain.cons (StepOK.len .none sl64 (.tmp rfl (fun _ => trivial))) rfl ?_
      refine Chain.cons (StepOK.move .none (.int (by decide))) rfl ?_
      refine Chain.nil ?_
      refine Ends.then ?_
      obtain ⟨j_16, h, hK16⟩ := bind_some h
      refine Cod.thenJ (ι := (Int × (List Point) × (List Int))) (fun j_16 => [(12, ⟨True, rep j_16.1⟩)]) (fun j_16 => [(5006, some (CPred.at s5006 (rowV 47 j_16.2.1))), (5007, some (CPred.at s5007 (rowV 3 j_16.2.2)))]) (fun s => j_16 = s) (.cons (t := 10) rfl (.cons (t := 11) rfl Sub.nil)) SubB.nil ?_ (fun j_16' hj16 => ?_)
      · skip
        refine Cod.block ?_
        refine Cod.rforL h (fun p17_ => [(64, ⟨True, rep p17_.1⟩), (12, ⟨True, rep p17_.2.1⟩)]) (fun p17_ => [(5006, some (CPred.at s5006 (rowV 47 p17_.2.2.1))), (5007, some (CPred.at s5007 (rowV 3 p17_.2.2.2)))]) (.cons (t := 64) rfl (.cons (t := 12) rfl Sub.nil)) (.cons (t := 5006) rfl (.cons (t := 5007) rfl SubB.nil)) (.cons (t := 0) rfl (.cons (t := 2) rfl (.cons (t := 9) rfl (.cons (t := 10) rfl (.cons (t := 11) rfl (.cons (t := 62) rfl (.cons (t := 63) rfl Sub.nil))))))) SubB.nil (fun p17_ o_17 h hD17 => ?_)
        refine Cod.seq ?_
        refine Cod.region [] mixed (by kernel_rfl) ?_
        refine Chain.cons (StepOK.lt .none (.tmp rfl (fun _ => trivial)) (.tmp rfl (fun _ => trivial))) rfl ?_
        refine Chain.nil ?_
        refine Ends.then ?_
        refine Cod.seq ?_
        refine Cod.cond (t := 65) rfl trivial (fun hb18 => ?_) (fun hb18 => ?_)
        · replace h := bif_t h hb18
          refine Cod.skip ?_
          refine Ends.then ?_
          refine Cod.seq ?_
          obtain ⟨j_19, h, hK19⟩ := bind_some h
          unfold tree_Tidy_L1 at h
          refine Cod.thenJ (ι := (Int × (List Point) × (List Int))) (fun j_19 => [(12, ⟨True, rep j_19.1⟩)]) (fun j_19 => [(5006, some (CPred.at s5006 (rowV 47 j_19.2.1))), (5007, some (CPred.at s5007 (rowV 3 j_19.2.2)))]) (fun s => j_19 = s) (.cons (t := 0) rfl (.cons (t := 2) rfl (.cons (t := 9) rfl (.cons (t := 10) rfl (.cons (t := 11) rfl (.cons (t := 62) rfl (.cons (t := 63) rfl (.cons (t := 64) rfl Sub.nil)))))))) SubB.nil ?_ (fun j_19' hj19 => ?_)
          · skip
            refine Cod.block ?_
            refine Cod.seq ?_
            refine Cod.region [] mixed (by kernel_rfl) ?_
            obtain ⟨hn20, h⟩ := need_some h
            refine Chain.cons (StepOK.indexAddr .none sl64 ty23 (.tmp rfl (fun _ => trivial)) (.tmp rfl (fun _ => trivial)) (fun _ => hn20)) rfl ?_
            refine Chain.cons (StepOK.load .none ty23 (.tmp rfl (fun _ => trivial))) rfl ?_
            refine Chain.cons (StepOK.assign .none (.tmp rfl (fun _ => trivial))) rfl ?_
            refine Chain.nil ?_
            refine Ends.then ?_
            refine Cod.seq ?_
            refine Cod.region [] mixed (by kernel_rfl) ?_
            refine Chain.cons (StepOK.assign .none (.int (by decide))) rfl ?_
            refine Chain.nil ?_
            refine Ends.then ?_
            refine Cod.seq ?_
            refine Cod.seq ?_
            refine Cod.region [] mixed (by kernel_rfl) ?_
            obtain ⟨v5, hv21, h⟩ := bnd_some h
            refine Chain.cons (StepOK.re hv21 (StepOK.move .none (.tmp rfl (fun _ => trivial)))) rfl ?_
            refine Chain.cons (StepOK.len .none sl23 (.tmp rfl (fun _ => trivial))) rfl ?_
            refine Chain.cons (StepOK.move .none (.int (by decide))) rfl ?_
            refine Chain.nil ?_
            refine Ends.then ?_
            obtain ⟨j_22, h, hK22⟩ := bind_some h
            refine Cod.thenJ (ι := (Int × (List Point) × (List Int))) (fun j_22 => [(15, ⟨True, rep j_22.1⟩)]) (fun j_22 => [(5006, some (CPred.at s5006 (rowV 47 j_22.2.1))), (5007, some (CPred.at s5007 (rowV 3 j_22.2.2)))]) (fun s => j_22 = s) (.cons (t := 0) rfl (.cons (t := 2) rfl (.cons (t := 9) rfl (.cons (t := 10) rfl (.cons (t := 11) rfl (.cons (t := 12) rfl (.cons (t := 62) rfl (.cons (t := 63) rfl (.cons (t := 64) rfl Sub.nil))))))))) SubB.nil ?_ (fun j_22' hj22 => ?_)
            · skip
              refine Cod.block ?_
              refine Cod.rforL h (fun p23_ => [(70, ⟨True, rep p23_.1⟩), (15, ⟨True, rep p23_.2.1⟩)]) (fun p23_ => [(5006, some (CPred.at s5006 (rowV 47 p23_.2.2.1))), (5007, some (CPred.at s5007 (rowV 3 p23_.2.2.2)))]) (.cons (t := 70) rfl (.cons (t := 15) rfl Sub.nil)) (.cons (t := 5006) rfl (.cons (t := 5007) rfl SubB.nil)) (.cons (t := 0) rfl (.cons (t := 2) rfl (.cons (t := 9) rfl (.cons (t := 10) rfl (.cons (t := 11) rfl (.cons (t := 12) rfl (.cons (t := 62) rfl (.cons (t := 63) rfl (.cons (t := 64) rfl (.cons (t := 68) rfl (.cons (t := 69) rfl Sub.nil))))))))))) SubB.nil (fun p23_ o_23 h hD23 => ?_)
              refine Cod.seq ?_
              refine Cod.region [] mixed (by kernel_rfl) ?_
              refine Chain.cons (StepOK.lt .none (.tmp rfl (fun _ => trivial)) (.tmp rfl (fun _ => trivial))) rfl ?_
              refine Chain.nil ?_
              refine Ends.then ?_
              refine Cod.seq ?_
              refine Cod.cond (t := 71) rfl trivial (fun hb24 => ?_) (fun hb24 => ?_)
              · replace h := bif_t h hb24
                refine Cod.skip ?_
                refine Ends.then ?_
                refine Cod.seq ?_
                obtain ⟨j_25, h, hK25⟩ := bind_some h
                unfold tree_Tidy_L2 at h
                refine Cod.thenJ (ι := (Int × (List Point) × (List Int))) (fun j_25 => [(15, ⟨True, rep j_25.1⟩)]) (fun j_25 => [(5006, some (CPred.at s5006 (rowV 47 j_25.2.1))), (5007, some (CPred.at s5007 (rowV 3 j_25.2.2)))]) (fun s => j_25 = s) (.cons (t := 0) rfl (.cons (t := 2) rfl (.cons (t := 9) rfl (.cons (t := 10) rfl (.cons (t := 11) rfl (.cons (t := 12) rfl (.cons (t := 62) rfl (.cons (t := 63) rfl (.cons (t := 64) rfl (.cons (t := 68) rfl (.cons (t := 69) rfl (.cons (t := 70) rfl Sub.nil)))))))))))) SubB.nil ?_ (fun j_25' hj25 => ?_)
                · skip
                  refine Cod.block ?_
                  refine Cod.seq ?_
                  refine Cod.region [] mixed (by kernel_rfl) ?_
                  obtain ⟨hn26, h⟩ := need_some h
                  refine Chain.cons (StepOK.indexAddr .none sl23 ty3 (.tmp rfl (fun _ => trivial)) (.tmp rfl (fun _ => trivial)) (fun _ => hn26)) rfl ?_
                  refine Chain.cons (StepOK.load .none ty3 (.tmp rfl (fun _ => trivial))) rfl ?_
                  obtain ⟨k1, hv27, h⟩ := bnd_some h
                  refine Chain.cons (StepOK.re hv27 (StepOK.assign .none (.tmp rfl (fun _ => trivial)))) rfl ?_
                  refine Chain.nil ?_
                  refine Ends.then ?_
                  refine Cod.seq ?_
                  refine Cod.region [([], []), ([], []), ([], []), ([], []), ([], []), ([], []), ([], []), ([], []), ([], []), ([], []), ([], []), ([5007], []), ([5007], []), ([], []), ([], []), ([], []), ([5006], []), ([5006], [5006])] mixed (by kernel_rfl) ?_
                  refine Chain.consA (StepOK.move .none (.tmp rfl (fun _ => trivial))) rfl ?_
                  refine Chain.consA (StepOK.move .none (.tmp rfl (fun _ => trivial))) rfl ?_
                  refine Chain.consA (StepOK.move .none (.tmp rfl (fun _ => trivial))) rfl ?_
                  refine Chain.consA (StepOK.nilCheckR .none (.tmp rfl (fun _ => trivial))) rfl ?_
                  refine Chain.consA (StepOK.fieldAddr .none fd97_2 hfd97_2 (.tmp rfl (fun _ => trivial))) rfl ?_
                  refine Chain.consA (StepOK.load .none ty23 (.tmp rfl (fun _ => trivial))) rfl ?_
                  refine Chain.consA (StepOK.move .none (.tmp rfl (fun _ => trivial))) rfl ?_
                  obtain ⟨hn28, h⟩ := need_some h
                  refine Chain.consA (StepOK.indexAddr .none sl23 ty3 (.tmp rfl (fun _ => trivial)) (.tmp rfl (fun _ => trivial)) (fun _ => hn28)) rfl ?_
                  refine Chain.consA (StepOK.load .none ty3 (.tmp rfl (fun _ => trivial))) rfl ?_
                  refine Chain.consA (StepOK.move .none (.tmp rfl (fun _ => trivial))) rfl ?_
                  refine Chain.consA (StepOK.move .none (.tmp rfl (fun _ => trivial))) rfl ?_
                  obtain ⟨hn29, h⟩ := need_some h
                  refine Chain.consA (StepOK.indexAddrO (k := 5007) .none sl23 ty3 (.tmp rfl (fun _ => trivial)) rfl (.tmp rfl (fun _ => trivial)) (fun _ => hn29)) rfl ?_
                  refine Chain.consA (StepOK.loadElem0 (k := 5007) .none ty3 (.tmp rfl (fun _ => trivial)) rfl (fun _ => hn29)) rfl ?_
                  refine Chain.consA (StepOK.addW .none (.tmp rfl (fun _ => trivial)) (.tmp rfl (fun _ => trivial))) rfl ?_
                  refine Chain.consA (StepOK.move .none (.tmp rfl (fun _ => trivial))) rfl ?_
                  obtain ⟨v6, hv30, h⟩ := bnd_some h
                  refine Chain.consA (StepOK.re hv30 (StepOK.buildF (y := (⟨W ((gx (({ r1.2 with x := r1.2.x, moved := r1.2.moved }).x) k1) + (gx p23_.2.2.2 k1)), p17_.2.1⟩ : Point)) .none bu47 zc47 rfl (.cons (.tmp rfl (fun _ => trivial)) (.cons (.tmp rfl (fun _ => trivial)) .nil)) (.cons rfl sf47_0 (.cons rfl sf47_1 .nil)))) rfl ?_
                  obtain ⟨hn31, h⟩ := need_some h
                  refine Chain.consA (StepOK.indexAddrO (k := 5006) .none sl39 ty47 (.tmp rfl (fun _ => trivial)) rfl (.tmp rfl (fun _ => trivial)) (fun _ => hn31)) rfl ?_
                  refine Chain.consN (StepOK.storeElem0 (k := 5006) ty47 (.tmp rfl (fun _ => trivial)) rfl (.tmp rfl (fun _ => trivial)) hn31) rfl ?_
                  refine Chain.nil ?_
                  refine Ends.then ?_
                  obtain ⟨out2, hv32, h⟩ := bnd_some h
                  refine Cod.reB (t := 5006) rfl (congrArg (fun y => CPred.at s5006 (rowV 47 y)) hv32) ?_
                  refine Cod.seq ?_
                  refine Cod.region [] mixed (by kernel_rfl) ?_
                  refine Chain.cons (StepOK.move .none (.tmp rfl (fun _ => trivial))) rfl ?_
                  refine Chain.cons (StepOK.move .none (.tmp rfl (fun _ => trivial))) rfl ?_
                  refine Chain.cons (StepOK.move .none (.tmp rfl (fun _ => trivial))) rfl ?_
                  obtain ⟨hn33, h⟩ := need_some h
                  refine Chain.cons (StepOK.indexAddr .none sl56 ty67 (.tmp rfl (fun _ => trivial)) (.tmp rfl (fun _ => trivial)) (fun _ => hn33)) rfl ?_
                  refine Chain.cons (StepOK.fieldAddr .none fd67_1 hfd67_1 (.tmp rfl (fun _ => trivial))) rfl ?_
                  refine Chain.cons (StepOK.load .none ty3 (.tmp rfl (fun _ => trivial))) rfl ?_
                  refine Chain.cons (StepOK.max2 .none (.tmp rfl (fun _ => trivial)) (.tmp rfl (fun _ => trivial))) rfl ?_
                  obtain ⟨high1, hv34, h⟩ := bnd_some h
                  refine Chain.cons (StepOK.re hv34 (StepOK.assign .none (.tmp rfl (fun _ => trivial)))) rfl ?_
                  refine Chain.nil ?_
                  refine Ends.then ?_
                  refine Cod.seq ?_
                  refine Cod.region [] mixed (by kernel_rfl) ?_
                  refine Chain.cons (StepOK.move .none (.tmp rfl (fun _ => trivial))) rfl ?_
                  refine Chain.cons (StepOK.move .none (.tmp rfl (fun _ => trivial))) rfl ?_
                  obtain ⟨hn35, h⟩ := need_some h
                  refine Chain.cons (StepOK.indexAddr .none sl56 ty67 (.tmp rfl (fun _ => trivial)) (.tmp rfl (fun _ => trivial)) (fun _ => hn35)) rfl ?_
                  refine Chain.cons (StepOK.fieldAddr .none fd67_2 hfd67_2 (.tmp rfl (fun _ => trivial))) rfl ?_
                  obtain ⟨v7, hv36, h⟩ := bnd_some h
                  refine Chain.cons (StepOK.re hv36 (StepOK.load .none ty23 (.tmp rfl (fun _ => trivial)))) rfl ?_
                  refine Chain.cons (StepOK.len .none sl23 (.tmp rfl (fun _ => trivial))) rfl ?_
                  refine Chain.cons (StepOK.move .none (.int (by decide))) rfl ?_
                  refine Chain.nil ?_
                  refine Ends.then ?_
                  obtain ⟨j_37, h, hK37⟩ := bind_some h
                  refine Cod.tailJ (ι := (List Int)) (fun j_37 => []) (fun j_37 => [(5007, some (CPred.at s5007 (rowV 3 j_37)))]) (fun s => j_37 = s) (.cons (t := 0) rfl (.cons (t := 2) rfl (.cons (t := 9) rfl (.cons (t := 10) rfl (.cons (t := 11) rfl (.cons (t := 12) rfl (.cons (t := 15) rfl (.cons (t := 62) rfl (.cons (t := 63) rfl (.cons (t := 64) rfl (.cons (t := 68) rfl (.cons (t := 69) rfl (.cons (t := 70) rfl Sub.nil))))))))))))) (.cons (t := 5006) rfl SubB.nil) ?_ (fun j_37' hj37 => ?_)
                  · skip
                    refine Cod.block ?_
                    refine Cod.rforL h (fun p38_ => [(104, ⟨True, rep p38_.1⟩)]) (fun p38_ => [(5007, some (CPred.at s5007 (rowV 3 p38_.2)))]) (.cons (t := 104) rfl Sub.nil) (.cons (t := 5007) rfl SubB.nil) (.cons (t := 0) rfl (.cons (t := 2) rfl (.cons (t := 9) rfl (.cons (t := 10) rfl (.cons (t := 11) rfl (.cons (t := 12) rfl (.cons (t := 15) rfl (.cons (t := 17) rfl (.cons (t := 62) rfl (.cons (t := 63) rfl (.cons (t := 64) rfl (.cons (t := 68) rfl (.cons (t := 69) rfl (.cons (t := 70) rfl (.cons (t := 102) rfl (.cons (t := 103) rfl Sub.nil)))))))))))))))) (.cons (t := 5006) rfl SubB.nil) (fun p38_ o_38 h hD38 => ?_)
                    refine Cod.seq ?_
                    refine Cod.region [] mixed (by kernel_rfl) ?_
                    refine Chain.cons (StepOK.lt .none (.tmp rfl (fun _ => trivial)) (.tmp rfl (fun _ => trivial))) rfl ?_
                    refine Chain.nil ?_
                    refine Ends.then ?_
                    refine Cod.seq ?_
                    refine Cod.cond (t := 105) rfl trivial (fun hb39 => ?_) (fun hb39 => ?_)
                    · replace h := bif_t h hb39
                      refine Cod.skip ?_
                      refine Ends.then ?_
                      refine Cod.seq ?_
                      obtain ⟨j_40, h, hK40⟩ := bind_some h
                      unfold tree_Tidy_L3 at h
                      refine Cod.thenJ (ι := (List Int)) (fun j_40 => []) (fun j_40 => [(5007, some (CPred.at s5007 (rowV 3 j_40)))]) (fun s => j_40 = s) (.cons (t := 0) rfl (.cons (t := 2) rfl (.cons (t := 9) rfl (.cons (t := 10) rfl (.cons (t := 11) rfl (.cons (t := 12) rfl (.cons (t := 15) rfl (.cons (t := 17) rfl (.cons (t := 62) rfl (.cons (t := 63) rfl (.cons (t := 64) rfl (.cons (t := 68) rfl (.cons (t := 69) rfl (.cons (t := 70) rfl (.cons (t := 102) rfl (.cons (t := 103) rfl (.cons (t := 104) rfl Sub.nil))))))))))))))))) (.cons (t := 5006) rfl SubB.nil) ?_ (fun j_40' hj40 => ?_)
                      · skip
                        refine Cod.block ?_
                        refine Cod.seq ?_
                        refine Cod.region [] mixed (by kernel_rfl) ?_
                        obtain ⟨hn41, h⟩ := need_some h
                        refine Chain.cons (StepOK.indexAddr .none sl23 ty3 (.tmp rfl (fun _ => trivial)) (.tmp rfl (fun _ => trivial)) (fun _ => hn41)) rfl ?_
                        refine Chain.cons (StepOK.load .none ty3 (.tmp rfl (fun _ => trivial))) rfl ?_
                        obtain ⟨kid1, hv42, h⟩ := bnd_some h
                        refine Chain.cons (StepOK.re hv42 (StepOK.assign .none (.tmp rfl (fun _ => trivial)))) rfl ?_
                        refine Chain.nil ?_
                        refine Ends.then ?_
                        refine Cod.region [([], []), ([], []), ([], []), ([], []), ([5007], []), ([5007], []), ([], []), ([], []), ([], []), ([], []), ([], []), ([], []), ([], []), ([], []), ([5007], []), ([5007], [5007])] mixed (by kernel_rfl) ?_
                        refine Chain.consA (StepOK.move .none (.tmp rfl (fun _ => trivial))) rfl ?_
                        refine Chain.consA (StepOK.move .none (.tmp rfl (fun _ => trivial))) rfl ?_
                        refine Chain.consA (StepOK.move .none (.tmp rfl (fun _ => trivial))) rfl ?_
                        refine Chain.consA (StepOK.move .none (.tmp rfl (fun _ => trivial))) rfl ?_
                        obtain ⟨hn43, h⟩ := need_some h
                        refine Chain.consA (StepOK.indexAddrO (k := 5007) .none sl23 ty3 (.tmp rfl (fun _ => trivial)) rfl (.tmp rfl (fun _ => trivial)) (fun _ => hn43)) rfl ?_
                        refine Chain.consA (StepOK.loadElem0 (k := 5007) .none ty3 (.tmp rfl (fun _ => trivial)) rfl (fun _ => hn43)) rfl ?_
                        refine Chain.consA (StepOK.move .none (.tmp rfl (fun _ => trivial))) rfl ?_
                        refine Chain.consA (StepOK.nilCheckR .none (.tmp rfl (fun _ => trivial))) rfl ?_
                        refine Chain.consA (StepOK.fieldAddr .none fd97_3 hfd97_3 (.tmp rfl (fun _ => trivial))) rfl ?_
                        refine Chain.consA (StepOK.load .none ty23 (.tmp rfl (fun _ => trivial))) rfl ?_
                        refine Chain.consA (StepOK.move .none (.tmp rfl (fun _ => trivial))) rfl ?_
                        obtain ⟨hn44, h⟩ := need_some h
                        refine Chain.consA (StepOK.indexAddr .none sl23 ty3 (.tmp rfl (fun _ => trivial)) (.tmp rfl (fun _ => trivial)) (fun _ => hn44)) rfl ?_
                        refine Chain.consA (StepOK.load .none ty3 (.tmp rfl (fun _ => trivial))) rfl ?_
                        obtain ⟨v8, hv45, h⟩ := bnd_some h
                        refine Chain.consA (StepOK.re hv45 (StepOK.addW .none (.tmp rfl (fun _ => trivial)) (.tmp rfl (fun _ => trivial)))) rfl ?_
                        obtain ⟨hn46, h⟩ := need_some h
                        refine Chain.consA (StepOK.indexAddrO (k := 5007) .none sl23 ty3 (.tmp rfl (fun _ => trivial)) rfl (.tmp rfl (fun _ => trivial)) (fun _ => hn46)) rfl ?_
                        refine Chain.consN (StepOK.storeElem0 (k := 5007) ty3 (.tmp rfl (fun _ => trivial)) rfl (.tmp rfl (fun _ => trivial)) hn46) rfl ?_
                        refine Chain.nil ?_
                        refine Ends.blkNormal ?_
                        exact Ends.join _ (some_eq h) (.cons (t := 0) rfl (.cons (t := 2) rfl (.cons (t := 9) rfl (.cons (t := 10) rfl (.cons (t := 11) rfl (.cons (t := 12) rfl (.cons (t := 15) rfl (.cons (t := 17) rfl (.cons (t := 62) rfl (.cons (t := 63) rfl (.cons (t := 64) rfl (.cons (t := 68) rfl (.cons (t := 69) rfl (.cons (t := 70) rfl (.cons (t := 102) rfl (.cons (t := 103) rfl (.cons (t := 104) rfl Sub.nil))))))))))))))))) (.cons (t := 5007) rfl (.cons (t := 5006) rfl SubB.nil))
                      · subst hj40; have h := hK40; clear hK40
                        refine Cod.region [] mixed (by kernel_rfl) ?_
                        refine Chain.cons (StepOK.addW .none (.tmp rfl (fun _ => trivial)) (.int (by decide))) rfl ?_
                        refine Chain.cons (StepOK.move .none (.tmp rfl (fun _ => trivial))) rfl ?_
                        refine Chain.nil ?_
                        exact Ends.againL (some_eq h) (.cons (t := 104) rfl (.cons (t := 0) rfl (.cons (t := 2) rfl (.cons (t := 9) rfl (.cons (t := 10) rfl (.cons (t := 11) rfl (.cons (t := 12) rfl (.cons (t := 15) rfl (.cons (t := 17) rfl (.cons (t := 62) rfl (.cons (t := 63) rfl (.cons (t := 64) rfl (.cons (t := 68) rfl (.cons (t := 69) rfl (.cons (t := 70) rfl (.cons (t := 102) rfl (.cons (t := 103) rfl Sub.nil))))))))))))))))) (.cons (t := 5007) rfl (.cons (t := 5006) rfl SubB.nil))
                    · replace h := bif_f h hb39
                      refine Cod.exit ?_
                      refine Ends.thenExit ?_
                      refine Ends.thenExit ?_
                      refine Ends.blkExit ?_
                      replace h := hD38 _ (some_eq h)
                      exact Ends.join _ (some_eq h) (.cons (t := 0) rfl (.cons (t := 2) rfl (.cons (t := 9) rfl (.cons (t := 10) rfl (.cons (t := 11) rfl (.cons (t := 12) rfl (.cons (t := 15) rfl (.cons (t := 62) rfl (.cons (t := 63) rfl (.cons (t := 64) rfl (.cons (t := 68) rfl (.cons (t := 69) rfl (.cons (t := 70) rfl Sub.nil))))))))))))) (.cons (t := 5007) rfl (.cons (t := 5006) rfl SubB.nil))
                  · subst hj37; have h := hK37; clear hK37
                    refine Ends.blkNormal ?_
                    exact Ends.join _ (some_eq h) (.cons (t := 15) rfl (.cons (t := 0) rfl (.cons (t := 2) rfl (.cons (t := 9) rfl (.cons (t := 10) rfl (.cons (t := 11) rfl (.cons (t := 12) rfl (.cons (t := 62) rfl (.cons (t := 63) rfl (.cons (t := 64) rfl (.cons (t := 68) rfl (.cons (t := 69) rfl (.cons (t := 70) rfl Sub.nil))))))))))))) (.cons (t := 5006) rfl (.cons (t := 5007) rfl SubB.nil))
                · subst hj25; have h := hK25; clear hK25
                  refine Cod.region [] mixed (by kernel_rfl) ?_
                  refine Chain.cons (StepOK.addW .none (.tmp rfl (fun _ => trivial)) (.int (by decide))) rfl ?_
                  refine Chain.cons (StepOK.move .none (.tmp rfl (fun _ => trivial))) rfl ?_
                  refine Chain.nil ?_
                  exact Ends.againL (some_eq h) (.cons (t := 70) rfl (.cons (t := 15) rfl (.cons (t := 0) rfl (.cons (t := 2) rfl (.cons (t := 9) rfl (.cons (t := 10) rfl (.cons (t := 11) rfl (.cons (t := 12) rfl (.cons (t := 62) rfl (.cons (t := 63) rfl (.cons (t := 64) rfl (.cons (t := 68) rfl (.cons (t := 69) rfl Sub.nil))))))))))))) (.cons (t := 5006) rfl (.cons (t := 5007) rfl SubB.nil))
              · replace h := bif_f h hb24
                refine Cod.exit ?_
                refine Ends.thenExit ?_
                refine Ends.thenExit ?_
                refine Ends.blkExit ?_
                replace h := hD23 _ (some_eq h)
                exact Ends.join _ (some_eq h) (.cons (t := 15) rfl (.cons (t := 0) rfl (.cons (t := 2) rfl (.cons (t := 9) rfl (.cons (t := 10) rfl (.cons (t := 11) rfl (.cons (t := 12) rfl (.cons (t := 62) rfl (.cons (t := 63) rfl (.cons (t := 64) rfl Sub.nil)))))))))) (.cons (t := 5006) rfl (.cons (t := 5007) rfl SubB.nil))
            · subst hj22; have h := hK22; clear hK22
              refine Cod.region [] mixed (by kernel_rfl) ?_
              refine Chain.cons (StepOK.move .none (.tmp rfl (fun _ => trivial))) rfl ?_
              refine Chain.cons (StepOK.move .none (.tmp rfl (fun _ => trivial))) rfl ?_
              refine Chain.cons (StepOK.move .none (.tmp rfl (fun _ => trivial))) rfl ?_
              refine Chain.cons (StepOK.addW .none (.tmp rfl (fun _ => trivial)) (.tmp rfl (fun _ => trivial))) rfl ?_
              refine Chain.cons (StepOK.addW .none (.tmp rfl (fun _ => trivial)) (.tmp rfl (fun _ => trivial))) rfl ?_
              obtain ⟨y1, hv47, h⟩ := bnd_some h
              refine Chain.cons (StepOK.re hv47 (StepOK.assign .none (.tmp rfl (fun _ => trivial)))) rfl ?_
              refine Chain.nil ?_
              refine Ends.blkNormal ?_
              exact Ends.join _ (some_eq h) (.cons (t := 12) rfl (.cons (t := 0) rfl (.cons (t := 2) rfl (.cons (t := 9) rfl (.cons (t := 10) rfl (.cons (t := 11) rfl (.cons (t := 62) rfl (.cons (t := 63) rfl (.cons (t := 64) rfl Sub.nil))))))))) (.cons (t := 5006) rfl (.cons (t := 5007) rfl SubB.nil))
          · subst hj19; have h := hK19; clear hK19
            refine Cod.region [] mixed (by kernel_rfl) ?_
            refine Chain.cons (StepOK.addW .none (.tmp rfl (fun _ => trivial)) (.int (by decide))) rfl ?_
            refine Chain.cons (StepOK.move .none (.tmp rfl (fun _ => trivial))) rfl ?_
            refine Chain.nil ?_
            exact Ends.againL (some_eq h) (.cons (t := 64) rfl (.cons (t := 12) rfl (.cons (t := 0) rfl (.cons (t := 2) rfl (.cons (t := 9) rfl (.cons (t := 10) rfl (.cons (t := 11) rfl (.cons (t := 62) rfl (.cons (t := 63) rfl Sub.nil))))))))) (.cons (t := 5006) rfl (.cons (t := 5007) rfl SubB.nil))
        · replace h := bif_f h hb18
          refine Cod.exit ?_
          refine Ends.thenExit ?_
          refine Ends.thenExit ?_
          refine Ends.blkExit ?_
          replace h := hD17 _ (some_eq h)
          exact Ends.join _ (some_eq h) (.cons (t := 12) rfl (.cons (t := 10) rfl (.cons (t := 11) rfl Sub.nil))) (.cons (t := 5006) rfl (.cons (t := 5007) rfl SubB.nil))
      · subst hj16; have h := hK16; clear hK16
        refine Cod.seq ?_
        refine Cod.region [([], []), ([5006], []), ([5006], []), ([5006], []), ([], [])] mixed (by kernel_rfl) ?_
        refine Chain.consA (StepOK.move .none (.tmp rfl (fun _ => trivial))) rfl ?_
        obtain ⟨hn48, h⟩ := need_some h
        refine Chain.consA (StepOK.indexAddrO (k := 5006) .none sl39 ty47 (.tmp rfl (fun _ => trivial)) rfl (.int (by decide)) (fun _ => hn48)) rfl ?_
        refine Chain.consA (StepOK.fieldElem (k := 5006) .none fd47_0 (.tmp rfl (fun _ => trivial)) rfl (fun _ => hn48)) rfl ?_
        refine Chain.consA (StepOK.loadElem (k := 5006) .none ty3 (.tmp rfl (fun _ => trivial)) rfl hfd47_0 (fun _ => hn48)) rfl ?_
        obtain ⟨left1, hv49, h⟩ := bnd_some h
        refine Chain.consA (StepOK.re hv49 (StepOK.assign .none (.tmp rfl (fun _ => trivial)))) rfl ?_
        refine Chain.nil ?_
        refine Ends.then ?_
        refine Cod.seq ?_
        refine Cod.seq ?_
        refine Cod.region [([], []), ([5006], []), ([], [])] mixed (by kernel_rfl) ?_
        refine Chain.consA (StepOK.move .none (.tmp rfl (fun _ => trivial))) rfl ?_
        refine Chain.consA (StepOK.lenO (k := 5006) sl39 (.told (.tmp rfl (fun _ => trivial)) rfl)) rfl ?_
        refine Chain.consA (StepOK.move .none (.int (by decide))) rfl ?_
        refine Chain.nil ?_
        refine Ends.then ?_
        obtain ⟨j_50, h, hK50⟩ := bind_some h
        refine Cod.thenJ (ι := Int) (fun j_50 => [(20, ⟨True, rep j_50⟩)]) (fun j_50 => []) (fun s => j_50 = s) (.cons (t := 10) rfl (.cons (t := 135) rfl Sub.nil)) (.cons (t := 5006) rfl SubB.nil) ?_ (fun j_50' hj50 => ?_)
        · skip
          refine Cod.block ?_
          refine Cod.rforL h (fun p51_ => [(137, ⟨True, rep p51_.1⟩), (20, ⟨True, rep p51_.2⟩)]) (fun p51_ => []) (.cons (t := 137) rfl (.cons (t := 20) rfl Sub.nil)) SubB.nil (.cons (t := 10) rfl (.cons (t := 135) rfl (.cons (t := 136) rfl Sub.nil))) (.cons (t := 5006) rfl SubB.nil) (fun p51_ o_51 h hD51 => ?_)
          refine Cod.seq ?_
          refine Cod.region [] mixed (by kernel_rfl) ?_
          refine Chain.cons (StepOK.lt .none (.tmp rfl (fun _ => trivial)) (.tmp rfl (fun _ => trivial))) rfl ?_
          refine Chain.nil ?_
          refine Ends.then ?_
          refine Cod.seq ?_
          refine Cod.cond (t := 138) rfl trivial (fun hb52 => ?_) (fun hb52 => ?_)
          · replace h := bif_t h hb52
            refine Cod.skip ?_
            refine Ends.then ?_
            refine Cod.seq ?_
            obtain ⟨j_53, h, hK53⟩ := bind_some h
            unfold tree_Tidy_L4 at h
            refine Cod.thenJ (ι := Int) (fun j_53 => [(20, ⟨True, rep j_53⟩)]) (fun j_53 => []) (fun s => j_53 = s) (.cons (t := 10) rfl (.cons (t := 135) rfl (.cons (t := 136) rfl (.cons (t := 137) rfl Sub.nil)))) (.cons (t := 5006) rfl SubB.nil) ?_ (fun j_53' hj53 => ?_)
            · skip
              refine Cod.block ?_
              refine Cod.seq ?_
              refine Cod.region [([5006], []), ([5006], []), ([], [22]), ([22], [22])] mixed (by kernel_rfl) ?_
              obtain ⟨hn54, h⟩ := need_some h
              refine Chain.consA (StepOK.indexAddrO (k := 5006) .none sl39 ty47 (.tmp rfl (fun _ => trivial)) rfl (.tmp rfl (fun _ => trivial)) (fun _ => hn54)) rfl ?_
              obtain ⟨v9, hv55, h⟩ := bnd_some h
              refine Chain.consA (StepOK.re hv55 (StepOK.loadElem0 (k := 5006) .none ty47 (.tmp rfl (fun _ => trivial)) rfl (fun _ => hn54))) rfl ?_
              refine Chain.consW (StepOK.alloc zo47 rfl) rfl rfl ?_
              refine Chain.consN (StepOK.store ty47 rfl rfl (.tmp rfl (fun _ => trivial))) rfl ?_
              refine Chain.nil ?_
              refine Ends.then ?_
              refine Cod.freeze (t := 22) rfl rfl (.cons (t := 5006) rfl SubB.nil) rfl ?_
              refine Cod.region [] mixed (by kernel_rfl) ?_
              refine Chain.cons (StepOK.move .none (.tmp rfl (fun _ => trivial))) rfl ?_
              refine Chain.cons (StepOK.fieldAddr .none fd47_0 hfd47_0 (.tmp rfl (fun _ => trivial))) rfl ?_
              refine Chain.cons (StepOK.load .none ty3 (.tmp rfl (fun _ => trivial))) rfl ?_
              refine Chain.cons (StepOK.min2 .none (.tmp rfl (fun _ => trivial)) (.tmp rfl (fun _ => trivial))) rfl ?_
              obtain ⟨left2, hv56, h⟩ := bnd_some h
              refine Chain.cons (StepOK.re hv56 (StepOK.assign .none (.tmp rfl (fun _ => trivial)))) rfl ?_
              refine Chain.nil ?_
              refine Ends.blkNormal ?_
              exact Ends.join _ (some_eq h) (.cons (t := 20) rfl (.cons (t := 10) rfl (.cons (t := 135) rfl (.cons (t := 136) rfl (.cons (t := 137) rfl Sub.nil))))) (.cons (t := 5006) rfl SubB.nil)
            · subst hj53; have h := hK53; clear hK53
              refine Cod.region [] mixed (by kernel_rfl) ?_
              refine Chain.cons (StepOK.addW .none (.tmp rfl (fun _ => trivial)) (.int (by decide))) rfl ?_
              refine Chain.cons (StepOK.move .none (.tmp rfl (fun _ => trivial))) rfl ?_
              refine Chain.nil ?_
              exact Ends.againL (some_eq h) (.cons (t := 137) rfl (.cons (t := 20) rfl (.cons (t := 10) rfl (.cons (t := 135) rfl (.cons (t := 136) rfl Sub.nil))))) (.cons (t := 5006) rfl SubB.nil)
          · replace h := bif_f h hb52
            refine Cod.exit ?_
            refine Ends.thenExit ?_
            refine Ends.thenExit ?_
            refine Ends.blkExit ?_
            replace h := hD51 _ (some_eq h)
            exact Ends.join _ (some_eq h) (.cons (t := 20) rfl (.cons (t := 10) rfl (.cons (t := 135) rfl Sub.nil))) (.cons (t := 5006) rfl SubB.nil)
        · subst hj50; have h := hK50; clear hK50
          refine Cod.seq ?_
          refine Cod.seq ?_
          refine Cod.region [([], []), ([5006], []), ([], [])] mixed (by kernel_rfl) ?_
          refine Chain.consA (StepOK.move .none (.tmp rfl (fun _ => trivial))) rfl ?_
          refine Chain.consA (StepOK.lenO (k := 5006) sl39 (.told (.tmp rfl (fun _ => trivial)) rfl)) rfl ?_
          refine Chain.consA (StepOK.move .none (.int (by decide))) rfl ?_
          refine Chain.nil ?_
          refine Ends.then ?_
          obtain ⟨j_57, h, hK57⟩ := bind_some h
          refine Cod.thenJ (ι := (List Point)) (fun j_57 => []) (fun j_57 => [(5006, some (CPred.at s5006 (rowV 47 j_57)))]) (fun s => j_57 = s) (.cons (t := 10) rfl Sub.nil) SubB.nil ?_ (fun j_57' hj57 => ?_)
          · skip
            refine Cod.block ?_
            refine Cod.rforL h (fun p58_ => [(148, ⟨True, rep p58_.1⟩)]) (fun p58_ => [(5006, some (CPred.at s5006 (rowV 47 p58_.2)))]) (.cons (t := 148) rfl Sub.nil) (.cons (t := 5006) rfl SubB.nil) (.cons (t := 10) rfl (.cons (t := 20) rfl (.cons (t := 147) rfl Sub.nil))) SubB.nil (fun p58_ o_58 h hD58 => ?_)
            refine Cod.seq ?_
            refine Cod.region [] mixed (by kernel_rfl) ?_
            refine Chain.cons (StepOK.lt .none (.tmp rfl (fun _ => trivial)) (.tmp rfl (fun _ => trivial))) rfl ?_
            refine Chain.nil ?_
            refine Ends.then ?_
            refine Cod.seq ?_
            refine Cod.cond (t := 149) rfl trivial (fun hb59 => ?_) (fun hb59 => ?_)
            · replace h := bif_t h hb59
              refine Cod.skip ?_
              refine Ends.then ?_
              refine Cod.seq ?_
              obtain ⟨j_60, h, hK60⟩ := bind_some h
              unfold tree_Tidy_L5 at h
              refine Cod.thenJ (ι := (List Point)) (fun j_60 => []) (fun j_60 => [(5006, some (CPred.at s5006 (rowV 47 j_60)))]) (fun s => j_60 = s) (.cons (t := 10) rfl (.cons (t := 20) rfl (.cons (t := 147) rfl (.cons (t := 148) rfl Sub.nil)))) SubB.nil ?_ (fun j_60' hj60 => ?_)
              · skip
                refine Cod.block ?_
                refine Cod.seq ?_
                refine Cod.region [] mixed (by kernel_rfl) ?_
                refine Chain.cons (StepOK.move .none (.tmp rfl (fun _ => trivial))) rfl ?_
                refine Chain.cons (StepOK.assign .none (.tmp rfl (fun _ => trivial))) rfl ?_
                refine Chain.nil ?_
                refine Ends.then ?_
                refine Cod.region [([], []), ([], []), ([5006], []), ([5006], []), ([5006], []), ([], []), ([], []), ([5006], []), ([5006], []), ([5006], [5006])] mixed (by kernel_rfl) ?_
                refine Chain.consA (StepOK.move .none (.tmp rfl (fun _ => trivial))) rfl ?_
                refine Chain.consA (StepOK.move .none (.tmp rfl (fun _ => trivial))) rfl ?_
                obtain ⟨hn61, h⟩ := need_some h
                refine Chain.consA (StepOK.indexAddrO (k := 5006) .none sl39 ty47 (.tmp rfl (fun _ => trivial)) rfl (.tmp rfl (fun _ => trivial)) (fun _ => hn61)) rfl ?_
                refine Chain.consA (StepOK.fieldElem (k := 5006) .none fd47_0 (.tmp rfl (fun _ => trivial)) rfl (fun _ => hn61)) rfl ?_
                refine Chain.consA (StepOK.loadElem (k := 5006) .none ty3 (.tmp rfl (fun _ => trivial)) rfl hfd47_0 (fun _ => hn61)) rfl ?_
                refine Chain.consA (StepOK.move .none (.tmp rfl (fun _ => trivial))) rfl ?_
                obtain ⟨v10, hv62, h⟩ := bnd_some h
                refine Chain.consA (StepOK.re hv62 (StepOK.subW .none (.tmp rfl (fun _ => trivial)) (.tmp rfl (fun _ => trivial)))) rfl ?_
                obtain ⟨hn63, h⟩ := need_some h
                refine Chain.consA (StepOK.indexAddrO (k := 5006) .none sl39 ty47 (.tmp rfl (fun _ => trivial)) rfl (.tmp rfl (fun _ => trivial)) (fun _ => hn63)) rfl ?_
                refine Chain.consA (StepOK.fieldElem (k := 5006) .none fd47_0 (.tmp rfl (fun _ => trivial)) rfl (fun _ => hn63)) rfl ?_
                refine Chain.consN (StepOK.storeElem (k := 5006) ty3 (.tmp rfl (fun _ => trivial)) rfl sf47_0 (.tmp rfl (fun _ => trivial)) hn63) rfl ?_
                refine Chain.nil ?_
                refine Ends.blkNormal ?_
                exact Ends.join _ (some_eq h) (.cons (t := 10) rfl (.cons (t := 20) rfl (.cons (t := 147) rfl (.cons (t := 148) rfl Sub.nil)))) (.cons (t := 5006) rfl SubB.nil)
              · subst hj60; have h := hK60; clear hK60
                refine Cod.region [] mixed (by kernel_rfl) ?_
                refine Chain.cons (StepOK.addW .none (.tmp rfl (fun _ => trivial)) (.int (by decide))) rfl ?_
                refine Chain.cons (StepOK.move .none (.tmp rfl (fun _ => trivial))) rfl ?_
                refine Chain.nil ?_
                exact Ends.againL (some_eq h) (.cons (t := 148) rfl (.cons (t := 10) rfl (.cons (t := 20) rfl (.cons (t := 147) rfl Sub.nil)))) (.cons (t := 5006) rfl SubB.nil)
            · replace h := bif_f h hb59
              refine Cod.exit ?_
              refine Ends.thenExit ?_
              refine Ends.thenExit ?_
              refine Ends.blkExit ?_
              replace h := hD58 _ (some_eq h)
              exact Ends.join _ (some_eq h) (.cons (t := 10) rfl Sub.nil) (.cons (t := 5006) rfl SubB.nil)
          · subst hj57; have h := hK57; clear hK57
            refine Cod.freezeRow (g := 5006) (ts := [10]) rfl (.cons (t := 10) rfl trivial .nil) SubB.nil rfl ?_
            refine Cod.seq ?_
            refine Cod.region [] mixed (by kernel_rfl) ?_
            refine Chain.cons (StepOK.move .none (.tmp rfl (fun _ => trivial))) rfl ?_
            refine Chain.cons (StepOK.assign .none (.tmp rfl (fun _ => trivial))) rfl ?_
            refine Chain.cons (StepOK.assign .none (.int (by decide))) rfl ?_
            refine Chain.nil ?_
            refine Ends.then ?_
            refine Cod.ret ?_
            obtain rfl := some_eq h
            exact Ends.ret2 (.inl rfl) Try.results29 (ResOK.tmp rfl trivial Imp.refl) (ResOK.tmp rfl trivial Imp.refl)

theorem ref_When_ok {is1 : Bool} {e1 : Int} {r : Int}  (h : ref_When is1 e1 = some r) : FSpec Try.prog 13 [rep is1, rep e1] (rep r) := by
  unfold ref_When at h
  refine FSpec.intro (n := 7) fnok13 Try.func13 rfl Try.ntmps13 rfl (fun F => ?_)
  refine Cod.seq ?_
  refine Cod.region [] mixed (by kernel_rfl) ?_
  refine Chain.cons (StepOK.assign .none (.int (by decide))) rfl ?_
  refine Chain.nil ?_
  refine Ends.then ?_
  refine Cod.seq ?_
  refine Cod.seq ?_
  refine Cod.region [] mixed (by kernel_rfl) ?_
  refine Chain.cons (StepOK.move .none (.tmp rfl (fun _ => trivial))) rfl ?_
  refine Chain.nil ?_
  refine Ends.then ?_
  refine Cod.cond (t := 5) rfl trivial (fun hb1 => ?_) (fun hb1 => ?_)
  · replace h := bif_t h hb1
    refine Cod.seq ?_
    refine Cod.region [] mixed (by kernel_rfl) ?_
    refine Chain.cons (StepOK.move .none (.tmp rfl (fun _ => trivial))) rfl ?_
    refine Chain.cons (StepOK.assign .none (.tmp rfl (fun _ => trivial))) rfl ?_
    refine Chain.nil ?_
    refine Ends.then ?_
    refine Cod.ret ?_
    refine Ends.thenRet ?_
    obtain rfl := some_eq h
    exact Ends.ret1 (.inl rfl) Try.results13 (ResOK.tmp rfl trivial Imp.refl)
  · replace h := bif_f h hb1
    refine Cod.skip ?_
    refine Ends.then ?_
    refine Cod.seq ?_
    refine Cod.region [] mixed (by kernel_rfl) ?_
    refine Chain.cons (StepOK.assign .none (.int (by decide))) rfl ?_
    refine Chain.nil ?_
    refine Ends.then ?_
    refine Cod.ret ?_
    obtain rfl := some_eq h
    exact Ends.ret1 (.inl rfl) Try.results13 (ResOK.tmp rfl trivial Imp.refl)

theorem ref_First_ok {l1 : (List Int)} {r : Int}  (h : ref_First l1 = some r) : FSpec Try.prog 11 [rep l1] (rep r) := by
  unfold ref_First at h
  refine FSpec.intro (n := 15) fnok11 Try.func11 rfl Try.ntmps11 rfl (fun F => ?_)
  refine Cod.seq ?_
  refine Cod.region [] mixed (by kernel_rfl) ?_
  refine Chain.cons (StepOK.assign .none (.int (by decide))) rfl ?_
  refine Chain.nil ?_
  refine Ends.then ?_
  refine Cod.seq ?_
  refine Cod.seq ?_
  refine Cod.region [] mixed (by kernel_rfl) ?_
  refine Chain.cons (StepOK.move .none (.tmp rfl (fun _ => trivial))) rfl ?_
  refine Chain.cons (StepOK.len .none sl87 (.tmp rfl (fun _ => trivial))) rfl ?_
  refine Chain.cons (StepOK.move .none (.int (by decide))) rfl ?_
  refine Chain.nil ?_
  refine Ends.then ?_
  obtain ⟨o_1, h, hK1⟩ := bindR_some h
  refine Cod.thenJ (ι := Unit) (fun j_1 => []) (fun j_1 => []) (fun s => o_1 = Res.nx s) Sub.nil SubB.nil ?_ (fun j_1 hj1 => ?_)
  · skip
    refine Cod.block ?_
    refine Cod.rforEL h (fun p2_ => [(7, ⟨True, rep p2_.1⟩)]) (fun p2_ => []) (.cons (t := 7) rfl Sub.nil) SubB.nil (.cons (t := 5) rfl (.cons (t := 6) rfl Sub.nil)) SubB.nil (fun p2_ o_2 h hD2 => ?_)
    refine Cod.seq ?_
    refine Cod.region [] mixed (by kernel_rfl) ?_
    refine Chain.cons (StepOK.lt .none (.tmp rfl (fun _ => trivial)) (.tmp rfl (fun _ => trivial))) rfl ?_
    refine Chain.nil ?_
    refine Ends.then ?_
    refine Cod.seq ?_
    refine Cod.cond (t := 8) rfl trivial (fun hb3 => ?_) (fun hb3 => ?_)
    · replace h := bif_t h hb3
      refine Cod.skip ?_
      refine Ends.then ?_
      refine Cod.seq ?_
      obtain ⟨o_4, h, hK4⟩ := bindD_some h
      unfold ref_First_L1 at h
      refine Cod.thenJ (ι := Unit) (fun j_4 => []) (fun j_4 => []) (fun s => o_4 = Res.nx s) (.cons (t := 5) rfl (.cons (t := 6) rfl (.cons (t := 7) rfl Sub.nil))) SubB.nil ?_ (fun j_4 hj4 => ?_)
      · skip
        refine Cod.block ?_
        refine Cod.seq ?_
        refine Cod.region [] mixed (by kernel_rfl) ?_
        obtain ⟨hn5, h⟩ := need_some h
        refine Chain.cons (StepOK.indexAddr .none sl87 ty24 (.tmp rfl (fun _ => trivial)) (.tmp rfl (fun _ => trivial)) (fun _ => hn5)) rfl ?_
        refine Chain.cons (StepOK.load .none ty24 (.tmp rfl (fun _ => trivial))) rfl ?_
        obtain ⟨e1, hv6, h⟩ := bnd_some h
        refine Chain.cons (StepOK.re hv6 (StepOK.assign .none (.tmp rfl (fun _ => trivial)))) rfl ?_
        refine Chain.nil ?_
        refine Ends.then ?_
        refine Cod.seq ?_
        refine Cod.region [] mixed (by kernel_rfl) ?_
        refine Chain.cons (StepOK.move .none (.tmp rfl (fun _ => trivial))) rfl ?_
        refine Chain.cons (StepOK.neI .none (.tmp rfl (fun _ => trivial)) (.int (by decide))) rfl ?_
        refine Chain.nil ?_
        refine Ends.then ?_
        refine Cod.cond (t := 12) rfl trivial (fun hb7 => ?_) (fun hb7 => ?_)
        · replace h := bif_t h hb7
          refine Cod.seq ?_
          refine Cod.region [] mixed (by kernel_rfl) ?_
          refine Chain.cons (StepOK.move .none (.tmp rfl (fun _ => trivial))) rfl ?_
          refine Chain.cons (StepOK.assign .none (.tmp rfl (fun _ => trivial))) rfl ?_
          refine Chain.nil ?_
          refine Ends.then ?_
          refine Cod.ret ?_
          refine Ends.blkRet ?_
          refine Ends.thenRet ?_
          refine Ends.thenRet ?_
          refine Ends.blkRet ?_
          refine Ends.thenRet ?_
          replace h := resd_ab hK4 (some_eq h)
          replace h := hD2 _ (some_eq h)
          replace h := resb_ab hK1 (some_eq h)
          obtain rfl := some_eq h
          exact Ends.ret1 (.inl rfl) Try.results11 (ResOK.tmp rfl trivial Imp.refl)
        · replace h := bif_f h hb7
          refine Cod.skip ?_
          refine Ends.blkNormal ?_
          exact Ends.join _ (some_eq h) (.cons (t := 5) rfl (.cons (t := 6) rfl (.cons (t := 7) rfl Sub.nil))) SubB.nil
      · have h := resd_nx hK4 hj4
        refine Cod.region [] mixed (by kernel_rfl) ?_
        refine Chain.cons (StepOK.addW .none (.tmp rfl (fun _ => trivial)) (.int (by decide))) rfl ?_
        refine Chain.cons (StepOK.move .none (.tmp rfl (fun _ => trivial))) rfl ?_
        refine Chain.nil ?_
        exact Ends.againL (some_eq h) (.cons (t := 7) rfl (.cons (t := 5) rfl (.cons (t := 6) rfl Sub.nil))) SubB.nil
    · replace h := bif_f h hb3
      refine Cod.exit ?_
      refine Ends.thenExit ?_
      refine Ends.thenExit ?_
      refine Ends.blkExit ?_
      replace h := hD2 _ (some_eq h)
      exact Ends.join _ (some_eq h) Sub.nil SubB.nil
  · have h := resb_nx hK1 hj1
    refine Cod.seq ?_
    refine Cod.region [] mixed (by kernel_rfl) ?_
    refine Chain.cons (StepOK.assign .none (.int (by decide))) rfl ?_
    refine Chain.nil ?_
    refine Ends.then ?_
    refine Cod.ret ?_
    obtain rfl := some_eq h
    exact Ends.ret1 (.inl rfl) Try.results11 (ResOK.tmp rfl trivial Imp.refl)

theorem ref_In_ok {n1 : Int} {low1 : Int} {high1 : Int} {r : Bool}  (h : ref_In n1 low1 high1 = some r) : FSpec Try.prog 16 [rep n1, rep low1, rep high1] (rep r) := by
  unfold ref_In at h
  refine FSpec.intro (n := 15) fnok16 Try.func16 rfl Try.ntmps16 rfl (fun F => ?_)
  refine Cod.seq ?_
  refine Cod.region [] mixed (by kernel_rfl) ?_
  refine Chain.cons (StepOK.assign .none .bool) rfl ?_
  refine Chain.nil ?_
  refine Ends.then ?_
  refine Cod.seq ?_
  refine Cod.region [] mixed (by kernel_rfl) ?_
  refine Chain.cons (StepOK.move .none (.tmp rfl (fun _ => trivial))) rfl ?_
  refine Chain.cons (StepOK.move .none (.tmp rfl (fun _ => trivial))) rfl ?_
  refine Chain.cons (StepOK.ge .none (.tmp rfl (fun _ => trivial)) (.tmp rfl (fun _ => trivial))) rfl ?_
  refine Chain.cons (StepOK.move .none (.tmp rfl (fun _ => trivial))) rfl ?_
  refine Chain.cons (StepOK.move (.at rfl rfl) (.tmp rfl (fun _ => trivial))) rfl ?_
  refine Chain.cons (StepOK.move (.at rfl rfl) (.tmp rfl (fun _ => trivial))) rfl ?_
  refine Chain.cons (StepOK.le (.at rfl rfl) (.tmp rfl id) (.tmp rfl id)) rfl ?_
  refine Chain.cons (StepOK.pickAnd .none (.tmp rfl (fun _ => trivial)) (.tmp rfl id)) rfl ?_
  refine Chain.cons (StepOK.assign .none (.tmp rfl (fun _ => trivial))) rfl ?_
  refine Chain.nil ?_
  refine Ends.then ?_
  refine Cod.ret ?_
  obtain rfl := some_eq h
  exact Ends.ret1 (.inl rfl) Try.results16 (ResOK.tmp rfl trivial Imp.refl)

theorem ref_LevelsOf_ok {t1 : (List Branch)} {r : (List (List Int))}  (h : ref_LevelsOf t1 = some r) : FSpec Try.prog 34 [rep t1] (rep r) := by
  unfold ref_LevelsOf at h
  refine FSpec.intro (n := 32) fnok34 Try.func34 rfl Try.ntmps34 rfl (fun F => ?_)
  refine Cod.seq ?_
  refine Cod.region [] mixed (by kernel_rfl) ?_
  refine Chain.cons (StepOK.assign .none (.const (x := ([] : (List (List Int)))) (fun M w => ⟨_, ⟨none, 0, rfl, Nat.le_refl _, by decide, rfl⟩, rfl⟩))) rfl ?_
  refine Chain.nil ?_
  refine Ends.then ?_
  refine Cod.seq ?_
  refine Cod.region [([], [3])] mixed (by kernel_rfl) ?_
  refine Chain.consW (StepOK.nilRow (T := 23) (α := (List Int)) rfl) rfl rfl ?_
  refine Chain.nil ?_
  refine Ends.then ?_
  refine Cod.nameRow (t := 3) (g := 5001) rfl rfl rfl (fun s5001 => ?_)
  refine Cod.seq ?_
  refine Cod.seq ?_
  refine Cod.region [] mixed (by kernel_rfl) ?_
  refine Chain.cons (StepOK.buildSlice (xs := [_]) .none sl23 ty3 hz3 (.cons (.int (by decide)) .nil) rfl (by decide)) rfl ?_
  obtain ⟨now1, hv1, h⟩ := bnd_some h
  refine Chain.cons (StepOK.re hv1 (StepOK.assign .none (.tmp rfl (fun _ => trivial)))) rfl ?_
  refine Chain.nil ?_
  refine Ends.then ?_
  obtain ⟨j_2, h, hK2⟩ := bind_some h
  refine Cod.thenJ (ι := (List (List Int))) (fun j_2 => []) (fun j_2 => [(3, some (rowV 23 j_2))]) (fun s => j_2 = s) Sub.nil SubB.nil ?_ (fun j_2' hj2 => ?_)
  · skip
    refine Cod.block ?_
    refine Cod.anon (t := 3) (g := 5001) rfl rfl trivial rfl ?_
    refine Cod.loopL h (fun s3_ => [(4, ⟨True, rep s3_.2⟩)]) (fun s3_ => [(3, some (rowV 23 s3_.1))]) (.cons (t := 4) rfl Sub.nil) (.cons (t := 3) rfl SubB.nil) (.cons (t := 0) rfl Sub.nil) SubB.nil (fun s3_ o_3 h hD3 => ?_)
    unfold ref_LevelsOf_L1 at h
    refine Cod.nameRow (t := 3) (g := 5002) rfl rfl rfl (fun s5002 => ?_)
    refine Cod.seq ?_
    refine Cod.seq ?_
    refine Cod.region [] mixed (by kernel_rfl) ?_
    refine Chain.cons (StepOK.move .none (.tmp rfl (fun _ => trivial))) rfl ?_
    refine Chain.cons (StepOK.len .none sl23 (.tmp rfl (fun _ => trivial))) rfl ?_
    refine Chain.cons (StepOK.gt .none (.tmp rfl (fun _ => trivial)) (.int (by decide))) rfl ?_
    refine Chain.nil ?_
    refine Ends.then ?_
    refine Cod.cond (t := 11) rfl trivial (fun hb4 => ?_) (fun hb4 => ?_)
    · replace h := bif_t h hb4
      refine Cod.skip ?_
      refine Ends.then ?_
      refine Cod.block ?_
      refine Cod.seq ?_
      refine Cod.region [([], []), ([], []), ([], []), ([5002], [15, 5002]), ([15], [3, 15])] mixed (by kernel_rfl) ?_
      refine Chain.consA (StepOK.move .none (.tmp rfl (fun _ => trivial))) rfl ?_
      refine Chain.consA (StepOK.move .none (.tmp rfl (fun _ => trivial))) rfl ?_
      refine Chain.consA (StepOK.buildSlice (xs := [_]) .none sl64 ty23 hz23 (.cons (.tmp rfl (fun _ => trivial)) .nil) rfl (by decide)) rfl ?_
      obtain ⟨hn5, h⟩ := need_some h
      refine Chain.consW (StepOK.append (k := 5002) rk64 rfl (.told (.tmp rfl (fun _ => trivial)) rfl) (.tmp rfl (fun _ => trivial)) hn5) rfl rfl ?_
      refine Chain.consWD (StepOK.passRow rfl (.tmp rfl)) rfl rfl ?_
      refine Chain.nil ?_
      refine Ends.then ?_
      obtain ⟨out1, hv6, h⟩ := bnd_some h
      refine Cod.reB (t := 3) rfl (congrArg (rowV 23) hv6) ?_
      refine Cod.nameRow (t := 3) (g := 5003) rfl rfl rfl (fun s5003 => ?_)
      refine Cod.seq ?_
      refine Cod.region [([], [5])] mixed (by kernel_rfl) ?_
      refine Chain.consW (StepOK.nilRow (T := 3) (α := Int) rfl) rfl rfl ?_
      refine Chain.nil ?_
      refine Ends.then ?_
      refine Cod.nameRow (t := 5) (g := 5004) rfl rfl rfl (fun s5004 => ?_)
      refine Cod.seq ?_
      refine Cod.seq ?_
      refine Cod.region [] mixed (by kernel_rfl) ?_
      refine Chain.cons (StepOK.move .none (.tmp rfl (fun _ => trivial))) rfl ?_
      refine Chain.cons (StepOK.len .none sl23 (.tmp rfl (fun _ => trivial))) rfl ?_
      refine Chain.cons (StepOK.move .none (.int (by decide))) rfl ?_
      refine Chain.nil ?_
      refine Ends.then ?_
      obtain ⟨j_7, h, hK7⟩ := bind_some h
      refine Cod.thenJ (ι := (List Int)) (fun j_7 => []) (fun j_7 => [(5, some (rowV 3 j_7))]) (fun s => j_7 = s) (.cons (t := 0) rfl (.cons (t := 3) rfl Sub.nil)) (.cons (t := 5003) rfl SubB.nil) ?_ (fun j_7' hj7 => ?_)
      · skip
        refine Cod.block ?_
        refine Cod.anon (t := 5) (g := 5004) rfl rfl trivial rfl ?_
        refine Cod.rforL h (fun p8_ => [(18, ⟨True, rep p8_.1⟩)]) (fun p8_ => [(5, some (rowV 3 p8_.2))]) (.cons (t := 18) rfl Sub.nil) (.cons (t := 5) rfl SubB.nil) (.cons (t := 0) rfl (.cons (t := 3) rfl (.cons (t := 16) rfl (.cons (t := 17) rfl Sub.nil)))) (.cons (t := 5003) rfl SubB.nil) (fun p8_ o_8 h hD8 => ?_)
        refine Cod.nameRow (t := 5) (g := 5005) rfl rfl rfl (fun s5005 => ?_)
        refine Cod.seq ?_
        refine Cod.region [] mixed (by kernel_rfl) ?_
        refine Chain.cons (StepOK.lt .none (.tmp rfl (fun _ => trivial)) (.tmp rfl (fun _ => trivial))) rfl ?_
        refine Chain.nil ?_
        refine Ends.then ?_
        refine Cod.seq ?_
        refine Cod.cond (t := 19) rfl trivial (fun hb9 => ?_) (fun hb9 => ?_)
        · replace h := bif_t h hb9
          refine Cod.skip ?_
          refine Ends.then ?_
          refine Cod.seq ?_
          obtain ⟨j_10, h, hK10⟩ := bind_some h
          unfold ref_LevelsOf_L2 at h
          refine Cod.thenJ (ι := (List Int)) (fun j_10 => []) (fun j_10 => [(5, some (rowV 3 j_10))]) (fun s => j_10 = s) (.cons (t := 0) rfl (.cons (t := 3) rfl (.cons (t := 16) rfl (.cons (t := 17) rfl (.cons (t := 18) rfl Sub.nil))))) (.cons (t := 5003) rfl SubB.nil) ?_ (fun j_10' hj10 => ?_)
          · skip
            refine Cod.block ?_
            refine Cod.seq ?_
            refine Cod.region [] mixed (by kernel_rfl) ?_
            obtain ⟨hn11, h⟩ := need_some h
            refine Chain.cons (StepOK.indexAddr .none sl23 ty3 (.tmp rfl (fun _ => trivial)) (.tmp rfl (fun _ => trivial)) (fun _ => hn11)) rfl ?_
            refine Chain.cons (StepOK.load .none ty3 (.tmp rfl (fun _ => trivial))) rfl ?_
            refine Chain.cons (StepOK.assign .none (.tmp rfl (fun _ => trivial))) rfl ?_
            refine Chain.nil ?_
            refine Ends.then ?_
            refine Cod.region [([], []), ([], []), ([], []), ([], []), ([], []), ([], []), ([5005], [28, 5005]), ([28], [5, 28])] mixed (by kernel_rfl) ?_
            refine Chain.consA (StepOK.move .none (.tmp rfl (fun _ => trivial))) rfl ?_
            refine Chain.consA (StepOK.move .none (.tmp rfl (fun _ => trivial))) rfl ?_
            refine Chain.consA (StepOK.move .none (.tmp rfl (fun _ => trivial))) rfl ?_
            obtain ⟨hn12, h⟩ := need_some h
            refine Chain.consA (StepOK.indexAddr .none sl56 ty67 (.tmp rfl (fun _ => trivial)) (.tmp rfl (fun _ => trivial)) (fun _ => hn12)) rfl ?_
            refine Chain.consA (StepOK.fieldAddr .none fd67_2 hfd67_2 (.tmp rfl (fun _ => trivial))) rfl ?_
            refine Chain.consA (StepOK.load .none ty23 (.tmp rfl (fun _ => trivial))) rfl ?_
            obtain ⟨hn13, h⟩ := need_some h
            refine Chain.consW (StepOK.append (k := 5005) rk23 rfl (.told (.tmp rfl (fun _ => trivial)) rfl) (.tmp rfl (fun _ => trivial)) hn13) rfl rfl ?_
            refine Chain.consWD (StepOK.passRow rfl (.tmp rfl)) rfl rfl ?_
            refine Chain.nil ?_
            refine Ends.blkNormal ?_
            exact Ends.join _ (some_eq h) (.cons (t := 0) rfl (.cons (t := 3) rfl (.cons (t := 16) rfl (.cons (t := 17) rfl (.cons (t := 18) rfl Sub.nil))))) (.cons (t := 5) rfl (.cons (t := 5003) rfl SubB.nil))
          · subst hj10; have h := hK10; clear hK10
            refine Cod.nameRow (t := 5) (g := 5006) rfl rfl rfl (fun s5006 => ?_)
            refine Cod.region [] mixed (by kernel_rfl) ?_
            refine Chain.cons (StepOK.addW .none (.tmp rfl (fun _ => trivial)) (.int (by decide))) rfl ?_
            refine Chain.cons (StepOK.move .none (.tmp rfl (fun _ => trivial))) rfl ?_
            refine Chain.nil ?_
            refine Ends.anon (t := 5) (g := 5006) rfl rfl trivial rfl ?_
            exact Ends.againL (some_eq h) (.cons (t := 18) rfl (.cons (t := 0) rfl (.cons (t := 3) rfl (.cons (t := 16) rfl (.cons (t := 17) rfl Sub.nil))))) (.cons (t := 5) rfl (.cons (t := 5003) rfl SubB.nil))
        · replace h := bif_f h hb9
          refine Cod.exit ?_
          refine Ends.thenExit ?_
          refine Ends.thenExit ?_
          refine Ends.blkExit ?_
          refine Ends.anon (t := 5) (g := 5005) rfl rfl trivial rfl ?_
          replace h := hD8 _ (some_eq h)
          exact Ends.join _ (some_eq h) (.cons (t := 0) rfl (.cons (t := 3) rfl Sub.nil)) (.cons (t := 5) rfl (.cons (t := 5003) rfl SubB.nil))
      · subst hj7; have h := hK7; clear hK7
        refine Cod.freezeRowA (t := 5) rfl rfl (.cons (t := 5003) rfl SubB.nil) rfl ?_
        refine Cod.region [] mixed (by kernel_rfl) ?_
        refine Chain.cons (StepOK.move .none (.tmp rfl (fun _ => trivial))) rfl ?_
        refine Chain.cons (StepOK.assign .none (.tmp rfl (fun _ => trivial))) rfl ?_
        refine Chain.nil ?_
        refine Ends.blkNormal ?_
        refine Ends.anon (t := 3) (g := 5003) rfl rfl trivial rfl ?_
        exact Ends.againL (some_eq h) (.cons (t := 4) rfl (.cons (t := 0) rfl Sub.nil)) (.cons (t := 3) rfl SubB.nil)
    · replace h := bif_f h hb4
      refine Cod.exit ?_
      refine Ends.thenExit ?_
      refine Ends.thenExit ?_
      refine Ends.blkExit ?_
      refine Ends.anon (t := 3) (g := 5002) rfl rfl trivial rfl ?_
      replace h := hD3 _ (some_eq h)
      exact Ends.join _ (some_eq h) Sub.nil (.cons (t := 3) rfl SubB.nil)
  · subst hj2; have h := hK2; clear hK2
    refine Cod.freezeRowA (t := 3) rfl rfl SubB.nil rfl ?_
    refine Cod.seq ?_
    refine Cod.region [] mixed (by kernel_rfl) ?_
    refine Chain.cons (StepOK.move .none (.tmp rfl (fun _ => trivial))) rfl ?_
    refine Chain.cons (StepOK.assign .none (.tmp rfl (fun _ => trivial))) rfl ?_
    refine Chain.nil ?_
    refine Ends.then ?_
    refine Cod.ret ?_
    obtain rfl := some_eq h
    exact Ends.ret1 (.inl rfl) Try.results34 (ResOK.tmp rfl trivial Imp.refl)


end Go.Proofs.Ytakkmmhjohadaaa
