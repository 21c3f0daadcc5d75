/-
  The walks: what a function computes is what its plain function says (printed by a program of one's own).
-/
import Derived.Test.YtegjicmejjfgfaaLanFa
set_option maxRecDepth 100000
set_option linter.unusedSimpArgs false
set_option linter.unusedVariables false
namespace Go.Proofs.Ytegjicmejjfgfaa
open Go Go.DB Go.RowKit

theorem route_Lanes_1_ok {n1 : Int} {r : Bool}  (h : route_Lanes_1 n1 = some r) : FSpec Try.prog 57 [rep n1] (rep r) := by
  unfold route_Lanes_1 at h
  refine FSpec.intro (n := 9) fnok57 Try.func57 rfl Try.ntmps57 rfl (fun F => ?_)
  refine Cod.seq ?_
  refine Cod.region [] mixed (by kernel_rfl) ?_
  refine Chain.cons (StepOK.assign .none .bool) rfl ?_
  refine Chain.nil ?_
  refine Ends.then ?_
  refine Cod.seq ?_
  refine Cod.region [] mixed (by kernel_rfl) ?_
  refine Chain.cons (StepOK.move .none (.tmp rfl (fun _ => trivial))) rfl ?_
  refine Chain.cons (StepOK.ge .none (.tmp rfl (fun _ => trivial)) (.int (by decide))) rfl ?_
  refine Chain.cons (StepOK.move .none (.tmp rfl (fun _ => trivial))) rfl ?_
  refine Chain.cons (StepOK.move (.at rfl rfl) (.tmp rfl (fun _ => trivial))) rfl ?_
  refine Chain.cons (StepOK.le (.at rfl rfl) (.tmp rfl id) (.int (by decide))) rfl ?_
  refine Chain.cons (StepOK.pickAnd .none (.tmp rfl (fun _ => trivial)) (.tmp rfl id)) rfl ?_
  refine Chain.cons (StepOK.assign .none (.tmp rfl (fun _ => trivial))) rfl ?_
  refine Chain.nil ?_
  refine Ends.then ?_
  refine Cod.ret ?_
  obtain rfl := some_eq h
  exact Ends.ret1 (.inl rfl) Try.results57 (ResOK.tmp rfl trivial Imp.refl)

theorem cmp_isNaN_int_ok {x1 : Int} {r : Bool}  (h : cmp_isNaN_int x1 = some r) : FSpec Try.prog 99 [rep x1] (rep r) := by
  unfold cmp_isNaN_int at h
  refine FSpec.intro (n := 6) fnok99 Try.func99 rfl Try.ntmps99 rfl (fun F => ?_)
  refine Cod.seq ?_
  refine Cod.region [] mixed (by kernel_rfl) ?_
  refine Chain.cons (StepOK.assign .none .bool) rfl ?_
  refine Chain.nil ?_
  refine Ends.then ?_
  refine Cod.seq ?_
  refine Cod.region [] mixed (by kernel_rfl) ?_
  refine Chain.cons (StepOK.move .none (.tmp rfl (fun _ => trivial))) rfl ?_
  refine Chain.cons (StepOK.move .none (.tmp rfl (fun _ => trivial))) rfl ?_
  refine Chain.cons (StepOK.neI .none (.tmp rfl (fun _ => trivial)) (.tmp rfl (fun _ => trivial))) rfl ?_
  refine Chain.cons (StepOK.assign .none (.tmp rfl (fun _ => trivial))) rfl ?_
  refine Chain.nil ?_
  refine Ends.then ?_
  refine Cod.ret ?_
  obtain rfl := some_eq h
  exact Ends.ret1 (.inl rfl) Try.results99 (ResOK.tmp rfl trivial Imp.refl)

theorem cmp_Compare_int_ok {x1 : Int} {y1 : Int} {r : Int}  (h : cmp_Compare_int x1 y1 = some r) : FSpec Try.prog 60 [rep x1, rep y1] (rep r) := by
  unfold cmp_Compare_int at h
  refine FSpec.intro (n := 20) fnok60 Try.func60 rfl Try.ntmps60 rfl (fun F => ?_)
  refine Cod.seq ?_
  refine Cod.region [] mixed (by kernel_rfl) ?_
  refine Chain.cons (StepOK.assign .none (.int (by decide))) rfl ?_
  refine Chain.nil ?_
  refine Ends.then ?_
  refine Cod.seq ?_
  refine Cod.region [] mixed (by kernel_rfl) ?_
  refine Chain.cons (StepOK.move .none (.tmp rfl (fun _ => trivial))) rfl ?_
  obtain ⟨xNaN1, hv1, h⟩ := bind_some h
  refine Chain.cons (StepOK.call .none (cmp_isNaN_int_ok hv1) (.cons (.tmp rfl (fun _ => trivial)) .nil)) rfl ?_
  refine Chain.cons (StepOK.assign .none (.tmp rfl (fun _ => trivial))) rfl ?_
  refine Chain.nil ?_
  refine Ends.then ?_
  refine Cod.seq ?_
  refine Cod.region [] mixed (by kernel_rfl) ?_
  refine Chain.cons (StepOK.move .none (.tmp rfl (fun _ => trivial))) rfl ?_
  obtain ⟨yNaN1, hv2, h⟩ := bind_some h
  refine Chain.cons (StepOK.call .none (cmp_isNaN_int_ok hv2) (.cons (.tmp rfl (fun _ => trivial)) .nil)) rfl ?_
  refine Chain.cons (StepOK.assign .none (.tmp rfl (fun _ => trivial))) rfl ?_
  refine Chain.nil ?_
  refine Ends.then ?_
  refine Cod.seq ?_
  refine Cod.seq ?_
  refine Cod.region [] mixed (by kernel_rfl) ?_
  refine Chain.cons (StepOK.move .none (.tmp rfl (fun _ => trivial))) rfl ?_
  refine Chain.nil ?_
  refine Ends.then ?_
  refine Cod.cond (t := 11) rfl trivial (fun hb3 => ?_) (fun hb3 => ?_)
  · replace h := bif_t h hb3
    refine Cod.seq ?_
    refine Cod.seq ?_
    refine Cod.region [] mixed (by kernel_rfl) ?_
    refine Chain.cons (StepOK.move .none (.tmp rfl (fun _ => trivial))) rfl ?_
    refine Chain.nil ?_
    refine Ends.then ?_
    refine Cod.cond (t := 12) rfl trivial (fun hb4 => ?_) (fun hb4 => ?_)
    · replace h := bif_t h hb4
      refine Cod.seq ?_
      refine Cod.region [] mixed (by kernel_rfl) ?_
      refine Chain.cons (StepOK.assign .none (.int (by decide))) rfl ?_
      refine Chain.nil ?_
      refine Ends.then ?_
      refine Cod.ret ?_
      refine Ends.thenRet ?_
      refine Ends.thenRet ?_
      obtain rfl := some_eq h
      exact Ends.ret1 (.inl rfl) Try.results60 (ResOK.tmp rfl trivial Imp.refl)
    · replace h := bif_f h hb4
      refine Cod.skip ?_
      refine Ends.then ?_
      refine Cod.seq ?_
      refine Cod.region [] mixed (by kernel_rfl) ?_
      refine Chain.cons (StepOK.assign .none (.int (by decide))) rfl ?_
      refine Chain.nil ?_
      refine Ends.then ?_
      refine Cod.ret ?_
      refine Ends.thenRet ?_
      obtain rfl := some_eq h
      exact Ends.ret1 (.inl rfl) Try.results60 (ResOK.tmp rfl trivial Imp.refl)
  · replace h := bif_f h hb3
    refine Cod.skip ?_
    refine Ends.then ?_
    refine Cod.seq ?_
    refine Cod.seq ?_
    refine Cod.region [] mixed (by kernel_rfl) ?_
    refine Chain.cons (StepOK.move .none (.tmp rfl (fun _ => trivial))) rfl ?_
    refine Chain.nil ?_
    refine Ends.then ?_
    refine Cod.cond (t := 13) rfl trivial (fun hb5 => ?_) (fun hb5 => ?_)
    · replace h := bif_t h hb5
      refine Cod.seq ?_
      refine Cod.region [] mixed (by kernel_rfl) ?_
      refine Chain.cons (StepOK.assign .none (.int (by decide))) rfl ?_
      refine Chain.nil ?_
      refine Ends.then ?_
      refine Cod.ret ?_
      refine Ends.thenRet ?_
      obtain rfl := some_eq h
      exact Ends.ret1 (.inl rfl) Try.results60 (ResOK.tmp rfl trivial Imp.refl)
    · replace h := bif_f h hb5
      refine Cod.skip ?_
      refine Ends.then ?_
      refine Cod.seq ?_
      refine Cod.seq ?_
      refine Cod.region [] mixed (by kernel_rfl) ?_
      refine Chain.cons (StepOK.move .none (.tmp rfl (fun _ => trivial))) rfl ?_
      refine Chain.cons (StepOK.move .none (.tmp rfl (fun _ => trivial))) rfl ?_
      refine Chain.cons (StepOK.lt .none (.tmp rfl (fun _ => trivial)) (.tmp rfl (fun _ => trivial))) rfl ?_
      refine Chain.nil ?_
      refine Ends.then ?_
      refine Cod.cond (t := 16) rfl trivial (fun hb6 => ?_) (fun hb6 => ?_)
      · replace h := bif_t h hb6
        refine Cod.seq ?_
        refine Cod.region [] mixed (by kernel_rfl) ?_
        refine Chain.cons (StepOK.assign .none (.int (by decide))) rfl ?_
        refine Chain.nil ?_
        refine Ends.then ?_
        refine Cod.ret ?_
        refine Ends.thenRet ?_
        obtain rfl := some_eq h
        exact Ends.ret1 (.inl rfl) Try.results60 (ResOK.tmp rfl trivial Imp.refl)
      · replace h := bif_f h hb6
        refine Cod.skip ?_
        refine Ends.then ?_
        refine Cod.seq ?_
        refine Cod.seq ?_
        refine Cod.region [] mixed (by kernel_rfl) ?_
        refine Chain.cons (StepOK.move .none (.tmp rfl (fun _ => trivial))) rfl ?_
        refine Chain.cons (StepOK.move .none (.tmp rfl (fun _ => trivial))) rfl ?_
        refine Chain.cons (StepOK.gt .none (.tmp rfl (fun _ => trivial)) (.tmp rfl (fun _ => trivial))) rfl ?_
        refine Chain.nil ?_
        refine Ends.then ?_
        refine Cod.cond (t := 19) rfl trivial (fun hb7 => ?_) (fun hb7 => ?_)
        · replace h := bif_t h hb7
          refine Cod.seq ?_
          refine Cod.region [] mixed (by kernel_rfl) ?_
          refine Chain.cons (StepOK.assign .none (.int (by decide))) rfl ?_
          refine Chain.nil ?_
          refine Ends.then ?_
          refine Cod.ret ?_
          refine Ends.thenRet ?_
          obtain rfl := some_eq h
          exact Ends.ret1 (.inl rfl) Try.results60 (ResOK.tmp rfl trivial Imp.refl)
        · replace h := bif_f h hb7
          refine Cod.skip ?_
          refine Ends.then ?_
          refine Cod.seq ?_
          refine Cod.region [] mixed (by kernel_rfl) ?_
          refine Chain.cons (StepOK.assign .none (.int (by decide))) rfl ?_
          refine Chain.nil ?_
          refine Ends.then ?_
          refine Cod.ret ?_
          obtain rfl := some_eq h
          exact Ends.ret1 (.inl rfl) Try.results60 (ResOK.tmp rfl trivial Imp.refl)

theorem route_Lanes_2_ok {a1 : Int} {b1 : Int} {c0_1 : (List Lane)} {r : Int}  (h : route_Lanes_2 a1 b1 c0_1 = some r) : FSpec Try.prog 59 [rep a1, rep b1, ref c0_1] (rep r) := by
  unfold route_Lanes_2 at h
  refine FSpec.intro (n := 17) fnok59 Try.func59 rfl Try.ntmps59 rfl (fun F => ?_)
  refine Cod.seq ?_
  refine Cod.region [] mixed (by kernel_rfl) ?_
  refine Chain.cons (StepOK.assign .none (.int (by decide))) rfl ?_
  refine Chain.nil ?_
  refine Ends.then ?_
  refine Cod.seq ?_
  refine Cod.region [] mixed (by kernel_rfl) ?_
  refine Chain.cons (StepOK.load .none ty41 (.tmp rfl (fun _ => trivial))) rfl ?_
  refine Chain.cons (StepOK.move .none (.tmp rfl (fun _ => trivial))) rfl ?_
  obtain ⟨hn1, h⟩ := need_some h
  refine Chain.cons (StepOK.indexAddr .none sl41 ty46 (.tmp rfl (fun _ => trivial)) (.tmp rfl (fun _ => trivial)) (fun _ => hn1)) rfl ?_
  refine Chain.cons (StepOK.fieldAddr .none fd46_0 hfd46_0 (.tmp rfl (fun _ => trivial))) rfl ?_
  refine Chain.cons (StepOK.load .none ty3 (.tmp rfl (fun _ => trivial))) rfl ?_
  refine Chain.cons (StepOK.load .none ty41 (.tmp rfl (fun _ => trivial))) rfl ?_
  refine Chain.cons (StepOK.move .none (.tmp rfl (fun _ => trivial))) rfl ?_
  obtain ⟨hn2, h⟩ := need_some h
  refine Chain.cons (StepOK.indexAddr .none sl41 ty46 (.tmp rfl (fun _ => trivial)) (.tmp rfl (fun _ => trivial)) (fun _ => hn2)) rfl ?_
  refine Chain.cons (StepOK.fieldAddr .none fd46_0 hfd46_0 (.tmp rfl (fun _ => trivial))) rfl ?_
  refine Chain.cons (StepOK.load .none ty3 (.tmp rfl (fun _ => trivial))) rfl ?_
  obtain ⟨r1, hv3, h⟩ := bind_some h
  refine Chain.cons (StepOK.call .none (cmp_Compare_int_ok hv3) (.cons (.tmp rfl (fun _ => trivial)) (.cons (.tmp rfl (fun _ => trivial)) .nil))) rfl ?_
  refine Chain.cons (StepOK.assign .none (.tmp rfl (fun _ => trivial))) rfl ?_
  refine Chain.nil ?_
  refine Ends.then ?_
  refine Cod.ret ?_
  obtain rfl := some_eq h
  exact Ends.ret1 (.inl rfl) Try.results59 (ResOK.tmp rfl trivial Imp.refl)

theorem slices_insertionSortCmpFunc_int_ok {data1 : (List Int)} {a1 : Int} {b1 : Int} {cmp1 : (Int → Int → Option Int)} {r : (List Int)} {s53 : Value} (h : slices_insertionSortCmpFunc_int data1 a1 b1 cmp1 = some r) : FSpecO Try.prog 121 [isV s53, rep a1, rep b1, fn2 Try.prog (rep (α := Int)) cmp1] [(s53, rowV 3 data1)] (anyV) [some (rowV 3 r)] := by
  unfold slices_insertionSortCmpFunc_int at h
  refine FSpecO.intro (n := 53) fnok121 Try.func121 rfl Try.ntmps121 rfl (fun F => ?_)
  refine Cod.seq ?_
  refine Cod.region [] mixed (by kernel_rfl) ?_
  refine Chain.cons (StepOK.move .none (.tmp rfl (fun _ => trivial))) rfl ?_
  refine Chain.cons (StepOK.addW .none (.tmp rfl (fun _ => trivial)) (.int (by decide))) rfl ?_
  obtain ⟨i1, hv1, h⟩ := bnd_some h
  refine Chain.cons (StepOK.re hv1 (StepOK.assign .none (.tmp rfl (fun _ => trivial)))) rfl ?_
  refine Chain.nil ?_
  refine Ends.then ?_
  refine Cod.block ?_
  refine Cod.loopL h (fun s2_ => [(8, ⟨True, rep s2_.1⟩)]) (fun s2_ => [(53, some (CPred.at s53 (rowV 3 s2_.2)))]) (.cons (t := 8) rfl Sub.nil) (.cons (t := 53) rfl SubB.nil) (.cons (t := 0) rfl (.cons (t := 1) rfl (.cons (t := 2) rfl (.cons (t := 3) rfl Sub.nil)))) SubB.nil (fun s2_ o_2 h hD2 => ?_)
  unfold slices_insertionSortCmpFunc_int_L1 at h
  refine Cod.seq ?_
  refine Cod.seq ?_
  refine Cod.region [] mixed (by kernel_rfl) ?_
  refine Chain.cons (StepOK.move .none (.tmp rfl (fun _ => trivial))) rfl ?_
  refine Chain.cons (StepOK.move .none (.tmp rfl (fun _ => trivial))) rfl ?_
  refine Chain.cons (StepOK.lt .none (.tmp rfl (fun _ => trivial)) (.tmp rfl (fun _ => trivial))) rfl ?_
  refine Chain.nil ?_
  refine Ends.then ?_
  refine Cod.cond (t := 14) rfl trivial (fun hb3 => ?_) (fun hb3 => ?_)
  · replace h := bif_t h hb3
    refine Cod.skip ?_
    refine Ends.then ?_
    refine Cod.seq ?_
    obtain ⟨j_4, h, hK4⟩ := bind_some h
    refine Cod.thenJ (ι := (List Int)) (fun j_4 => []) (fun j_4 => [(53, some (CPred.at s53 (rowV 3 j_4)))]) (fun s => j_4 = s) (.cons (t := 0) rfl (.cons (t := 1) rfl (.cons (t := 2) rfl (.cons (t := 3) rfl (.cons (t := 8) rfl Sub.nil))))) SubB.nil ?_ (fun j_4' hj4 => ?_)
    · skip
      refine Cod.block ?_
      refine Cod.seq ?_
      refine Cod.region [] mixed (by kernel_rfl) ?_
      refine Chain.cons (StepOK.move .none (.tmp rfl (fun _ => trivial))) rfl ?_
      refine Chain.cons (StepOK.assign .none (.tmp rfl (fun _ => trivial))) rfl ?_
      refine Chain.nil ?_
      refine Ends.then ?_
      refine Cod.block ?_
      refine Cod.loopL h (fun s5_ => [(9, ⟨True, rep s5_.1⟩)]) (fun s5_ => [(53, some (CPred.at s53 (rowV 3 s5_.2)))]) (.cons (t := 9) rfl Sub.nil) (.cons (t := 53) rfl SubB.nil) (.cons (t := 0) rfl (.cons (t := 1) rfl (.cons (t := 2) rfl (.cons (t := 3) rfl (.cons (t := 8) rfl Sub.nil))))) SubB.nil (fun s5_ o_5 h hD5 => ?_)
      unfold slices_insertionSortCmpFunc_int_L2 at h
      refine Cod.seq ?_
      refine Cod.seq ?_
      refine Cod.region [([], []), ([], []), ([], []), ([], []), ([], []), ([], []), ([], []), ([53], []), ([53], []), ([], []), ([], []), ([], []), ([53], []), ([53], []), ([], []), ([], []), ([], [])] mixed (by kernel_rfl) ?_
      refine Chain.consA (StepOK.move .none (.tmp rfl (fun _ => trivial))) rfl ?_
      refine Chain.consA (StepOK.move .none (.tmp rfl (fun _ => trivial))) rfl ?_
      refine Chain.consA (StepOK.gt .none (.tmp rfl (fun _ => trivial)) (.tmp rfl (fun _ => trivial))) rfl ?_
      refine Chain.consA (StepOK.move .none (.tmp rfl (fun _ => trivial))) rfl ?_
      refine Chain.consA (StepOK.move (.at rfl rfl) (.tmp rfl (fun _ => trivial))) rfl ?_
      refine Chain.consA (StepOK.move (.at rfl rfl) (.tmp rfl (fun _ => trivial))) rfl ?_
      refine Chain.consA (StepOK.move (.at rfl rfl) (.tmp rfl (fun _ => trivial))) rfl ?_
      obtain ⟨hn6, h⟩ := need_some h
      refine Chain.consA (StepOK.indexAddrO (k := 53) (.at rfl rfl) sl42 ty3 (.tmp rfl id) rfl (.tmp rfl id) (fun hg => hn6 hg.2)) rfl ?_
      refine Chain.consA (StepOK.loadElem0 (k := 53) (.at rfl rfl) ty3 (.tmp rfl id) rfl (fun hg => hn6 hg.2)) rfl ?_
      refine Chain.consA (StepOK.move (.at rfl rfl) (.tmp rfl (fun _ => trivial))) rfl ?_
      refine Chain.consA (StepOK.move (.at rfl rfl) (.tmp rfl (fun _ => trivial))) rfl ?_
      refine Chain.consA (StepOK.subW (.at rfl rfl) (.tmp rfl id) (.int (by decide))) rfl ?_
      obtain ⟨hn7, h⟩ := need_some h
      refine Chain.consA (StepOK.indexAddrO (k := 53) (.at rfl rfl) sl42 ty3 (.tmp rfl id) rfl (.tmp rfl id) (fun hg => hn7 hg.2)) rfl ?_
      refine Chain.consA (StepOK.loadElem0 (k := 53) (.at rfl rfl) ty3 (.tmp rfl id) rfl (fun hg => hn7 hg.2)) rfl ?_
      obtain ⟨r1, hv8, h⟩ := bind_some h
      refine Chain.consA (StepOK.callV (_, _, _) (.at rfl rfl) (.tmp rfl id) (fun hg => gd_some hv8 (hg.2)) (.cons (.tmp rfl id) (.cons (.tmp rfl id) .nil))) rfl ?_
      refine Chain.consA (StepOK.lt (.at rfl rfl) (.tmp rfl id) (.int (by decide))) rfl ?_
      refine Chain.consA (StepOK.pickAnd .none (.tmp rfl (fun _ => trivial)) (.tmp rfl id)) rfl ?_
      refine Chain.nil ?_
      refine Ends.then ?_
      refine Cod.cond (t := 34) rfl trivial (fun hb9 => ?_) (fun hb9 => ?_)
      · replace h := bif_t h hb9
        refine Cod.skip ?_
        refine Ends.then ?_
        refine Cod.seq ?_
        refine Cod.block ?_
        refine Cod.region [([], []), ([], []), ([], []), ([], []), ([], []), ([], []), ([], []), ([], []), ([53], []), ([53], []), ([], []), ([], []), ([53], []), ([53], []), ([53], []), ([53], [53]), ([53], []), ([53], [53])] mixed (by kernel_rfl) ?_
        refine Chain.consA (StepOK.move .none (.tmp rfl (fun _ => trivial))) rfl ?_
        refine Chain.consA (StepOK.move .none (.tmp rfl (fun _ => trivial))) rfl ?_
        refine Chain.consA (StepOK.move .none (.tmp rfl (fun _ => trivial))) rfl ?_
        refine Chain.consA (StepOK.move .none (.tmp rfl (fun _ => trivial))) rfl ?_
        refine Chain.consA (StepOK.subW .none (.tmp rfl (fun _ => trivial)) (.int (by decide))) rfl ?_
        refine Chain.consA (StepOK.move .none (.tmp rfl (fun _ => trivial))) rfl ?_
        refine Chain.consA (StepOK.move .none (.tmp rfl (fun _ => trivial))) rfl ?_
        refine Chain.consA (StepOK.subW .none (.tmp rfl (fun _ => trivial)) (.int (by decide))) rfl ?_
        obtain ⟨hn10, h⟩ := need_some h
        refine Chain.consA (StepOK.indexAddrO (k := 53) .none sl42 ty3 (.tmp rfl (fun _ => trivial)) rfl (.tmp rfl (fun _ => trivial)) (fun _ => hn10)) rfl ?_
        obtain ⟨v1, hv11, h⟩ := bnd_some h
        refine Chain.consA (StepOK.re hv11 (StepOK.loadElem0 (k := 53) .none ty3 (.tmp rfl (fun _ => trivial)) rfl (fun _ => hn10))) rfl ?_
        refine Chain.consA (StepOK.move .none (.tmp rfl (fun _ => trivial))) rfl ?_
        refine Chain.consA (StepOK.move .none (.tmp rfl (fun _ => trivial))) rfl ?_
        obtain ⟨hn12, h⟩ := need_some h
        refine Chain.consA (StepOK.indexAddrO (k := 53) .none sl42 ty3 (.tmp rfl (fun _ => trivial)) rfl (.tmp rfl (fun _ => trivial)) (fun _ => hn12)) rfl ?_
        obtain ⟨v2, hv13, h⟩ := bnd_some h
        refine Chain.consA (StepOK.re hv13 (StepOK.loadElem0 (k := 53) .none ty3 (.tmp rfl (fun _ => trivial)) rfl (fun _ => hn12))) rfl ?_
        obtain ⟨hn14, h⟩ := need_some h
        refine Chain.consA (StepOK.indexAddrO (k := 53) .none sl42 ty3 (.tmp rfl (fun _ => trivial)) rfl (.tmp rfl (fun _ => trivial)) (fun _ => hn14)) rfl ?_
        refine Chain.consN (StepOK.storeElem0 (k := 53) ty3 (.tmp rfl (fun _ => trivial)) rfl (.tmp rfl (fun _ => trivial)) hn14) rfl ?_
        obtain ⟨hn15, h⟩ := need_some h
        refine Chain.consA (StepOK.indexAddrO (k := 53) .none sl42 ty3 (.tmp rfl (fun _ => trivial)) rfl (.tmp rfl (fun _ => trivial)) (fun _ => hn15)) rfl ?_
        refine Chain.consN (StepOK.storeElem0 (k := 53) ty3 (.tmp rfl (fun _ => trivial)) rfl (.tmp rfl (fun _ => trivial)) hn15) rfl ?_
        refine Chain.nil ?_
        refine Ends.blkNormal ?_
        refine Ends.then ?_
        obtain ⟨data2, hv16, h⟩ := bnd_some h
        refine Cod.reB (t := 53) rfl (congrArg (fun y => CPred.at s53 (rowV 3 y)) hv16) ?_
        refine Cod.region [] mixed (by kernel_rfl) ?_
        refine Chain.cons (StepOK.move .none (.tmp rfl (fun _ => trivial))) rfl ?_
        refine Chain.cons (StepOK.subW .none (.tmp rfl (fun _ => trivial)) (.int (by decide))) rfl ?_
        obtain ⟨j1, hv17, h⟩ := bnd_some h
        refine Chain.cons (StepOK.re hv17 (StepOK.assign .none (.tmp rfl (fun _ => trivial)))) rfl ?_
        refine Chain.nil ?_
        exact Ends.againL (some_eq h) (.cons (t := 9) rfl (.cons (t := 0) rfl (.cons (t := 1) rfl (.cons (t := 2) rfl (.cons (t := 3) rfl (.cons (t := 8) rfl Sub.nil)))))) (.cons (t := 53) rfl SubB.nil)
      · replace h := bif_f h hb9
        refine Cod.exit ?_
        refine Ends.thenExit ?_
        refine Ends.thenExit ?_
        refine Ends.blkExit ?_
        refine Ends.blkNormal ?_
        replace h := hD5 _ (some_eq h)
        exact Ends.join _ (some_eq h) (.cons (t := 0) rfl (.cons (t := 1) rfl (.cons (t := 2) rfl (.cons (t := 3) rfl (.cons (t := 8) rfl Sub.nil))))) (.cons (t := 53) rfl SubB.nil)
    · subst hj4; have h := hK4; clear hK4
      refine Cod.region [] mixed (by kernel_rfl) ?_
      refine Chain.cons (StepOK.move .none (.tmp rfl (fun _ => trivial))) rfl ?_
      refine Chain.cons (StepOK.addW .none (.tmp rfl (fun _ => trivial)) (.int (by decide))) rfl ?_
      obtain ⟨i2, hv18, h⟩ := bnd_some h
      refine Chain.cons (StepOK.re hv18 (StepOK.assign .none (.tmp rfl (fun _ => trivial)))) rfl ?_
      refine Chain.nil ?_
      exact Ends.againL (some_eq h) (.cons (t := 8) rfl (.cons (t := 0) rfl (.cons (t := 1) rfl (.cons (t := 2) rfl (.cons (t := 3) rfl Sub.nil))))) (.cons (t := 53) rfl SubB.nil)
  · replace h := bif_f h hb3
    refine Cod.exit ?_
    refine Ends.thenExit ?_
    refine Ends.thenExit ?_
    refine Ends.blkExit ?_
    replace h := hD2 _ (some_eq h)
    obtain rfl := some_eq h
    exact Ends.ret0O (.inr rfl) [53] Try.results121 (by decide) (.held rfl .nil) 

theorem slices_swapRangeCmpFunc_int_ok {data1 : (List Int)} {a1 : Int} {b1 : Int} {n1 : Int} {cmp1 : (Int → Int → Option Int)} {r : (List Int)} {s38 : Value} (h : slices_swapRangeCmpFunc_int data1 a1 b1 n1 cmp1 = some r) : FSpecO Try.prog 140 [isV s38, rep a1, rep b1, rep n1, fn2 Try.prog (rep (α := Int)) cmp1] [(s38, rowV 3 data1)] (anyV) [some (rowV 3 r)] := by
  unfold slices_swapRangeCmpFunc_int at h
  refine FSpecO.intro (n := 38) fnok140 Try.func140 rfl Try.ntmps140 rfl (fun F => ?_)
  refine Cod.seq ?_
  refine Cod.region [] mixed (by kernel_rfl) ?_
  refine Chain.cons (StepOK.assign .none (.int (by decide))) rfl ?_
  refine Chain.nil ?_
  refine Ends.then ?_
  refine Cod.block ?_
  refine Cod.loopL h (fun s1_ => [(10, ⟨True, rep s1_.1⟩)]) (fun s1_ => [(38, some (CPred.at s38 (rowV 3 s1_.2)))]) (.cons (t := 10) rfl Sub.nil) (.cons (t := 38) rfl SubB.nil) (.cons (t := 0) rfl (.cons (t := 1) rfl (.cons (t := 2) rfl (.cons (t := 3) rfl Sub.nil)))) SubB.nil (fun s1_ o_1 h hD1 => ?_)
  unfold slices_swapRangeCmpFunc_int_L1 at h
  refine Cod.seq ?_
  refine Cod.seq ?_
  refine Cod.region [] mixed (by kernel_rfl) ?_
  refine Chain.cons (StepOK.move .none (.tmp rfl (fun _ => trivial))) rfl ?_
  refine Chain.cons (StepOK.move .none (.tmp rfl (fun _ => trivial))) rfl ?_
  refine Chain.cons (StepOK.lt .none (.tmp rfl (fun _ => trivial)) (.tmp rfl (fun _ => trivial))) rfl ?_
  refine Chain.nil ?_
  refine Ends.then ?_
  refine Cod.cond (t := 13) rfl trivial (fun hb2 => ?_) (fun hb2 => ?_)
  · replace h := bif_t h hb2
    refine Cod.skip ?_
    refine Ends.then ?_
    refine Cod.seq ?_
    refine Cod.block ?_
    refine Cod.region [([], []), ([], []), ([], []), ([], []), ([], []), ([], []), ([], []), ([], []), ([], []), ([], []), ([], []), ([], []), ([38], []), ([38], []), ([], []), ([], []), ([], []), ([], []), ([38], []), ([38], []), ([38], []), ([38], [38]), ([38], []), ([38], [38])] mixed (by kernel_rfl) ?_
    refine Chain.consA (StepOK.move .none (.tmp rfl (fun _ => trivial))) rfl ?_
    refine Chain.consA (StepOK.move .none (.tmp rfl (fun _ => trivial))) rfl ?_
    refine Chain.consA (StepOK.move .none (.tmp rfl (fun _ => trivial))) rfl ?_
    refine Chain.consA (StepOK.addW .none (.tmp rfl (fun _ => trivial)) (.tmp rfl (fun _ => trivial))) rfl ?_
    refine Chain.consA (StepOK.move .none (.tmp rfl (fun _ => trivial))) rfl ?_
    refine Chain.consA (StepOK.move .none (.tmp rfl (fun _ => trivial))) rfl ?_
    refine Chain.consA (StepOK.move .none (.tmp rfl (fun _ => trivial))) rfl ?_
    refine Chain.consA (StepOK.addW .none (.tmp rfl (fun _ => trivial)) (.tmp rfl (fun _ => trivial))) rfl ?_
    refine Chain.consA (StepOK.move .none (.tmp rfl (fun _ => trivial))) rfl ?_
    refine Chain.consA (StepOK.move .none (.tmp rfl (fun _ => trivial))) rfl ?_
    refine Chain.consA (StepOK.move .none (.tmp rfl (fun _ => trivial))) rfl ?_
    refine Chain.consA (StepOK.addW .none (.tmp rfl (fun _ => trivial)) (.tmp rfl (fun _ => trivial))) rfl ?_
    obtain ⟨hn3, h⟩ := need_some h
    refine Chain.consA (StepOK.indexAddrO (k := 38) .none sl42 ty3 (.tmp rfl (fun _ => trivial)) rfl (.tmp rfl (fun _ => trivial)) (fun _ => hn3)) rfl ?_
    obtain ⟨v1, hv4, h⟩ := bnd_some h
    refine Chain.consA (StepOK.re hv4 (StepOK.loadElem0 (k := 38) .none ty3 (.tmp rfl (fun _ => trivial)) rfl (fun _ => hn3))) rfl ?_
    refine Chain.consA (StepOK.move .none (.tmp rfl (fun _ => trivial))) rfl ?_
    refine Chain.consA (StepOK.move .none (.tmp rfl (fun _ => trivial))) rfl ?_
    refine Chain.consA (StepOK.move .none (.tmp rfl (fun _ => trivial))) rfl ?_
    refine Chain.consA (StepOK.addW .none (.tmp rfl (fun _ => trivial)) (.tmp rfl (fun _ => trivial))) rfl ?_
    obtain ⟨hn5, h⟩ := need_some h
    refine Chain.consA (StepOK.indexAddrO (k := 38) .none sl42 ty3 (.tmp rfl (fun _ => trivial)) rfl (.tmp rfl (fun _ => trivial)) (fun _ => hn5)) rfl ?_
    obtain ⟨v2, hv6, h⟩ := bnd_some h
    refine Chain.consA (StepOK.re hv6 (StepOK.loadElem0 (k := 38) .none ty3 (.tmp rfl (fun _ => trivial)) rfl (fun _ => hn5))) rfl ?_
    obtain ⟨hn7, h⟩ := need_some h
    refine Chain.consA (StepOK.indexAddrO (k := 38) .none sl42 ty3 (.tmp rfl (fun _ => trivial)) rfl (.tmp rfl (fun _ => trivial)) (fun _ => hn7)) rfl ?_
    refine Chain.consN (StepOK.storeElem0 (k := 38) ty3 (.tmp rfl (fun _ => trivial)) rfl (.tmp rfl (fun _ => trivial)) hn7) rfl ?_
    obtain ⟨hn8, h⟩ := need_some h
    refine Chain.consA (StepOK.indexAddrO (k := 38) .none sl42 ty3 (.tmp rfl (fun _ => trivial)) rfl (.tmp rfl (fun _ => trivial)) (fun _ => hn8)) rfl ?_
    refine Chain.consN (StepOK.storeElem0 (k := 38) ty3 (.tmp rfl (fun _ => trivial)) rfl (.tmp rfl (fun _ => trivial)) hn8) rfl ?_
    refine Chain.nil ?_
    refine Ends.blkNormal ?_
    refine Ends.then ?_
    obtain ⟨data2, hv9, h⟩ := bnd_some h
    refine Cod.reB (t := 38) rfl (congrArg (fun y => CPred.at s38 (rowV 3 y)) hv9) ?_
    refine Cod.region [] mixed (by kernel_rfl) ?_
    refine Chain.cons (StepOK.move .none (.tmp rfl (fun _ => trivial))) rfl ?_
    refine Chain.cons (StepOK.addW .none (.tmp rfl (fun _ => trivial)) (.int (by decide))) rfl ?_
    obtain ⟨i1, hv10, h⟩ := bnd_some h
    refine Chain.cons (StepOK.re hv10 (StepOK.assign .none (.tmp rfl (fun _ => trivial)))) rfl ?_
    refine Chain.nil ?_
    exact Ends.againL (some_eq h) (.cons (t := 10) rfl (.cons (t := 0) rfl (.cons (t := 1) rfl (.cons (t := 2) rfl (.cons (t := 3) rfl Sub.nil))))) (.cons (t := 38) rfl SubB.nil)
  · replace h := bif_f h hb2
    refine Cod.exit ?_
    refine Ends.thenExit ?_
    refine Ends.thenExit ?_
    refine Ends.blkExit ?_
    replace h := hD1 _ (some_eq h)
    obtain rfl := some_eq h
    exact Ends.ret0O (.inr rfl) [38] Try.results140 (by decide) (.held rfl .nil) 

theorem slices_rotateCmpFunc_int_ok {data1 : (List Int)} {a1 : Int} {m1 : Int} {b1 : Int} {cmp1 : (Int → Int → Option Int)} {r : (List Int)} {s58 : Value} (h : slices_rotateCmpFunc_int data1 a1 m1 b1 cmp1 = some r) : FSpecO Try.prog 129 [isV s58, rep a1, rep m1, rep b1, fn2 Try.prog (rep (α := Int)) cmp1] [(s58, rowV 3 data1)] (anyV) [some (rowV 3 r)] := by
  unfold slices_rotateCmpFunc_int at h
  refine FSpecO.intro (n := 58) fnok129 Try.func129 rfl Try.ntmps129 rfl (fun F => ?_)
  refine Cod.seq ?_
  refine Cod.region [] mixed (by kernel_rfl) ?_
  refine Chain.cons (StepOK.move .none (.tmp rfl (fun _ => trivial))) rfl ?_
  refine Chain.cons (StepOK.move .none (.tmp rfl (fun _ => trivial))) rfl ?_
  refine Chain.cons (StepOK.subW .none (.tmp rfl (fun _ => trivial)) (.tmp rfl (fun _ => trivial))) rfl ?_
  obtain ⟨i1, hv1, h⟩ := bnd_some h
  refine Chain.cons (StepOK.re hv1 (StepOK.assign .none (.tmp rfl (fun _ => trivial)))) rfl ?_
  refine Chain.nil ?_
  refine Ends.then ?_
  refine Cod.seq ?_
  refine Cod.region [] mixed (by kernel_rfl) ?_
  refine Chain.cons (StepOK.move .none (.tmp rfl (fun _ => trivial))) rfl ?_
  refine Chain.cons (StepOK.move .none (.tmp rfl (fun _ => trivial))) rfl ?_
  refine Chain.cons (StepOK.subW .none (.tmp rfl (fun _ => trivial)) (.tmp rfl (fun _ => trivial))) rfl ?_
  obtain ⟨j1, hv2, h⟩ := bnd_some h
  refine Chain.cons (StepOK.re hv2 (StepOK.assign .none (.tmp rfl (fun _ => trivial)))) rfl ?_
  refine Chain.nil ?_
  refine Ends.then ?_
  refine Cod.seq ?_
  obtain ⟨j_3, h, hK3⟩ := bind_some h
  refine Cod.thenJ (ι := (Int × (List Int))) (fun j_3 => [(10, ⟨True, rep j_3.1⟩)]) (fun j_3 => [(58, some (CPred.at s58 (rowV 3 j_3.2)))]) (fun s => j_3 = s) (.cons (t := 0) rfl (.cons (t := 2) rfl (.cons (t := 4) rfl Sub.nil))) SubB.nil ?_ (fun j_3' hj3 => ?_)
  · skip
    refine Cod.block ?_
    refine Cod.loopL h (fun s4_ => [(10, ⟨True, rep s4_.1⟩), (11, ⟨True, rep s4_.2.1⟩)]) (fun s4_ => [(58, some (CPred.at s58 (rowV 3 s4_.2.2)))]) (.cons (t := 10) rfl (.cons (t := 11) rfl Sub.nil)) (.cons (t := 58) rfl SubB.nil) (.cons (t := 0) rfl (.cons (t := 2) rfl (.cons (t := 4) rfl Sub.nil))) SubB.nil (fun s4_ o_4 h hD4 => ?_)
    unfold slices_rotateCmpFunc_int_L1 at h
    refine Cod.seq ?_
    refine Cod.seq ?_
    refine Cod.region [] mixed (by kernel_rfl) ?_
    refine Chain.cons (StepOK.move .none (.tmp rfl (fun _ => trivial))) rfl ?_
    refine Chain.cons (StepOK.move .none (.tmp rfl (fun _ => trivial))) rfl ?_
    refine Chain.cons (StepOK.neI .none (.tmp rfl (fun _ => trivial)) (.tmp rfl (fun _ => trivial))) rfl ?_
    refine Chain.nil ?_
    refine Ends.then ?_
    refine Cod.cond (t := 20) rfl trivial (fun hb5 => ?_) (fun hb5 => ?_)
    · replace h := bif_t h hb5
      refine Cod.skip ?_
      refine Ends.then ?_
      refine Cod.block ?_
      refine Cod.seq ?_
      refine Cod.region [] mixed (by kernel_rfl) ?_
      refine Chain.cons (StepOK.move .none (.tmp rfl (fun _ => trivial))) rfl ?_
      refine Chain.cons (StepOK.move .none (.tmp rfl (fun _ => trivial))) rfl ?_
      refine Chain.cons (StepOK.gt .none (.tmp rfl (fun _ => trivial)) (.tmp rfl (fun _ => trivial))) rfl ?_
      refine Chain.nil ?_
      refine Ends.then ?_
      refine Cod.cond (t := 23) rfl trivial (fun hb6 => ?_) (fun hb6 => ?_)
      · replace h := bif_t h hb6
        refine Cod.seq ?_
        refine Cod.region [([], []), ([], []), ([], []), ([], []), ([], []), ([], []), ([], []), ([58], [58])] mixed (by kernel_rfl) ?_
        refine Chain.consA (StepOK.move .none (.tmp rfl (fun _ => trivial))) rfl ?_
        refine Chain.consA (StepOK.move .none (.tmp rfl (fun _ => trivial))) rfl ?_
        refine Chain.consA (StepOK.move .none (.tmp rfl (fun _ => trivial))) rfl ?_
        refine Chain.consA (StepOK.subW .none (.tmp rfl (fun _ => trivial)) (.tmp rfl (fun _ => trivial))) rfl ?_
        refine Chain.consA (StepOK.move .none (.tmp rfl (fun _ => trivial))) rfl ?_
        refine Chain.consA (StepOK.move .none (.tmp rfl (fun _ => trivial))) rfl ?_
        refine Chain.consA (StepOK.move .none (.tmp rfl (fun _ => trivial))) rfl ?_
        obtain ⟨r1, hv7, h⟩ := bind_some h
        refine Chain.consW (StepOK.callO [58] (slices_swapRangeCmpFunc_int_ok hv7) (.cons (.tmp rfl (fun _ => trivial)) (.cons (.tmp rfl (fun _ => trivial)) (.cons (.tmp rfl (fun _ => trivial)) (.cons (.tmp rfl (fun _ => trivial)) (.cons (.tmp rfl (fun _ => trivial)) .nil))))) (.cons (k := 58) rfl .nil) rfl (by decide) (by decide) (by intro d h; cases h; decide)) rfl rfl ?_
        refine Chain.nil ?_
        refine Ends.then ?_
        refine Cod.region [] mixed (by kernel_rfl) ?_
        refine Chain.cons (StepOK.move .none (.tmp rfl (fun _ => trivial))) rfl ?_
        refine Chain.cons (StepOK.move .none (.tmp rfl (fun _ => trivial))) rfl ?_
        refine Chain.cons (StepOK.subW .none (.tmp rfl (fun _ => trivial)) (.tmp rfl (fun _ => trivial))) rfl ?_
        obtain ⟨i2, hv8, h⟩ := bnd_some h
        refine Chain.cons (StepOK.re hv8 (StepOK.assign .none (.tmp rfl (fun _ => trivial)))) rfl ?_
        refine Chain.nil ?_
        refine Ends.blkNormal ?_
        exact Ends.againL (some_eq h) (.cons (t := 10) rfl (.cons (t := 11) rfl (.cons (t := 0) rfl (.cons (t := 2) rfl (.cons (t := 4) rfl Sub.nil))))) (.cons (t := 58) rfl SubB.nil)
      · replace h := bif_f h hb6
        refine Cod.seq ?_
        refine Cod.region [([], []), ([], []), ([], []), ([], []), ([], []), ([], []), ([], []), ([], []), ([], []), ([], []), ([], []), ([58], [58])] mixed (by kernel_rfl) ?_
        refine Chain.consA (StepOK.move .none (.tmp rfl (fun _ => trivial))) rfl ?_
        refine Chain.consA (StepOK.move .none (.tmp rfl (fun _ => trivial))) rfl ?_
        refine Chain.consA (StepOK.move .none (.tmp rfl (fun _ => trivial))) rfl ?_
        refine Chain.consA (StepOK.subW .none (.tmp rfl (fun _ => trivial)) (.tmp rfl (fun _ => trivial))) rfl ?_
        refine Chain.consA (StepOK.move .none (.tmp rfl (fun _ => trivial))) rfl ?_
        refine Chain.consA (StepOK.move .none (.tmp rfl (fun _ => trivial))) rfl ?_
        refine Chain.consA (StepOK.addW .none (.tmp rfl (fun _ => trivial)) (.tmp rfl (fun _ => trivial))) rfl ?_
        refine Chain.consA (StepOK.move .none (.tmp rfl (fun _ => trivial))) rfl ?_
        refine Chain.consA (StepOK.subW .none (.tmp rfl (fun _ => trivial)) (.tmp rfl (fun _ => trivial))) rfl ?_
        refine Chain.consA (StepOK.move .none (.tmp rfl (fun _ => trivial))) rfl ?_
        refine Chain.consA (StepOK.move .none (.tmp rfl (fun _ => trivial))) rfl ?_
        obtain ⟨r2, hv9, h⟩ := bind_some h
        refine Chain.consW (StepOK.callO [58] (slices_swapRangeCmpFunc_int_ok hv9) (.cons (.tmp rfl (fun _ => trivial)) (.cons (.tmp rfl (fun _ => trivial)) (.cons (.tmp rfl (fun _ => trivial)) (.cons (.tmp rfl (fun _ => trivial)) (.cons (.tmp rfl (fun _ => trivial)) .nil))))) (.cons (k := 58) rfl .nil) rfl (by decide) (by decide) (by intro d h; cases h; decide)) rfl rfl ?_
        refine Chain.nil ?_
        refine Ends.then ?_
        refine Cod.region [] mixed (by kernel_rfl) ?_
        refine Chain.cons (StepOK.move .none (.tmp rfl (fun _ => trivial))) rfl ?_
        refine Chain.cons (StepOK.move .none (.tmp rfl (fun _ => trivial))) rfl ?_
        refine Chain.cons (StepOK.subW .none (.tmp rfl (fun _ => trivial)) (.tmp rfl (fun _ => trivial))) rfl ?_
        obtain ⟨j2, hv10, h⟩ := bnd_some h
        refine Chain.cons (StepOK.re hv10 (StepOK.assign .none (.tmp rfl (fun _ => trivial)))) rfl ?_
        refine Chain.nil ?_
        refine Ends.blkNormal ?_
        exact Ends.againL (some_eq h) (.cons (t := 10) rfl (.cons (t := 11) rfl (.cons (t := 0) rfl (.cons (t := 2) rfl (.cons (t := 4) rfl Sub.nil))))) (.cons (t := 58) rfl SubB.nil)
    · replace h := bif_f h hb5
      refine Cod.exit ?_
      refine Ends.thenExit ?_
      refine Ends.thenExit ?_
      refine Ends.blkExit ?_
      replace h := hD4 _ (some_eq h)
      exact Ends.join _ (some_eq h) (.cons (t := 10) rfl (.cons (t := 0) rfl (.cons (t := 2) rfl (.cons (t := 4) rfl Sub.nil)))) (.cons (t := 58) rfl SubB.nil)
  · subst hj3; have h := hK3; clear hK3
    refine Cod.region [([], []), ([], []), ([], []), ([], []), ([], []), ([], []), ([], []), ([58], [58])] mixed (by kernel_rfl) ?_
    refine Chain.consA (StepOK.move .none (.tmp rfl (fun _ => trivial))) rfl ?_
    refine Chain.consA (StepOK.move .none (.tmp rfl (fun _ => trivial))) rfl ?_
    refine Chain.consA (StepOK.move .none (.tmp rfl (fun _ => trivial))) rfl ?_
    refine Chain.consA (StepOK.subW .none (.tmp rfl (fun _ => trivial)) (.tmp rfl (fun _ => trivial))) rfl ?_
    refine Chain.consA (StepOK.move .none (.tmp rfl (fun _ => trivial))) rfl ?_
    refine Chain.consA (StepOK.move .none (.tmp rfl (fun _ => trivial))) rfl ?_
    refine Chain.consA (StepOK.move .none (.tmp rfl (fun _ => trivial))) rfl ?_
    obtain ⟨r3, hv11, h⟩ := bind_some h
    refine Chain.consW (StepOK.callO [58] (slices_swapRangeCmpFunc_int_ok hv11) (.cons (.tmp rfl (fun _ => trivial)) (.cons (.tmp rfl (fun _ => trivial)) (.cons (.tmp rfl (fun _ => trivial)) (.cons (.tmp rfl (fun _ => trivial)) (.cons (.tmp rfl (fun _ => trivial)) .nil))))) (.cons (k := 58) rfl .nil) rfl (by decide) (by decide) (by intro d h; cases h; decide)) rfl rfl ?_
    refine Chain.nil ?_
    obtain rfl := some_eq h
    exact Ends.ret0O (.inr rfl) [58] Try.results129 (by decide) (.held rfl .nil) 

theorem slices_symMergeCmpFunc_int_okS {self : ((List Int) × Int × Int × Int × (Int → Int → Option Int)) → Option (List Int)} (hself : ∀ {s220 : Value} (x : ((List Int) × Int × Int × Int × (Int → Int → Option Int))) (r : (List Int)), self x = some r → FSpecO Try.prog 122 [isV s220, rep x.2.1, rep x.2.2.1, rep x.2.2.2.1, fn2 Try.prog (rep (α := Int)) x.2.2.2.2] [(s220, rowV 3 x.1)] (anyV) [some (rowV 3 r)]) {s220 : Value} {x : ((List Int) × Int × Int × Int × (Int → Int → Option Int))} {r : (List Int)} (h : slices_symMergeCmpFunc_int_body self x = some r) : FSpecO Try.prog 122 [isV s220, rep x.2.1, rep x.2.2.1, rep x.2.2.2.1, fn2 Try.prog (rep (α := Int)) x.2.2.2.2] [(s220, rowV 3 x.1)] (anyV) [some (rowV 3 r)] := by
  unfold slices_symMergeCmpFunc_int_body at h
  refine FSpecO.intro (n := 220) fnok122 Try.func122 rfl Try.ntmps122 rfl (fun F => ?_)
  refine Cod.seq ?_
  refine Cod.seq ?_
  refine Cod.region [] mixed (by kernel_rfl) ?_
  refine Chain.cons (StepOK.move .none (.tmp rfl (fun _ => trivial))) rfl ?_
  refine Chain.cons (StepOK.move .none (.tmp rfl (fun _ => trivial))) rfl ?_
  refine Chain.cons (StepOK.subW .none (.tmp rfl (fun _ => trivial)) (.tmp rfl (fun _ => trivial))) rfl ?_
  refine Chain.cons (StepOK.eqI .none (.tmp rfl (fun _ => trivial)) (.int (by decide))) rfl ?_
  refine Chain.nil ?_
  refine Ends.then ?_
  obtain ⟨o_1, h, hK1⟩ := bindR_some h
  refine Cod.thenJ (ι := Unit) (fun j_1 => []) (fun j_1 => []) (fun s => o_1 = Res.nx s) (.cons (t := 0) rfl (.cons (t := 1) rfl (.cons (t := 2) rfl (.cons (t := 3) rfl (.cons (t := 4) rfl Sub.nil))))) (.cons (t := 220) rfl SubB.nil) ?_ (fun j_1 hj1 => ?_)
  · skip
    refine Cod.cond (t := 28) rfl trivial (fun hb2 => ?_) (fun hb2 => ?_)
    · replace h := bif_t h hb2
      refine Cod.seq ?_
      refine Cod.region [] mixed (by kernel_rfl) ?_
      refine Chain.cons (StepOK.move .none (.tmp rfl (fun _ => trivial))) rfl ?_
      refine Chain.cons (StepOK.assign .none (.tmp rfl (fun _ => trivial))) rfl ?_
      refine Chain.nil ?_
      refine Ends.then ?_
      refine Cod.seq ?_
      refine Cod.region [] mixed (by kernel_rfl) ?_
      refine Chain.cons (StepOK.move .none (.tmp rfl (fun _ => trivial))) rfl ?_
      refine Chain.cons (StepOK.assign .none (.tmp rfl (fun _ => trivial))) rfl ?_
      refine Chain.nil ?_
      refine Ends.then ?_
      refine Cod.seq ?_
      obtain ⟨j_3, h, hK3⟩ := bind_some h
      refine Cod.thenJ (ι := Int) (fun j_3 => [(10, ⟨True, rep j_3⟩)]) (fun j_3 => []) (fun s => j_3 = s) (.cons (t := 0) rfl (.cons (t := 1) rfl Sub.nil)) (.cons (t := 220) rfl SubB.nil) ?_ (fun j_3' hj3 => ?_)
      · skip
        refine Cod.block ?_
        refine Cod.loopL h (fun s4_ => [(10, ⟨True, rep s4_.1⟩), (11, ⟨True, rep s4_.2⟩)]) (fun s4_ => []) (.cons (t := 10) rfl (.cons (t := 11) rfl Sub.nil)) SubB.nil (.cons (t := 0) rfl (.cons (t := 1) rfl (.cons (t := 4) rfl Sub.nil))) (.cons (t := 220) rfl SubB.nil) (fun s4_ o_4 h hD4 => ?_)
        unfold slices_symMergeCmpFunc_int_L1 at h
        refine Cod.seq ?_
        refine Cod.seq ?_
        refine Cod.region [] mixed (by kernel_rfl) ?_
        refine Chain.cons (StepOK.move .none (.tmp rfl (fun _ => trivial))) rfl ?_
        refine Chain.cons (StepOK.move .none (.tmp rfl (fun _ => trivial))) rfl ?_
        refine Chain.cons (StepOK.lt .none (.tmp rfl (fun _ => trivial)) (.tmp rfl (fun _ => trivial))) rfl ?_
        refine Chain.nil ?_
        refine Ends.then ?_
        refine Cod.cond (t := 33) rfl trivial (fun hb5 => ?_) (fun hb5 => ?_)
        · replace h := bif_t h hb5
          refine Cod.skip ?_
          refine Ends.then ?_
          refine Cod.block ?_
          refine Cod.seq ?_
          refine Cod.region [] mixed (by kernel_rfl) ?_
          refine Chain.cons (StepOK.move .none (.tmp rfl (fun _ => trivial))) rfl ?_
          refine Chain.cons (StepOK.move .none (.tmp rfl (fun _ => trivial))) rfl ?_
          refine Chain.cons (StepOK.addW .none (.tmp rfl (fun _ => trivial)) (.tmp rfl (fun _ => trivial))) rfl ?_
          refine Chain.cons (StepOK.toK .none (by kernel_rfl) Try.underlying132 (.tmp rfl (fun _ => trivial))) rfl ?_
          refine Chain.cons (StepOK.kshr .none (.tmp rfl (fun _ => trivial)) .ki (fun _ => by decide)) rfl ?_
          refine Chain.cons (StepOK.toInt .none (by kernel_rfl) Try.underlying3 (.tmp rfl (fun _ => trivial))) rfl ?_
          obtain ⟨h1, hv6, h⟩ := bnd_some h
          refine Chain.cons (StepOK.re hv6 (StepOK.assign .none (.tmp rfl (fun _ => trivial)))) rfl ?_
          refine Chain.nil ?_
          refine Ends.then ?_
          refine Cod.seq ?_
          refine Cod.region [([], []), ([], []), ([], []), ([220], []), ([220], []), ([], []), ([], []), ([220], []), ([220], []), ([], []), ([], [])] mixed (by kernel_rfl) ?_
          refine Chain.consA (StepOK.move .none (.tmp rfl (fun _ => trivial))) rfl ?_
          refine Chain.consA (StepOK.move .none (.tmp rfl (fun _ => trivial))) rfl ?_
          refine Chain.consA (StepOK.move .none (.tmp rfl (fun _ => trivial))) rfl ?_
          obtain ⟨hn7, h⟩ := need_some h
          refine Chain.consA (StepOK.indexAddrO (k := 220) .none sl42 ty3 (.tmp rfl (fun _ => trivial)) rfl (.tmp rfl (fun _ => trivial)) (fun _ => hn7)) rfl ?_
          refine Chain.consA (StepOK.loadElem0 (k := 220) .none ty3 (.tmp rfl (fun _ => trivial)) rfl (fun _ => hn7)) rfl ?_
          refine Chain.consA (StepOK.move .none (.tmp rfl (fun _ => trivial))) rfl ?_
          refine Chain.consA (StepOK.move .none (.tmp rfl (fun _ => trivial))) rfl ?_
          obtain ⟨hn8, h⟩ := need_some h
          refine Chain.consA (StepOK.indexAddrO (k := 220) .none sl42 ty3 (.tmp rfl (fun _ => trivial)) rfl (.tmp rfl (fun _ => trivial)) (fun _ => hn8)) rfl ?_
          refine Chain.consA (StepOK.loadElem0 (k := 220) .none ty3 (.tmp rfl (fun _ => trivial)) rfl (fun _ => hn8)) rfl ?_
          obtain ⟨r1, hv9, h⟩ := bind_some h
          refine Chain.consA (StepOK.callV (_, _, _) .none (.tmp rfl (fun _ => trivial)) (fun _ => hv9) (.cons (.tmp rfl (fun _ => trivial)) (.cons (.tmp rfl (fun _ => trivial)) .nil))) rfl ?_
          refine Chain.consA (StepOK.lt .none (.tmp rfl (fun _ => trivial)) (.int (by decide))) rfl ?_
          refine Chain.nil ?_
          refine Ends.then ?_
          refine Cod.cond (t := 50) rfl trivial (fun hb10 => ?_) (fun hb10 => ?_)
          · replace h := bif_t h hb10
            refine Cod.region [] mixed (by kernel_rfl) ?_
            refine Chain.cons (StepOK.move .none (.tmp rfl (fun _ => trivial))) rfl ?_
            refine Chain.cons (StepOK.addW .none (.tmp rfl (fun _ => trivial)) (.int (by decide))) rfl ?_
            obtain ⟨i1, hv11, h⟩ := bnd_some h
            refine Chain.cons (StepOK.re hv11 (StepOK.assign .none (.tmp rfl (fun _ => trivial)))) rfl ?_
            refine Chain.nil ?_
            refine Ends.blkNormal ?_
            exact Ends.againL (some_eq h) (.cons (t := 10) rfl (.cons (t := 11) rfl (.cons (t := 0) rfl (.cons (t := 1) rfl (.cons (t := 4) rfl Sub.nil))))) (.cons (t := 220) rfl SubB.nil)
          · replace h := bif_f h hb10
            refine Cod.region [] mixed (by kernel_rfl) ?_
            refine Chain.cons (StepOK.move .none (.tmp rfl (fun _ => trivial))) rfl ?_
            refine Chain.cons (StepOK.assign .none (.tmp rfl (fun _ => trivial))) rfl ?_
            refine Chain.nil ?_
            refine Ends.blkNormal ?_
            exact Ends.againL (some_eq h) (.cons (t := 10) rfl (.cons (t := 11) rfl (.cons (t := 0) rfl (.cons (t := 1) rfl (.cons (t := 4) rfl Sub.nil))))) (.cons (t := 220) rfl SubB.nil)
        · replace h := bif_f h hb5
          refine Cod.exit ?_
          refine Ends.thenExit ?_
          refine Ends.thenExit ?_
          refine Ends.blkExit ?_
          replace h := hD4 _ (some_eq h)
          exact Ends.join _ (some_eq h) (.cons (t := 10) rfl (.cons (t := 0) rfl (.cons (t := 1) rfl Sub.nil))) (.cons (t := 220) rfl SubB.nil)
      · subst hj3; have h := hK3; clear hK3
        refine Cod.seq ?_
        refine Cod.seq ?_
        refine Cod.region [] mixed (by kernel_rfl) ?_
        refine Chain.cons (StepOK.move .none (.tmp rfl (fun _ => trivial))) rfl ?_
        refine Chain.cons (StepOK.assign .none (.tmp rfl (fun _ => trivial))) rfl ?_
        refine Chain.nil ?_
        refine Ends.then ?_
        obtain ⟨j_12, h, hK12⟩ := bind_some h
        refine Cod.thenJ (ι := (List Int)) (fun j_12 => []) (fun j_12 => [(220, some (CPred.at s220 (rowV 3 j_12)))]) (fun s => j_12 = s) Sub.nil SubB.nil ?_ (fun j_12' hj12 => ?_)
        · skip
          refine Cod.block ?_
          refine Cod.loopL h (fun s13_ => [(13, ⟨True, rep s13_.1⟩)]) (fun s13_ => [(220, some (CPred.at s220 (rowV 3 s13_.2)))]) (.cons (t := 13) rfl Sub.nil) (.cons (t := 220) rfl SubB.nil) (.cons (t := 0) rfl (.cons (t := 10) rfl Sub.nil)) SubB.nil (fun s13_ o_13 h hD13 => ?_)
          unfold slices_symMergeCmpFunc_int_L2 at h
          refine Cod.seq ?_
          refine Cod.seq ?_
          refine Cod.region [] mixed (by kernel_rfl) ?_
          refine Chain.cons (StepOK.move .none (.tmp rfl (fun _ => trivial))) rfl ?_
          refine Chain.cons (StepOK.move .none (.tmp rfl (fun _ => trivial))) rfl ?_
          refine Chain.cons (StepOK.subW .none (.tmp rfl (fun _ => trivial)) (.int (by decide))) rfl ?_
          refine Chain.cons (StepOK.lt .none (.tmp rfl (fun _ => trivial)) (.tmp rfl (fun _ => trivial))) rfl ?_
          refine Chain.nil ?_
          refine Ends.then ?_
          refine Cod.cond (t := 58) rfl trivial (fun hb14 => ?_) (fun hb14 => ?_)
          · replace h := bif_t h hb14
            refine Cod.skip ?_
            refine Ends.then ?_
            refine Cod.seq ?_
            refine Cod.block ?_
            refine Cod.region [([], []), ([], []), ([], []), ([], []), ([], []), ([], []), ([], []), ([], []), ([220], []), ([220], []), ([], []), ([], []), ([220], []), ([220], []), ([220], []), ([220], [220]), ([220], []), ([220], [220])] mixed (by kernel_rfl) ?_
            refine Chain.consA (StepOK.move .none (.tmp rfl (fun _ => trivial))) rfl ?_
            refine Chain.consA (StepOK.move .none (.tmp rfl (fun _ => trivial))) rfl ?_
            refine Chain.consA (StepOK.move .none (.tmp rfl (fun _ => trivial))) rfl ?_
            refine Chain.consA (StepOK.move .none (.tmp rfl (fun _ => trivial))) rfl ?_
            refine Chain.consA (StepOK.addW .none (.tmp rfl (fun _ => trivial)) (.int (by decide))) rfl ?_
            refine Chain.consA (StepOK.move .none (.tmp rfl (fun _ => trivial))) rfl ?_
            refine Chain.consA (StepOK.move .none (.tmp rfl (fun _ => trivial))) rfl ?_
            refine Chain.consA (StepOK.addW .none (.tmp rfl (fun _ => trivial)) (.int (by decide))) rfl ?_
            obtain ⟨hn15, h⟩ := need_some h
            refine Chain.consA (StepOK.indexAddrO (k := 220) .none sl42 ty3 (.tmp rfl (fun _ => trivial)) rfl (.tmp rfl (fun _ => trivial)) (fun _ => hn15)) rfl ?_
            obtain ⟨v1, hv16, h⟩ := bnd_some h
            refine Chain.consA (StepOK.re hv16 (StepOK.loadElem0 (k := 220) .none ty3 (.tmp rfl (fun _ => trivial)) rfl (fun _ => hn15))) rfl ?_
            refine Chain.consA (StepOK.move .none (.tmp rfl (fun _ => trivial))) rfl ?_
            refine Chain.consA (StepOK.move .none (.tmp rfl (fun _ => trivial))) rfl ?_
            obtain ⟨hn17, h⟩ := need_some h
            refine Chain.consA (StepOK.indexAddrO (k := 220) .none sl42 ty3 (.tmp rfl (fun _ => trivial)) rfl (.tmp rfl (fun _ => trivial)) (fun _ => hn17)) rfl ?_
            obtain ⟨v2, hv18, h⟩ := bnd_some h
            refine Chain.consA (StepOK.re hv18 (StepOK.loadElem0 (k := 220) .none ty3 (.tmp rfl (fun _ => trivial)) rfl (fun _ => hn17))) rfl ?_
            obtain ⟨hn19, h⟩ := need_some h
            refine Chain.consA (StepOK.indexAddrO (k := 220) .none sl42 ty3 (.tmp rfl (fun _ => trivial)) rfl (.tmp rfl (fun _ => trivial)) (fun _ => hn19)) rfl ?_
            refine Chain.consN (StepOK.storeElem0 (k := 220) ty3 (.tmp rfl (fun _ => trivial)) rfl (.tmp rfl (fun _ => trivial)) hn19) rfl ?_
            obtain ⟨hn20, h⟩ := need_some h
            refine Chain.consA (StepOK.indexAddrO (k := 220) .none sl42 ty3 (.tmp rfl (fun _ => trivial)) rfl (.tmp rfl (fun _ => trivial)) (fun _ => hn20)) rfl ?_
            refine Chain.consN (StepOK.storeElem0 (k := 220) ty3 (.tmp rfl (fun _ => trivial)) rfl (.tmp rfl (fun _ => trivial)) hn20) rfl ?_
            refine Chain.nil ?_
            refine Ends.blkNormal ?_
            refine Ends.then ?_
            obtain ⟨data2, hv21, h⟩ := bnd_some h
            refine Cod.reB (t := 220) rfl (congrArg (fun y => CPred.at s220 (rowV 3 y)) hv21) ?_
            refine Cod.region [] mixed (by kernel_rfl) ?_
            refine Chain.cons (StepOK.move .none (.tmp rfl (fun _ => trivial))) rfl ?_
            refine Chain.cons (StepOK.addW .none (.tmp rfl (fun _ => trivial)) (.int (by decide))) rfl ?_
            obtain ⟨k1, hv22, h⟩ := bnd_some h
            refine Chain.cons (StepOK.re hv22 (StepOK.assign .none (.tmp rfl (fun _ => trivial)))) rfl ?_
            refine Chain.nil ?_
            exact Ends.againL (some_eq h) (.cons (t := 13) rfl (.cons (t := 0) rfl (.cons (t := 10) rfl Sub.nil))) (.cons (t := 220) rfl SubB.nil)
          · replace h := bif_f h hb14
            refine Cod.exit ?_
            refine Ends.thenExit ?_
            refine Ends.thenExit ?_
            refine Ends.blkExit ?_
            replace h := hD13 _ (some_eq h)
            exact Ends.join _ (some_eq h) Sub.nil (.cons (t := 220) rfl SubB.nil)
        · subst hj12; have h := hK12; clear hK12
          refine Cod.ret ?_
          refine Ends.thenRet ?_
          replace h := resb_ab hK1 (some_eq h)
          obtain rfl := some_eq h
          exact Ends.ret0O (.inl rfl) [220] Try.results122 (by decide) (.held rfl .nil) 
    · replace h := bif_f h hb2
      refine Cod.skip ?_
      exact Ends.join _ (some_eq h) (.cons (t := 0) rfl (.cons (t := 1) rfl (.cons (t := 2) rfl (.cons (t := 3) rfl (.cons (t := 4) rfl Sub.nil))))) (.cons (t := 220) rfl SubB.nil)
  · have h := resb_nx hK1 hj1
    refine Cod.seq ?_
    refine Cod.seq ?_
    refine Cod.region [] mixed (by kernel_rfl) ?_
    refine Chain.cons (StepOK.move .none (.tmp rfl (fun _ => trivial))) rfl ?_
    refine Chain.cons (StepOK.move .none (.tmp rfl (fun _ => trivial))) rfl ?_
    refine Chain.cons (StepOK.subW .none (.tmp rfl (fun _ => trivial)) (.tmp rfl (fun _ => trivial))) rfl ?_
    refine Chain.cons (StepOK.eqI .none (.tmp rfl (fun _ => trivial)) (.int (by decide))) rfl ?_
    refine Chain.nil ?_
    refine Ends.then ?_
    obtain ⟨o_23, h, hK23⟩ := bindR_some h
    refine Cod.thenJ (ι := Unit) (fun j_23 => []) (fun j_23 => []) (fun s => o_23 = Res.nx s) (.cons (t := 0) rfl (.cons (t := 1) rfl (.cons (t := 2) rfl (.cons (t := 3) rfl (.cons (t := 4) rfl Sub.nil))))) (.cons (t := 220) rfl SubB.nil) ?_ (fun j_23 hj23 => ?_)
    · skip
      refine Cod.cond (t := 80) rfl trivial (fun hb24 => ?_) (fun hb24 => ?_)
      · replace h := bif_t h hb24
        refine Cod.seq ?_
        refine Cod.region [] mixed (by kernel_rfl) ?_
        refine Chain.cons (StepOK.move .none (.tmp rfl (fun _ => trivial))) rfl ?_
        refine Chain.cons (StepOK.assign .none (.tmp rfl (fun _ => trivial))) rfl ?_
        refine Chain.nil ?_
        refine Ends.then ?_
        refine Cod.seq ?_
        refine Cod.region [] mixed (by kernel_rfl) ?_
        refine Chain.cons (StepOK.move .none (.tmp rfl (fun _ => trivial))) rfl ?_
        refine Chain.cons (StepOK.assign .none (.tmp rfl (fun _ => trivial))) rfl ?_
        refine Chain.nil ?_
        refine Ends.then ?_
        refine Cod.seq ?_
        obtain ⟨j_25, h, hK25⟩ := bind_some h
        refine Cod.thenJ (ι := Int) (fun j_25 => [(14, ⟨True, rep j_25⟩)]) (fun j_25 => []) (fun s => j_25 = s) (.cons (t := 0) rfl (.cons (t := 2) rfl Sub.nil)) (.cons (t := 220) rfl SubB.nil) ?_ (fun j_25' hj25 => ?_)
        · skip
          refine Cod.block ?_
          refine Cod.loopL h (fun s26_ => [(14, ⟨True, rep s26_.1⟩), (15, ⟨True, rep s26_.2⟩)]) (fun s26_ => []) (.cons (t := 14) rfl (.cons (t := 15) rfl Sub.nil)) SubB.nil (.cons (t := 0) rfl (.cons (t := 2) rfl (.cons (t := 4) rfl Sub.nil))) (.cons (t := 220) rfl SubB.nil) (fun s26_ o_26 h hD26 => ?_)
          unfold slices_symMergeCmpFunc_int_L3 at h
          refine Cod.seq ?_
          refine Cod.seq ?_
          refine Cod.region [] mixed (by kernel_rfl) ?_
          refine Chain.cons (StepOK.move .none (.tmp rfl (fun _ => trivial))) rfl ?_
          refine Chain.cons (StepOK.move .none (.tmp rfl (fun _ => trivial))) rfl ?_
          refine Chain.cons (StepOK.lt .none (.tmp rfl (fun _ => trivial)) (.tmp rfl (fun _ => trivial))) rfl ?_
          refine Chain.nil ?_
          refine Ends.then ?_
          refine Cod.cond (t := 85) rfl trivial (fun hb27 => ?_) (fun hb27 => ?_)
          · replace h := bif_t h hb27
            refine Cod.skip ?_
            refine Ends.then ?_
            refine Cod.block ?_
            refine Cod.seq ?_
            refine Cod.region [] mixed (by kernel_rfl) ?_
            refine Chain.cons (StepOK.move .none (.tmp rfl (fun _ => trivial))) rfl ?_
            refine Chain.cons (StepOK.move .none (.tmp rfl (fun _ => trivial))) rfl ?_
            refine Chain.cons (StepOK.addW .none (.tmp rfl (fun _ => trivial)) (.tmp rfl (fun _ => trivial))) rfl ?_
            refine Chain.cons (StepOK.toK .none (by kernel_rfl) Try.underlying132 (.tmp rfl (fun _ => trivial))) rfl ?_
            refine Chain.cons (StepOK.kshr .none (.tmp rfl (fun _ => trivial)) .ki (fun _ => by decide)) rfl ?_
            refine Chain.cons (StepOK.toInt .none (by kernel_rfl) Try.underlying3 (.tmp rfl (fun _ => trivial))) rfl ?_
            obtain ⟨h2, hv28, h⟩ := bnd_some h
            refine Chain.cons (StepOK.re hv28 (StepOK.assign .none (.tmp rfl (fun _ => trivial)))) rfl ?_
            refine Chain.nil ?_
            refine Ends.then ?_
            refine Cod.seq ?_
            refine Cod.region [([], []), ([], []), ([], []), ([220], []), ([220], []), ([], []), ([], []), ([220], []), ([220], []), ([], []), ([], []), ([], [])] mixed (by kernel_rfl) ?_
            refine Chain.consA (StepOK.move .none (.tmp rfl (fun _ => trivial))) rfl ?_
            refine Chain.consA (StepOK.move .none (.tmp rfl (fun _ => trivial))) rfl ?_
            refine Chain.consA (StepOK.move .none (.tmp rfl (fun _ => trivial))) rfl ?_
            obtain ⟨hn29, h⟩ := need_some h
            refine Chain.consA (StepOK.indexAddrO (k := 220) .none sl42 ty3 (.tmp rfl (fun _ => trivial)) rfl (.tmp rfl (fun _ => trivial)) (fun _ => hn29)) rfl ?_
            refine Chain.consA (StepOK.loadElem0 (k := 220) .none ty3 (.tmp rfl (fun _ => trivial)) rfl (fun _ => hn29)) rfl ?_
            refine Chain.consA (StepOK.move .none (.tmp rfl (fun _ => trivial))) rfl ?_
            refine Chain.consA (StepOK.move .none (.tmp rfl (fun _ => trivial))) rfl ?_
            obtain ⟨hn30, h⟩ := need_some h
            refine Chain.consA (StepOK.indexAddrO (k := 220) .none sl42 ty3 (.tmp rfl (fun _ => trivial)) rfl (.tmp rfl (fun _ => trivial)) (fun _ => hn30)) rfl ?_
            refine Chain.consA (StepOK.loadElem0 (k := 220) .none ty3 (.tmp rfl (fun _ => trivial)) rfl (fun _ => hn30)) rfl ?_
            obtain ⟨r2, hv31, h⟩ := bind_some h
            refine Chain.consA (StepOK.callV (_, _, _) .none (.tmp rfl (fun _ => trivial)) (fun _ => hv31) (.cons (.tmp rfl (fun _ => trivial)) (.cons (.tmp rfl (fun _ => trivial)) .nil))) rfl ?_
            refine Chain.consA (StepOK.lt .none (.tmp rfl (fun _ => trivial)) (.int (by decide))) rfl ?_
            refine Chain.consA (StepOK.not .none (.tmp rfl (fun _ => trivial))) rfl ?_
            refine Chain.nil ?_
            refine Ends.then ?_
            refine Cod.cond (t := 103) rfl trivial (fun hb32 => ?_) (fun hb32 => ?_)
            · replace h := bif_t h hb32
              refine Cod.region [] mixed (by kernel_rfl) ?_
              refine Chain.cons (StepOK.move .none (.tmp rfl (fun _ => trivial))) rfl ?_
              refine Chain.cons (StepOK.addW .none (.tmp rfl (fun _ => trivial)) (.int (by decide))) rfl ?_
              obtain ⟨i2, hv33, h⟩ := bnd_some h
              refine Chain.cons (StepOK.re hv33 (StepOK.assign .none (.tmp rfl (fun _ => trivial)))) rfl ?_
              refine Chain.nil ?_
              refine Ends.blkNormal ?_
              exact Ends.againL (some_eq h) (.cons (t := 14) rfl (.cons (t := 15) rfl (.cons (t := 0) rfl (.cons (t := 2) rfl (.cons (t := 4) rfl Sub.nil))))) (.cons (t := 220) rfl SubB.nil)
            · replace h := bif_f h hb32
              refine Cod.region [] mixed (by kernel_rfl) ?_
              refine Chain.cons (StepOK.move .none (.tmp rfl (fun _ => trivial))) rfl ?_
              refine Chain.cons (StepOK.assign .none (.tmp rfl (fun _ => trivial))) rfl ?_
              refine Chain.nil ?_
              refine Ends.blkNormal ?_
              exact Ends.againL (some_eq h) (.cons (t := 14) rfl (.cons (t := 15) rfl (.cons (t := 0) rfl (.cons (t := 2) rfl (.cons (t := 4) rfl Sub.nil))))) (.cons (t := 220) rfl SubB.nil)
          · replace h := bif_f h hb27
            refine Cod.exit ?_
            refine Ends.thenExit ?_
            refine Ends.thenExit ?_
            refine Ends.blkExit ?_
            replace h := hD26 _ (some_eq h)
            exact Ends.join _ (some_eq h) (.cons (t := 14) rfl (.cons (t := 0) rfl (.cons (t := 2) rfl Sub.nil))) (.cons (t := 220) rfl SubB.nil)
        · subst hj25; have h := hK25; clear hK25
          refine Cod.seq ?_
          refine Cod.seq ?_
          refine Cod.region [] mixed (by kernel_rfl) ?_
          refine Chain.cons (StepOK.move .none (.tmp rfl (fun _ => trivial))) rfl ?_
          refine Chain.cons (StepOK.assign .none (.tmp rfl (fun _ => trivial))) rfl ?_
          refine Chain.nil ?_
          refine Ends.then ?_
          obtain ⟨j_34, h, hK34⟩ := bind_some h
          refine Cod.thenJ (ι := (List Int)) (fun j_34 => []) (fun j_34 => [(220, some (CPred.at s220 (rowV 3 j_34)))]) (fun s => j_34 = s) Sub.nil SubB.nil ?_ (fun j_34' hj34 => ?_)
          · skip
            refine Cod.block ?_
            refine Cod.loopL h (fun s35_ => [(17, ⟨True, rep s35_.1⟩)]) (fun s35_ => [(220, some (CPred.at s220 (rowV 3 s35_.2)))]) (.cons (t := 17) rfl Sub.nil) (.cons (t := 220) rfl SubB.nil) (.cons (t := 0) rfl (.cons (t := 14) rfl Sub.nil)) SubB.nil (fun s35_ o_35 h hD35 => ?_)
            unfold slices_symMergeCmpFunc_int_L4 at h
            refine Cod.seq ?_
            refine Cod.seq ?_
            refine Cod.region [] mixed (by kernel_rfl) ?_
            refine Chain.cons (StepOK.move .none (.tmp rfl (fun _ => trivial))) rfl ?_
            refine Chain.cons (StepOK.move .none (.tmp rfl (fun _ => trivial))) rfl ?_
            refine Chain.cons (StepOK.gt .none (.tmp rfl (fun _ => trivial)) (.tmp rfl (fun _ => trivial))) rfl ?_
            refine Chain.nil ?_
            refine Ends.then ?_
            refine Cod.cond (t := 110) rfl trivial (fun hb36 => ?_) (fun hb36 => ?_)
            · replace h := bif_t h hb36
              refine Cod.skip ?_
              refine Ends.then ?_
              refine Cod.seq ?_
              refine Cod.block ?_
              refine Cod.region [([], []), ([], []), ([], []), ([], []), ([], []), ([], []), ([], []), ([], []), ([220], []), ([220], []), ([], []), ([], []), ([220], []), ([220], []), ([220], []), ([220], [220]), ([220], []), ([220], [220])] mixed (by kernel_rfl) ?_
              refine Chain.consA (StepOK.move .none (.tmp rfl (fun _ => trivial))) rfl ?_
              refine Chain.consA (StepOK.move .none (.tmp rfl (fun _ => trivial))) rfl ?_
              refine Chain.consA (StepOK.move .none (.tmp rfl (fun _ => trivial))) rfl ?_
              refine Chain.consA (StepOK.move .none (.tmp rfl (fun _ => trivial))) rfl ?_
              refine Chain.consA (StepOK.subW .none (.tmp rfl (fun _ => trivial)) (.int (by decide))) rfl ?_
              refine Chain.consA (StepOK.move .none (.tmp rfl (fun _ => trivial))) rfl ?_
              refine Chain.consA (StepOK.move .none (.tmp rfl (fun _ => trivial))) rfl ?_
              refine Chain.consA (StepOK.subW .none (.tmp rfl (fun _ => trivial)) (.int (by decide))) rfl ?_
              obtain ⟨hn37, h⟩ := need_some h
              refine Chain.consA (StepOK.indexAddrO (k := 220) .none sl42 ty3 (.tmp rfl (fun _ => trivial)) rfl (.tmp rfl (fun _ => trivial)) (fun _ => hn37)) rfl ?_
              obtain ⟨v3, hv38, h⟩ := bnd_some h
              refine Chain.consA (StepOK.re hv38 (StepOK.loadElem0 (k := 220) .none ty3 (.tmp rfl (fun _ => trivial)) rfl (fun _ => hn37))) rfl ?_
              refine Chain.consA (StepOK.move .none (.tmp rfl (fun _ => trivial))) rfl ?_
              refine Chain.consA (StepOK.move .none (.tmp rfl (fun _ => trivial))) rfl ?_
              obtain ⟨hn39, h⟩ := need_some h
              refine Chain.consA (StepOK.indexAddrO (k := 220) .none sl42 ty3 (.tmp rfl (fun _ => trivial)) rfl (.tmp rfl (fun _ => trivial)) (fun _ => hn39)) rfl ?_
              obtain ⟨v4, hv40, h⟩ := bnd_some h
              refine Chain.consA (StepOK.re hv40 (StepOK.loadElem0 (k := 220) .none ty3 (.tmp rfl (fun _ => trivial)) rfl (fun _ => hn39))) rfl ?_
              obtain ⟨hn41, h⟩ := need_some h
              refine Chain.consA (StepOK.indexAddrO (k := 220) .none sl42 ty3 (.tmp rfl (fun _ => trivial)) rfl (.tmp rfl (fun _ => trivial)) (fun _ => hn41)) rfl ?_
              refine Chain.consN (StepOK.storeElem0 (k := 220) ty3 (.tmp rfl (fun _ => trivial)) rfl (.tmp rfl (fun _ => trivial)) hn41) rfl ?_
              obtain ⟨hn42, h⟩ := need_some h
              refine Chain.consA (StepOK.indexAddrO (k := 220) .none sl42 ty3 (.tmp rfl (fun _ => trivial)) rfl (.tmp rfl (fun _ => trivial)) (fun _ => hn42)) rfl ?_
              refine Chain.consN (StepOK.storeElem0 (k := 220) ty3 (.tmp rfl (fun _ => trivial)) rfl (.tmp rfl (fun _ => trivial)) hn42) rfl ?_
              refine Chain.nil ?_
              refine Ends.blkNormal ?_
              refine Ends.then ?_
              obtain ⟨data3, hv43, h⟩ := bnd_some h
              refine Cod.reB (t := 220) rfl (congrArg (fun y => CPred.at s220 (rowV 3 y)) hv43) ?_
              refine Cod.region [] mixed (by kernel_rfl) ?_
              refine Chain.cons (StepOK.move .none (.tmp rfl (fun _ => trivial))) rfl ?_
              refine Chain.cons (StepOK.subW .none (.tmp rfl (fun _ => trivial)) (.int (by decide))) rfl ?_
              obtain ⟨k2, hv44, h⟩ := bnd_some h
              refine Chain.cons (StepOK.re hv44 (StepOK.assign .none (.tmp rfl (fun _ => trivial)))) rfl ?_
              refine Chain.nil ?_
              exact Ends.againL (some_eq h) (.cons (t := 17) rfl (.cons (t := 0) rfl (.cons (t := 14) rfl Sub.nil))) (.cons (t := 220) rfl SubB.nil)
            · replace h := bif_f h hb36
              refine Cod.exit ?_
              refine Ends.thenExit ?_
              refine Ends.thenExit ?_
              refine Ends.blkExit ?_
              replace h := hD35 _ (some_eq h)
              exact Ends.join _ (some_eq h) Sub.nil (.cons (t := 220) rfl SubB.nil)
          · subst hj34; have h := hK34; clear hK34
            refine Cod.ret ?_
            refine Ends.thenRet ?_
            replace h := resb_ab hK23 (some_eq h)
            obtain rfl := some_eq h
            exact Ends.ret0O (.inl rfl) [220] Try.results122 (by decide) (.held rfl .nil) 
      · replace h := bif_f h hb24
        refine Cod.skip ?_
        exact Ends.join _ (some_eq h) (.cons (t := 0) rfl (.cons (t := 1) rfl (.cons (t := 2) rfl (.cons (t := 3) rfl (.cons (t := 4) rfl Sub.nil))))) (.cons (t := 220) rfl SubB.nil)
    · have h := resb_nx hK23 hj23
      refine Cod.seq ?_
      refine Cod.region [] mixed (by kernel_rfl) ?_
      refine Chain.cons (StepOK.move .none (.tmp rfl (fun _ => trivial))) rfl ?_
      refine Chain.cons (StepOK.move .none (.tmp rfl (fun _ => trivial))) rfl ?_
      refine Chain.cons (StepOK.addW .none (.tmp rfl (fun _ => trivial)) (.tmp rfl (fun _ => trivial))) rfl ?_
      refine Chain.cons (StepOK.toK .none (by kernel_rfl) Try.underlying132 (.tmp rfl (fun _ => trivial))) rfl ?_
      refine Chain.cons (StepOK.kshr .none (.tmp rfl (fun _ => trivial)) .ki (fun _ => by decide)) rfl ?_
      refine Chain.cons (StepOK.toInt .none (by kernel_rfl) Try.underlying3 (.tmp rfl (fun _ => trivial))) rfl ?_
      obtain ⟨mid1, hv45, h⟩ := bnd_some h
      refine Chain.cons (StepOK.re hv45 (StepOK.assign .none (.tmp rfl (fun _ => trivial)))) rfl ?_
      refine Chain.nil ?_
      refine Ends.then ?_
      refine Cod.seq ?_
      refine Cod.region [] mixed (by kernel_rfl) ?_
      refine Chain.cons (StepOK.move .none (.tmp rfl (fun _ => trivial))) rfl ?_
      refine Chain.cons (StepOK.move .none (.tmp rfl (fun _ => trivial))) rfl ?_
      refine Chain.cons (StepOK.addW .none (.tmp rfl (fun _ => trivial)) (.tmp rfl (fun _ => trivial))) rfl ?_
      obtain ⟨n1, hv46, h⟩ := bnd_some h
      refine Chain.cons (StepOK.re hv46 (StepOK.assign .none (.tmp rfl (fun _ => trivial)))) rfl ?_
      refine Chain.nil ?_
      refine Ends.then ?_
      refine Cod.seq ?_
      refine Cod.region [] mixed (by kernel_rfl) ?_
      refine Chain.cons (StepOK.assign .none (.int (by decide))) rfl ?_
      refine Chain.cons (StepOK.assign .none (.int (by decide))) rfl ?_
      refine Chain.nil ?_
      refine Ends.then ?_
      refine Cod.seq ?_
      refine Cod.seq ?_
      refine Cod.region [] mixed (by kernel_rfl) ?_
      refine Chain.cons (StepOK.move .none (.tmp rfl (fun _ => trivial))) rfl ?_
      refine Chain.cons (StepOK.move .none (.tmp rfl (fun _ => trivial))) rfl ?_
      refine Chain.cons (StepOK.gt .none (.tmp rfl (fun _ => trivial)) (.tmp rfl (fun _ => trivial))) rfl ?_
      refine Chain.nil ?_
      refine Ends.then ?_
      obtain ⟨j_47, h, hK47⟩ := bind_some h
      refine Cod.thenJ (ι := (Int × Int)) (fun j_47 => [(20, ⟨True, rep j_47.1⟩), (21, ⟨True, rep j_47.2⟩)]) (fun j_47 => []) (fun s => j_47 = s) (.cons (t := 0) rfl (.cons (t := 1) rfl (.cons (t := 2) rfl (.cons (t := 3) rfl (.cons (t := 4) rfl (.cons (t := 18) rfl (.cons (t := 19) rfl Sub.nil))))))) (.cons (t := 220) rfl SubB.nil) ?_ (fun j_47' hj47 => ?_)
      · skip
        refine Cod.cond (t := 140) rfl trivial (fun hb48 => ?_) (fun hb48 => ?_)
        · replace h := bif_t h hb48
          refine Cod.seq ?_
          refine Cod.region [] mixed (by kernel_rfl) ?_
          refine Chain.cons (StepOK.move .none (.tmp rfl (fun _ => trivial))) rfl ?_
          refine Chain.cons (StepOK.move .none (.tmp rfl (fun _ => trivial))) rfl ?_
          refine Chain.cons (StepOK.subW .none (.tmp rfl (fun _ => trivial)) (.tmp rfl (fun _ => trivial))) rfl ?_
          obtain ⟨start1, hv49, h⟩ := bnd_some h
          refine Chain.cons (StepOK.re hv49 (StepOK.assign .none (.tmp rfl (fun _ => trivial)))) rfl ?_
          refine Chain.nil ?_
          refine Ends.then ?_
          refine Cod.region [] mixed (by kernel_rfl) ?_
          refine Chain.cons (StepOK.move .none (.tmp rfl (fun _ => trivial))) rfl ?_
          refine Chain.cons (StepOK.assign .none (.tmp rfl (fun _ => trivial))) rfl ?_
          refine Chain.nil ?_
          exact Ends.join _ (some_eq h) (.cons (t := 20) rfl (.cons (t := 21) rfl (.cons (t := 0) rfl (.cons (t := 1) rfl (.cons (t := 2) rfl (.cons (t := 3) rfl (.cons (t := 4) rfl (.cons (t := 18) rfl (.cons (t := 19) rfl Sub.nil))))))))) (.cons (t := 220) rfl SubB.nil)
        · replace h := bif_f h hb48
          refine Cod.seq ?_
          refine Cod.region [] mixed (by kernel_rfl) ?_
          refine Chain.cons (StepOK.move .none (.tmp rfl (fun _ => trivial))) rfl ?_
          refine Chain.cons (StepOK.assign .none (.tmp rfl (fun _ => trivial))) rfl ?_
          refine Chain.nil ?_
          refine Ends.then ?_
          refine Cod.region [] mixed (by kernel_rfl) ?_
          refine Chain.cons (StepOK.move .none (.tmp rfl (fun _ => trivial))) rfl ?_
          refine Chain.cons (StepOK.assign .none (.tmp rfl (fun _ => trivial))) rfl ?_
          refine Chain.nil ?_
          exact Ends.join _ (some_eq h) (.cons (t := 20) rfl (.cons (t := 21) rfl (.cons (t := 0) rfl (.cons (t := 1) rfl (.cons (t := 2) rfl (.cons (t := 3) rfl (.cons (t := 4) rfl (.cons (t := 18) rfl (.cons (t := 19) rfl Sub.nil))))))))) (.cons (t := 220) rfl SubB.nil)
      · subst hj47; have h := hK47; clear hK47
        refine Cod.seq ?_
        refine Cod.region [] mixed (by kernel_rfl) ?_
        refine Chain.cons (StepOK.move .none (.tmp rfl (fun _ => trivial))) rfl ?_
        refine Chain.cons (StepOK.subW .none (.tmp rfl (fun _ => trivial)) (.int (by decide))) rfl ?_
        refine Chain.cons (StepOK.assign .none (.tmp rfl (fun _ => trivial))) rfl ?_
        refine Chain.nil ?_
        refine Ends.then ?_
        refine Cod.seq ?_
        obtain ⟨j_50, h, hK50⟩ := bind_some h
        refine Cod.thenJ (ι := Int) (fun j_50 => [(20, ⟨True, rep j_50⟩)]) (fun j_50 => []) (fun s => j_50 = s) (.cons (t := 0) rfl (.cons (t := 1) rfl (.cons (t := 2) rfl (.cons (t := 3) rfl (.cons (t := 4) rfl (.cons (t := 18) rfl (.cons (t := 19) rfl Sub.nil))))))) (.cons (t := 220) rfl SubB.nil) ?_ (fun j_50' hj50 => ?_)
        · skip
          refine Cod.block ?_
          refine Cod.loopL h (fun s51_ => [(20, ⟨True, rep s51_.1⟩), (21, ⟨True, rep s51_.2⟩)]) (fun s51_ => []) (.cons (t := 20) rfl (.cons (t := 21) rfl Sub.nil)) SubB.nil (.cons (t := 0) rfl (.cons (t := 1) rfl (.cons (t := 2) rfl (.cons (t := 3) rfl (.cons (t := 4) rfl (.cons (t := 18) rfl (.cons (t := 19) rfl (.cons (t := 22) rfl Sub.nil)))))))) (.cons (t := 220) rfl SubB.nil) (fun s51_ o_51 h hD51 => ?_)
          unfold slices_symMergeCmpFunc_int_L5 at h
          refine Cod.seq ?_
          refine Cod.seq ?_
          refine Cod.region [] mixed (by kernel_rfl) ?_
          refine Chain.cons (StepOK.move .none (.tmp rfl (fun _ => trivial))) rfl ?_
          refine Chain.cons (StepOK.move .none (.tmp rfl (fun _ => trivial))) rfl ?_
          refine Chain.cons (StepOK.lt .none (.tmp rfl (fun _ => trivial)) (.tmp rfl (fun _ => trivial))) rfl ?_
          refine Chain.nil ?_
          refine Ends.then ?_
          refine Cod.cond (t := 151) rfl trivial (fun hb52 => ?_) (fun hb52 => ?_)
          · replace h := bif_t h hb52
            refine Cod.skip ?_
            refine Ends.then ?_
            refine Cod.block ?_
            refine Cod.seq ?_
            refine Cod.region [] mixed (by kernel_rfl) ?_
            refine Chain.cons (StepOK.move .none (.tmp rfl (fun _ => trivial))) rfl ?_
            refine Chain.cons (StepOK.move .none (.tmp rfl (fun _ => trivial))) rfl ?_
            refine Chain.cons (StepOK.addW .none (.tmp rfl (fun _ => trivial)) (.tmp rfl (fun _ => trivial))) rfl ?_
            refine Chain.cons (StepOK.toK .none (by kernel_rfl) Try.underlying132 (.tmp rfl (fun _ => trivial))) rfl ?_
            refine Chain.cons (StepOK.kshr .none (.tmp rfl (fun _ => trivial)) .ki (fun _ => by decide)) rfl ?_
            refine Chain.cons (StepOK.toInt .none (by kernel_rfl) Try.underlying3 (.tmp rfl (fun _ => trivial))) rfl ?_
            obtain ⟨c1, hv53, h⟩ := bnd_some h
            refine Chain.cons (StepOK.re hv53 (StepOK.assign .none (.tmp rfl (fun _ => trivial)))) rfl ?_
            refine Chain.nil ?_
            refine Ends.then ?_
            refine Cod.seq ?_
            refine Cod.region [([], []), ([], []), ([], []), ([], []), ([], []), ([220], []), ([220], []), ([], []), ([], []), ([220], []), ([220], []), ([], []), ([], []), ([], [])] mixed (by kernel_rfl) ?_
            refine Chain.consA (StepOK.move .none (.tmp rfl (fun _ => trivial))) rfl ?_
            refine Chain.consA (StepOK.move .none (.tmp rfl (fun _ => trivial))) rfl ?_
            refine Chain.consA (StepOK.move .none (.tmp rfl (fun _ => trivial))) rfl ?_
            refine Chain.consA (StepOK.move .none (.tmp rfl (fun _ => trivial))) rfl ?_
            refine Chain.consA (StepOK.subW .none (.tmp rfl (fun _ => trivial)) (.tmp rfl (fun _ => trivial))) rfl ?_
            obtain ⟨hn54, h⟩ := need_some h
            refine Chain.consA (StepOK.indexAddrO (k := 220) .none sl42 ty3 (.tmp rfl (fun _ => trivial)) rfl (.tmp rfl (fun _ => trivial)) (fun _ => hn54)) rfl ?_
            refine Chain.consA (StepOK.loadElem0 (k := 220) .none ty3 (.tmp rfl (fun _ => trivial)) rfl (fun _ => hn54)) rfl ?_
            refine Chain.consA (StepOK.move .none (.tmp rfl (fun _ => trivial))) rfl ?_
            refine Chain.consA (StepOK.move .none (.tmp rfl (fun _ => trivial))) rfl ?_
            obtain ⟨hn55, h⟩ := need_some h
            refine Chain.consA (StepOK.indexAddrO (k := 220) .none sl42 ty3 (.tmp rfl (fun _ => trivial)) rfl (.tmp rfl (fun _ => trivial)) (fun _ => hn55)) rfl ?_
            refine Chain.consA (StepOK.loadElem0 (k := 220) .none ty3 (.tmp rfl (fun _ => trivial)) rfl (fun _ => hn55)) rfl ?_
            obtain ⟨r3, hv56, h⟩ := bind_some h
            refine Chain.consA (StepOK.callV (_, _, _) .none (.tmp rfl (fun _ => trivial)) (fun _ => hv56) (.cons (.tmp rfl (fun _ => trivial)) (.cons (.tmp rfl (fun _ => trivial)) .nil))) rfl ?_
            refine Chain.consA (StepOK.lt .none (.tmp rfl (fun _ => trivial)) (.int (by decide))) rfl ?_
            refine Chain.consA (StepOK.not .none (.tmp rfl (fun _ => trivial))) rfl ?_
            refine Chain.nil ?_
            refine Ends.then ?_
            refine Cod.cond (t := 171) rfl trivial (fun hb57 => ?_) (fun hb57 => ?_)
            · replace h := bif_t h hb57
              refine Cod.region [] mixed (by kernel_rfl) ?_
              refine Chain.cons (StepOK.move .none (.tmp rfl (fun _ => trivial))) rfl ?_
              refine Chain.cons (StepOK.addW .none (.tmp rfl (fun _ => trivial)) (.int (by decide))) rfl ?_
              obtain ⟨start2, hv58, h⟩ := bnd_some h
              refine Chain.cons (StepOK.re hv58 (StepOK.assign .none (.tmp rfl (fun _ => trivial)))) rfl ?_
              refine Chain.nil ?_
              refine Ends.blkNormal ?_
              exact Ends.againL (some_eq h) (.cons (t := 20) rfl (.cons (t := 21) rfl (.cons (t := 0) rfl (.cons (t := 1) rfl (.cons (t := 2) rfl (.cons (t := 3) rfl (.cons (t := 4) rfl (.cons (t := 18) rfl (.cons (t := 19) rfl (.cons (t := 22) rfl Sub.nil)))))))))) (.cons (t := 220) rfl SubB.nil)
            · replace h := bif_f h hb57
              refine Cod.region [] mixed (by kernel_rfl) ?_
              refine Chain.cons (StepOK.move .none (.tmp rfl (fun _ => trivial))) rfl ?_
              refine Chain.cons (StepOK.assign .none (.tmp rfl (fun _ => trivial))) rfl ?_
              refine Chain.nil ?_
              refine Ends.blkNormal ?_
              exact Ends.againL (some_eq h) (.cons (t := 20) rfl (.cons (t := 21) rfl (.cons (t := 0) rfl (.cons (t := 1) rfl (.cons (t := 2) rfl (.cons (t := 3) rfl (.cons (t := 4) rfl (.cons (t := 18) rfl (.cons (t := 19) rfl (.cons (t := 22) rfl Sub.nil)))))))))) (.cons (t := 220) rfl SubB.nil)
          · replace h := bif_f h hb52
            refine Cod.exit ?_
            refine Ends.thenExit ?_
            refine Ends.thenExit ?_
            refine Ends.blkExit ?_
            replace h := hD51 _ (some_eq h)
            exact Ends.join _ (some_eq h) (.cons (t := 20) rfl (.cons (t := 0) rfl (.cons (t := 1) rfl (.cons (t := 2) rfl (.cons (t := 3) rfl (.cons (t := 4) rfl (.cons (t := 18) rfl (.cons (t := 19) rfl Sub.nil)))))))) (.cons (t := 220) rfl SubB.nil)
        · subst hj50; have h := hK50; clear hK50
          refine Cod.seq ?_
          refine Cod.region [] mixed (by kernel_rfl) ?_
          refine Chain.cons (StepOK.move .none (.tmp rfl (fun _ => trivial))) rfl ?_
          refine Chain.cons (StepOK.move .none (.tmp rfl (fun _ => trivial))) rfl ?_
          refine Chain.cons (StepOK.subW .none (.tmp rfl (fun _ => trivial)) (.tmp rfl (fun _ => trivial))) rfl ?_
          obtain ⟨end1, hv59, h⟩ := bnd_some h
          refine Chain.cons (StepOK.re hv59 (StepOK.assign .none (.tmp rfl (fun _ => trivial)))) rfl ?_
          refine Chain.nil ?_
          refine Ends.then ?_
          refine Cod.seq ?_
          refine Cod.seq ?_
          refine Cod.region [] mixed (by kernel_rfl) ?_
          refine Chain.cons (StepOK.move .none (.tmp rfl (fun _ => trivial))) rfl ?_
          refine Chain.cons (StepOK.move .none (.tmp rfl (fun _ => trivial))) rfl ?_
          refine Chain.cons (StepOK.lt .none (.tmp rfl (fun _ => trivial)) (.tmp rfl (fun _ => trivial))) rfl ?_
          refine Chain.cons (StepOK.move .none (.tmp rfl (fun _ => trivial))) rfl ?_
          refine Chain.cons (StepOK.move (.at rfl rfl) (.tmp rfl (fun _ => trivial))) rfl ?_
          refine Chain.cons (StepOK.move (.at rfl rfl) (.tmp rfl (fun _ => trivial))) rfl ?_
          refine Chain.cons (StepOK.lt (.at rfl rfl) (.tmp rfl id) (.tmp rfl id)) rfl ?_
          refine Chain.cons (StepOK.pickAnd .none (.tmp rfl (fun _ => trivial)) (.tmp rfl id)) rfl ?_
          refine Chain.nil ?_
          refine Ends.then ?_
          obtain ⟨j_60, h, hK60⟩ := bind_some h
          refine Cod.thenJ (ι := (List Int)) (fun j_60 => []) (fun j_60 => [(220, some (CPred.at s220 (rowV 3 j_60)))]) (fun s => j_60 = s) (.cons (t := 0) rfl (.cons (t := 1) rfl (.cons (t := 3) rfl (.cons (t := 4) rfl (.cons (t := 18) rfl (.cons (t := 20) rfl (.cons (t := 24) rfl Sub.nil))))))) SubB.nil ?_ (fun j_60' hj60 => ?_)
          · skip
            refine Cod.cond (t := 185) rfl trivial (fun hb61 => ?_) (fun hb61 => ?_)
            · replace h := bif_t h hb61
              refine Cod.region [([], []), ([], []), ([], []), ([], []), ([], []), ([220], [220])] mixed (by kernel_rfl) ?_
              refine Chain.consA (StepOK.move .none (.tmp rfl (fun _ => trivial))) rfl ?_
              refine Chain.consA (StepOK.move .none (.tmp rfl (fun _ => trivial))) rfl ?_
              refine Chain.consA (StepOK.move .none (.tmp rfl (fun _ => trivial))) rfl ?_
              refine Chain.consA (StepOK.move .none (.tmp rfl (fun _ => trivial))) rfl ?_
              refine Chain.consA (StepOK.move .none (.tmp rfl (fun _ => trivial))) rfl ?_
              obtain ⟨r4, hv62, h⟩ := bind_some h
              refine Chain.consW (StepOK.callO [220] (slices_rotateCmpFunc_int_ok hv62) (.cons (.tmp rfl (fun _ => trivial)) (.cons (.tmp rfl (fun _ => trivial)) (.cons (.tmp rfl (fun _ => trivial)) (.cons (.tmp rfl (fun _ => trivial)) (.cons (.tmp rfl (fun _ => trivial)) .nil))))) (.cons (k := 220) rfl .nil) rfl (by decide) (by decide) (by intro d h; cases h; decide)) rfl rfl ?_
              refine Chain.nil ?_
              exact Ends.join _ (some_eq h) (.cons (t := 0) rfl (.cons (t := 1) rfl (.cons (t := 3) rfl (.cons (t := 4) rfl (.cons (t := 18) rfl (.cons (t := 20) rfl (.cons (t := 24) rfl Sub.nil))))))) (.cons (t := 220) rfl SubB.nil)
            · replace h := bif_f h hb61
              refine Cod.skip ?_
              exact Ends.join _ (some_eq h) (.cons (t := 0) rfl (.cons (t := 1) rfl (.cons (t := 3) rfl (.cons (t := 4) rfl (.cons (t := 18) rfl (.cons (t := 20) rfl (.cons (t := 24) rfl Sub.nil))))))) (.cons (t := 220) rfl SubB.nil)
          · subst hj60; have h := hK60; clear hK60
            refine Cod.seq ?_
            refine Cod.seq ?_
            refine Cod.region [] mixed (by kernel_rfl) ?_
            refine Chain.cons (StepOK.move .none (.tmp rfl (fun _ => trivial))) rfl ?_
            refine Chain.cons (StepOK.move .none (.tmp rfl (fun _ => trivial))) rfl ?_
            refine Chain.cons (StepOK.lt .none (.tmp rfl (fun _ => trivial)) (.tmp rfl (fun _ => trivial))) rfl ?_
            refine Chain.cons (StepOK.move .none (.tmp rfl (fun _ => trivial))) rfl ?_
            refine Chain.cons (StepOK.move (.at rfl rfl) (.tmp rfl (fun _ => trivial))) rfl ?_
            refine Chain.cons (StepOK.move (.at rfl rfl) (.tmp rfl (fun _ => trivial))) rfl ?_
            refine Chain.cons (StepOK.lt (.at rfl rfl) (.tmp rfl id) (.tmp rfl id)) rfl ?_
            refine Chain.cons (StepOK.pickAnd .none (.tmp rfl (fun _ => trivial)) (.tmp rfl id)) rfl ?_
            refine Chain.nil ?_
            refine Ends.then ?_
            obtain ⟨j_63, h, hK63⟩ := bind_some h
            refine Cod.thenJ (ι := (List Int)) (fun j_63 => []) (fun j_63 => [(220, some (CPred.at s220 (rowV 3 j_63)))]) (fun s => j_63 = s) (.cons (t := 0) rfl (.cons (t := 3) rfl (.cons (t := 4) rfl (.cons (t := 18) rfl (.cons (t := 24) rfl Sub.nil))))) SubB.nil ?_ (fun j_63' hj63 => ?_)
            · skip
              refine Cod.cond (t := 199) rfl trivial (fun hb64 => ?_) (fun hb64 => ?_)
              · replace h := bif_t h hb64
                refine Cod.region [([], []), ([], []), ([], []), ([], []), ([], []), ([220], [220])] mixed (by kernel_rfl) ?_
                refine Chain.consA (StepOK.move .none (.tmp rfl (fun _ => trivial))) rfl ?_
                refine Chain.consA (StepOK.move .none (.tmp rfl (fun _ => trivial))) rfl ?_
                refine Chain.consA (StepOK.move .none (.tmp rfl (fun _ => trivial))) rfl ?_
                refine Chain.consA (StepOK.move .none (.tmp rfl (fun _ => trivial))) rfl ?_
                refine Chain.consA (StepOK.move .none (.tmp rfl (fun _ => trivial))) rfl ?_
                obtain ⟨r5, hv65, h⟩ := bind_some h
                refine Chain.consW (StepOK.callO [220] (hself _ _ hv65) (.cons (.tmp rfl (fun _ => trivial)) (.cons (.tmp rfl (fun _ => trivial)) (.cons (.tmp rfl (fun _ => trivial)) (.cons (.tmp rfl (fun _ => trivial)) (.cons (.tmp rfl (fun _ => trivial)) .nil))))) (.cons (k := 220) rfl .nil) rfl (by decide) (by decide) (by intro d h; cases h; decide)) rfl rfl ?_
                refine Chain.nil ?_
                exact Ends.join _ (some_eq h) (.cons (t := 0) rfl (.cons (t := 3) rfl (.cons (t := 4) rfl (.cons (t := 18) rfl (.cons (t := 24) rfl Sub.nil))))) (.cons (t := 220) rfl SubB.nil)
              · replace h := bif_f h hb64
                refine Cod.skip ?_
                exact Ends.join _ (some_eq h) (.cons (t := 0) rfl (.cons (t := 3) rfl (.cons (t := 4) rfl (.cons (t := 18) rfl (.cons (t := 24) rfl Sub.nil))))) (.cons (t := 220) rfl SubB.nil)
            · subst hj63; have h := hK63; clear hK63
              refine Cod.seq ?_
              refine Cod.region [] mixed (by kernel_rfl) ?_
              refine Chain.cons (StepOK.move .none (.tmp rfl (fun _ => trivial))) rfl ?_
              refine Chain.cons (StepOK.move .none (.tmp rfl (fun _ => trivial))) rfl ?_
              refine Chain.cons (StepOK.lt .none (.tmp rfl (fun _ => trivial)) (.tmp rfl (fun _ => trivial))) rfl ?_
              refine Chain.cons (StepOK.move .none (.tmp rfl (fun _ => trivial))) rfl ?_
              refine Chain.cons (StepOK.move (.at rfl rfl) (.tmp rfl (fun _ => trivial))) rfl ?_
              refine Chain.cons (StepOK.move (.at rfl rfl) (.tmp rfl (fun _ => trivial))) rfl ?_
              refine Chain.cons (StepOK.lt (.at rfl rfl) (.tmp rfl id) (.tmp rfl id)) rfl ?_
              refine Chain.cons (StepOK.pickAnd .none (.tmp rfl (fun _ => trivial)) (.tmp rfl id)) rfl ?_
              refine Chain.nil ?_
              refine Ends.then ?_
              refine Cod.cond (t := 213) rfl trivial (fun hb66 => ?_) (fun hb66 => ?_)
              · replace h := bif_t h hb66
                refine Cod.region [([], []), ([], []), ([], []), ([], []), ([], []), ([220], [220])] mixed (by kernel_rfl) ?_
                refine Chain.consA (StepOK.move .none (.tmp rfl (fun _ => trivial))) rfl ?_
                refine Chain.consA (StepOK.move .none (.tmp rfl (fun _ => trivial))) rfl ?_
                refine Chain.consA (StepOK.move .none (.tmp rfl (fun _ => trivial))) rfl ?_
                refine Chain.consA (StepOK.move .none (.tmp rfl (fun _ => trivial))) rfl ?_
                refine Chain.consA (StepOK.move .none (.tmp rfl (fun _ => trivial))) rfl ?_
                obtain ⟨r6, hv67, h⟩ := bind_some h
                refine Chain.consW (StepOK.callO [220] (hself _ _ hv67) (.cons (.tmp rfl (fun _ => trivial)) (.cons (.tmp rfl (fun _ => trivial)) (.cons (.tmp rfl (fun _ => trivial)) (.cons (.tmp rfl (fun _ => trivial)) (.cons (.tmp rfl (fun _ => trivial)) .nil))))) (.cons (k := 220) rfl .nil) rfl (by decide) (by decide) (by intro d h; cases h; decide)) rfl rfl ?_
                refine Chain.nil ?_
                obtain rfl := some_eq h
                exact Ends.ret0O (.inr rfl) [220] Try.results122 (by decide) (.held rfl .nil) 
              · replace h := bif_f h hb66
                refine Cod.skip ?_
                obtain rfl := some_eq h
                exact Ends.ret0O (.inr rfl) [220] Try.results122 (by decide) (.held rfl .nil) 
theorem slices_symMergeCmpFunc_int_okN : ∀ (k : Nat) {s220 : Value} (x : ((List Int) × Int × Int × Int × (Int → Int → Option Int))) (r : (List Int)) (h : fixN slices_symMergeCmpFunc_int_body k x = some r), FSpecO Try.prog 122 [isV s220, rep x.2.1, rep x.2.2.1, rep x.2.2.2.1, fn2 Try.prog (rep (α := Int)) x.2.2.2.2] [(s220, rowV 3 x.1)] (anyV) [some (rowV 3 r)]
  | 0, _, x, r, h => by simp [fixN] at h
  | k + 1, _, x, r, h => slices_symMergeCmpFunc_int_okS (slices_symMergeCmpFunc_int_okN k) h
theorem slices_symMergeCmpFunc_int_ok {data1 : (List Int)} {a1 : Int} {m1 : Int} {b1 : Int} {cmp1 : (Int → Int → Option Int)} {r : (List Int)} {s220 : Value} (h : slices_symMergeCmpFunc_int data1 a1 m1 b1 cmp1 = some r) : FSpecO Try.prog 122 [isV s220, rep a1, rep m1, rep b1, fn2 Try.prog (rep (α := Int)) cmp1] [(s220, rowV 3 data1)] (anyV) [some (rowV 3 r)] :=
  let ⟨k, hk⟩ := fixp_some h
  slices_symMergeCmpFunc_int_okN k (data1, a1, m1, b1, cmp1) r hk

theorem slices_stableCmpFunc_int_ok {data1 : (List Int)} {n1 : Int} {cmp1 : (Int → Int → Option Int)} {r : (List Int)} {s63 : Value} (h : slices_stableCmpFunc_int data1 n1 cmp1 = some r) : FSpecO Try.prog 98 [isV s63, rep n1, fn2 Try.prog (rep (α := Int)) cmp1] [(s63, rowV 3 data1)] (anyV) [some (rowV 3 r)] := by
  unfold slices_stableCmpFunc_int at h
  refine FSpecO.intro (n := 63) fnok98 Try.func98 rfl Try.ntmps98 rfl (fun F => ?_)
  refine Cod.seq ?_
  refine Cod.region [] mixed (by kernel_rfl) ?_
  refine Chain.cons (StepOK.assign .none (.int (by decide))) rfl ?_
  refine Chain.nil ?_
  refine Ends.then ?_
  refine Cod.seq ?_
  refine Cod.region [] mixed (by kernel_rfl) ?_
  refine Chain.cons (StepOK.move .none (.tmp rfl (fun _ => trivial))) rfl ?_
  refine Chain.cons (StepOK.assign .none (.int (by decide))) rfl ?_
  refine Chain.cons (StepOK.assign .none (.tmp rfl (fun _ => trivial))) rfl ?_
  refine Chain.nil ?_
  refine Ends.then ?_
  refine Cod.seq ?_
  obtain ⟨j_1, h, hK1⟩ := bind_some h
  refine Cod.thenJ (ι := (Int × (List Int))) (fun j_1 => [(7, ⟨True, rep j_1.1⟩)]) (fun j_1 => [(63, some (CPred.at s63 (rowV 3 j_1.2)))]) (fun s => j_1 = s) (.cons (t := 0) rfl (.cons (t := 1) rfl (.cons (t := 2) rfl (.cons (t := 6) rfl Sub.nil)))) SubB.nil ?_ (fun j_1' hj1 => ?_)
  · skip
    refine Cod.block ?_
    refine Cod.loopL h (fun s2_ => [(7, ⟨True, rep s2_.1⟩), (8, ⟨True, rep s2_.2.1⟩)]) (fun s2_ => [(63, some (CPred.at s63 (rowV 3 s2_.2.2)))]) (.cons (t := 7) rfl (.cons (t := 8) rfl Sub.nil)) (.cons (t := 63) rfl SubB.nil) (.cons (t := 0) rfl (.cons (t := 1) rfl (.cons (t := 2) rfl (.cons (t := 6) rfl Sub.nil)))) SubB.nil (fun s2_ o_2 h hD2 => ?_)
    unfold slices_stableCmpFunc_int_L1 at h
    refine Cod.seq ?_
    refine Cod.seq ?_
    refine Cod.region [] mixed (by kernel_rfl) ?_
    refine Chain.cons (StepOK.move .none (.tmp rfl (fun _ => trivial))) rfl ?_
    refine Chain.cons (StepOK.move .none (.tmp rfl (fun _ => trivial))) rfl ?_
    refine Chain.cons (StepOK.le .none (.tmp rfl (fun _ => trivial)) (.tmp rfl (fun _ => trivial))) rfl ?_
    refine Chain.nil ?_
    refine Ends.then ?_
    refine Cod.cond (t := 13) rfl trivial (fun hb3 => ?_) (fun hb3 => ?_)
    · replace h := bif_t h hb3
      refine Cod.skip ?_
      refine Ends.then ?_
      refine Cod.block ?_
      refine Cod.seq ?_
      refine Cod.region [([], []), ([], []), ([], []), ([], []), ([63], [63])] mixed (by kernel_rfl) ?_
      refine Chain.consA (StepOK.move .none (.tmp rfl (fun _ => trivial))) rfl ?_
      refine Chain.consA (StepOK.move .none (.tmp rfl (fun _ => trivial))) rfl ?_
      refine Chain.consA (StepOK.move .none (.tmp rfl (fun _ => trivial))) rfl ?_
      refine Chain.consA (StepOK.move .none (.tmp rfl (fun _ => trivial))) rfl ?_
      obtain ⟨r1, hv4, h⟩ := bind_some h
      refine Chain.consW (StepOK.callO [63] (slices_insertionSortCmpFunc_int_ok hv4) (.cons (.tmp rfl (fun _ => trivial)) (.cons (.tmp rfl (fun _ => trivial)) (.cons (.tmp rfl (fun _ => trivial)) (.cons (.tmp rfl (fun _ => trivial)) .nil)))) (.cons (k := 63) rfl .nil) rfl (by decide) (by decide) (by intro d h; cases h; decide)) rfl rfl ?_
      refine Chain.nil ?_
      refine Ends.then ?_
      refine Cod.seq ?_
      refine Cod.region [] mixed (by kernel_rfl) ?_
      refine Chain.cons (StepOK.move .none (.tmp rfl (fun _ => trivial))) rfl ?_
      refine Chain.cons (StepOK.assign .none (.tmp rfl (fun _ => trivial))) rfl ?_
      refine Chain.nil ?_
      refine Ends.then ?_
      refine Cod.region [] mixed (by kernel_rfl) ?_
      refine Chain.cons (StepOK.move .none (.tmp rfl (fun _ => trivial))) rfl ?_
      refine Chain.cons (StepOK.move .none (.tmp rfl (fun _ => trivial))) rfl ?_
      refine Chain.cons (StepOK.addW .none (.tmp rfl (fun _ => trivial)) (.tmp rfl (fun _ => trivial))) rfl ?_
      obtain ⟨b1, hv5, h⟩ := bnd_some h
      refine Chain.cons (StepOK.re hv5 (StepOK.assign .none (.tmp rfl (fun _ => trivial)))) rfl ?_
      refine Chain.nil ?_
      refine Ends.blkNormal ?_
      exact Ends.againL (some_eq h) (.cons (t := 7) rfl (.cons (t := 8) rfl (.cons (t := 0) rfl (.cons (t := 1) rfl (.cons (t := 2) rfl (.cons (t := 6) rfl Sub.nil)))))) (.cons (t := 63) rfl SubB.nil)
    · replace h := bif_f h hb3
      refine Cod.exit ?_
      refine Ends.thenExit ?_
      refine Ends.thenExit ?_
      refine Ends.blkExit ?_
      replace h := hD2 _ (some_eq h)
      exact Ends.join _ (some_eq h) (.cons (t := 7) rfl (.cons (t := 0) rfl (.cons (t := 1) rfl (.cons (t := 2) rfl (.cons (t := 6) rfl Sub.nil))))) (.cons (t := 63) rfl SubB.nil)
  · subst hj1; have h := hK1; clear hK1
    refine Cod.seq ?_
    refine Cod.region [([], []), ([], []), ([], []), ([], []), ([63], [63])] mixed (by kernel_rfl) ?_
    refine Chain.consA (StepOK.move .none (.tmp rfl (fun _ => trivial))) rfl ?_
    refine Chain.consA (StepOK.move .none (.tmp rfl (fun _ => trivial))) rfl ?_
    refine Chain.consA (StepOK.move .none (.tmp rfl (fun _ => trivial))) rfl ?_
    refine Chain.consA (StepOK.move .none (.tmp rfl (fun _ => trivial))) rfl ?_
    obtain ⟨r2, hv6, h⟩ := bind_some h
    refine Chain.consW (StepOK.callO [63] (slices_insertionSortCmpFunc_int_ok hv6) (.cons (.tmp rfl (fun _ => trivial)) (.cons (.tmp rfl (fun _ => trivial)) (.cons (.tmp rfl (fun _ => trivial)) (.cons (.tmp rfl (fun _ => trivial)) .nil)))) (.cons (k := 63) rfl .nil) rfl (by decide) (by decide) (by intro d h; cases h; decide)) rfl rfl ?_
    refine Chain.nil ?_
    refine Ends.then ?_
    refine Cod.block ?_
    refine Cod.loopL h (fun s7_ => [(6, ⟨True, rep s7_.1⟩)]) (fun s7_ => [(63, some (CPred.at s63 (rowV 3 s7_.2)))]) (.cons (t := 6) rfl Sub.nil) (.cons (t := 63) rfl SubB.nil) (.cons (t := 0) rfl (.cons (t := 1) rfl (.cons (t := 2) rfl Sub.nil))) SubB.nil (fun s7_ o_7 h hD7 => ?_)
    unfold slices_stableCmpFunc_int_L2 at h
    refine Cod.seq ?_
    refine Cod.seq ?_
    refine Cod.region [] mixed (by kernel_rfl) ?_
    refine Chain.cons (StepOK.move .none (.tmp rfl (fun _ => trivial))) rfl ?_
    refine Chain.cons (StepOK.move .none (.tmp rfl (fun _ => trivial))) rfl ?_
    refine Chain.cons (StepOK.lt .none (.tmp rfl (fun _ => trivial)) (.tmp rfl (fun _ => trivial))) rfl ?_
    refine Chain.nil ?_
    refine Ends.then ?_
    refine Cod.cond (t := 30) rfl trivial (fun hb8 => ?_) (fun hb8 => ?_)
    · replace h := bif_t h hb8
      refine Cod.skip ?_
      refine Ends.then ?_
      refine Cod.block ?_
      refine Cod.seq ?_
      refine Cod.region [] mixed (by kernel_rfl) ?_
      refine Chain.cons (StepOK.move .none (.tmp rfl (fun _ => trivial))) rfl ?_
      refine Chain.cons (StepOK.mulW .none (.int (by decide)) (.tmp rfl (fun _ => trivial))) rfl ?_
      refine Chain.cons (StepOK.assign .none (.int (by decide))) rfl ?_
      obtain ⟨b2, hv9, h⟩ := bnd_some h
      refine Chain.cons (StepOK.re hv9 (StepOK.assign .none (.tmp rfl (fun _ => trivial)))) rfl ?_
      refine Chain.nil ?_
      refine Ends.then ?_
      refine Cod.seq ?_
      obtain ⟨j_10, h, hK10⟩ := bind_some h
      refine Cod.thenJ (ι := (Int × (List Int))) (fun j_10 => [(7, ⟨True, rep j_10.1⟩)]) (fun j_10 => [(63, some (CPred.at s63 (rowV 3 j_10.2)))]) (fun s => j_10 = s) (.cons (t := 0) rfl (.cons (t := 1) rfl (.cons (t := 2) rfl (.cons (t := 6) rfl Sub.nil)))) SubB.nil ?_ (fun j_10' hj10 => ?_)
      · skip
        refine Cod.block ?_
        refine Cod.loopL h (fun s11_ => [(7, ⟨True, rep s11_.1⟩), (8, ⟨True, rep s11_.2.1⟩)]) (fun s11_ => [(63, some (CPred.at s63 (rowV 3 s11_.2.2)))]) (.cons (t := 7) rfl (.cons (t := 8) rfl Sub.nil)) (.cons (t := 63) rfl SubB.nil) (.cons (t := 0) rfl (.cons (t := 1) rfl (.cons (t := 2) rfl (.cons (t := 6) rfl Sub.nil)))) SubB.nil (fun s11_ o_11 h hD11 => ?_)
        unfold slices_stableCmpFunc_int_L3 at h
        refine Cod.seq ?_
        refine Cod.seq ?_
        refine Cod.region [] mixed (by kernel_rfl) ?_
        refine Chain.cons (StepOK.move .none (.tmp rfl (fun _ => trivial))) rfl ?_
        refine Chain.cons (StepOK.move .none (.tmp rfl (fun _ => trivial))) rfl ?_
        refine Chain.cons (StepOK.le .none (.tmp rfl (fun _ => trivial)) (.tmp rfl (fun _ => trivial))) rfl ?_
        refine Chain.nil ?_
        refine Ends.then ?_
        refine Cod.cond (t := 35) rfl trivial (fun hb12 => ?_) (fun hb12 => ?_)
        · replace h := bif_t h hb12
          refine Cod.skip ?_
          refine Ends.then ?_
          refine Cod.block ?_
          refine Cod.seq ?_
          refine Cod.region [([], []), ([], []), ([], []), ([], []), ([], []), ([], []), ([], []), ([63], [63])] mixed (by kernel_rfl) ?_
          refine Chain.consA (StepOK.move .none (.tmp rfl (fun _ => trivial))) rfl ?_
          refine Chain.consA (StepOK.move .none (.tmp rfl (fun _ => trivial))) rfl ?_
          refine Chain.consA (StepOK.move .none (.tmp rfl (fun _ => trivial))) rfl ?_
          refine Chain.consA (StepOK.move .none (.tmp rfl (fun _ => trivial))) rfl ?_
          refine Chain.consA (StepOK.addW .none (.tmp rfl (fun _ => trivial)) (.tmp rfl (fun _ => trivial))) rfl ?_
          refine Chain.consA (StepOK.move .none (.tmp rfl (fun _ => trivial))) rfl ?_
          refine Chain.consA (StepOK.move .none (.tmp rfl (fun _ => trivial))) rfl ?_
          obtain ⟨r3, hv13, h⟩ := bind_some h
          refine Chain.consW (StepOK.callO [63] (slices_symMergeCmpFunc_int_ok hv13) (.cons (.tmp rfl (fun _ => trivial)) (.cons (.tmp rfl (fun _ => trivial)) (.cons (.tmp rfl (fun _ => trivial)) (.cons (.tmp rfl (fun _ => trivial)) (.cons (.tmp rfl (fun _ => trivial)) .nil))))) (.cons (k := 63) rfl .nil) rfl (by decide) (by decide) (by intro d h; cases h; decide)) rfl rfl ?_
          refine Chain.nil ?_
          refine Ends.then ?_
          refine Cod.seq ?_
          refine Cod.region [] mixed (by kernel_rfl) ?_
          refine Chain.cons (StepOK.move .none (.tmp rfl (fun _ => trivial))) rfl ?_
          refine Chain.cons (StepOK.assign .none (.tmp rfl (fun _ => trivial))) rfl ?_
          refine Chain.nil ?_
          refine Ends.then ?_
          refine Cod.region [] mixed (by kernel_rfl) ?_
          refine Chain.cons (StepOK.move .none (.tmp rfl (fun _ => trivial))) rfl ?_
          refine Chain.cons (StepOK.move .none (.tmp rfl (fun _ => trivial))) rfl ?_
          refine Chain.cons (StepOK.mulW .none (.int (by decide)) (.tmp rfl (fun _ => trivial))) rfl ?_
          refine Chain.cons (StepOK.addW .none (.tmp rfl (fun _ => trivial)) (.tmp rfl (fun _ => trivial))) rfl ?_
          obtain ⟨b3, hv14, h⟩ := bnd_some h
          refine Chain.cons (StepOK.re hv14 (StepOK.assign .none (.tmp rfl (fun _ => trivial)))) rfl ?_
          refine Chain.nil ?_
          refine Ends.blkNormal ?_
          exact Ends.againL (some_eq h) (.cons (t := 7) rfl (.cons (t := 8) rfl (.cons (t := 0) rfl (.cons (t := 1) rfl (.cons (t := 2) rfl (.cons (t := 6) rfl Sub.nil)))))) (.cons (t := 63) rfl SubB.nil)
        · replace h := bif_f h hb12
          refine Cod.exit ?_
          refine Ends.thenExit ?_
          refine Ends.thenExit ?_
          refine Ends.blkExit ?_
          replace h := hD11 _ (some_eq h)
          exact Ends.join _ (some_eq h) (.cons (t := 7) rfl (.cons (t := 0) rfl (.cons (t := 1) rfl (.cons (t := 2) rfl (.cons (t := 6) rfl Sub.nil))))) (.cons (t := 63) rfl SubB.nil)
      · subst hj10; have h := hK10; clear hK10
        refine Cod.seq ?_
        refine Cod.seq ?_
        refine Cod.region [] mixed (by kernel_rfl) ?_
        refine Chain.cons (StepOK.move .none (.tmp rfl (fun _ => trivial))) rfl ?_
        refine Chain.cons (StepOK.move .none (.tmp rfl (fun _ => trivial))) rfl ?_
        refine Chain.cons (StepOK.addW .none (.tmp rfl (fun _ => trivial)) (.tmp rfl (fun _ => trivial))) rfl ?_
        obtain ⟨m1, hv15, h⟩ := bnd_some h
        refine Chain.cons (StepOK.re hv15 (StepOK.assign .none (.tmp rfl (fun _ => trivial)))) rfl ?_
        refine Chain.nil ?_
        refine Ends.then ?_
        refine Cod.seq ?_
        refine Cod.region [] mixed (by kernel_rfl) ?_
        refine Chain.cons (StepOK.move .none (.tmp rfl (fun _ => trivial))) rfl ?_
        refine Chain.cons (StepOK.move .none (.tmp rfl (fun _ => trivial))) rfl ?_
        refine Chain.cons (StepOK.lt .none (.tmp rfl (fun _ => trivial)) (.tmp rfl (fun _ => trivial))) rfl ?_
        refine Chain.nil ?_
        refine Ends.then ?_
        obtain ⟨j_16, h, hK16⟩ := bind_some h
        refine Cod.thenJ (ι := (List Int)) (fun j_16 => []) (fun j_16 => [(63, some (CPred.at s63 (rowV 3 j_16)))]) (fun s => j_16 = s) (.cons (t := 0) rfl (.cons (t := 1) rfl (.cons (t := 2) rfl (.cons (t := 6) rfl Sub.nil)))) SubB.nil ?_ (fun j_16' hj16 => ?_)
        · skip
          refine Cod.cond (t := 54) rfl trivial (fun hb17 => ?_) (fun hb17 => ?_)
          · replace h := bif_t h hb17
            refine Cod.region [([], []), ([], []), ([], []), ([], []), ([], []), ([63], [63])] mixed (by kernel_rfl) ?_
            refine Chain.consA (StepOK.move .none (.tmp rfl (fun _ => trivial))) rfl ?_
            refine Chain.consA (StepOK.move .none (.tmp rfl (fun _ => trivial))) rfl ?_
            refine Chain.consA (StepOK.move .none (.tmp rfl (fun _ => trivial))) rfl ?_
            refine Chain.consA (StepOK.move .none (.tmp rfl (fun _ => trivial))) rfl ?_
            refine Chain.consA (StepOK.move .none (.tmp rfl (fun _ => trivial))) rfl ?_
            obtain ⟨r4, hv18, h⟩ := bind_some h
            refine Chain.consW (StepOK.callO [63] (slices_symMergeCmpFunc_int_ok hv18) (.cons (.tmp rfl (fun _ => trivial)) (.cons (.tmp rfl (fun _ => trivial)) (.cons (.tmp rfl (fun _ => trivial)) (.cons (.tmp rfl (fun _ => trivial)) (.cons (.tmp rfl (fun _ => trivial)) .nil))))) (.cons (k := 63) rfl .nil) rfl (by decide) (by decide) (by intro d h; cases h; decide)) rfl rfl ?_
            refine Chain.nil ?_
            exact Ends.join _ (some_eq h) (.cons (t := 0) rfl (.cons (t := 1) rfl (.cons (t := 2) rfl (.cons (t := 6) rfl Sub.nil)))) (.cons (t := 63) rfl SubB.nil)
          · replace h := bif_f h hb17
            refine Cod.skip ?_
            exact Ends.join _ (some_eq h) (.cons (t := 0) rfl (.cons (t := 1) rfl (.cons (t := 2) rfl (.cons (t := 6) rfl Sub.nil)))) (.cons (t := 63) rfl SubB.nil)
        · subst hj16; have h := hK16; clear hK16
          refine Cod.region [] mixed (by kernel_rfl) ?_
          refine Chain.cons (StepOK.move .none (.tmp rfl (fun _ => trivial))) rfl ?_
          refine Chain.cons (StepOK.mulW .none (.tmp rfl (fun _ => trivial)) (.int (by decide))) rfl ?_
          obtain ⟨blockSize1, hv19, h⟩ := bnd_some h
          refine Chain.cons (StepOK.re hv19 (StepOK.assign .none (.tmp rfl (fun _ => trivial)))) rfl ?_
          refine Chain.nil ?_
          refine Ends.blkNormal ?_
          exact Ends.againL (some_eq h) (.cons (t := 6) rfl (.cons (t := 0) rfl (.cons (t := 1) rfl (.cons (t := 2) rfl Sub.nil)))) (.cons (t := 63) rfl SubB.nil)
    · replace h := bif_f h hb8
      refine Cod.exit ?_
      refine Ends.thenExit ?_
      refine Ends.thenExit ?_
      refine Ends.blkExit ?_
      replace h := hD7 _ (some_eq h)
      obtain rfl := some_eq h
      exact Ends.ret0O (.inr rfl) [63] Try.results98 (by decide) (.held rfl .nil) 

theorem slices_SortStableFunc_int_ok {x1 : (List Int)} {cmp1 : (Int → Int → Option Int)} {r : (List Int)} {s9 : Value} (h : slices_SortStableFunc_int x1 cmp1 = some r) : FSpecO Try.prog 58 [isV s9, fn2 Try.prog (rep (α := Int)) cmp1] [(s9, rowV 3 x1)] (anyV) [some (rowV 3 r)] := by
  unfold slices_SortStableFunc_int at h
  refine FSpecO.intro (n := 9) fnok58 Try.func58 rfl Try.ntmps58 rfl (fun F => ?_)
  refine Cod.region [([], []), ([], []), ([9], []), ([], []), ([9], [9])] mixed (by kernel_rfl) ?_
  refine Chain.consA (StepOK.move .none (.tmp rfl (fun _ => trivial))) rfl ?_
  refine Chain.consA (StepOK.move .none (.tmp rfl (fun _ => trivial))) rfl ?_
  refine Chain.consA (StepOK.lenO (k := 9) sl42 (.told (.tmp rfl (fun _ => trivial)) rfl)) rfl ?_
  refine Chain.consA (StepOK.move .none (.tmp rfl (fun _ => trivial))) rfl ?_
  obtain ⟨r1, hv1, h⟩ := bind_some h
  refine Chain.consW (StepOK.callO [9] (slices_stableCmpFunc_int_ok hv1) (.cons (.tmp rfl (fun _ => trivial)) (.cons (.tmp rfl (fun _ => trivial)) (.cons (.tmp rfl (fun _ => trivial)) .nil))) (.cons (k := 9) rfl .nil) rfl (by decide) (by decide) (by intro d h; cases h; decide)) rfl rfl ?_
  refine Chain.nil ?_
  obtain rfl := some_eq h
  exact Ends.ret0O (.inr rfl) [9] Try.results58 (by decide) (.held rfl .nil) 

theorem route_Lanes_3_ok {to1 : Int} {c0_1 : (List Lane)} {c1_1 : Int} {r : Bool}  (h : route_Lanes_3 to1 c0_1 c1_1 = some r) : FSpec Try.prog 62 [rep to1, ref c0_1, ref c1_1] (rep r) := by
  unfold route_Lanes_3 at h
  refine FSpec.intro (n := 12) fnok62 Try.func62 rfl Try.ntmps62 rfl (fun F => ?_)
  refine Cod.seq ?_
  refine Cod.region [] mixed (by kernel_rfl) ?_
  refine Chain.cons (StepOK.assign .none .bool) rfl ?_
  refine Chain.nil ?_
  refine Ends.then ?_
  refine Cod.seq ?_
  refine Cod.region [] mixed (by kernel_rfl) ?_
  refine Chain.cons (StepOK.move .none (.tmp rfl (fun _ => trivial))) rfl ?_
  refine Chain.cons (StepOK.load .none ty41 (.tmp rfl (fun _ => trivial))) rfl ?_
  refine Chain.cons (StepOK.load .none ty3 (.tmp rfl (fun _ => trivial))) rfl ?_
  obtain ⟨hn1, h⟩ := need_some h
  refine Chain.cons (StepOK.indexAddr .none sl41 ty46 (.tmp rfl (fun _ => trivial)) (.tmp rfl (fun _ => trivial)) (fun _ => hn1)) rfl ?_
  refine Chain.cons (StepOK.fieldAddr .none fd46_0 hfd46_0 (.tmp rfl (fun _ => trivial))) rfl ?_
  refine Chain.cons (StepOK.load .none ty3 (.tmp rfl (fun _ => trivial))) rfl ?_
  refine Chain.cons (StepOK.le .none (.tmp rfl (fun _ => trivial)) (.tmp rfl (fun _ => trivial))) rfl ?_
  refine Chain.cons (StepOK.assign .none (.tmp rfl (fun _ => trivial))) rfl ?_
  refine Chain.nil ?_
  refine Ends.then ?_
  refine Cod.ret ?_
  obtain rfl := some_eq h
  exact Ends.ret1 (.inl rfl) Try.results62 (ResOK.tmp rfl trivial Imp.refl)

theorem slices_IndexFunc_int_ok {s1 : (List Int)} {f1 : (Int → Option Bool)} {r : Int}  (h : slices_IndexFunc_int s1 f1 = some r) : FSpec Try.prog 61 [rep s1, fn1 Try.prog (rep (α := Bool)) f1] (rep r) := by
  unfold slices_IndexFunc_int at h
  refine FSpec.intro (n := 19) fnok61 Try.func61 rfl Try.ntmps61 rfl (fun F => ?_)
  refine Cod.seq ?_
  refine Cod.region [] mixed (by kernel_rfl) ?_
  refine Chain.cons (StepOK.assign .none (.int (by decide))) rfl ?_
  refine Chain.nil ?_
  refine Ends.then ?_
  refine Cod.seq ?_
  refine Cod.seq ?_
  refine Cod.region [] mixed (by kernel_rfl) ?_
  refine Chain.cons (StepOK.move .none (.tmp rfl (fun _ => trivial))) rfl ?_
  refine Chain.cons (StepOK.len .none sl42 (.tmp rfl (fun _ => trivial))) rfl ?_
  refine Chain.cons (StepOK.move .none (.int (by decide))) rfl ?_
  refine Chain.nil ?_
  refine Ends.then ?_
  obtain ⟨o_1, h, hK1⟩ := bindR_some h
  refine Cod.thenJ (ι := Unit) (fun j_1 => []) (fun j_1 => []) (fun s => o_1 = Res.nx s) Sub.nil SubB.nil ?_ (fun j_1 hj1 => ?_)
  · skip
    refine Cod.block ?_
    refine Cod.rforEL h (fun p2_ => [(8, ⟨True, rep p2_.1⟩)]) (fun p2_ => []) (.cons (t := 8) rfl Sub.nil) SubB.nil (.cons (t := 0) rfl (.cons (t := 1) rfl (.cons (t := 7) rfl Sub.nil))) SubB.nil (fun p2_ o_2 h hD2 => ?_)
    refine Cod.seq ?_
    refine Cod.region [] mixed (by kernel_rfl) ?_
    refine Chain.cons (StepOK.lt .none (.tmp rfl (fun _ => trivial)) (.tmp rfl (fun _ => trivial))) rfl ?_
    refine Chain.nil ?_
    refine Ends.then ?_
    refine Cod.seq ?_
    refine Cod.cond (t := 9) rfl trivial (fun hb3 => ?_) (fun hb3 => ?_)
    · replace h := bif_t h hb3
      refine Cod.skip ?_
      refine Ends.then ?_
      refine Cod.seq ?_
      obtain ⟨o_4, h, hK4⟩ := bindD_some h
      unfold slices_IndexFunc_int_L1 at h
      refine Cod.thenJ (ι := Unit) (fun j_4 => []) (fun j_4 => []) (fun s => o_4 = Res.nx s) (.cons (t := 0) rfl (.cons (t := 1) rfl (.cons (t := 7) rfl (.cons (t := 8) rfl Sub.nil)))) SubB.nil ?_ (fun j_4 hj4 => ?_)
      · skip
        refine Cod.block ?_
        refine Cod.seq ?_
        refine Cod.region [] mixed (by kernel_rfl) ?_
        refine Chain.cons (StepOK.move .none (.tmp rfl (fun _ => trivial))) rfl ?_
        refine Chain.cons (StepOK.assign .none (.tmp rfl (fun _ => trivial))) rfl ?_
        refine Chain.nil ?_
        refine Ends.then ?_
        refine Cod.seq ?_
        refine Cod.region [] mixed (by kernel_rfl) ?_
        refine Chain.cons (StepOK.move .none (.tmp rfl (fun _ => trivial))) rfl ?_
        refine Chain.cons (StepOK.move .none (.tmp rfl (fun _ => trivial))) rfl ?_
        refine Chain.cons (StepOK.move .none (.tmp rfl (fun _ => trivial))) rfl ?_
        obtain ⟨hn5, h⟩ := need_some h
        refine Chain.cons (StepOK.indexAddr .none sl42 ty3 (.tmp rfl (fun _ => trivial)) (.tmp rfl (fun _ => trivial)) (fun _ => hn5)) rfl ?_
        refine Chain.cons (StepOK.load .none ty3 (.tmp rfl (fun _ => trivial))) rfl ?_
        obtain ⟨r1, hv6, h⟩ := bind_some h
        refine Chain.cons (StepOK.callV (_, _) .none (.tmp rfl (fun _ => trivial)) (fun _ => hv6) (.cons (.tmp rfl (fun _ => trivial)) .nil)) rfl ?_
        refine Chain.nil ?_
        refine Ends.then ?_
        refine Cod.cond (t := 16) rfl trivial (fun hb7 => ?_) (fun hb7 => ?_)
        · replace h := bif_t h hb7
          refine Cod.seq ?_
          refine Cod.region [] mixed (by kernel_rfl) ?_
          refine Chain.cons (StepOK.move .none (.tmp rfl (fun _ => trivial))) rfl ?_
          refine Chain.cons (StepOK.assign .none (.tmp rfl (fun _ => trivial))) rfl ?_
          refine Chain.nil ?_
          refine Ends.then ?_
          refine Cod.ret ?_
          refine Ends.blkRet ?_
          refine Ends.thenRet ?_
          refine Ends.thenRet ?_
          refine Ends.blkRet ?_
          refine Ends.thenRet ?_
          replace h := resd_ab hK4 (some_eq h)
          replace h := hD2 _ (some_eq h)
          replace h := resb_ab hK1 (some_eq h)
          obtain rfl := some_eq h
          exact Ends.ret1 (.inl rfl) Try.results61 (ResOK.tmp rfl trivial Imp.refl)
        · replace h := bif_f h hb7
          refine Cod.skip ?_
          refine Ends.blkNormal ?_
          exact Ends.join _ (some_eq h) (.cons (t := 0) rfl (.cons (t := 1) rfl (.cons (t := 7) rfl (.cons (t := 8) rfl Sub.nil)))) SubB.nil
      · have h := resd_nx hK4 hj4
        refine Cod.region [] mixed (by kernel_rfl) ?_
        refine Chain.cons (StepOK.addW .none (.tmp rfl (fun _ => trivial)) (.int (by decide))) rfl ?_
        refine Chain.cons (StepOK.move .none (.tmp rfl (fun _ => trivial))) rfl ?_
        refine Chain.nil ?_
        exact Ends.againL (some_eq h) (.cons (t := 8) rfl (.cons (t := 0) rfl (.cons (t := 1) rfl (.cons (t := 7) rfl Sub.nil)))) SubB.nil
    · replace h := bif_f h hb3
      refine Cod.exit ?_
      refine Ends.thenExit ?_
      refine Ends.thenExit ?_
      refine Ends.blkExit ?_
      replace h := hD2 _ (some_eq h)
      exact Ends.join _ (some_eq h) Sub.nil SubB.nil
  · have h := resb_nx hK1 hj1
    refine Cod.seq ?_
    refine Cod.region [] mixed (by kernel_rfl) ?_
    refine Chain.cons (StepOK.assign .none (.int (by decide))) rfl ?_
    refine Chain.nil ?_
    refine Ends.then ?_
    refine Cod.ret ?_
    obtain rfl := some_eq h
    exact Ends.ret1 (.inl rfl) Try.results61 (ResOK.tmp rfl trivial Imp.refl)

theorem route_Lanes_ok {l1 : (List Lane)} {r : ((List Int) × Int)}  (h : route_Lanes l1 = some r) : FSpec Try.prog 20 [rep l1] (tup [rep r.1, rep r.2]) := by
  unfold route_Lanes at h
  refine FSpec.intro (n := 86) fnok20 Try.func20 rfl Try.ntmps20 rfl (fun F => ?_)
  refine Cod.seq ?_
  refine Cod.region [] mixed (by kernel_rfl) ?_
  refine Chain.cons (StepOK.box .none (.tmp rfl (fun _ => trivial))) rfl ?_
  refine Chain.cons (StepOK.assign .none (.const (x := ([] : (List Int))) (fun M w => ⟨_, ⟨none, 0, rfl, Nat.le_refl _, by decide, rfl⟩, rfl⟩))) rfl ?_
  refine Chain.cons (StepOK.assign .none (.int (by decide))) rfl ?_
  refine Chain.nil ?_
  refine Ends.then ?_
  refine Cod.seq ?_
  refine Cod.seq ?_
  refine Cod.region [] mixed (by kernel_rfl) ?_
  refine Chain.cons (StepOK.load .none ty41 (.tmp rfl (fun _ => trivial))) rfl ?_
  refine Chain.cons (StepOK.len .none sl41 (.tmp rfl (fun _ => trivial))) rfl ?_
  refine Chain.cons (StepOK.gt .none (.tmp rfl (fun _ => trivial)) (.int (by decide))) rfl ?_
  refine Chain.nil ?_
  refine Ends.then ?_
  refine Cod.cond (t := 15) rfl trivial (fun hb1 => ?_) (fun hb1 => ?_)
  · replace h := bif_t h hb1
    refine Cod.seq ?_
    refine Cod.region [] mixed (by kernel_rfl) ?_
    refine Chain.cons (StepOK.assign .none (.const (x := ([] : (List Int))) (fun M w => ⟨_, ⟨none, 0, rfl, Nat.le_refl _, by decide, rfl⟩, rfl⟩))) rfl ?_
    refine Chain.cons (StepOK.assign .none (.int (by decide))) rfl ?_
    refine Chain.nil ?_
    refine Ends.then ?_
    refine Cod.ret ?_
    refine Ends.thenRet ?_
    obtain rfl := some_eq h
    exact Ends.ret2 (.inl rfl) Try.results20 (ResOK.tmp rfl trivial Imp.refl) (ResOK.tmp rfl trivial Imp.refl)
  · replace h := bif_f h hb1
    refine Cod.skip ?_
    refine Ends.then ?_
    refine Cod.seq ?_
    refine Cod.region [] mixed (by kernel_rfl) ?_
    refine Chain.cons (StepOK.assign .none (Opd.func (ι := Int × Bool) (pre := fun i => route_Lanes_1 i.1 = some i.2) (Ss := fun i => [rep i.1]) (S := fun i => rep i.2) fnok57 (fun i h => route_Lanes_1_ok h))) rfl ?_
    refine Chain.nil ?_
    refine Ends.then ?_
    refine Cod.seq ?_
    refine Cod.region [([], []), ([], []), ([], [18]), ([18], [5, 18])] mixed (by kernel_rfl) ?_
    refine Chain.consA (StepOK.load .none ty41 (.tmp rfl (fun _ => trivial))) rfl ?_
    obtain ⟨v1, hv2, h⟩ := bnd_some h
    refine Chain.consA (StepOK.re hv2 (StepOK.len .none sl41 (.tmp rfl (fun _ => trivial)))) rfl ?_
    obtain ⟨hn3, h⟩ := need_some h
    refine Chain.consW (StepOK.makeSlice rk42 zo3 rfl (.tmp rfl (fun _ => trivial)) (.tmp rfl (fun _ => trivial)) hn3) rfl rfl ?_
    refine Chain.consW (StepOK.passRow rfl (.tmp rfl)) rfl rfl ?_
    refine Chain.nil ?_
    refine Ends.then ?_
    obtain ⟨order1, hv4, h⟩ := bnd_some h
    refine Cod.reB (t := 5) rfl (congrArg (rowV 3) hv4) ?_
    refine Cod.nameRow (t := 5) (g := 5001) rfl rfl rfl (fun s5001 => ?_)
    refine Cod.seq ?_
    refine Cod.seq ?_
    refine Cod.region [] mixed (by kernel_rfl) ?_
    refine Chain.cons (StepOK.load .none ty41 (.tmp rfl (fun _ => trivial))) rfl ?_
    refine Chain.cons (StepOK.len .none sl41 (.tmp rfl (fun _ => trivial))) rfl ?_
    refine Chain.cons (StepOK.move .none (.int (by decide))) rfl ?_
    refine Chain.nil ?_
    refine Ends.then ?_
    obtain ⟨o_5, h, hK5⟩ := bindR_some h
    refine Cod.thenJ (ι := (List Int)) (fun j_5 => []) (fun j_5 => [(5001, some (CPred.at s5001 (rowV 3 j_5)))]) (fun s => o_5 = Res.nx s) (.cons (t := 1) rfl (.cons (t := 5) rfl Sub.nil)) SubB.nil ?_ (fun j_5 hj5 => ?_)
    · skip
      refine Cod.block ?_
      refine Cod.rforEL h (fun p6_ => [(21, ⟨True, rep p6_.1⟩)]) (fun p6_ => [(5001, some (CPred.at s5001 (rowV 3 p6_.2)))]) (.cons (t := 21) rfl Sub.nil) (.cons (t := 5001) rfl SubB.nil) (.cons (t := 1) rfl (.cons (t := 4) rfl (.cons (t := 5) rfl (.cons (t := 19) rfl (.cons (t := 20) rfl Sub.nil))))) SubB.nil (fun p6_ o_6 h hD6 => ?_)
      refine Cod.seq ?_
      refine Cod.region [] mixed (by kernel_rfl) ?_
      refine Chain.cons (StepOK.lt .none (.tmp rfl (fun _ => trivial)) (.tmp rfl (fun _ => trivial))) rfl ?_
      refine Chain.nil ?_
      refine Ends.then ?_
      refine Cod.seq ?_
      refine Cod.cond (t := 22) rfl trivial (fun hb7 => ?_) (fun hb7 => ?_)
      · replace h := bif_t h hb7
        refine Cod.skip ?_
        refine Ends.then ?_
        refine Cod.seq ?_
        obtain ⟨o_8, h, hK8⟩ := bindD_some h
        unfold route_Lanes_L1 at h
        refine Cod.thenJ (ι := (List Int)) (fun j_8 => []) (fun j_8 => [(5001, some (CPred.at s5001 (rowV 3 j_8)))]) (fun s => o_8 = Res.nx s) (.cons (t := 1) rfl (.cons (t := 4) rfl (.cons (t := 5) rfl (.cons (t := 19) rfl (.cons (t := 20) rfl (.cons (t := 21) rfl Sub.nil)))))) SubB.nil ?_ (fun j_8 hj8 => ?_)
        · skip
          refine Cod.block ?_
          refine Cod.seq ?_
          refine Cod.region [([], []), ([], []), ([], []), ([], [7]), ([], []), ([7], [7])] mixed (by kernel_rfl) ?_
          refine Chain.consA (StepOK.move .none (.tmp rfl (fun _ => trivial))) rfl ?_
          obtain ⟨hn9, h⟩ := need_some h
          refine Chain.consA (StepOK.indexAddr .none sl41 ty46 (.tmp rfl (fun _ => trivial)) (.tmp rfl (fun _ => trivial)) (fun _ => hn9)) rfl ?_
          obtain ⟨v2, hv10, h⟩ := bnd_some h
          refine Chain.consA (StepOK.re hv10 (StepOK.load .none ty46 (.tmp rfl (fun _ => trivial)))) rfl ?_
          refine Chain.consW (StepOK.alloc zo46 rfl) rfl rfl ?_
          refine Chain.consA (StepOK.assign .none (.tmp rfl (fun _ => trivial))) rfl ?_
          refine Chain.consN (StepOK.store ty46 rfl rfl (.tmp rfl (fun _ => trivial))) rfl ?_
          refine Chain.nil ?_
          refine Ends.then ?_
          refine Cod.freeze (t := 7) rfl rfl (.cons (t := 5001) rfl SubB.nil) rfl ?_
          refine Cod.seq ?_
          refine Cod.block ?_
          refine Cod.seq ?_
          refine Cod.region [] mixed (by kernel_rfl) ?_
          refine Chain.cons (StepOK.move .none (.tmp rfl (fun _ => trivial))) rfl ?_
          refine Chain.cons (StepOK.fieldAddr .none fd46_0 hfd46_0 (.tmp rfl (fun _ => trivial))) rfl ?_
          refine Chain.cons (StepOK.load .none ty3 (.tmp rfl (fun _ => trivial))) rfl ?_
          obtain ⟨r1, hv11, h⟩ := bind_some h
          refine Chain.cons (StepOK.callV (_, _) .none (.tmp rfl (fun _ => trivial)) (fun _ => hv11) (.cons (.tmp rfl (fun _ => trivial)) .nil)) rfl ?_
          refine Chain.cons (StepOK.not .none (.tmp rfl (fun _ => trivial))) rfl ?_
          refine Chain.cons (StepOK.move .none (.tmp rfl (fun _ => trivial))) rfl ?_
          refine Chain.cons (StepOK.move (.at rfl rfl) (.tmp rfl (fun _ => trivial))) rfl ?_
          refine Chain.cons (StepOK.fieldAddr (.at rfl rfl) fd46_1 hfd46_1 (.tmp rfl (fun _ => trivial))) rfl ?_
          refine Chain.cons (StepOK.load (.at rfl rfl) ty3 (.tmp rfl id)) rfl ?_
          obtain ⟨r2, hv12, h⟩ := bind_some h
          refine Chain.cons (StepOK.callV (_, _) (.at rfl rfl) (.tmp rfl id) (fun hg => gd_some hv12 ((notT hg.2))) (.cons (.tmp rfl id) .nil)) rfl ?_
          refine Chain.cons (StepOK.not (.at rfl rfl) (.tmp rfl id)) rfl ?_
          refine Chain.cons (StepOK.pickOr .none (.tmp rfl (fun _ => trivial)) (.tmp rfl id)) rfl ?_
          refine Chain.cons (StepOK.assign .none (.tmp rfl (fun _ => trivial))) rfl ?_
          refine Chain.nil ?_
          refine Ends.then ?_
          refine Cod.cond (t := 26) rfl trivial (fun hb13 => ?_) (fun hb13 => ?_)
          · replace h := bif_t h hb13
            refine Cod.seq ?_
            refine Cod.region [] mixed (by kernel_rfl) ?_
            refine Chain.cons (StepOK.assign .none (.const (x := ([] : (List Int))) (fun M w => ⟨_, ⟨none, 0, rfl, Nat.le_refl _, by decide, rfl⟩, rfl⟩))) rfl ?_
            refine Chain.cons (StepOK.assign .none (.int (by decide))) rfl ?_
            refine Chain.nil ?_
            refine Ends.then ?_
            refine Cod.ret ?_
            refine Ends.blkRet ?_
            refine Ends.thenRet ?_
            refine Ends.blkRet ?_
            refine Ends.thenRet ?_
            refine Ends.thenRet ?_
            refine Ends.blkRet ?_
            refine Ends.thenRet ?_
            replace h := resd_ab hK8 (some_eq h)
            replace h := hD6 _ (some_eq h)
            replace h := resb_ab hK5 (some_eq h)
            obtain rfl := some_eq h
            exact Ends.ret2 (.inl rfl) Try.results20 (ResOK.tmp rfl trivial Imp.refl) (ResOK.tmp rfl trivial Imp.refl)
          · replace h := bif_f h hb13
            refine Cod.seq ?_
            refine Cod.region [] mixed (by kernel_rfl) ?_
            refine Chain.cons (StepOK.fieldAddr .none fd46_0 hfd46_0 (.tmp rfl (fun _ => trivial))) rfl ?_
            refine Chain.cons (StepOK.load .none ty3 (.tmp rfl (fun _ => trivial))) rfl ?_
            refine Chain.cons (StepOK.fieldAddr .none fd46_1 hfd46_1 (.tmp rfl (fun _ => trivial))) rfl ?_
            refine Chain.cons (StepOK.load .none ty3 (.tmp rfl (fun _ => trivial))) rfl ?_
            refine Chain.cons (StepOK.ge .none (.tmp rfl (fun _ => trivial)) (.tmp rfl (fun _ => trivial))) rfl ?_
            refine Chain.cons (StepOK.assign .none (.tmp rfl (fun _ => trivial))) rfl ?_
            refine Chain.nil ?_
            refine Ends.then ?_
            refine Cod.cond (t := 39) rfl trivial (fun hb14 => ?_) (fun hb14 => ?_)
            · replace h := bif_t h hb14
              refine Cod.seq ?_
              refine Cod.region [] mixed (by kernel_rfl) ?_
              refine Chain.cons (StepOK.assign .none (.const (x := ([] : (List Int))) (fun M w => ⟨_, ⟨none, 0, rfl, Nat.le_refl _, by decide, rfl⟩, rfl⟩))) rfl ?_
              refine Chain.cons (StepOK.assign .none (.int (by decide))) rfl ?_
              refine Chain.nil ?_
              refine Ends.then ?_
              refine Cod.ret ?_
              refine Ends.blkRet ?_
              refine Ends.thenRet ?_
              refine Ends.blkRet ?_
              refine Ends.thenRet ?_
              refine Ends.thenRet ?_
              refine Ends.blkRet ?_
              refine Ends.thenRet ?_
              replace h := resd_ab hK8 (some_eq h)
              replace h := hD6 _ (some_eq h)
              replace h := resb_ab hK5 (some_eq h)
              obtain rfl := some_eq h
              exact Ends.ret2 (.inl rfl) Try.results20 (ResOK.tmp rfl trivial Imp.refl) (ResOK.tmp rfl trivial Imp.refl)
            · replace h := bif_f h hb14
              refine Cod.skip ?_
              refine Ends.blkNormal ?_
              refine Ends.then ?_
              refine Cod.region [([], []), ([], []), ([], []), ([5001], []), ([5001], [5001])] mixed (by kernel_rfl) ?_
              refine Chain.consA (StepOK.move .none (.tmp rfl (fun _ => trivial))) rfl ?_
              refine Chain.consA (StepOK.move .none (.tmp rfl (fun _ => trivial))) rfl ?_
              refine Chain.consA (StepOK.move .none (.tmp rfl (fun _ => trivial))) rfl ?_
              obtain ⟨hn15, h⟩ := need_some h
              refine Chain.consA (StepOK.indexAddrO (k := 5001) .none sl42 ty3 (.tmp rfl (fun _ => trivial)) rfl (.tmp rfl (fun _ => trivial)) (fun _ => hn15)) rfl ?_
              refine Chain.consN (StepOK.storeElem0 (k := 5001) ty3 (.tmp rfl (fun _ => trivial)) rfl (.tmp rfl (fun _ => trivial)) hn15) rfl ?_
              refine Chain.nil ?_
              refine Ends.blkNormal ?_
              exact Ends.join _ (some_eq h) (.cons (t := 1) rfl (.cons (t := 4) rfl (.cons (t := 5) rfl (.cons (t := 19) rfl (.cons (t := 20) rfl (.cons (t := 21) rfl Sub.nil)))))) (.cons (t := 5001) rfl SubB.nil)
        · have h := resd_nx hK8 hj8
          refine Cod.region [] mixed (by kernel_rfl) ?_
          refine Chain.cons (StepOK.addW .none (.tmp rfl (fun _ => trivial)) (.int (by decide))) rfl ?_
          refine Chain.cons (StepOK.move .none (.tmp rfl (fun _ => trivial))) rfl ?_
          refine Chain.nil ?_
          exact Ends.againL (some_eq h) (.cons (t := 21) rfl (.cons (t := 1) rfl (.cons (t := 4) rfl (.cons (t := 5) rfl (.cons (t := 19) rfl (.cons (t := 20) rfl Sub.nil)))))) (.cons (t := 5001) rfl SubB.nil)
      · replace h := bif_f h hb7
        refine Cod.exit ?_
        refine Ends.thenExit ?_
        refine Ends.thenExit ?_
        refine Ends.blkExit ?_
        replace h := hD6 _ (some_eq h)
        exact Ends.join _ (some_eq h) (.cons (t := 1) rfl (.cons (t := 5) rfl Sub.nil)) (.cons (t := 5001) rfl SubB.nil)
    · have h := resb_nx hK5 hj5
      refine Cod.seq ?_
      refine Cod.region [([], []), ([], []), ([5001], [5001])] mixed (by kernel_rfl) ?_
      refine Chain.consA (StepOK.move .none (.tmp rfl (fun _ => trivial))) rfl ?_
      refine Chain.consA (StepOK.makeFunc (ι := Int × Int × Int) (pre := fun i => (fun x0 x1 => route_Lanes_2 x0 x1 l1) i.1 i.2.1 = some i.2.2) (Ss := fun i => [rep i.1, rep i.2.1]) (S := fun i => rep i.2.2) .none fnok59 (fun i h => route_Lanes_2_ok h) (.cons (.tmp rfl (fun _ => trivial)) .nil)) rfl ?_
      obtain ⟨r3, hv16, h⟩ := bind_some h
      refine Chain.consW (StepOK.callO [5001] (slices_SortStableFunc_int_ok hv16) (.cons (.tmp rfl (fun _ => trivial)) (.cons (.tmp rfl (fun _ => trivial)) .nil)) (.cons (k := 5001) rfl .nil) rfl (by decide) (by decide) (by intro d h; cases h; decide)) rfl rfl ?_
      refine Chain.nil ?_
      refine Ends.then ?_
      refine Cod.freezeRow (g := 5001) (ts := [5]) rfl (.cons (t := 5) rfl trivial .nil) SubB.nil rfl ?_
      refine Cod.seq ?_
      refine Cod.region [([], []), ([], []), ([], [55]), ([55], [8, 55])] mixed (by kernel_rfl) ?_
      refine Chain.consA (StepOK.load .none ty41 (.tmp rfl (fun _ => trivial))) rfl ?_
      obtain ⟨v3, hv17, h⟩ := bnd_some h
      refine Chain.consA (StepOK.re hv17 (StepOK.len .none sl41 (.tmp rfl (fun _ => trivial)))) rfl ?_
      obtain ⟨hn18, h⟩ := need_some h
      refine Chain.consW (StepOK.makeSlice rk42 zo3 rfl (.tmp rfl (fun _ => trivial)) (.tmp rfl (fun _ => trivial)) hn18) rfl rfl ?_
      refine Chain.consW (StepOK.passRow rfl (.tmp rfl)) rfl rfl ?_
      refine Chain.nil ?_
      refine Ends.then ?_
      obtain ⟨out1, hv19, h⟩ := bnd_some h
      refine Cod.reB (t := 8) rfl (congrArg (rowV 3) hv19) ?_
      refine Cod.nameRow (t := 8) (g := 5002) rfl rfl rfl (fun s5002 => ?_)
      refine Cod.seq ?_
      refine Cod.region [([], [9])] mixed (by kernel_rfl) ?_
      refine Chain.consW (StepOK.nilRow (T := 3) (α := Int) rfl) rfl rfl ?_
      refine Chain.nil ?_
      refine Ends.then ?_
      refine Cod.nameRow (t := 9) (g := 5003) rfl rfl rfl (fun s5003 => ?_)
      refine Cod.seq ?_
      refine Cod.seq ?_
      refine Cod.region [] mixed (by kernel_rfl) ?_
      refine Chain.cons (StepOK.move .none (.tmp rfl (fun _ => trivial))) rfl ?_
      refine Chain.cons (StepOK.len .none sl42 (.tmp rfl (fun _ => trivial))) rfl ?_
      refine Chain.cons (StepOK.move .none (.int (by decide))) rfl ?_
      refine Chain.nil ?_
      refine Ends.then ?_
      obtain ⟨j_20, h, hK20⟩ := bind_some h
      refine Cod.thenJ (ι := ((List Int) × (List Int))) (fun j_20 => []) (fun j_20 => [(9, some (rowV 3 j_20.1)), (5002, some (CPred.at s5002 (rowV 3 j_20.2)))]) (fun s => j_20 = s) (.cons (t := 8) rfl Sub.nil) SubB.nil ?_ (fun j_20' hj20 => ?_)
      · skip
        refine Cod.block ?_
        refine Cod.anon (t := 9) (g := 5003) rfl rfl trivial rfl ?_
        refine Cod.rforL h (fun p21_ => [(58, ⟨True, rep p21_.1⟩)]) (fun p21_ => [(9, some (rowV 3 p21_.2.1)), (5002, some (CPred.at s5002 (rowV 3 p21_.2.2)))]) (.cons (t := 58) rfl Sub.nil) (.cons (t := 9) rfl (.cons (t := 5002) rfl SubB.nil)) (.cons (t := 1) rfl (.cons (t := 8) rfl (.cons (t := 56) rfl (.cons (t := 57) rfl Sub.nil)))) SubB.nil (fun p21_ o_21 h hD21 => ?_)
        refine Cod.nameRow (t := 9) (g := 5004) rfl rfl rfl (fun s5004 => ?_)
        refine Cod.seq ?_
        refine Cod.region [] mixed (by kernel_rfl) ?_
        refine Chain.cons (StepOK.lt .none (.tmp rfl (fun _ => trivial)) (.tmp rfl (fun _ => trivial))) rfl ?_
        refine Chain.nil ?_
        refine Ends.then ?_
        refine Cod.seq ?_
        refine Cod.cond (t := 59) rfl trivial (fun hb22 => ?_) (fun hb22 => ?_)
        · replace h := bif_t h hb22
          refine Cod.skip ?_
          refine Ends.then ?_
          refine Cod.seq ?_
          obtain ⟨j_23, h, hK23⟩ := bind_some h
          unfold route_Lanes_L2 at h
          refine Cod.thenJ (ι := ((List Int) × (List Int))) (fun j_23 => []) (fun j_23 => [(9, some (rowV 3 j_23.1)), (5002, some (CPred.at s5002 (rowV 3 j_23.2)))]) (fun s => j_23 = s) (.cons (t := 1) rfl (.cons (t := 8) rfl (.cons (t := 56) rfl (.cons (t := 57) rfl (.cons (t := 58) rfl Sub.nil))))) SubB.nil ?_ (fun j_23' hj23 => ?_)
          · skip
            refine Cod.block ?_
            refine Cod.seq ?_
            refine Cod.region [([], []), ([], []), ([], [11]), ([11], [11])] mixed (by kernel_rfl) ?_
            obtain ⟨hn24, h⟩ := need_some h
            refine Chain.consA (StepOK.indexAddr .none sl42 ty3 (.tmp rfl (fun _ => trivial)) (.tmp rfl (fun _ => trivial)) (fun _ => hn24)) rfl ?_
            obtain ⟨v4, hv25, h⟩ := bnd_some h
            refine Chain.consA (StepOK.re hv25 (StepOK.load .none ty3 (.tmp rfl (fun _ => trivial)))) rfl ?_
            refine Chain.consW (StepOK.alloc zo3 rfl) rfl rfl ?_
            refine Chain.consN (StepOK.store ty3 rfl rfl (.tmp rfl (fun _ => trivial))) rfl ?_
            refine Chain.nil ?_
            refine Ends.then ?_
            refine Cod.freeze (t := 11) rfl rfl (.cons (t := 5002) rfl (.cons (t := 5004) rfl SubB.nil)) rfl ?_
            refine Cod.seq ?_
            refine Cod.region [([], []), ([], []), ([5004], []), ([], [])] mixed (by kernel_rfl) ?_
            refine Chain.consA (StepOK.move .none (.tmp rfl (fun _ => trivial))) rfl ?_
            refine Chain.consA (StepOK.makeFunc (ι := Int × Bool) (pre := fun i => (fun x0 => route_Lanes_3 x0 l1 v4) i.1 = some i.2) (Ss := fun i => [rep i.1]) (S := fun i => rep i.2) .none fnok62 (fun i h => route_Lanes_3_ok h) (.cons (.tmp rfl (fun _ => trivial)) (.cons (.tmp rfl (fun _ => trivial)) .nil))) rfl ?_
            obtain ⟨k1, hv26, h⟩ := bind_some h
            refine Chain.consA (StepOK.callC .none fnok61 (fun hg => slices_IndexFunc_int_ok  hv26) .rep (.lend (k := 5004) (.told (.tmp rfl (fun _ => trivial)) rfl) (.cons (.tmp rfl (fun _ => trivial)) .nil))) rfl ?_
            refine Chain.consA (StepOK.assign .none (.tmp rfl (fun _ => trivial))) rfl ?_
            refine Chain.nil ?_
            refine Ends.then ?_
            refine Cod.seq ?_
            refine Cod.seq ?_
            refine Cod.region [] mixed (by kernel_rfl) ?_
            refine Chain.cons (StepOK.move .none (.tmp rfl (fun _ => trivial))) rfl ?_
            refine Chain.cons (StepOK.lt .none (.tmp rfl (fun _ => trivial)) (.int (by decide))) rfl ?_
            refine Chain.nil ?_
            refine Ends.then ?_
            obtain ⟨j_27, h, hK27⟩ := bind_some h
            refine Cod.thenJ (ι := ((List Int) × Int)) (fun j_27 => [(12, ⟨True, rep j_27.2⟩)]) (fun j_27 => [(9, some (rowV 3 j_27.1))]) (fun s => j_27 = s) (.cons (t := 1) rfl (.cons (t := 8) rfl (.cons (t := 11) rfl (.cons (t := 56) rfl (.cons (t := 57) rfl (.cons (t := 58) rfl Sub.nil)))))) (.cons (t := 5002) rfl SubB.nil) ?_ (fun j_27' hj27 => ?_)
            · skip
              refine Cod.cond (t := 66) rfl trivial (fun hb28 => ?_) (fun hb28 => ?_)
              · replace h := bif_t h hb28
                refine Cod.seq ?_
                refine Cod.region [([], []), ([5004], []), ([], [])] mixed (by kernel_rfl) ?_
                refine Chain.consA (StepOK.move .none (.tmp rfl (fun _ => trivial))) rfl ?_
                refine Chain.consA (StepOK.lenO (k := 5004) sl42 (.told (.tmp rfl (fun _ => trivial)) rfl)) rfl ?_
                obtain ⟨k2, hv29, h⟩ := bnd_some h
                refine Chain.consA (StepOK.re hv29 (StepOK.assign .none (.tmp rfl (fun _ => trivial)))) rfl ?_
                refine Chain.nil ?_
                refine Ends.then ?_
                refine Cod.region [([], []), ([], []), ([5004], [71, 5004]), ([71], [9, 71])] mixed (by kernel_rfl) ?_
                refine Chain.consA (StepOK.move .none (.tmp rfl (fun _ => trivial))) rfl ?_
                refine Chain.consA (StepOK.buildSlice (xs := [_]) .none sl42 ty3 hz3 (.cons (.int (by decide)) .nil) rfl (by decide)) rfl ?_
                obtain ⟨hn30, h⟩ := need_some h
                refine Chain.consW (StepOK.append (k := 5004) rk42 rfl (.told (.tmp rfl (fun _ => trivial)) rfl) (.tmp rfl (fun _ => trivial)) hn30) rfl rfl ?_
                refine Chain.consW (StepOK.passRow rfl (.tmp rfl)) rfl rfl ?_
                refine Chain.nil ?_
                exact Ends.join _ (some_eq h) (.cons (t := 12) rfl (.cons (t := 1) rfl (.cons (t := 8) rfl (.cons (t := 11) rfl (.cons (t := 56) rfl (.cons (t := 57) rfl (.cons (t := 58) rfl Sub.nil))))))) (.cons (t := 9) rfl (.cons (t := 5002) rfl SubB.nil))
              · replace h := bif_f h hb28
                refine Cod.skip ?_
                refine Ends.anon (t := 9) (g := 5004) rfl rfl trivial rfl ?_
                exact Ends.join _ (some_eq h) (.cons (t := 12) rfl (.cons (t := 1) rfl (.cons (t := 8) rfl (.cons (t := 11) rfl (.cons (t := 56) rfl (.cons (t := 57) rfl (.cons (t := 58) rfl Sub.nil))))))) (.cons (t := 9) rfl (.cons (t := 5002) rfl SubB.nil))
            · subst hj27; have h := hK27; clear hK27
              refine Cod.nameRow (t := 9) (g := 5005) rfl rfl rfl (fun s5005 => ?_)
              refine Cod.seq ?_
              refine Cod.region [([], []), ([], []), ([], []), ([], []), ([], []), ([], []), ([], []), ([5005], []), ([5005], [5005])] mixed (by kernel_rfl) ?_
              refine Chain.consA (StepOK.move .none (.tmp rfl (fun _ => trivial))) rfl ?_
              refine Chain.consA (StepOK.move .none (.tmp rfl (fun _ => trivial))) rfl ?_
              refine Chain.consA (StepOK.load .none ty41 (.tmp rfl (fun _ => trivial))) rfl ?_
              refine Chain.consA (StepOK.load .none ty3 (.tmp rfl (fun _ => trivial))) rfl ?_
              obtain ⟨hn31, h⟩ := need_some h
              refine Chain.consA (StepOK.indexAddr .none sl41 ty46 (.tmp rfl (fun _ => trivial)) (.tmp rfl (fun _ => trivial)) (fun _ => hn31)) rfl ?_
              refine Chain.consA (StepOK.fieldAddr .none fd46_1 hfd46_1 (.tmp rfl (fun _ => trivial))) rfl ?_
              obtain ⟨v5, hv32, h⟩ := bnd_some h
              refine Chain.consA (StepOK.re hv32 (StepOK.load .none ty3 (.tmp rfl (fun _ => trivial)))) rfl ?_
              obtain ⟨hn33, h⟩ := need_some h
              refine Chain.consA (StepOK.indexAddrO (k := 5005) .none sl42 ty3 (.tmp rfl (fun _ => trivial)) rfl (.tmp rfl (fun _ => trivial)) (fun _ => hn33)) rfl ?_
              refine Chain.consN (StepOK.storeElem0 (k := 5005) ty3 (.tmp rfl (fun _ => trivial)) rfl (.tmp rfl (fun _ => trivial)) hn33) rfl ?_
              refine Chain.nil ?_
              refine Ends.then ?_
              obtain ⟨last1, hv34, h⟩ := bnd_some h
              refine Cod.reB (t := 5005) rfl (congrArg (fun y => CPred.at s5005 (rowV 3 y)) hv34) ?_
              refine Cod.region [([], []), ([], []), ([], []), ([5002], []), ([5002], [5002])] mixed (by kernel_rfl) ?_
              refine Chain.consA (StepOK.move .none (.tmp rfl (fun _ => trivial))) rfl ?_
              refine Chain.consA (StepOK.load .none ty3 (.tmp rfl (fun _ => trivial))) rfl ?_
              refine Chain.consA (StepOK.move .none (.tmp rfl (fun _ => trivial))) rfl ?_
              obtain ⟨hn35, h⟩ := need_some h
              refine Chain.consA (StepOK.indexAddrO (k := 5002) .none sl42 ty3 (.tmp rfl (fun _ => trivial)) rfl (.tmp rfl (fun _ => trivial)) (fun _ => hn35)) rfl ?_
              refine Chain.consN (StepOK.storeElem0 (k := 5002) ty3 (.tmp rfl (fun _ => trivial)) rfl (.tmp rfl (fun _ => trivial)) hn35) rfl ?_
              refine Chain.nil ?_
              refine Ends.blkNormal ?_
              refine Ends.anon (t := 9) (g := 5005) rfl rfl trivial rfl ?_
              exact Ends.join _ (some_eq h) (.cons (t := 1) rfl (.cons (t := 8) rfl (.cons (t := 56) rfl (.cons (t := 57) rfl (.cons (t := 58) rfl Sub.nil))))) (.cons (t := 9) rfl (.cons (t := 5002) rfl SubB.nil))
          · subst hj23; have h := hK23; clear hK23
            refine Cod.nameRow (t := 9) (g := 5006) rfl rfl rfl (fun s5006 => ?_)
            refine Cod.region [] mixed (by kernel_rfl) ?_
            refine Chain.cons (StepOK.addW .none (.tmp rfl (fun _ => trivial)) (.int (by decide))) rfl ?_
            refine Chain.cons (StepOK.move .none (.tmp rfl (fun _ => trivial))) rfl ?_
            refine Chain.nil ?_
            refine Ends.anon (t := 9) (g := 5006) rfl rfl trivial rfl ?_
            exact Ends.againL (some_eq h) (.cons (t := 58) rfl (.cons (t := 1) rfl (.cons (t := 8) rfl (.cons (t := 56) rfl (.cons (t := 57) rfl Sub.nil))))) (.cons (t := 9) rfl (.cons (t := 5002) rfl SubB.nil))
        · replace h := bif_f h hb22
          refine Cod.exit ?_
          refine Ends.thenExit ?_
          refine Ends.thenExit ?_
          refine Ends.blkExit ?_
          refine Ends.anon (t := 9) (g := 5004) rfl rfl trivial rfl ?_
          replace h := hD21 _ (some_eq h)
          exact Ends.join _ (some_eq h) (.cons (t := 8) rfl Sub.nil) (.cons (t := 9) rfl (.cons (t := 5002) rfl SubB.nil))
      · subst hj20; have h := hK20; clear hK20
        refine Cod.freezeRow (g := 5002) (ts := [8]) rfl (.cons (t := 8) rfl trivial .nil) SubB.nil rfl ?_
        refine Cod.seq ?_
        refine Cod.region [] mixed (by kernel_rfl) ?_
        refine Chain.cons (StepOK.move .none (.tmp rfl (fun _ => trivial))) rfl ?_
        refine Chain.cons (StepOK.assign .none (.tmp rfl (fun _ => trivial))) rfl ?_
        refine Chain.cons (StepOK.assign .none (.int (by decide))) rfl ?_
        refine Chain.nil ?_
        refine Ends.then ?_
        refine Cod.ret ?_
        obtain rfl := some_eq h
        exact Ends.ret2 (.inl rfl) Try.results20 (ResOK.tmp rfl trivial Imp.refl) (ResOK.tmp rfl trivial Imp.refl)

theorem ref_When_ok {is1 : Bool} {e1 : Int} {r : Int}  (h : ref_When is1 e1 = some r) : FSpec Try.prog 12 [rep is1, rep e1] (rep r) := by
  unfold ref_When at h
  refine FSpec.intro (n := 7) fnok12 Try.func12 rfl Try.ntmps12 rfl (fun F => ?_)
  refine Cod.seq ?_
  refine Cod.region [] mixed (by kernel_rfl) ?_
  refine Chain.cons (StepOK.assign .none (.int (by decide))) rfl ?_
  refine Chain.nil ?_
  refine Ends.then ?_
  refine Cod.seq ?_
  refine Cod.seq ?_
  refine Cod.region [] mixed (by kernel_rfl) ?_
  refine Chain.cons (StepOK.move .none (.tmp rfl (fun _ => trivial))) rfl ?_
  refine Chain.nil ?_
  refine Ends.then ?_
  refine Cod.cond (t := 5) rfl trivial (fun hb1 => ?_) (fun hb1 => ?_)
  · replace h := bif_t h hb1
    refine Cod.seq ?_
    refine Cod.region [] mixed (by kernel_rfl) ?_
    refine Chain.cons (StepOK.move .none (.tmp rfl (fun _ => trivial))) rfl ?_
    refine Chain.cons (StepOK.assign .none (.tmp rfl (fun _ => trivial))) rfl ?_
    refine Chain.nil ?_
    refine Ends.then ?_
    refine Cod.ret ?_
    refine Ends.thenRet ?_
    obtain rfl := some_eq h
    exact Ends.ret1 (.inl rfl) Try.results12 (ResOK.tmp rfl trivial Imp.refl)
  · replace h := bif_f h hb1
    refine Cod.skip ?_
    refine Ends.then ?_
    refine Cod.seq ?_
    refine Cod.region [] mixed (by kernel_rfl) ?_
    refine Chain.cons (StepOK.assign .none (.int (by decide))) rfl ?_
    refine Chain.nil ?_
    refine Ends.then ?_
    refine Cod.ret ?_
    obtain rfl := some_eq h
    exact Ends.ret1 (.inl rfl) Try.results12 (ResOK.tmp rfl trivial Imp.refl)

theorem ref_In_ok {n1 : Int} {low1 : Int} {high1 : Int} {r : Bool}  (h : ref_In n1 low1 high1 = some r) : FSpec Try.prog 13 [rep n1, rep low1, rep high1] (rep r) := by
  unfold ref_In at h
  refine FSpec.intro (n := 15) fnok13 Try.func13 rfl Try.ntmps13 rfl (fun F => ?_)
  refine Cod.seq ?_
  refine Cod.region [] mixed (by kernel_rfl) ?_
  refine Chain.cons (StepOK.assign .none .bool) rfl ?_
  refine Chain.nil ?_
  refine Ends.then ?_
  refine Cod.seq ?_
  refine Cod.region [] mixed (by kernel_rfl) ?_
  refine Chain.cons (StepOK.move .none (.tmp rfl (fun _ => trivial))) rfl ?_
  refine Chain.cons (StepOK.move .none (.tmp rfl (fun _ => trivial))) rfl ?_
  refine Chain.cons (StepOK.ge .none (.tmp rfl (fun _ => trivial)) (.tmp rfl (fun _ => trivial))) rfl ?_
  refine Chain.cons (StepOK.move .none (.tmp rfl (fun _ => trivial))) rfl ?_
  refine Chain.cons (StepOK.move (.at rfl rfl) (.tmp rfl (fun _ => trivial))) rfl ?_
  refine Chain.cons (StepOK.move (.at rfl rfl) (.tmp rfl (fun _ => trivial))) rfl ?_
  refine Chain.cons (StepOK.le (.at rfl rfl) (.tmp rfl id) (.tmp rfl id)) rfl ?_
  refine Chain.cons (StepOK.pickAnd .none (.tmp rfl (fun _ => trivial)) (.tmp rfl id)) rfl ?_
  refine Chain.cons (StepOK.assign .none (.tmp rfl (fun _ => trivial))) rfl ?_
  refine Chain.nil ?_
  refine Ends.then ?_
  refine Cod.ret ?_
  obtain rfl := some_eq h
  exact Ends.ret1 (.inl rfl) Try.results13 (ResOK.tmp rfl trivial Imp.refl)

theorem ref_First_ok {l1 : (List Int)} {r : Int}  (h : ref_First l1 = some r) : FSpec Try.prog 10 [rep l1] (rep r) := by
  unfold ref_First at h
  refine FSpec.intro (n := 15) fnok10 Try.func10 rfl Try.ntmps10 rfl (fun F => ?_)
  refine Cod.seq ?_
  refine Cod.region [] mixed (by kernel_rfl) ?_
  refine Chain.cons (StepOK.assign .none (.int (by decide))) rfl ?_
  refine Chain.nil ?_
  refine Ends.then ?_
  refine Cod.seq ?_
  refine Cod.seq ?_
  refine Cod.region [] mixed (by kernel_rfl) ?_
  refine Chain.cons (StepOK.move .none (.tmp rfl (fun _ => trivial))) rfl ?_
  refine Chain.cons (StepOK.len .none sl81 (.tmp rfl (fun _ => trivial))) rfl ?_
  refine Chain.cons (StepOK.move .none (.int (by decide))) rfl ?_
  refine Chain.nil ?_
  refine Ends.then ?_
  obtain ⟨o_1, h, hK1⟩ := bindR_some h
  refine Cod.thenJ (ι := Unit) (fun j_1 => []) (fun j_1 => []) (fun s => o_1 = Res.nx s) Sub.nil SubB.nil ?_ (fun j_1 hj1 => ?_)
  · skip
    refine Cod.block ?_
    refine Cod.rforEL h (fun p2_ => [(7, ⟨True, rep p2_.1⟩)]) (fun p2_ => []) (.cons (t := 7) rfl Sub.nil) SubB.nil (.cons (t := 5) rfl (.cons (t := 6) rfl Sub.nil)) SubB.nil (fun p2_ o_2 h hD2 => ?_)
    refine Cod.seq ?_
    refine Cod.region [] mixed (by kernel_rfl) ?_
    refine Chain.cons (StepOK.lt .none (.tmp rfl (fun _ => trivial)) (.tmp rfl (fun _ => trivial))) rfl ?_
    refine Chain.nil ?_
    refine Ends.then ?_
    refine Cod.seq ?_
    refine Cod.cond (t := 8) rfl trivial (fun hb3 => ?_) (fun hb3 => ?_)
    · replace h := bif_t h hb3
      refine Cod.skip ?_
      refine Ends.then ?_
      refine Cod.seq ?_
      obtain ⟨o_4, h, hK4⟩ := bindD_some h
      unfold ref_First_L1 at h
      refine Cod.thenJ (ι := Unit) (fun j_4 => []) (fun j_4 => []) (fun s => o_4 = Res.nx s) (.cons (t := 5) rfl (.cons (t := 6) rfl (.cons (t := 7) rfl Sub.nil))) SubB.nil ?_ (fun j_4 hj4 => ?_)
      · skip
        refine Cod.block ?_
        refine Cod.seq ?_
        refine Cod.region [] mixed (by kernel_rfl) ?_
        obtain ⟨hn5, h⟩ := need_some h
        refine Chain.cons (StepOK.indexAddr .none sl81 ty26 (.tmp rfl (fun _ => trivial)) (.tmp rfl (fun _ => trivial)) (fun _ => hn5)) rfl ?_
        refine Chain.cons (StepOK.load .none ty26 (.tmp rfl (fun _ => trivial))) rfl ?_
        obtain ⟨e1, hv6, h⟩ := bnd_some h
        refine Chain.cons (StepOK.re hv6 (StepOK.assign .none (.tmp rfl (fun _ => trivial)))) rfl ?_
        refine Chain.nil ?_
        refine Ends.then ?_
        refine Cod.seq ?_
        refine Cod.region [] mixed (by kernel_rfl) ?_
        refine Chain.cons (StepOK.move .none (.tmp rfl (fun _ => trivial))) rfl ?_
        refine Chain.cons (StepOK.neI .none (.tmp rfl (fun _ => trivial)) (.int (by decide))) rfl ?_
        refine Chain.nil ?_
        refine Ends.then ?_
        refine Cod.cond (t := 12) rfl trivial (fun hb7 => ?_) (fun hb7 => ?_)
        · replace h := bif_t h hb7
          refine Cod.seq ?_
          refine Cod.region [] mixed (by kernel_rfl) ?_
          refine Chain.cons (StepOK.move .none (.tmp rfl (fun _ => trivial))) rfl ?_
          refine Chain.cons (StepOK.assign .none (.tmp rfl (fun _ => trivial))) rfl ?_
          refine Chain.nil ?_
          refine Ends.then ?_
          refine Cod.ret ?_
          refine Ends.blkRet ?_
          refine Ends.thenRet ?_
          refine Ends.thenRet ?_
          refine Ends.blkRet ?_
          refine Ends.thenRet ?_
          replace h := resd_ab hK4 (some_eq h)
          replace h := hD2 _ (some_eq h)
          replace h := resb_ab hK1 (some_eq h)
          obtain rfl := some_eq h
          exact Ends.ret1 (.inl rfl) Try.results10 (ResOK.tmp rfl trivial Imp.refl)
        · replace h := bif_f h hb7
          refine Cod.skip ?_
          refine Ends.blkNormal ?_
          exact Ends.join _ (some_eq h) (.cons (t := 5) rfl (.cons (t := 6) rfl (.cons (t := 7) rfl Sub.nil))) SubB.nil
      · have h := resd_nx hK4 hj4
        refine Cod.region [] mixed (by kernel_rfl) ?_
        refine Chain.cons (StepOK.addW .none (.tmp rfl (fun _ => trivial)) (.int (by decide))) rfl ?_
        refine Chain.cons (StepOK.move .none (.tmp rfl (fun _ => trivial))) rfl ?_
        refine Chain.nil ?_
        exact Ends.againL (some_eq h) (.cons (t := 7) rfl (.cons (t := 5) rfl (.cons (t := 6) rfl Sub.nil))) SubB.nil
    · replace h := bif_f h hb3
      refine Cod.exit ?_
      refine Ends.thenExit ?_
      refine Ends.thenExit ?_
      refine Ends.blkExit ?_
      replace h := hD2 _ (some_eq h)
      exact Ends.join _ (some_eq h) Sub.nil SubB.nil
  · have h := resb_nx hK1 hj1
    refine Cod.seq ?_
    refine Cod.region [] mixed (by kernel_rfl) ?_
    refine Chain.cons (StepOK.assign .none (.int (by decide))) rfl ?_
    refine Chain.nil ?_
    refine Ends.then ?_
    refine Cod.ret ?_
    obtain rfl := some_eq h
    exact Ends.ret1 (.inl rfl) Try.results10 (ResOK.tmp rfl trivial Imp.refl)

theorem geom_out_ok {n1 : Int} {r : Bool}  (h : geom_out n1 = some r) : FSpec Try.prog 94 [rep n1] (rep r) := by
  unfold geom_out at h
  refine FSpec.intro (n := 9) fnok94 Try.func94 rfl Try.ntmps94 rfl (fun F => ?_)
  refine Cod.seq ?_
  refine Cod.region [] mixed (by kernel_rfl) ?_
  refine Chain.cons (StepOK.assign .none .bool) rfl ?_
  refine Chain.nil ?_
  refine Ends.then ?_
  refine Cod.seq ?_
  refine Cod.region [] mixed (by kernel_rfl) ?_
  refine Chain.cons (StepOK.move .none (.tmp rfl (fun _ => trivial))) rfl ?_
  refine Chain.cons (StepOK.lt .none (.tmp rfl (fun _ => trivial)) (.int (by decide))) rfl ?_
  refine Chain.cons (StepOK.move .none (.tmp rfl (fun _ => trivial))) rfl ?_
  refine Chain.cons (StepOK.move (.at rfl rfl) (.tmp rfl (fun _ => trivial))) rfl ?_
  refine Chain.cons (StepOK.gt (.at rfl rfl) (.tmp rfl id) (.int (by decide))) rfl ?_
  refine Chain.cons (StepOK.pickOr .none (.tmp rfl (fun _ => trivial)) (.tmp rfl id)) rfl ?_
  refine Chain.cons (StepOK.assign .none (.tmp rfl (fun _ => trivial))) rfl ?_
  refine Chain.nil ?_
  refine Ends.then ?_
  refine Cod.ret ?_
  obtain rfl := some_eq h
  exact Ends.ret1 (.inl rfl) Try.results94 (ResOK.tmp rfl trivial Imp.refl)

theorem geom_CheckPoint_ok {p1 : Point} {r : Int}  (h : geom_CheckPoint p1 = some r) : FSpec Try.prog 71 [rep p1] (rep r) := by
  unfold geom_CheckPoint at h
  refine FSpec.intro (n := 11) fnok71 Try.func71 rfl Try.ntmps71 rfl (fun F => ?_)
  refine Cod.seq ?_
  refine Cod.region [] mixed (by kernel_rfl) ?_
  refine Chain.cons (StepOK.box .none (.tmp rfl (fun _ => trivial))) rfl ?_
  refine Chain.cons (StepOK.assign .none (.int (by decide))) rfl ?_
  refine Chain.nil ?_
  refine Ends.then ?_
  refine Cod.seq ?_
  refine Cod.seq ?_
  refine Cod.region [] mixed (by kernel_rfl) ?_
  refine Chain.cons (StepOK.fieldAddr .none fd53_0 hfd53_0 (.tmp rfl (fun _ => trivial))) rfl ?_
  refine Chain.cons (StepOK.load .none ty3 (.tmp rfl (fun _ => trivial))) rfl ?_
  obtain ⟨r1, hv1, h⟩ := bind_some h
  refine Chain.cons (StepOK.call .none (geom_out_ok hv1) (.cons (.tmp rfl (fun _ => trivial)) .nil)) rfl ?_
  refine Chain.cons (StepOK.move .none (.tmp rfl (fun _ => trivial))) rfl ?_
  refine Chain.cons (StepOK.fieldAddr (.at rfl rfl) fd53_1 hfd53_1 (.tmp rfl (fun _ => trivial))) rfl ?_
  refine Chain.cons (StepOK.load (.at rfl rfl) ty3 (.tmp rfl id)) rfl ?_
  obtain ⟨r2, hv2, h⟩ := bind_some h
  refine Chain.cons (StepOK.callIf (.at rfl rfl) fnok94 (fun hg => geom_out_ok ((fun hg => gd_some hv2 ((notT hg.2))) hg)) (.cons (.tmp rfl id) .nil) (fun h => h)) rfl ?_
  refine Chain.cons (StepOK.pickOr .none (.tmp rfl (fun _ => trivial)) (.tmp rfl id)) rfl ?_
  refine Chain.nil ?_
  refine Ends.then ?_
  refine Cod.cond (t := 10) rfl trivial (fun hb3 => ?_) (fun hb3 => ?_)
  · replace h := bif_t h hb3
    refine Cod.seq ?_
    refine Cod.region [] mixed (by kernel_rfl) ?_
    refine Chain.cons (StepOK.assign .none (.int (by decide))) rfl ?_
    refine Chain.nil ?_
    refine Ends.then ?_
    refine Cod.ret ?_
    refine Ends.thenRet ?_
    obtain rfl := some_eq h
    exact Ends.ret1 (.inl rfl) Try.results71 (ResOK.tmp rfl trivial Imp.refl)
  · replace h := bif_f h hb3
    refine Cod.skip ?_
    refine Ends.then ?_
    refine Cod.seq ?_
    refine Cod.region [] mixed (by kernel_rfl) ?_
    refine Chain.cons (StepOK.assign .none (.int (by decide))) rfl ?_
    refine Chain.nil ?_
    refine Ends.then ?_
    refine Cod.ret ?_
    obtain rfl := some_eq h
    exact Ends.ret1 (.inl rfl) Try.results71 (ResOK.tmp rfl trivial Imp.refl)

theorem route_isSide_ok {side1 : Int} {r : Bool}  (h : route_isSide side1 = some r) : FSpec Try.prog 72 [rep side1] (rep r) := by
  unfold route_isSide at h
  refine FSpec.intro (n := 9) fnok72 Try.func72 rfl Try.ntmps72 rfl (fun F => ?_)
  refine Cod.seq ?_
  refine Cod.region [] mixed (by kernel_rfl) ?_
  refine Chain.cons (StepOK.assign .none .bool) rfl ?_
  refine Chain.nil ?_
  refine Ends.then ?_
  refine Cod.seq ?_
  refine Cod.region [] mixed (by kernel_rfl) ?_
  refine Chain.cons (StepOK.move .none (.tmp rfl (fun _ => trivial))) rfl ?_
  refine Chain.cons (StepOK.ge .none (.tmp rfl (fun _ => trivial)) (.int (by decide))) rfl ?_
  refine Chain.cons (StepOK.move .none (.tmp rfl (fun _ => trivial))) rfl ?_
  refine Chain.cons (StepOK.move (.at rfl rfl) (.tmp rfl (fun _ => trivial))) rfl ?_
  refine Chain.cons (StepOK.le (.at rfl rfl) (.tmp rfl id) (.int (by decide))) rfl ?_
  refine Chain.cons (StepOK.pickAnd .none (.tmp rfl (fun _ => trivial)) (.tmp rfl id)) rfl ?_
  refine Chain.cons (StepOK.assign .none (.tmp rfl (fun _ => trivial))) rfl ?_
  refine Chain.nil ?_
  refine Ends.then ?_
  refine Cod.ret ?_
  obtain rfl := some_eq h
  exact Ends.ret1 (.inl rfl) Try.results72 (ResOK.tmp rfl trivial Imp.refl)

theorem geom_CheckBox_ok {b1 : Box} {r : Int}  (h : geom_CheckBox b1 = some r) : FSpec Try.prog 41 [rep b1] (rep r) := by
  unfold geom_CheckBox at h
  refine FSpec.intro (n := 31) fnok41 Try.func41 rfl Try.ntmps41 rfl (fun F => ?_)
  refine Cod.seq ?_
  refine Cod.region [] mixed (by kernel_rfl) ?_
  refine Chain.cons (StepOK.box .none (.tmp rfl (fun _ => trivial))) rfl ?_
  refine Chain.cons (StepOK.assign .none (.int (by decide))) rfl ?_
  refine Chain.nil ?_
  refine Ends.then ?_
  refine Cod.seq ?_
  refine Cod.seq ?_
  refine Cod.region [] mixed (by kernel_rfl) ?_
  refine Chain.cons (StepOK.fieldAddr .none fd25_0 hfd25_0 (.tmp rfl (fun _ => trivial))) rfl ?_
  refine Chain.cons (StepOK.load .none ty3 (.tmp rfl (fun _ => trivial))) rfl ?_
  obtain ⟨r1, hv1, h⟩ := bind_some h
  refine Chain.cons (StepOK.call .none (geom_out_ok hv1) (.cons (.tmp rfl (fun _ => trivial)) .nil)) rfl ?_
  refine Chain.cons (StepOK.move .none (.tmp rfl (fun _ => trivial))) rfl ?_
  refine Chain.cons (StepOK.fieldAddr (.at rfl rfl) fd25_1 hfd25_1 (.tmp rfl (fun _ => trivial))) rfl ?_
  refine Chain.cons (StepOK.load (.at rfl rfl) ty3 (.tmp rfl id)) rfl ?_
  obtain ⟨r2, hv2, h⟩ := bind_some h
  refine Chain.cons (StepOK.callIf (.at rfl rfl) fnok94 (fun hg => geom_out_ok ((fun hg => gd_some hv2 ((notT hg.2))) hg)) (.cons (.tmp rfl id) .nil) (fun h => h)) rfl ?_
  refine Chain.cons (StepOK.pickOr .none (.tmp rfl (fun _ => trivial)) (.tmp rfl id)) rfl ?_
  refine Chain.cons (StepOK.move .none (.tmp rfl (fun _ => trivial))) rfl ?_
  refine Chain.cons (StepOK.fieldAddr (.at rfl rfl) fd25_2 hfd25_2 (.tmp rfl (fun _ => trivial))) rfl ?_
  refine Chain.cons (StepOK.load (.at rfl rfl) ty3 (.tmp rfl id)) rfl ?_
  refine Chain.cons (StepOK.lt (.at rfl rfl) (.tmp rfl id) (.int (by decide))) rfl ?_
  refine Chain.cons (StepOK.pickOr .none (.tmp rfl (fun _ => trivial)) (.tmp rfl id)) rfl ?_
  refine Chain.cons (StepOK.move .none (.tmp rfl (fun _ => trivial))) rfl ?_
  refine Chain.cons (StepOK.fieldAddr (.at rfl rfl) fd25_2 hfd25_2 (.tmp rfl (fun _ => trivial))) rfl ?_
  refine Chain.cons (StepOK.load (.at rfl rfl) ty3 (.tmp rfl id)) rfl ?_
  refine Chain.cons (StepOK.gt (.at rfl rfl) (.tmp rfl id) (.int (by decide))) rfl ?_
  refine Chain.cons (StepOK.pickOr .none (.tmp rfl (fun _ => trivial)) (.tmp rfl id)) rfl ?_
  refine Chain.cons (StepOK.move .none (.tmp rfl (fun _ => trivial))) rfl ?_
  refine Chain.cons (StepOK.fieldAddr (.at rfl rfl) fd25_3 hfd25_3 (.tmp rfl (fun _ => trivial))) rfl ?_
  refine Chain.cons (StepOK.load (.at rfl rfl) ty3 (.tmp rfl id)) rfl ?_
  refine Chain.cons (StepOK.lt (.at rfl rfl) (.tmp rfl id) (.int (by decide))) rfl ?_
  refine Chain.cons (StepOK.pickOr .none (.tmp rfl (fun _ => trivial)) (.tmp rfl id)) rfl ?_
  refine Chain.cons (StepOK.move .none (.tmp rfl (fun _ => trivial))) rfl ?_
  refine Chain.cons (StepOK.fieldAddr (.at rfl rfl) fd25_3 hfd25_3 (.tmp rfl (fun _ => trivial))) rfl ?_
  refine Chain.cons (StepOK.load (.at rfl rfl) ty3 (.tmp rfl id)) rfl ?_
  refine Chain.cons (StepOK.gt (.at rfl rfl) (.tmp rfl id) (.int (by decide))) rfl ?_
  refine Chain.cons (StepOK.pickOr .none (.tmp rfl (fun _ => trivial)) (.tmp rfl id)) rfl ?_
  refine Chain.nil ?_
  refine Ends.then ?_
  refine Cod.cond (t := 30) rfl trivial (fun hb3 => ?_) (fun hb3 => ?_)
  · replace h := bif_t h hb3
    refine Cod.seq ?_
    refine Cod.region [] mixed (by kernel_rfl) ?_
    refine Chain.cons (StepOK.assign .none (.int (by decide))) rfl ?_
    refine Chain.nil ?_
    refine Ends.then ?_
    refine Cod.ret ?_
    refine Ends.thenRet ?_
    obtain rfl := some_eq h
    exact Ends.ret1 (.inl rfl) Try.results41 (ResOK.tmp rfl trivial Imp.refl)
  · replace h := bif_f h hb3
    refine Cod.skip ?_
    refine Ends.then ?_
    refine Cod.seq ?_
    refine Cod.region [] mixed (by kernel_rfl) ?_
    refine Chain.cons (StepOK.assign .none (.int (by decide))) rfl ?_
    refine Chain.nil ?_
    refine Ends.then ?_
    refine Cod.ret ?_
    obtain rfl := some_eq h
    exact Ends.ret1 (.inl rfl) Try.results41 (ResOK.tmp rfl trivial Imp.refl)

theorem route_toward_ok {side1 : Int} {r : Point}  (h : route_toward side1 = some r) : FSpec Try.prog 102 [rep side1] (rep r) := by
  unfold route_toward at h
  refine FSpec.intro (n := 11) fnok102 Try.func102 rfl Try.ntmps102 rfl (fun F => ?_)
  refine Cod.seq ?_
  refine Cod.region [([], [2])] mixed (by kernel_rfl) ?_
  refine Chain.consW (StepOK.alloc zo53 rfl) rfl rfl ?_
  refine Chain.nil ?_
  refine Ends.then ?_
  obtain ⟨v1, hv1, h⟩ := bnd_some h
  refine Cod.reB (t := 2) rfl (congrArg (cont 53) hv1) ?_
  refine Cod.nameBox (t := 2) (g := 5001) rfl rfl (fun m5001 => ?_)
  refine Cod.seq ?_
  refine Cod.region [([], []), ([], []), ([], []), ([], []), ([], []), ([], []), ([], []), ([], []), ([5001], [5001])] mixed (by kernel_rfl) ?_
  refine Chain.consA (StepOK.buildF (y := (⟨(0 : Int), (0 : Int)⟩ : Point)) .none bu53 zc53 rfl .nil .nil) rfl ?_
  refine Chain.consA (StepOK.buildF (y := (⟨(0 : Int), (-1)⟩ : Point)) .none bu53 zc53 rfl (.cons (.int (by decide)) .nil) (.cons rfl sf53_1 .nil)) rfl ?_
  refine Chain.consA (StepOK.buildF (y := (⟨1, (0 : Int)⟩ : Point)) .none bu53 zc53 rfl (.cons (.int (by decide)) .nil) (.cons rfl sf53_0 .nil)) rfl ?_
  refine Chain.consA (StepOK.buildF (y := (⟨(0 : Int), 1⟩ : Point)) .none bu53 zc53 rfl (.cons (.int (by decide)) .nil) (.cons rfl sf53_1 .nil)) rfl ?_
  refine Chain.consA (StepOK.buildF (y := (⟨(-1), (0 : Int)⟩ : Point)) .none bu53 zc53 rfl (.cons (.int (by decide)) .nil) (.cons rfl sf53_0 .nil)) rfl ?_
  refine Chain.consA (StepOK.buildArr (xs := [_, _, _, _, _]) .none ao156 ty53 az156 (.cons (.tmp rfl (fun _ => trivial)) (.cons (.tmp rfl (fun _ => trivial)) (.cons (.tmp rfl (fun _ => trivial)) (.cons (.tmp rfl (fun _ => trivial)) (.cons (.tmp rfl (fun _ => trivial)) .nil))))) rfl) rfl ?_
  refine Chain.consA (StepOK.move .none (.tmp rfl (fun _ => trivial))) rfl ?_
  obtain ⟨hn2, h⟩ := need_some h
  obtain ⟨v2, hv3, h⟩ := bnd_some h
  refine Chain.consA (StepOK.re hv3 (StepOK.indexArr .none ao156 ty53 (.tmp rfl (fun _ => trivial)) (.tmp rfl (fun _ => trivial)) (fun _ => hn2))) rfl ?_
  refine Chain.consN (StepOK.storeAt0 (g := 5001) ty53 rfl (.tmp rfl (fun _ => trivial)) (.tmp rfl (fun _ => trivial))) rfl ?_
  refine Chain.nil ?_
  refine Ends.then ?_
  refine Cod.freezeBox (g := 5001) (ts := [2]) rfl (.cons (t := 2) rfl trivial .nil) SubB.nil rfl ?_
  refine Cod.ret ?_
  obtain rfl := some_eq h
  exact Ends.ret1 (.inl rfl) Try.results102 (ResOK.cellR ty53 rfl trivial Imp.refl)

theorem route_away_ok {p1 : Point} {d1 : Point} {n1 : Int} {r : Point}  (h : route_away p1 d1 n1 = some r) : FSpec Try.prog 45 [rep p1, rep d1, rep n1] (rep r) := by
  unfold route_away at h
  refine FSpec.intro (n := 22) fnok45 Try.func45 rfl Try.ntmps45 rfl (fun F => ?_)
  refine Cod.seq ?_
  refine Cod.region [([], []), ([], []), ([], [6])] mixed (by kernel_rfl) ?_
  refine Chain.consA (StepOK.box .none (.tmp rfl (fun _ => trivial))) rfl ?_
  refine Chain.consA (StepOK.box .none (.tmp rfl (fun _ => trivial))) rfl ?_
  refine Chain.consW (StepOK.alloc zo53 rfl) rfl rfl ?_
  refine Chain.nil ?_
  refine Ends.then ?_
  obtain ⟨v1, hv1, h⟩ := bnd_some h
  refine Cod.reB (t := 6) rfl (congrArg (cont 53) hv1) ?_
  refine Cod.nameBox (t := 6) (g := 5001) rfl rfl (fun m5001 => ?_)
  refine Cod.seq ?_
  refine Cod.region [([], []), ([], []), ([], []), ([], []), ([], []), ([], []), ([], []), ([], []), ([], []), ([], []), ([], []), ([], []), ([], []), ([], []), ([], []), ([5001], [5001])] mixed (by kernel_rfl) ?_
  refine Chain.consA (StepOK.fieldAddr .none fd53_0 hfd53_0 (.tmp rfl (fun _ => trivial))) rfl ?_
  refine Chain.consA (StepOK.load .none ty3 (.tmp rfl (fun _ => trivial))) rfl ?_
  refine Chain.consA (StepOK.move .none (.tmp rfl (fun _ => trivial))) rfl ?_
  refine Chain.consA (StepOK.fieldAddr .none fd53_0 hfd53_0 (.tmp rfl (fun _ => trivial))) rfl ?_
  refine Chain.consA (StepOK.load .none ty3 (.tmp rfl (fun _ => trivial))) rfl ?_
  refine Chain.consA (StepOK.mulW .none (.tmp rfl (fun _ => trivial)) (.tmp rfl (fun _ => trivial))) rfl ?_
  refine Chain.consA (StepOK.addW .none (.tmp rfl (fun _ => trivial)) (.tmp rfl (fun _ => trivial))) rfl ?_
  refine Chain.consA (StepOK.fieldAddr .none fd53_1 hfd53_1 (.tmp rfl (fun _ => trivial))) rfl ?_
  refine Chain.consA (StepOK.load .none ty3 (.tmp rfl (fun _ => trivial))) rfl ?_
  refine Chain.consA (StepOK.move .none (.tmp rfl (fun _ => trivial))) rfl ?_
  refine Chain.consA (StepOK.fieldAddr .none fd53_1 hfd53_1 (.tmp rfl (fun _ => trivial))) rfl ?_
  refine Chain.consA (StepOK.load .none ty3 (.tmp rfl (fun _ => trivial))) rfl ?_
  refine Chain.consA (StepOK.mulW .none (.tmp rfl (fun _ => trivial)) (.tmp rfl (fun _ => trivial))) rfl ?_
  refine Chain.consA (StepOK.addW .none (.tmp rfl (fun _ => trivial)) (.tmp rfl (fun _ => trivial))) rfl ?_
  obtain ⟨v2, hv2, h⟩ := bnd_some h
  refine Chain.consA (StepOK.re hv2 (StepOK.buildF (y := (⟨W (p1.X + (W (n1 * d1.X))), W (p1.Y + (W (n1 * d1.Y)))⟩ : Point)) .none bu53 zc53 rfl (.cons (.tmp rfl (fun _ => trivial)) (.cons (.tmp rfl (fun _ => trivial)) .nil)) (.cons rfl sf53_0 (.cons rfl sf53_1 .nil)))) rfl ?_
  refine Chain.consN (StepOK.storeAt0 (g := 5001) ty53 rfl (.tmp rfl (fun _ => trivial)) (.tmp rfl (fun _ => trivial))) rfl ?_
  refine Chain.nil ?_
  refine Ends.then ?_
  refine Cod.freezeBox (g := 5001) (ts := [6]) rfl (.cons (t := 6) rfl trivial .nil) SubB.nil rfl ?_
  refine Cod.ret ?_
  obtain rfl := some_eq h
  exact Ends.ret1 (.inl rfl) Try.results45 (ResOK.cellR ty53 rfl trivial Imp.refl)

theorem route_ends_ok {t1 : Task} {r : (Point × Point)}  (h : route_ends t1 = some r) : FSpec Try.prog 73 [rep t1] (tup [rep r.1, rep r.2]) := by
  unfold route_ends at h
  refine FSpec.intro (n := 20) fnok73 Try.func73 rfl Try.ntmps73 rfl (fun F => ?_)
  refine Cod.seq ?_
  refine Cod.region [([], []), ([], [2]), ([], [3])] mixed (by kernel_rfl) ?_
  refine Chain.consA (StepOK.box .none (.tmp rfl (fun _ => trivial))) rfl ?_
  refine Chain.consW (StepOK.alloc zo53 rfl) rfl rfl ?_
  refine Chain.consW (StepOK.alloc zo53 rfl) rfl rfl ?_
  refine Chain.nil ?_
  refine Ends.then ?_
  obtain ⟨start1, hv1, h⟩ := bnd_some h
  refine Cod.reB (t := 2) rfl (congrArg (cont 53) hv1) ?_
  obtain ⟨end1, hv2, h⟩ := bnd_some h
  refine Cod.reB (t := 3) rfl (congrArg (cont 53) hv2) ?_
  refine Cod.nameBox (t := 2) (g := 5001) rfl rfl (fun m5001 => ?_)
  refine Cod.nameBox (t := 3) (g := 5002) rfl rfl (fun m5002 => ?_)
  refine Cod.seq ?_
  refine Cod.region [([], []), ([], []), ([], []), ([], []), ([], []), ([], []), ([], []), ([], []), ([], []), ([], []), ([], []), ([], []), ([], []), ([], []), ([], []), ([], []), ([5001], [5001]), ([5002], [5002])] mixed (by kernel_rfl) ?_
  refine Chain.consA (StepOK.fieldAddr .none fd55_0 hfd55_0 (.tmp rfl (fun _ => trivial))) rfl ?_
  refine Chain.consA (StepOK.load .none ty53 (.tmp rfl (fun _ => trivial))) rfl ?_
  refine Chain.consA (StepOK.fieldAddr .none fd55_1 hfd55_1 (.tmp rfl (fun _ => trivial))) rfl ?_
  refine Chain.consA (StepOK.load .none ty3 (.tmp rfl (fun _ => trivial))) rfl ?_
  obtain ⟨r1, hv3, h⟩ := bind_some h
  refine Chain.consA (StepOK.call .none (route_toward_ok hv3) (.cons (.tmp rfl (fun _ => trivial)) .nil)) rfl ?_
  refine Chain.consA (StepOK.fieldAddr .none fd55_5 hfd55_5 (.tmp rfl (fun _ => trivial))) rfl ?_
  refine Chain.consA (StepOK.load .none ty3 (.tmp rfl (fun _ => trivial))) rfl ?_
  obtain ⟨r2, hv4, h⟩ := bind_some h
  refine Chain.consA (StepOK.call .none (route_away_ok hv4) (.cons (.tmp rfl (fun _ => trivial)) (.cons (.tmp rfl (fun _ => trivial)) (.cons (.tmp rfl (fun _ => trivial)) .nil)))) rfl ?_
  refine Chain.consA (StepOK.fieldAddr .none fd55_2 hfd55_2 (.tmp rfl (fun _ => trivial))) rfl ?_
  refine Chain.consA (StepOK.load .none ty53 (.tmp rfl (fun _ => trivial))) rfl ?_
  refine Chain.consA (StepOK.fieldAddr .none fd55_3 hfd55_3 (.tmp rfl (fun _ => trivial))) rfl ?_
  refine Chain.consA (StepOK.load .none ty3 (.tmp rfl (fun _ => trivial))) rfl ?_
  obtain ⟨r3, hv5, h⟩ := bind_some h
  refine Chain.consA (StepOK.call .none (route_toward_ok hv5) (.cons (.tmp rfl (fun _ => trivial)) .nil)) rfl ?_
  refine Chain.consA (StepOK.fieldAddr .none fd55_5 hfd55_5 (.tmp rfl (fun _ => trivial))) rfl ?_
  refine Chain.consA (StepOK.load .none ty3 (.tmp rfl (fun _ => trivial))) rfl ?_
  obtain ⟨r4, hv6, h⟩ := bind_some h
  refine Chain.consA (StepOK.call .none (route_away_ok hv6) (.cons (.tmp rfl (fun _ => trivial)) (.cons (.tmp rfl (fun _ => trivial)) (.cons (.tmp rfl (fun _ => trivial)) .nil)))) rfl ?_
  refine Chain.consN (StepOK.storeAt0 (g := 5001) ty53 rfl (.tmp rfl (fun _ => trivial)) (.tmp rfl (fun _ => trivial))) rfl ?_
  refine Chain.consN (StepOK.storeAt0 (g := 5002) ty53 rfl (.tmp rfl (fun _ => trivial)) (.tmp rfl (fun _ => trivial))) rfl ?_
  refine Chain.nil ?_
  refine Ends.then ?_
  refine Cod.freezeBox (g := 5001) (ts := [2]) rfl (.cons (t := 2) rfl trivial .nil) (.cons (t := 5002) rfl SubB.nil) rfl ?_
  refine Cod.freezeBox (g := 5002) (ts := [3]) rfl (.cons (t := 3) rfl trivial .nil) SubB.nil rfl ?_
  refine Cod.ret ?_
  obtain rfl := some_eq h
  exact Ends.ret2 (.inl rfl) Try.results73 (ResOK.cellR ty53 rfl trivial Imp.refl) (ResOK.cellR ty53 rfl trivial Imp.refl)

theorem route_Check_ok {t1 : Task} {r : Int}  (h : route_Check t1 = some r) : FSpec Try.prog 27 [rep t1] (rep r) := by
  unfold route_Check at h
  refine FSpec.intro (n := 76) fnok27 Try.func27 rfl Try.ntmps27 rfl (fun F => ?_)
  refine Cod.seq ?_
  refine Cod.region [] mixed (by kernel_rfl) ?_
  refine Chain.cons (StepOK.box .none (.tmp rfl (fun _ => trivial))) rfl ?_
  refine Chain.cons (StepOK.assign .none (.int (by decide))) rfl ?_
  refine Chain.nil ?_
  refine Ends.then ?_
  refine Cod.seq ?_
  refine Cod.seq ?_
  refine Cod.region [] mixed (by kernel_rfl) ?_
  refine Chain.cons (StepOK.fieldAddr .none fd55_0 hfd55_0 (.tmp rfl (fun _ => trivial))) rfl ?_
  refine Chain.cons (StepOK.load .none ty53 (.tmp rfl (fun _ => trivial))) rfl ?_
  refine Chain.cons (StepOK.fieldAddr .none fd55_1 hfd55_1 (.tmp rfl (fun _ => trivial))) rfl ?_
  refine Chain.cons (StepOK.load .none ty3 (.tmp rfl (fun _ => trivial))) rfl ?_
  refine Chain.cons (StepOK.buildF (y := (⟨t1.From, t1.FromSide⟩ : Anon_p_side)) .none bu97 zc97 rfl (.cons (.tmp rfl (fun _ => trivial)) (.cons (.tmp rfl (fun _ => trivial)) .nil)) (.cons rfl sf97_0 (.cons rfl sf97_1 .nil))) rfl ?_
  refine Chain.cons (StepOK.fieldAddr .none fd55_2 hfd55_2 (.tmp rfl (fun _ => trivial))) rfl ?_
  refine Chain.cons (StepOK.load .none ty53 (.tmp rfl (fun _ => trivial))) rfl ?_
  refine Chain.cons (StepOK.fieldAddr .none fd55_3 hfd55_3 (.tmp rfl (fun _ => trivial))) rfl ?_
  refine Chain.cons (StepOK.load .none ty3 (.tmp rfl (fun _ => trivial))) rfl ?_
  refine Chain.cons (StepOK.buildF (y := (⟨t1.To, t1.ToSide⟩ : Anon_p_side)) .none bu97 zc97 rfl (.cons (.tmp rfl (fun _ => trivial)) (.cons (.tmp rfl (fun _ => trivial)) .nil)) (.cons rfl sf97_0 (.cons rfl sf97_1 .nil))) rfl ?_
  obtain ⟨v1, hv1, h⟩ := bnd_some h
  refine Chain.cons (StepOK.re hv1 (StepOK.buildSlice (xs := [_, _]) .none sl98 ty97 hz97 (.cons (.tmp rfl (fun _ => trivial)) (.cons (.tmp rfl (fun _ => trivial)) .nil)) rfl (by decide))) rfl ?_
  refine Chain.cons (StepOK.len .none sl98 (.tmp rfl (fun _ => trivial))) rfl ?_
  refine Chain.cons (StepOK.move .none (.int (by decide))) rfl ?_
  refine Chain.nil ?_
  refine Ends.then ?_
  obtain ⟨o_2, h, hK2⟩ := bindR_some h
  refine Cod.thenJ (ι := Unit) (fun j_2 => []) (fun j_2 => []) (fun s => o_2 = Res.nx s) (.cons (t := 1) rfl Sub.nil) SubB.nil ?_ (fun j_2 hj2 => ?_)
  · skip
    refine Cod.block ?_
    refine Cod.rforEL h (fun p3_ => [(24, ⟨True, rep p3_.1⟩)]) (fun p3_ => []) (.cons (t := 24) rfl Sub.nil) SubB.nil (.cons (t := 1) rfl (.cons (t := 22) rfl (.cons (t := 23) rfl Sub.nil))) SubB.nil (fun p3_ o_3 h hD3 => ?_)
    refine Cod.seq ?_
    refine Cod.region [] mixed (by kernel_rfl) ?_
    refine Chain.cons (StepOK.lt .none (.tmp rfl (fun _ => trivial)) (.tmp rfl (fun _ => trivial))) rfl ?_
    refine Chain.nil ?_
    refine Ends.then ?_
    refine Cod.seq ?_
    refine Cod.cond (t := 25) rfl trivial (fun hb4 => ?_) (fun hb4 => ?_)
    · replace h := bif_t h hb4
      refine Cod.skip ?_
      refine Ends.then ?_
      refine Cod.seq ?_
      obtain ⟨o_5, h, hK5⟩ := bindD_some h
      unfold route_Check_L1 at h
      refine Cod.thenJ (ι := Unit) (fun j_5 => []) (fun j_5 => []) (fun s => o_5 = Res.nx s) (.cons (t := 1) rfl (.cons (t := 22) rfl (.cons (t := 23) rfl (.cons (t := 24) rfl Sub.nil)))) SubB.nil ?_ (fun j_5 hj5 => ?_)
      · skip
        refine Cod.block ?_
        refine Cod.seq ?_
        refine Cod.region [([], []), ([], []), ([], [4]), ([4], [4])] mixed (by kernel_rfl) ?_
        obtain ⟨hn6, h⟩ := need_some h
        refine Chain.consA (StepOK.indexAddr .none sl98 ty97 (.tmp rfl (fun _ => trivial)) (.tmp rfl (fun _ => trivial)) (fun _ => hn6)) rfl ?_
        obtain ⟨v2, hv7, h⟩ := bnd_some h
        refine Chain.consA (StepOK.re hv7 (StepOK.load .none ty97 (.tmp rfl (fun _ => trivial)))) rfl ?_
        refine Chain.consW (StepOK.alloc zo97 rfl) rfl rfl ?_
        refine Chain.consN (StepOK.store ty97 rfl rfl (.tmp rfl (fun _ => trivial))) rfl ?_
        refine Chain.nil ?_
        refine Ends.then ?_
        refine Cod.freeze (t := 4) rfl rfl SubB.nil rfl ?_
        refine Cod.seq ?_
        refine Cod.seq ?_
        refine Cod.region [] mixed (by kernel_rfl) ?_
        refine Chain.cons (StepOK.fieldAddr .none fd97_0 hfd97_0 (.tmp rfl (fun _ => trivial))) rfl ?_
        refine Chain.cons (StepOK.load .none ty53 (.tmp rfl (fun _ => trivial))) rfl ?_
        obtain ⟨e1, hv8, h⟩ := bind_some h
        refine Chain.cons (StepOK.call .none (geom_CheckPoint_ok hv8) (.cons (.tmp rfl (fun _ => trivial)) .nil)) rfl ?_
        refine Chain.cons (StepOK.assign .none (.tmp rfl (fun _ => trivial))) rfl ?_
        refine Chain.nil ?_
        refine Ends.then ?_
        refine Cod.seq ?_
        refine Cod.region [] mixed (by kernel_rfl) ?_
        refine Chain.cons (StepOK.move .none (.tmp rfl (fun _ => trivial))) rfl ?_
        refine Chain.cons (StepOK.neI .none (.tmp rfl (fun _ => trivial)) (.int (by decide))) rfl ?_
        refine Chain.nil ?_
        refine Ends.then ?_
        refine Cod.cond (t := 32) rfl trivial (fun hb9 => ?_) (fun hb9 => ?_)
        · replace h := bif_t h hb9
          refine Cod.seq ?_
          refine Cod.region [] mixed (by kernel_rfl) ?_
          refine Chain.cons (StepOK.move .none (.tmp rfl (fun _ => trivial))) rfl ?_
          refine Chain.cons (StepOK.assign .none (.tmp rfl (fun _ => trivial))) rfl ?_
          refine Chain.nil ?_
          refine Ends.then ?_
          refine Cod.ret ?_
          refine Ends.thenRet ?_
          refine Ends.blkRet ?_
          refine Ends.thenRet ?_
          refine Ends.thenRet ?_
          refine Ends.blkRet ?_
          refine Ends.thenRet ?_
          replace h := resd_ab hK5 (some_eq h)
          replace h := hD3 _ (some_eq h)
          replace h := resb_ab hK2 (some_eq h)
          obtain rfl := some_eq h
          exact Ends.ret1 (.inl rfl) Try.results27 (ResOK.tmp rfl trivial Imp.refl)
        · replace h := bif_f h hb9
          refine Cod.skip ?_
          refine Ends.then ?_
          refine Cod.seq ?_
          refine Cod.region [] mixed (by kernel_rfl) ?_
          refine Chain.cons (StepOK.fieldAddr .none fd97_1 hfd97_1 (.tmp rfl (fun _ => trivial))) rfl ?_
          refine Chain.cons (StepOK.load .none ty3 (.tmp rfl (fun _ => trivial))) rfl ?_
          obtain ⟨r1, hv10, h⟩ := bind_some h
          refine Chain.cons (StepOK.call .none (route_isSide_ok hv10) (.cons (.tmp rfl (fun _ => trivial)) .nil)) rfl ?_
          refine Chain.cons (StepOK.not .none (.tmp rfl (fun _ => trivial))) rfl ?_
          refine Chain.nil ?_
          refine Ends.then ?_
          refine Cod.cond (t := 37) rfl trivial (fun hb11 => ?_) (fun hb11 => ?_)
          · replace h := bif_t h hb11
            refine Cod.seq ?_
            refine Cod.region [] mixed (by kernel_rfl) ?_
            refine Chain.cons (StepOK.assign .none (.int (by decide))) rfl ?_
            refine Chain.nil ?_
            refine Ends.then ?_
            refine Cod.ret ?_
            refine Ends.blkRet ?_
            refine Ends.thenRet ?_
            refine Ends.thenRet ?_
            refine Ends.blkRet ?_
            refine Ends.thenRet ?_
            replace h := resd_ab hK5 (some_eq h)
            replace h := hD3 _ (some_eq h)
            replace h := resb_ab hK2 (some_eq h)
            obtain rfl := some_eq h
            exact Ends.ret1 (.inl rfl) Try.results27 (ResOK.tmp rfl trivial Imp.refl)
          · replace h := bif_f h hb11
            refine Cod.skip ?_
            refine Ends.blkNormal ?_
            exact Ends.join _ (some_eq h) (.cons (t := 1) rfl (.cons (t := 22) rfl (.cons (t := 23) rfl (.cons (t := 24) rfl Sub.nil)))) SubB.nil
      · have h := resd_nx hK5 hj5
        refine Cod.region [] mixed (by kernel_rfl) ?_
        refine Chain.cons (StepOK.addW .none (.tmp rfl (fun _ => trivial)) (.int (by decide))) rfl ?_
        refine Chain.cons (StepOK.move .none (.tmp rfl (fun _ => trivial))) rfl ?_
        refine Chain.nil ?_
        exact Ends.againL (some_eq h) (.cons (t := 24) rfl (.cons (t := 1) rfl (.cons (t := 22) rfl (.cons (t := 23) rfl Sub.nil)))) SubB.nil
    · replace h := bif_f h hb4
      refine Cod.exit ?_
      refine Ends.thenExit ?_
      refine Ends.thenExit ?_
      refine Ends.blkExit ?_
      replace h := hD3 _ (some_eq h)
      exact Ends.join _ (some_eq h) (.cons (t := 1) rfl Sub.nil) SubB.nil
  · have h := resb_nx hK2 hj2
    refine Cod.seq ?_
    refine Cod.seq ?_
    refine Cod.region [] mixed (by kernel_rfl) ?_
    refine Chain.cons (StepOK.fieldAddr .none fd55_4 hfd55_4 (.tmp rfl (fun _ => trivial))) rfl ?_
    refine Chain.cons (StepOK.load .none ty23 (.tmp rfl (fun _ => trivial))) rfl ?_
    refine Chain.cons (StepOK.len .none sl23 (.tmp rfl (fun _ => trivial))) rfl ?_
    refine Chain.cons (StepOK.gt .none (.tmp rfl (fun _ => trivial)) (.int (by decide))) rfl ?_
    refine Chain.nil ?_
    refine Ends.then ?_
    refine Cod.cond (t := 42) rfl trivial (fun hb12 => ?_) (fun hb12 => ?_)
    · replace h := bif_t h hb12
      refine Cod.seq ?_
      refine Cod.region [] mixed (by kernel_rfl) ?_
      refine Chain.cons (StepOK.assign .none (.int (by decide))) rfl ?_
      refine Chain.nil ?_
      refine Ends.then ?_
      refine Cod.ret ?_
      refine Ends.thenRet ?_
      obtain rfl := some_eq h
      exact Ends.ret1 (.inl rfl) Try.results27 (ResOK.tmp rfl trivial Imp.refl)
    · replace h := bif_f h hb12
      refine Cod.skip ?_
      refine Ends.then ?_
      refine Cod.seq ?_
      refine Cod.seq ?_
      refine Cod.region [] mixed (by kernel_rfl) ?_
      refine Chain.cons (StepOK.fieldAddr .none fd55_4 hfd55_4 (.tmp rfl (fun _ => trivial))) rfl ?_
      refine Chain.cons (StepOK.load .none ty23 (.tmp rfl (fun _ => trivial))) rfl ?_
      refine Chain.cons (StepOK.len .none sl23 (.tmp rfl (fun _ => trivial))) rfl ?_
      refine Chain.cons (StepOK.move .none (.int (by decide))) rfl ?_
      refine Chain.nil ?_
      refine Ends.then ?_
      obtain ⟨o_13, h, hK13⟩ := bindR_some h
      refine Cod.thenJ (ι := Unit) (fun j_13 => []) (fun j_13 => []) (fun s => o_13 = Res.nx s) (.cons (t := 1) rfl Sub.nil) SubB.nil ?_ (fun j_13 hj13 => ?_)
      · skip
        refine Cod.block ?_
        refine Cod.rforEL h (fun p14_ => [(46, ⟨True, rep p14_.1⟩)]) (fun p14_ => []) (.cons (t := 46) rfl Sub.nil) SubB.nil (.cons (t := 1) rfl (.cons (t := 44) rfl (.cons (t := 45) rfl Sub.nil))) SubB.nil (fun p14_ o_14 h hD14 => ?_)
        refine Cod.seq ?_
        refine Cod.region [] mixed (by kernel_rfl) ?_
        refine Chain.cons (StepOK.lt .none (.tmp rfl (fun _ => trivial)) (.tmp rfl (fun _ => trivial))) rfl ?_
        refine Chain.nil ?_
        refine Ends.then ?_
        refine Cod.seq ?_
        refine Cod.cond (t := 47) rfl trivial (fun hb15 => ?_) (fun hb15 => ?_)
        · replace h := bif_t h hb15
          refine Cod.skip ?_
          refine Ends.then ?_
          refine Cod.seq ?_
          obtain ⟨o_16, h, hK16⟩ := bindD_some h
          unfold route_Check_L2 at h
          refine Cod.thenJ (ι := Unit) (fun j_16 => []) (fun j_16 => []) (fun s => o_16 = Res.nx s) (.cons (t := 1) rfl (.cons (t := 44) rfl (.cons (t := 45) rfl (.cons (t := 46) rfl Sub.nil)))) SubB.nil ?_ (fun j_16 hj16 => ?_)
          · skip
            refine Cod.block ?_
            refine Cod.seq ?_
            refine Cod.region [([], []), ([], []), ([], [7]), ([7], [7])] mixed (by kernel_rfl) ?_
            obtain ⟨hn17, h⟩ := need_some h
            refine Chain.consA (StepOK.indexAddr .none sl23 ty25 (.tmp rfl (fun _ => trivial)) (.tmp rfl (fun _ => trivial)) (fun _ => hn17)) rfl ?_
            obtain ⟨v3, hv18, h⟩ := bnd_some h
            refine Chain.consA (StepOK.re hv18 (StepOK.load .none ty25 (.tmp rfl (fun _ => trivial)))) rfl ?_
            refine Chain.consW (StepOK.alloc zo25 rfl) rfl rfl ?_
            refine Chain.consN (StepOK.store ty25 rfl rfl (.tmp rfl (fun _ => trivial))) rfl ?_
            refine Chain.nil ?_
            refine Ends.then ?_
            refine Cod.freeze (t := 7) rfl rfl SubB.nil rfl ?_
            refine Cod.seq ?_
            refine Cod.region [] mixed (by kernel_rfl) ?_
            refine Chain.cons (StepOK.load .none ty25 (.tmp rfl (fun _ => trivial))) rfl ?_
            obtain ⟨e2, hv19, h⟩ := bind_some h
            refine Chain.cons (StepOK.call .none (geom_CheckBox_ok hv19) (.cons (.tmp rfl (fun _ => trivial)) .nil)) rfl ?_
            refine Chain.cons (StepOK.assign .none (.tmp rfl (fun _ => trivial))) rfl ?_
            refine Chain.nil ?_
            refine Ends.then ?_
            refine Cod.seq ?_
            refine Cod.region [] mixed (by kernel_rfl) ?_
            refine Chain.cons (StepOK.move .none (.tmp rfl (fun _ => trivial))) rfl ?_
            refine Chain.cons (StepOK.neI .none (.tmp rfl (fun _ => trivial)) (.int (by decide))) rfl ?_
            refine Chain.nil ?_
            refine Ends.then ?_
            refine Cod.cond (t := 53) rfl trivial (fun hb20 => ?_) (fun hb20 => ?_)
            · replace h := bif_t h hb20
              refine Cod.seq ?_
              refine Cod.region [] mixed (by kernel_rfl) ?_
              refine Chain.cons (StepOK.move .none (.tmp rfl (fun _ => trivial))) rfl ?_
              refine Chain.cons (StepOK.assign .none (.tmp rfl (fun _ => trivial))) rfl ?_
              refine Chain.nil ?_
              refine Ends.then ?_
              refine Cod.ret ?_
              refine Ends.blkRet ?_
              refine Ends.thenRet ?_
              refine Ends.thenRet ?_
              refine Ends.blkRet ?_
              refine Ends.thenRet ?_
              replace h := resd_ab hK16 (some_eq h)
              replace h := hD14 _ (some_eq h)
              replace h := resb_ab hK13 (some_eq h)
              obtain rfl := some_eq h
              exact Ends.ret1 (.inl rfl) Try.results27 (ResOK.tmp rfl trivial Imp.refl)
            · replace h := bif_f h hb20
              refine Cod.skip ?_
              refine Ends.blkNormal ?_
              exact Ends.join _ (some_eq h) (.cons (t := 1) rfl (.cons (t := 44) rfl (.cons (t := 45) rfl (.cons (t := 46) rfl Sub.nil)))) SubB.nil
          · have h := resd_nx hK16 hj16
            refine Cod.region [] mixed (by kernel_rfl) ?_
            refine Chain.cons (StepOK.addW .none (.tmp rfl (fun _ => trivial)) (.int (by decide))) rfl ?_
            refine Chain.cons (StepOK.move .none (.tmp rfl (fun _ => trivial))) rfl ?_
            refine Chain.nil ?_
            exact Ends.againL (some_eq h) (.cons (t := 46) rfl (.cons (t := 1) rfl (.cons (t := 44) rfl (.cons (t := 45) rfl Sub.nil)))) SubB.nil
        · replace h := bif_f h hb15
          refine Cod.exit ?_
          refine Ends.thenExit ?_
          refine Ends.thenExit ?_
          refine Ends.blkExit ?_
          replace h := hD14 _ (some_eq h)
          exact Ends.join _ (some_eq h) (.cons (t := 1) rfl Sub.nil) SubB.nil
      · have h := resb_nx hK13 hj13
        refine Cod.seq ?_
        refine Cod.seq ?_
        refine Cod.region [] mixed (by kernel_rfl) ?_
        refine Chain.cons (StepOK.fieldAddr .none fd55_5 hfd55_5 (.tmp rfl (fun _ => trivial))) rfl ?_
        refine Chain.cons (StepOK.load .none ty3 (.tmp rfl (fun _ => trivial))) rfl ?_
        refine Chain.cons (StepOK.lt .none (.tmp rfl (fun _ => trivial)) (.int (by decide))) rfl ?_
        refine Chain.cons (StepOK.move .none (.tmp rfl (fun _ => trivial))) rfl ?_
        refine Chain.cons (StepOK.fieldAddr (.at rfl rfl) fd55_5 hfd55_5 (.tmp rfl (fun _ => trivial))) rfl ?_
        refine Chain.cons (StepOK.load (.at rfl rfl) ty3 (.tmp rfl id)) rfl ?_
        refine Chain.cons (StepOK.gt (.at rfl rfl) (.tmp rfl id) (.int (by decide))) rfl ?_
        refine Chain.cons (StepOK.pickOr .none (.tmp rfl (fun _ => trivial)) (.tmp rfl id)) rfl ?_
        refine Chain.nil ?_
        refine Ends.then ?_
        refine Cod.cond (t := 63) rfl trivial (fun hb21 => ?_) (fun hb21 => ?_)
        · replace h := bif_t h hb21
          refine Cod.seq ?_
          refine Cod.region [] mixed (by kernel_rfl) ?_
          refine Chain.cons (StepOK.assign .none (.int (by decide))) rfl ?_
          refine Chain.nil ?_
          refine Ends.then ?_
          refine Cod.ret ?_
          refine Ends.thenRet ?_
          obtain rfl := some_eq h
          exact Ends.ret1 (.inl rfl) Try.results27 (ResOK.tmp rfl trivial Imp.refl)
        · replace h := bif_f h hb21
          refine Cod.skip ?_
          refine Ends.then ?_
          refine Cod.seq ?_
          refine Cod.region [([], []), ([], []), ([], []), ([], []), ([], []), ([], [9]), ([], [10]), ([9], [9]), ([10], [10])] mixed (by kernel_rfl) ?_
          refine Chain.consA (StepOK.load .none ty55 (.tmp rfl (fun _ => trivial))) rfl ?_
          obtain ⟨r2, hv22, h⟩ := bind_some h
          refine Chain.consA (StepOK.call .none (route_ends_ok hv22) (.cons (.tmp rfl (fun _ => trivial)) .nil)) rfl ?_
          refine Chain.consA (StepOK.move .none (.tmp rfl (fun _ => trivial))) rfl ?_
          refine Chain.consA (StepOK.extract .none (.tmp rfl (fun _ => trivial)) rfl) rfl ?_
          refine Chain.consA (StepOK.extract .none (.tmp rfl (fun _ => trivial)) rfl) rfl ?_
          refine Chain.consW (StepOK.alloc zo53 rfl) rfl rfl ?_
          refine Chain.consW (StepOK.alloc zo53 rfl) rfl rfl ?_
          refine Chain.consN (StepOK.store ty53 rfl rfl (.tmp rfl (fun _ => trivial))) rfl ?_
          refine Chain.consN (StepOK.store ty53 rfl rfl (.tmp rfl (fun _ => trivial))) rfl ?_
          refine Chain.nil ?_
          refine Ends.then ?_
          refine Cod.freeze (t := 9) rfl rfl (.cons (t := 10) rfl SubB.nil) rfl ?_
          refine Cod.freeze (t := 10) rfl rfl SubB.nil rfl ?_
          refine Cod.seq ?_
          refine Cod.seq ?_
          refine Cod.region [] mixed (by kernel_rfl) ?_
          refine Chain.cons (StepOK.load .none ty53 (.tmp rfl (fun _ => trivial))) rfl ?_
          obtain ⟨e3, hv23, h⟩ := bind_some h
          refine Chain.cons (StepOK.call .none (geom_CheckPoint_ok hv23) (.cons (.tmp rfl (fun _ => trivial)) .nil)) rfl ?_
          refine Chain.cons (StepOK.assign .none (.tmp rfl (fun _ => trivial))) rfl ?_
          refine Chain.nil ?_
          refine Ends.then ?_
          refine Cod.seq ?_
          refine Cod.region [] mixed (by kernel_rfl) ?_
          refine Chain.cons (StepOK.move .none (.tmp rfl (fun _ => trivial))) rfl ?_
          refine Chain.cons (StepOK.neI .none (.tmp rfl (fun _ => trivial)) (.int (by decide))) rfl ?_
          refine Chain.nil ?_
          refine Ends.then ?_
          refine Cod.cond (t := 72) rfl trivial (fun hb24 => ?_) (fun hb24 => ?_)
          · replace h := bif_t h hb24
            refine Cod.seq ?_
            refine Cod.region [] mixed (by kernel_rfl) ?_
            refine Chain.cons (StepOK.move .none (.tmp rfl (fun _ => trivial))) rfl ?_
            refine Chain.cons (StepOK.assign .none (.tmp rfl (fun _ => trivial))) rfl ?_
            refine Chain.nil ?_
            refine Ends.then ?_
            refine Cod.ret ?_
            refine Ends.thenRet ?_
            obtain rfl := some_eq h
            exact Ends.ret1 (.inl rfl) Try.results27 (ResOK.tmp rfl trivial Imp.refl)
          · replace h := bif_f h hb24
            refine Cod.skip ?_
            refine Ends.then ?_
            refine Cod.seq ?_
            refine Cod.region [] mixed (by kernel_rfl) ?_
            refine Chain.cons (StepOK.load .none ty53 (.tmp rfl (fun _ => trivial))) rfl ?_
            obtain ⟨r3, hv25, h⟩ := bind_some h
            refine Chain.cons (StepOK.call .none (geom_CheckPoint_ok hv25) (.cons (.tmp rfl (fun _ => trivial)) .nil)) rfl ?_
            refine Chain.cons (StepOK.assign .none (.tmp rfl (fun _ => trivial))) rfl ?_
            refine Chain.nil ?_
            refine Ends.then ?_
            refine Cod.ret ?_
            obtain rfl := some_eq h
            exact Ends.ret1 (.inl rfl) Try.results27 (ResOK.tmp rfl trivial Imp.refl)


end Go.Proofs.Ytegjicmejjfgfaa
