/-
  The walks: what a function computes is what its plain function says (printed by a program of one's own).
-/
import Derived.Test.YtegjicmejjfgfaaWayFa
set_option maxRecDepth 100000
set_option linter.unusedSimpArgs false
set_option linter.unusedVariables false
namespace Go.Proofs.Ytegjicmejjfgfaa
open Go Go.DB Go.RowKit

theorem slices_Compact_int_ok {l : List Int} {r : List Int} {s : Value} (h : slices_Compact_int l = some r) : FSpecO Try.prog 107 [isV s] [(s, rowV 3 l)] (anyV) [none, some (rowV 3 r)] := by
  obtain ⟨hl, h⟩ := need_some h
  obtain rfl := some_eq h
  exact compactI_spec compactI_lay rfl fnok107 hl

theorem slices_Sort_int_ok {l : List Int} {r : List Int} {s : Value} (h : slices_Sort_int l = some r) : FSpecO Try.prog 106 [isV s] [(s, rowV 3 l)] (anyV) [some (rowV 3 r)] := by
  obtain ⟨hl, h⟩ := need_some h
  obtain rfl := some_eq h
  exact sortI_spec sortI_lay rfl fnok106 hl

theorem ref_In_ok {n1 : Int} {low1 : Int} {high1 : Int} {r : Bool}  (h : ref_In n1 low1 high1 = some r) : FSpec Try.prog 13 [rep n1, rep low1, rep high1] (rep r) := by
  unfold ref_In at h
  refine FSpec.intro (n := 15) fnok13 Try.func13 rfl Try.ntmps13 rfl (fun F => ?_)
  refine Cod.seq ?_
  refine Cod.region [] mixed (by kernel_rfl) ?_
  refine Chain.cons (StepOK.assign .none .bool) rfl ?_
  refine Chain.nil ?_
  refine Ends.then ?_
  refine Cod.seq ?_
  refine Cod.region [] mixed (by kernel_rfl) ?_
  refine Chain.cons (StepOK.move .none (.tmp rfl (fun _ => trivial))) rfl ?_
  refine Chain.cons (StepOK.move .none (.tmp rfl (fun _ => trivial))) rfl ?_
  refine Chain.cons (StepOK.ge .none (.tmp rfl (fun _ => trivial)) (.tmp rfl (fun _ => trivial))) rfl ?_
  refine Chain.cons (StepOK.move .none (.tmp rfl (fun _ => trivial))) rfl ?_
  refine Chain.cons (StepOK.move (.at rfl rfl) (.tmp rfl (fun _ => trivial))) rfl ?_
  refine Chain.cons (StepOK.move (.at rfl rfl) (.tmp rfl (fun _ => trivial))) rfl ?_
  refine Chain.cons (StepOK.le (.at rfl rfl) (.tmp rfl id) (.tmp rfl id)) rfl ?_
  refine Chain.cons (StepOK.pickAnd .none (.tmp rfl (fun _ => trivial)) (.tmp rfl id)) rfl ?_
  refine Chain.cons (StepOK.assign .none (.tmp rfl (fun _ => trivial))) rfl ?_
  refine Chain.nil ?_
  refine Ends.then ?_
  refine Cod.ret ?_
  obtain rfl := some_eq h
  exact Ends.ret1 (.inl rfl) Try.results13 (ResOK.tmp rfl trivial Imp.refl)

theorem ref_When_ok {is1 : Bool} {e1 : Int} {r : Int}  (h : ref_When is1 e1 = some r) : FSpec Try.prog 12 [rep is1, rep e1] (rep r) := by
  unfold ref_When at h
  refine FSpec.intro (n := 7) fnok12 Try.func12 rfl Try.ntmps12 rfl (fun F => ?_)
  refine Cod.seq ?_
  refine Cod.region [] mixed (by kernel_rfl) ?_
  refine Chain.cons (StepOK.assign .none (.int (by decide))) rfl ?_
  refine Chain.nil ?_
  refine Ends.then ?_
  refine Cod.seq ?_
  refine Cod.seq ?_
  refine Cod.region [] mixed (by kernel_rfl) ?_
  refine Chain.cons (StepOK.move .none (.tmp rfl (fun _ => trivial))) rfl ?_
  refine Chain.nil ?_
  refine Ends.then ?_
  refine Cod.cond (t := 5) rfl trivial (fun hb1 => ?_) (fun hb1 => ?_)
  · replace h := bif_t h hb1
    refine Cod.seq ?_
    refine Cod.region [] mixed (by kernel_rfl) ?_
    refine Chain.cons (StepOK.move .none (.tmp rfl (fun _ => trivial))) rfl ?_
    refine Chain.cons (StepOK.assign .none (.tmp rfl (fun _ => trivial))) rfl ?_
    refine Chain.nil ?_
    refine Ends.then ?_
    refine Cod.ret ?_
    refine Ends.thenRet ?_
    obtain rfl := some_eq h
    exact Ends.ret1 (.inl rfl) Try.results12 (ResOK.tmp rfl trivial Imp.refl)
  · replace h := bif_f h hb1
    refine Cod.skip ?_
    refine Ends.then ?_
    refine Cod.seq ?_
    refine Cod.region [] mixed (by kernel_rfl) ?_
    refine Chain.cons (StepOK.assign .none (.int (by decide))) rfl ?_
    refine Chain.nil ?_
    refine Ends.then ?_
    refine Cod.ret ?_
    obtain rfl := some_eq h
    exact Ends.ret1 (.inl rfl) Try.results12 (ResOK.tmp rfl trivial Imp.refl)

theorem ref_PointError_ok {p1 : Point} {r : Int}  (h : ref_PointError p1 = some r) : FSpec Try.prog 66 [rep p1] (rep r) := by
  unfold ref_PointError at h
  refine FSpec.intro (n := 14) fnok66 Try.func66 rfl Try.ntmps66 rfl (fun F => ?_)
  refine Cod.seq ?_
  refine Cod.region [] mixed (by kernel_rfl) ?_
  refine Chain.cons (StepOK.box .none (.tmp rfl (fun _ => trivial))) rfl ?_
  refine Chain.cons (StepOK.assign .none (.int (by decide))) rfl ?_
  refine Chain.nil ?_
  refine Ends.then ?_
  refine Cod.seq ?_
  refine Cod.region [] mixed (by kernel_rfl) ?_
  refine Chain.cons (StepOK.fieldAddr .none fd53_0 hfd53_0 (.tmp rfl (fun _ => trivial))) rfl ?_
  refine Chain.cons (StepOK.load .none ty3 (.tmp rfl (fun _ => trivial))) rfl ?_
  obtain ⟨r1, hv1, h⟩ := bind_some h
  refine Chain.cons (StepOK.call .none (ref_In_ok hv1) (.cons (.tmp rfl (fun _ => trivial)) (.cons (.int (by decide)) (.cons (.int (by decide)) .nil)))) rfl ?_
  refine Chain.cons (StepOK.not .none (.tmp rfl (fun _ => trivial))) rfl ?_
  refine Chain.cons (StepOK.move .none (.tmp rfl (fun _ => trivial))) rfl ?_
  refine Chain.cons (StepOK.fieldAddr (.at rfl rfl) fd53_1 hfd53_1 (.tmp rfl (fun _ => trivial))) rfl ?_
  refine Chain.cons (StepOK.load (.at rfl rfl) ty3 (.tmp rfl id)) rfl ?_
  obtain ⟨r2, hv2, h⟩ := bind_some h
  refine Chain.cons (StepOK.callIf (.at rfl rfl) fnok13 (fun hg => ref_In_ok ((fun hg => gd_some hv2 ((notT hg.2))) hg)) (.cons (.tmp rfl id) (.cons (.int (by decide)) (.cons (.int (by decide)) .nil))) (fun h => h)) rfl ?_
  refine Chain.cons (StepOK.not (.at rfl rfl) (.tmp rfl id)) rfl ?_
  refine Chain.cons (StepOK.pickOr .none (.tmp rfl (fun _ => trivial)) (.tmp rfl id)) rfl ?_
  obtain ⟨r3, hv3, h⟩ := bind_some h
  refine Chain.cons (StepOK.call .none (ref_When_ok hv3) (.cons (.tmp rfl (fun _ => trivial)) (.cons (.int (by decide)) .nil))) rfl ?_
  refine Chain.cons (StepOK.assign .none (.tmp rfl (fun _ => trivial))) rfl ?_
  refine Chain.nil ?_
  refine Ends.then ?_
  refine Cod.ret ?_
  obtain rfl := some_eq h
  exact Ends.ret1 (.inl rfl) Try.results66 (ResOK.tmp rfl trivial Imp.refl)

theorem ref_sideError_ok {side1 : Int} {r : Int}  (h : ref_sideError side1 = some r) : FSpec Try.prog 67 [rep side1] (rep r) := by
  unfold ref_sideError at h
  refine FSpec.intro (n := 7) fnok67 Try.func67 rfl Try.ntmps67 rfl (fun F => ?_)
  refine Cod.seq ?_
  refine Cod.region [] mixed (by kernel_rfl) ?_
  refine Chain.cons (StepOK.assign .none (.int (by decide))) rfl ?_
  refine Chain.nil ?_
  refine Ends.then ?_
  refine Cod.seq ?_
  refine Cod.region [] mixed (by kernel_rfl) ?_
  refine Chain.cons (StepOK.move .none (.tmp rfl (fun _ => trivial))) rfl ?_
  obtain ⟨r1, hv1, h⟩ := bind_some h
  refine Chain.cons (StepOK.call .none (ref_In_ok hv1) (.cons (.tmp rfl (fun _ => trivial)) (.cons (.int (by decide)) (.cons (.int (by decide)) .nil)))) rfl ?_
  refine Chain.cons (StepOK.not .none (.tmp rfl (fun _ => trivial))) rfl ?_
  obtain ⟨r2, hv2, h⟩ := bind_some h
  refine Chain.cons (StepOK.call .none (ref_When_ok hv2) (.cons (.tmp rfl (fun _ => trivial)) (.cons (.int (by decide)) .nil))) rfl ?_
  refine Chain.cons (StepOK.assign .none (.tmp rfl (fun _ => trivial))) rfl ?_
  refine Chain.nil ?_
  refine Ends.then ?_
  refine Cod.ret ?_
  obtain rfl := some_eq h
  exact Ends.ret1 (.inl rfl) Try.results67 (ResOK.tmp rfl trivial Imp.refl)

theorem ref_First_ok {l1 : (List Int)} {r : Int}  (h : ref_First l1 = some r) : FSpec Try.prog 10 [rep l1] (rep r) := by
  unfold ref_First at h
  refine FSpec.intro (n := 15) fnok10 Try.func10 rfl Try.ntmps10 rfl (fun F => ?_)
  refine Cod.seq ?_
  refine Cod.region [] mixed (by kernel_rfl) ?_
  refine Chain.cons (StepOK.assign .none (.int (by decide))) rfl ?_
  refine Chain.nil ?_
  refine Ends.then ?_
  refine Cod.seq ?_
  refine Cod.seq ?_
  refine Cod.region [] mixed (by kernel_rfl) ?_
  refine Chain.cons (StepOK.move .none (.tmp rfl (fun _ => trivial))) rfl ?_
  refine Chain.cons (StepOK.len .none sl81 (.tmp rfl (fun _ => trivial))) rfl ?_
  refine Chain.cons (StepOK.move .none (.int (by decide))) rfl ?_
  refine Chain.nil ?_
  refine Ends.then ?_
  obtain ⟨o_1, h, hK1⟩ := bindR_some h
  refine Cod.thenJ (ι := Unit) (fun j_1 => []) (fun j_1 => []) (fun s => o_1 = Res.nx s) Sub.nil SubB.nil ?_ (fun j_1 hj1 => ?_)
  · skip
    refine Cod.block ?_
    refine Cod.rforEL h (fun p2_ => [(7, ⟨True, rep p2_.1⟩)]) (fun p2_ => []) (.cons (t := 7) rfl Sub.nil) SubB.nil (.cons (t := 5) rfl (.cons (t := 6) rfl Sub.nil)) SubB.nil (fun p2_ o_2 h hD2 => ?_)
    refine Cod.seq ?_
    refine Cod.region [] mixed (by kernel_rfl) ?_
    refine Chain.cons (StepOK.lt .none (.tmp rfl (fun _ => trivial)) (.tmp rfl (fun _ => trivial))) rfl ?_
    refine Chain.nil ?_
    refine Ends.then ?_
    refine Cod.seq ?_
    refine Cod.cond (t := 8) rfl trivial (fun hb3 => ?_) (fun hb3 => ?_)
    · replace h := bif_t h hb3
      refine Cod.skip ?_
      refine Ends.then ?_
      refine Cod.seq ?_
      obtain ⟨o_4, h, hK4⟩ := bindD_some h
      unfold ref_First_L1 at h
      refine Cod.thenJ (ι := Unit) (fun j_4 => []) (fun j_4 => []) (fun s => o_4 = Res.nx s) (.cons (t := 5) rfl (.cons (t := 6) rfl (.cons (t := 7) rfl Sub.nil))) SubB.nil ?_ (fun j_4 hj4 => ?_)
      · skip
        refine Cod.block ?_
        refine Cod.seq ?_
        refine Cod.region [] mixed (by kernel_rfl) ?_
        obtain ⟨hn5, h⟩ := need_some h
        refine Chain.cons (StepOK.indexAddr .none sl81 ty26 (.tmp rfl (fun _ => trivial)) (.tmp rfl (fun _ => trivial)) (fun _ => hn5)) rfl ?_
        refine Chain.cons (StepOK.load .none ty26 (.tmp rfl (fun _ => trivial))) rfl ?_
        obtain ⟨e1, hv6, h⟩ := bnd_some h
        refine Chain.cons (StepOK.re hv6 (StepOK.assign .none (.tmp rfl (fun _ => trivial)))) rfl ?_
        refine Chain.nil ?_
        refine Ends.then ?_
        refine Cod.seq ?_
        refine Cod.region [] mixed (by kernel_rfl) ?_
        refine Chain.cons (StepOK.move .none (.tmp rfl (fun _ => trivial))) rfl ?_
        refine Chain.cons (StepOK.neI .none (.tmp rfl (fun _ => trivial)) (.int (by decide))) rfl ?_
        refine Chain.nil ?_
        refine Ends.then ?_
        refine Cod.cond (t := 12) rfl trivial (fun hb7 => ?_) (fun hb7 => ?_)
        · replace h := bif_t h hb7
          refine Cod.seq ?_
          refine Cod.region [] mixed (by kernel_rfl) ?_
          refine Chain.cons (StepOK.move .none (.tmp rfl (fun _ => trivial))) rfl ?_
          refine Chain.cons (StepOK.assign .none (.tmp rfl (fun _ => trivial))) rfl ?_
          refine Chain.nil ?_
          refine Ends.then ?_
          refine Cod.ret ?_
          refine Ends.blkRet ?_
          refine Ends.thenRet ?_
          refine Ends.thenRet ?_
          refine Ends.blkRet ?_
          refine Ends.thenRet ?_
          replace h := resd_ab hK4 (some_eq h)
          replace h := hD2 _ (some_eq h)
          replace h := resb_ab hK1 (some_eq h)
          obtain rfl := some_eq h
          exact Ends.ret1 (.inl rfl) Try.results10 (ResOK.tmp rfl trivial Imp.refl)
        · replace h := bif_f h hb7
          refine Cod.skip ?_
          refine Ends.blkNormal ?_
          exact Ends.join _ (some_eq h) (.cons (t := 5) rfl (.cons (t := 6) rfl (.cons (t := 7) rfl Sub.nil))) SubB.nil
      · have h := resd_nx hK4 hj4
        refine Cod.region [] mixed (by kernel_rfl) ?_
        refine Chain.cons (StepOK.addW .none (.tmp rfl (fun _ => trivial)) (.int (by decide))) rfl ?_
        refine Chain.cons (StepOK.move .none (.tmp rfl (fun _ => trivial))) rfl ?_
        refine Chain.nil ?_
        exact Ends.againL (some_eq h) (.cons (t := 7) rfl (.cons (t := 5) rfl (.cons (t := 6) rfl Sub.nil))) SubB.nil
    · replace h := bif_f h hb3
      refine Cod.exit ?_
      refine Ends.thenExit ?_
      refine Ends.thenExit ?_
      refine Ends.blkExit ?_
      replace h := hD2 _ (some_eq h)
      exact Ends.join _ (some_eq h) Sub.nil SubB.nil
  · have h := resb_nx hK1 hj1
    refine Cod.seq ?_
    refine Cod.region [] mixed (by kernel_rfl) ?_
    refine Chain.cons (StepOK.assign .none (.int (by decide))) rfl ?_
    refine Chain.nil ?_
    refine Ends.then ?_
    refine Cod.ret ?_
    obtain rfl := some_eq h
    exact Ends.ret1 (.inl rfl) Try.results10 (ResOK.tmp rfl trivial Imp.refl)

theorem ref_BoxError_ok {b1 : Box} {r : Int}  (h : ref_BoxError b1 = some r) : FSpec Try.prog 49 [rep b1] (rep r) := by
  unfold ref_BoxError at h
  refine FSpec.intro (n := 22) fnok49 Try.func49 rfl Try.ntmps49 rfl (fun F => ?_)
  refine Cod.seq ?_
  refine Cod.region [] mixed (by kernel_rfl) ?_
  refine Chain.cons (StepOK.box .none (.tmp rfl (fun _ => trivial))) rfl ?_
  refine Chain.cons (StepOK.assign .none (.int (by decide))) rfl ?_
  refine Chain.nil ?_
  refine Ends.then ?_
  refine Cod.seq ?_
  refine Cod.region [] mixed (by kernel_rfl) ?_
  refine Chain.cons (StepOK.fieldAddr .none fd25_0 hfd25_0 (.tmp rfl (fun _ => trivial))) rfl ?_
  refine Chain.cons (StepOK.load .none ty3 (.tmp rfl (fun _ => trivial))) rfl ?_
  refine Chain.cons (StepOK.fieldAddr .none fd25_1 hfd25_1 (.tmp rfl (fun _ => trivial))) rfl ?_
  refine Chain.cons (StepOK.load .none ty3 (.tmp rfl (fun _ => trivial))) rfl ?_
  refine Chain.cons (StepOK.buildF (y := (⟨b1.X, b1.Y⟩ : Point)) .none bu53 zc53 rfl (.cons (.tmp rfl (fun _ => trivial)) (.cons (.tmp rfl (fun _ => trivial)) .nil)) (.cons rfl sf53_0 (.cons rfl sf53_1 .nil))) rfl ?_
  obtain ⟨r1, hv1, h⟩ := bind_some h
  refine Chain.cons (StepOK.call .none (ref_PointError_ok hv1) (.cons (.tmp rfl (fun _ => trivial)) .nil)) rfl ?_
  refine Chain.cons (StepOK.fieldAddr .none fd25_2 hfd25_2 (.tmp rfl (fun _ => trivial))) rfl ?_
  refine Chain.cons (StepOK.load .none ty3 (.tmp rfl (fun _ => trivial))) rfl ?_
  obtain ⟨r2, hv2, h⟩ := bind_some h
  refine Chain.cons (StepOK.call .none (ref_In_ok hv2) (.cons (.tmp rfl (fun _ => trivial)) (.cons (.int (by decide)) (.cons (.int (by decide)) .nil)))) rfl ?_
  refine Chain.cons (StepOK.not .none (.tmp rfl (fun _ => trivial))) rfl ?_
  refine Chain.cons (StepOK.move .none (.tmp rfl (fun _ => trivial))) rfl ?_
  refine Chain.cons (StepOK.fieldAddr (.at rfl rfl) fd25_3 hfd25_3 (.tmp rfl (fun _ => trivial))) rfl ?_
  refine Chain.cons (StepOK.load (.at rfl rfl) ty3 (.tmp rfl id)) rfl ?_
  obtain ⟨r3, hv3, h⟩ := bind_some h
  refine Chain.cons (StepOK.callIf (.at rfl rfl) fnok13 (fun hg => ref_In_ok ((fun hg => gd_some hv3 ((notT hg.2))) hg)) (.cons (.tmp rfl id) (.cons (.int (by decide)) (.cons (.int (by decide)) .nil))) (fun h => h)) rfl ?_
  refine Chain.cons (StepOK.not (.at rfl rfl) (.tmp rfl id)) rfl ?_
  refine Chain.cons (StepOK.pickOr .none (.tmp rfl (fun _ => trivial)) (.tmp rfl id)) rfl ?_
  obtain ⟨r4, hv4, h⟩ := bind_some h
  refine Chain.cons (StepOK.call .none (ref_When_ok hv4) (.cons (.tmp rfl (fun _ => trivial)) (.cons (.int (by decide)) .nil))) rfl ?_
  refine Chain.cons (StepOK.buildSlice (xs := [_, _]) .none sl81 ty26 hz26 (.cons (.tmp rfl (fun _ => trivial)) (.cons (.tmp rfl (fun _ => trivial)) .nil)) rfl (by decide)) rfl ?_
  obtain ⟨r5, hv5, h⟩ := bind_some h
  refine Chain.cons (StepOK.call .none (ref_First_ok hv5) (.cons (.tmp rfl (fun _ => trivial)) .nil)) rfl ?_
  refine Chain.cons (StepOK.assign .none (.tmp rfl (fun _ => trivial))) rfl ?_
  refine Chain.nil ?_
  refine Ends.then ?_
  refine Cod.ret ?_
  obtain rfl := some_eq h
  exact Ends.ret1 (.inl rfl) Try.results49 (ResOK.tmp rfl trivial Imp.refl)

theorem ref_BoxesError_ok {l1 : (List Box)} {r : Int}  (h : ref_BoxesError l1 = some r) : FSpec Try.prog 14 [rep l1] (rep r) := by
  unfold ref_BoxesError at h
  refine FSpec.intro (n := 21) fnok14 Try.func14 rfl Try.ntmps14 rfl (fun F => ?_)
  refine Cod.seq ?_
  refine Cod.region [] mixed (by kernel_rfl) ?_
  refine Chain.cons (StepOK.assign .none (.int (by decide))) rfl ?_
  refine Chain.nil ?_
  refine Ends.then ?_
  refine Cod.seq ?_
  refine Cod.seq ?_
  refine Cod.region [] mixed (by kernel_rfl) ?_
  refine Chain.cons (StepOK.move .none (.tmp rfl (fun _ => trivial))) rfl ?_
  refine Chain.cons (StepOK.len .none sl23 (.tmp rfl (fun _ => trivial))) rfl ?_
  refine Chain.cons (StepOK.gt .none (.tmp rfl (fun _ => trivial)) (.int (by decide))) rfl ?_
  refine Chain.nil ?_
  refine Ends.then ?_
  refine Cod.cond (t := 8) rfl trivial (fun hb1 => ?_) (fun hb1 => ?_)
  · replace h := bif_t h hb1
    refine Cod.seq ?_
    refine Cod.region [] mixed (by kernel_rfl) ?_
    refine Chain.cons (StepOK.assign .none (.int (by decide))) rfl ?_
    refine Chain.nil ?_
    refine Ends.then ?_
    refine Cod.ret ?_
    refine Ends.thenRet ?_
    obtain rfl := some_eq h
    exact Ends.ret1 (.inl rfl) Try.results14 (ResOK.tmp rfl trivial Imp.refl)
  · replace h := bif_f h hb1
    refine Cod.skip ?_
    refine Ends.then ?_
    refine Cod.seq ?_
    refine Cod.seq ?_
    refine Cod.region [] mixed (by kernel_rfl) ?_
    refine Chain.cons (StepOK.move .none (.tmp rfl (fun _ => trivial))) rfl ?_
    refine Chain.cons (StepOK.len .none sl23 (.tmp rfl (fun _ => trivial))) rfl ?_
    refine Chain.cons (StepOK.move .none (.int (by decide))) rfl ?_
    refine Chain.nil ?_
    refine Ends.then ?_
    obtain ⟨o_2, h, hK2⟩ := bindR_some h
    refine Cod.thenJ (ι := Unit) (fun j_2 => []) (fun j_2 => []) (fun s => o_2 = Res.nx s) Sub.nil SubB.nil ?_ (fun j_2 hj2 => ?_)
    · skip
      refine Cod.block ?_
      refine Cod.rforEL h (fun p3_ => [(11, ⟨True, rep p3_.1⟩)]) (fun p3_ => []) (.cons (t := 11) rfl Sub.nil) SubB.nil (.cons (t := 9) rfl (.cons (t := 10) rfl Sub.nil)) SubB.nil (fun p3_ o_3 h hD3 => ?_)
      refine Cod.seq ?_
      refine Cod.region [] mixed (by kernel_rfl) ?_
      refine Chain.cons (StepOK.lt .none (.tmp rfl (fun _ => trivial)) (.tmp rfl (fun _ => trivial))) rfl ?_
      refine Chain.nil ?_
      refine Ends.then ?_
      refine Cod.seq ?_
      refine Cod.cond (t := 12) rfl trivial (fun hb4 => ?_) (fun hb4 => ?_)
      · replace h := bif_t h hb4
        refine Cod.skip ?_
        refine Ends.then ?_
        refine Cod.seq ?_
        obtain ⟨o_5, h, hK5⟩ := bindD_some h
        unfold ref_BoxesError_L1 at h
        refine Cod.thenJ (ι := Unit) (fun j_5 => []) (fun j_5 => []) (fun s => o_5 = Res.nx s) (.cons (t := 9) rfl (.cons (t := 10) rfl (.cons (t := 11) rfl Sub.nil))) SubB.nil ?_ (fun j_5 hj5 => ?_)
        · skip
          refine Cod.block ?_
          refine Cod.seq ?_
          refine Cod.region [([], []), ([], []), ([], [4]), ([4], [4])] mixed (by kernel_rfl) ?_
          obtain ⟨hn6, h⟩ := need_some h
          refine Chain.consA (StepOK.indexAddr .none sl23 ty25 (.tmp rfl (fun _ => trivial)) (.tmp rfl (fun _ => trivial)) (fun _ => hn6)) rfl ?_
          obtain ⟨v1, hv7, h⟩ := bnd_some h
          refine Chain.consA (StepOK.re hv7 (StepOK.load .none ty25 (.tmp rfl (fun _ => trivial)))) rfl ?_
          refine Chain.consW (StepOK.alloc zo25 rfl) rfl rfl ?_
          refine Chain.consN (StepOK.store ty25 rfl rfl (.tmp rfl (fun _ => trivial))) rfl ?_
          refine Chain.nil ?_
          refine Ends.then ?_
          refine Cod.freeze (t := 4) rfl rfl SubB.nil rfl ?_
          refine Cod.seq ?_
          refine Cod.region [] mixed (by kernel_rfl) ?_
          refine Chain.cons (StepOK.load .none ty25 (.tmp rfl (fun _ => trivial))) rfl ?_
          obtain ⟨e1, hv8, h⟩ := bind_some h
          refine Chain.cons (StepOK.call .none (ref_BoxError_ok hv8) (.cons (.tmp rfl (fun _ => trivial)) .nil)) rfl ?_
          refine Chain.cons (StepOK.assign .none (.tmp rfl (fun _ => trivial))) rfl ?_
          refine Chain.nil ?_
          refine Ends.then ?_
          refine Cod.seq ?_
          refine Cod.region [] mixed (by kernel_rfl) ?_
          refine Chain.cons (StepOK.move .none (.tmp rfl (fun _ => trivial))) rfl ?_
          refine Chain.cons (StepOK.neI .none (.tmp rfl (fun _ => trivial)) (.int (by decide))) rfl ?_
          refine Chain.nil ?_
          refine Ends.then ?_
          refine Cod.cond (t := 18) rfl trivial (fun hb9 => ?_) (fun hb9 => ?_)
          · replace h := bif_t h hb9
            refine Cod.seq ?_
            refine Cod.region [] mixed (by kernel_rfl) ?_
            refine Chain.cons (StepOK.move .none (.tmp rfl (fun _ => trivial))) rfl ?_
            refine Chain.cons (StepOK.assign .none (.tmp rfl (fun _ => trivial))) rfl ?_
            refine Chain.nil ?_
            refine Ends.then ?_
            refine Cod.ret ?_
            refine Ends.blkRet ?_
            refine Ends.thenRet ?_
            refine Ends.thenRet ?_
            refine Ends.blkRet ?_
            refine Ends.thenRet ?_
            replace h := resd_ab hK5 (some_eq h)
            replace h := hD3 _ (some_eq h)
            replace h := resb_ab hK2 (some_eq h)
            obtain rfl := some_eq h
            exact Ends.ret1 (.inl rfl) Try.results14 (ResOK.tmp rfl trivial Imp.refl)
          · replace h := bif_f h hb9
            refine Cod.skip ?_
            refine Ends.blkNormal ?_
            exact Ends.join _ (some_eq h) (.cons (t := 9) rfl (.cons (t := 10) rfl (.cons (t := 11) rfl Sub.nil))) SubB.nil
        · have h := resd_nx hK5 hj5
          refine Cod.region [] mixed (by kernel_rfl) ?_
          refine Chain.cons (StepOK.addW .none (.tmp rfl (fun _ => trivial)) (.int (by decide))) rfl ?_
          refine Chain.cons (StepOK.move .none (.tmp rfl (fun _ => trivial))) rfl ?_
          refine Chain.nil ?_
          exact Ends.againL (some_eq h) (.cons (t := 11) rfl (.cons (t := 9) rfl (.cons (t := 10) rfl Sub.nil))) SubB.nil
      · replace h := bif_f h hb4
        refine Cod.exit ?_
        refine Ends.thenExit ?_
        refine Ends.thenExit ?_
        refine Ends.blkExit ?_
        replace h := hD3 _ (some_eq h)
        exact Ends.join _ (some_eq h) Sub.nil SubB.nil
    · have h := resb_nx hK2 hj2
      refine Cod.seq ?_
      refine Cod.region [] mixed (by kernel_rfl) ?_
      refine Chain.cons (StepOK.assign .none (.int (by decide))) rfl ?_
      refine Chain.nil ?_
      refine Ends.then ?_
      refine Cod.ret ?_
      obtain rfl := some_eq h
      exact Ends.ret1 (.inl rfl) Try.results14 (ResOK.tmp rfl trivial Imp.refl)

theorem ref_toward_ok {side1 : Int} {r : Point}  (h : ref_toward side1 = some r) : FSpec Try.prog 75 [rep side1] (rep r) := by
  unfold ref_toward at h
  refine FSpec.intro (n := 14) fnok75 Try.func75 rfl Try.ntmps75 rfl (fun F => ?_)
  refine Cod.seq ?_
  refine Cod.region [([], [2])] mixed (by kernel_rfl) ?_
  refine Chain.consW (StepOK.alloc zo53 rfl) rfl rfl ?_
  refine Chain.nil ?_
  refine Ends.then ?_
  obtain ⟨v1, hv1, h⟩ := bnd_some h
  refine Cod.reB (t := 2) rfl (congrArg (cont 53) hv1) ?_
  refine Cod.nameBox (t := 2) (g := 5001) rfl rfl (fun m5001 => ?_)
  refine Cod.seq ?_
  refine Cod.seq ?_
  refine Cod.region [] mixed (by kernel_rfl) ?_
  refine Chain.cons (StepOK.move .none (.tmp rfl (fun _ => trivial))) rfl ?_
  refine Chain.nil ?_
  refine Ends.then ?_
  refine Cod.block ?_
  refine Cod.seq ?_
  refine Cod.region [] mixed (by kernel_rfl) ?_
  refine Chain.cons (StepOK.eqI .none (.tmp rfl (fun _ => trivial)) (.int (by decide))) rfl ?_
  refine Chain.cons (StepOK.assign .none (.tmp rfl (fun _ => trivial))) rfl ?_
  refine Chain.nil ?_
  refine Ends.then ?_
  refine Cod.cond (t := 4) rfl trivial (fun hb2 => ?_) (fun hb2 => ?_)
  · replace h := bif_t h hb2
    refine Cod.seq ?_
    refine Cod.region [([], []), ([5001], [5001])] mixed (by kernel_rfl) ?_
    obtain ⟨v2, hv3, h⟩ := bnd_some h
    refine Chain.consA (StepOK.re hv3 (StepOK.buildF (y := (⟨(0 : Int), (-1)⟩ : Point)) .none bu53 zc53 rfl (.cons (.int (by decide)) .nil) (.cons rfl sf53_1 .nil))) rfl ?_
    refine Chain.consN (StepOK.storeAt0 (g := 5001) ty53 rfl (.tmp rfl (fun _ => trivial)) (.tmp rfl (fun _ => trivial))) rfl ?_
    refine Chain.nil ?_
    refine Ends.then ?_
    refine Cod.freezeBox (g := 5001) (ts := [2]) rfl (.cons (t := 2) rfl trivial .nil) SubB.nil rfl ?_
    refine Cod.ret ?_
    refine Ends.blkRet ?_
    refine Ends.thenRet ?_
    obtain rfl := some_eq h
    exact Ends.ret1 (.inl rfl) Try.results75 (ResOK.cellR ty53 rfl trivial Imp.refl)
  · replace h := bif_f h hb2
    refine Cod.seq ?_
    refine Cod.region [] mixed (by kernel_rfl) ?_
    refine Chain.cons (StepOK.eqI .none (.tmp rfl (fun _ => trivial)) (.int (by decide))) rfl ?_
    refine Chain.cons (StepOK.assign .none (.tmp rfl (fun _ => trivial))) rfl ?_
    refine Chain.nil ?_
    refine Ends.then ?_
    refine Cod.cond (t := 7) rfl trivial (fun hb4 => ?_) (fun hb4 => ?_)
    · replace h := bif_t h hb4
      refine Cod.seq ?_
      refine Cod.region [([], []), ([5001], [5001])] mixed (by kernel_rfl) ?_
      obtain ⟨v3, hv5, h⟩ := bnd_some h
      refine Chain.consA (StepOK.re hv5 (StepOK.buildF (y := (⟨1, (0 : Int)⟩ : Point)) .none bu53 zc53 rfl (.cons (.int (by decide)) .nil) (.cons rfl sf53_0 .nil))) rfl ?_
      refine Chain.consN (StepOK.storeAt0 (g := 5001) ty53 rfl (.tmp rfl (fun _ => trivial)) (.tmp rfl (fun _ => trivial))) rfl ?_
      refine Chain.nil ?_
      refine Ends.then ?_
      refine Cod.freezeBox (g := 5001) (ts := [2]) rfl (.cons (t := 2) rfl trivial .nil) SubB.nil rfl ?_
      refine Cod.ret ?_
      refine Ends.blkRet ?_
      refine Ends.thenRet ?_
      obtain rfl := some_eq h
      exact Ends.ret1 (.inl rfl) Try.results75 (ResOK.cellR ty53 rfl trivial Imp.refl)
    · replace h := bif_f h hb4
      refine Cod.seq ?_
      refine Cod.region [] mixed (by kernel_rfl) ?_
      refine Chain.cons (StepOK.eqI .none (.tmp rfl (fun _ => trivial)) (.int (by decide))) rfl ?_
      refine Chain.cons (StepOK.assign .none (.tmp rfl (fun _ => trivial))) rfl ?_
      refine Chain.nil ?_
      refine Ends.then ?_
      refine Cod.cond (t := 10) rfl trivial (fun hb6 => ?_) (fun hb6 => ?_)
      · replace h := bif_t h hb6
        refine Cod.seq ?_
        refine Cod.region [([], []), ([5001], [5001])] mixed (by kernel_rfl) ?_
        obtain ⟨v4, hv7, h⟩ := bnd_some h
        refine Chain.consA (StepOK.re hv7 (StepOK.buildF (y := (⟨(0 : Int), 1⟩ : Point)) .none bu53 zc53 rfl (.cons (.int (by decide)) .nil) (.cons rfl sf53_1 .nil))) rfl ?_
        refine Chain.consN (StepOK.storeAt0 (g := 5001) ty53 rfl (.tmp rfl (fun _ => trivial)) (.tmp rfl (fun _ => trivial))) rfl ?_
        refine Chain.nil ?_
        refine Ends.then ?_
        refine Cod.freezeBox (g := 5001) (ts := [2]) rfl (.cons (t := 2) rfl trivial .nil) SubB.nil rfl ?_
        refine Cod.ret ?_
        refine Ends.blkRet ?_
        refine Ends.thenRet ?_
        obtain rfl := some_eq h
        exact Ends.ret1 (.inl rfl) Try.results75 (ResOK.cellR ty53 rfl trivial Imp.refl)
      · replace h := bif_f h hb6
        refine Cod.skip ?_
        refine Ends.blkNormal ?_
        refine Ends.then ?_
        refine Cod.seq ?_
        refine Cod.region [([], []), ([5001], [5001])] mixed (by kernel_rfl) ?_
        obtain ⟨v5, hv8, h⟩ := bnd_some h
        refine Chain.consA (StepOK.re hv8 (StepOK.buildF (y := (⟨(-1), (0 : Int)⟩ : Point)) .none bu53 zc53 rfl (.cons (.int (by decide)) .nil) (.cons rfl sf53_0 .nil))) rfl ?_
        refine Chain.consN (StepOK.storeAt0 (g := 5001) ty53 rfl (.tmp rfl (fun _ => trivial)) (.tmp rfl (fun _ => trivial))) rfl ?_
        refine Chain.nil ?_
        refine Ends.then ?_
        refine Cod.freezeBox (g := 5001) (ts := [2]) rfl (.cons (t := 2) rfl trivial .nil) SubB.nil rfl ?_
        refine Cod.ret ?_
        obtain rfl := some_eq h
        exact Ends.ret1 (.inl rfl) Try.results75 (ResOK.cellR ty53 rfl trivial Imp.refl)

theorem ref_step_ok {p1 : Point} {way1 : Point} {n1 : Int} {r : Point}  (h : ref_step p1 way1 n1 = some r) : FSpec Try.prog 91 [rep p1, rep way1, rep n1] (rep r) := by
  unfold ref_step at h
  refine FSpec.intro (n := 22) fnok91 Try.func91 rfl Try.ntmps91 rfl (fun F => ?_)
  refine Cod.seq ?_
  refine Cod.region [([], []), ([], []), ([], [6])] mixed (by kernel_rfl) ?_
  refine Chain.consA (StepOK.box .none (.tmp rfl (fun _ => trivial))) rfl ?_
  refine Chain.consA (StepOK.box .none (.tmp rfl (fun _ => trivial))) rfl ?_
  refine Chain.consW (StepOK.alloc zo53 rfl) rfl rfl ?_
  refine Chain.nil ?_
  refine Ends.then ?_
  obtain ⟨v1, hv1, h⟩ := bnd_some h
  refine Cod.reB (t := 6) rfl (congrArg (cont 53) hv1) ?_
  refine Cod.nameBox (t := 6) (g := 5001) rfl rfl (fun m5001 => ?_)
  refine Cod.seq ?_
  refine Cod.region [([], []), ([], []), ([], []), ([], []), ([], []), ([], []), ([], []), ([], []), ([], []), ([], []), ([], []), ([], []), ([], []), ([], []), ([], []), ([5001], [5001])] mixed (by kernel_rfl) ?_
  refine Chain.consA (StepOK.fieldAddr .none fd53_0 hfd53_0 (.tmp rfl (fun _ => trivial))) rfl ?_
  refine Chain.consA (StepOK.load .none ty3 (.tmp rfl (fun _ => trivial))) rfl ?_
  refine Chain.consA (StepOK.move .none (.tmp rfl (fun _ => trivial))) rfl ?_
  refine Chain.consA (StepOK.fieldAddr .none fd53_0 hfd53_0 (.tmp rfl (fun _ => trivial))) rfl ?_
  refine Chain.consA (StepOK.load .none ty3 (.tmp rfl (fun _ => trivial))) rfl ?_
  refine Chain.consA (StepOK.mulW .none (.tmp rfl (fun _ => trivial)) (.tmp rfl (fun _ => trivial))) rfl ?_
  refine Chain.consA (StepOK.addW .none (.tmp rfl (fun _ => trivial)) (.tmp rfl (fun _ => trivial))) rfl ?_
  refine Chain.consA (StepOK.fieldAddr .none fd53_1 hfd53_1 (.tmp rfl (fun _ => trivial))) rfl ?_
  refine Chain.consA (StepOK.load .none ty3 (.tmp rfl (fun _ => trivial))) rfl ?_
  refine Chain.consA (StepOK.move .none (.tmp rfl (fun _ => trivial))) rfl ?_
  refine Chain.consA (StepOK.fieldAddr .none fd53_1 hfd53_1 (.tmp rfl (fun _ => trivial))) rfl ?_
  refine Chain.consA (StepOK.load .none ty3 (.tmp rfl (fun _ => trivial))) rfl ?_
  refine Chain.consA (StepOK.mulW .none (.tmp rfl (fun _ => trivial)) (.tmp rfl (fun _ => trivial))) rfl ?_
  refine Chain.consA (StepOK.addW .none (.tmp rfl (fun _ => trivial)) (.tmp rfl (fun _ => trivial))) rfl ?_
  obtain ⟨v2, hv2, h⟩ := bnd_some h
  refine Chain.consA (StepOK.re hv2 (StepOK.buildF (y := (⟨W (p1.X + (W (n1 * way1.X))), W (p1.Y + (W (n1 * way1.Y)))⟩ : Point)) .none bu53 zc53 rfl (.cons (.tmp rfl (fun _ => trivial)) (.cons (.tmp rfl (fun _ => trivial)) .nil)) (.cons rfl sf53_0 (.cons rfl sf53_1 .nil)))) rfl ?_
  refine Chain.consN (StepOK.storeAt0 (g := 5001) ty53 rfl (.tmp rfl (fun _ => trivial)) (.tmp rfl (fun _ => trivial))) rfl ?_
  refine Chain.nil ?_
  refine Ends.then ?_
  refine Cod.freezeBox (g := 5001) (ts := [6]) rfl (.cons (t := 6) rfl trivial .nil) SubB.nil rfl ?_
  refine Cod.ret ?_
  obtain rfl := some_eq h
  exact Ends.ret1 (.inl rfl) Try.results91 (ResOK.cellR ty53 rfl trivial Imp.refl)

theorem ref_Ends_ok {t1 : Task} {r : (Point × Point)}  (h : ref_Ends t1 = some r) : FSpec Try.prog 68 [rep t1] (tup [rep r.1, rep r.2]) := by
  unfold ref_Ends at h
  refine FSpec.intro (n := 20) fnok68 Try.func68 rfl Try.ntmps68 rfl (fun F => ?_)
  refine Cod.seq ?_
  refine Cod.region [([], []), ([], [2]), ([], [3])] mixed (by kernel_rfl) ?_
  refine Chain.consA (StepOK.box .none (.tmp rfl (fun _ => trivial))) rfl ?_
  refine Chain.consW (StepOK.alloc zo53 rfl) rfl rfl ?_
  refine Chain.consW (StepOK.alloc zo53 rfl) rfl rfl ?_
  refine Chain.nil ?_
  refine Ends.then ?_
  obtain ⟨v1, hv1, h⟩ := bnd_some h
  refine Cod.reB (t := 2) rfl (congrArg (cont 53) hv1) ?_
  obtain ⟨v2, hv2, h⟩ := bnd_some h
  refine Cod.reB (t := 3) rfl (congrArg (cont 53) hv2) ?_
  refine Cod.nameBox (t := 2) (g := 5001) rfl rfl (fun m5001 => ?_)
  refine Cod.nameBox (t := 3) (g := 5002) rfl rfl (fun m5002 => ?_)
  refine Cod.seq ?_
  refine Cod.region [([], []), ([], []), ([], []), ([], []), ([], []), ([], []), ([], []), ([], []), ([], []), ([], []), ([], []), ([], []), ([], []), ([], []), ([], []), ([], []), ([5001], [5001]), ([5002], [5002])] mixed (by kernel_rfl) ?_
  refine Chain.consA (StepOK.fieldAddr .none fd55_0 hfd55_0 (.tmp rfl (fun _ => trivial))) rfl ?_
  refine Chain.consA (StepOK.load .none ty53 (.tmp rfl (fun _ => trivial))) rfl ?_
  refine Chain.consA (StepOK.fieldAddr .none fd55_1 hfd55_1 (.tmp rfl (fun _ => trivial))) rfl ?_
  refine Chain.consA (StepOK.load .none ty3 (.tmp rfl (fun _ => trivial))) rfl ?_
  obtain ⟨r1, hv3, h⟩ := bind_some h
  refine Chain.consA (StepOK.call .none (ref_toward_ok hv3) (.cons (.tmp rfl (fun _ => trivial)) .nil)) rfl ?_
  refine Chain.consA (StepOK.fieldAddr .none fd55_5 hfd55_5 (.tmp rfl (fun _ => trivial))) rfl ?_
  refine Chain.consA (StepOK.load .none ty3 (.tmp rfl (fun _ => trivial))) rfl ?_
  obtain ⟨r2, hv4, h⟩ := bind_some h
  refine Chain.consA (StepOK.call .none (ref_step_ok hv4) (.cons (.tmp rfl (fun _ => trivial)) (.cons (.tmp rfl (fun _ => trivial)) (.cons (.tmp rfl (fun _ => trivial)) .nil)))) rfl ?_
  refine Chain.consA (StepOK.fieldAddr .none fd55_2 hfd55_2 (.tmp rfl (fun _ => trivial))) rfl ?_
  refine Chain.consA (StepOK.load .none ty53 (.tmp rfl (fun _ => trivial))) rfl ?_
  refine Chain.consA (StepOK.fieldAddr .none fd55_3 hfd55_3 (.tmp rfl (fun _ => trivial))) rfl ?_
  refine Chain.consA (StepOK.load .none ty3 (.tmp rfl (fun _ => trivial))) rfl ?_
  obtain ⟨r3, hv5, h⟩ := bind_some h
  refine Chain.consA (StepOK.call .none (ref_toward_ok hv5) (.cons (.tmp rfl (fun _ => trivial)) .nil)) rfl ?_
  refine Chain.consA (StepOK.fieldAddr .none fd55_5 hfd55_5 (.tmp rfl (fun _ => trivial))) rfl ?_
  refine Chain.consA (StepOK.load .none ty3 (.tmp rfl (fun _ => trivial))) rfl ?_
  obtain ⟨r4, hv6, h⟩ := bind_some h
  refine Chain.consA (StepOK.call .none (ref_step_ok hv6) (.cons (.tmp rfl (fun _ => trivial)) (.cons (.tmp rfl (fun _ => trivial)) (.cons (.tmp rfl (fun _ => trivial)) .nil)))) rfl ?_
  refine Chain.consN (StepOK.storeAt0 (g := 5001) ty53 rfl (.tmp rfl (fun _ => trivial)) (.tmp rfl (fun _ => trivial))) rfl ?_
  refine Chain.consN (StepOK.storeAt0 (g := 5002) ty53 rfl (.tmp rfl (fun _ => trivial)) (.tmp rfl (fun _ => trivial))) rfl ?_
  refine Chain.nil ?_
  refine Ends.then ?_
  refine Cod.freezeBox (g := 5001) (ts := [2]) rfl (.cons (t := 2) rfl trivial .nil) (.cons (t := 5002) rfl SubB.nil) rfl ?_
  refine Cod.freezeBox (g := 5002) (ts := [3]) rfl (.cons (t := 3) rfl trivial .nil) SubB.nil rfl ?_
  refine Cod.ret ?_
  obtain rfl := some_eq h
  exact Ends.ret2 (.inl rfl) Try.results68 (ResOK.cellR ty53 rfl trivial Imp.refl) (ResOK.cellR ty53 rfl trivial Imp.refl)

theorem ref_TaskError_ok {t1 : Task} {r : Int}  (h : ref_TaskError t1 = some r) : FSpec Try.prog 25 [rep t1] (rep r) := by
  unfold ref_TaskError at h
  refine FSpec.intro (n := 50) fnok25 Try.func25 rfl Try.ntmps25 rfl (fun F => ?_)
  refine Cod.seq ?_
  refine Cod.region [] mixed (by kernel_rfl) ?_
  refine Chain.cons (StepOK.box .none (.tmp rfl (fun _ => trivial))) rfl ?_
  refine Chain.cons (StepOK.assign .none (.int (by decide))) rfl ?_
  refine Chain.nil ?_
  refine Ends.then ?_
  refine Cod.seq ?_
  refine Cod.seq ?_
  refine Cod.region [] mixed (by kernel_rfl) ?_
  refine Chain.cons (StepOK.fieldAddr .none fd55_0 hfd55_0 (.tmp rfl (fun _ => trivial))) rfl ?_
  refine Chain.cons (StepOK.load .none ty53 (.tmp rfl (fun _ => trivial))) rfl ?_
  obtain ⟨r1, hv1, h⟩ := bind_some h
  refine Chain.cons (StepOK.call .none (ref_PointError_ok hv1) (.cons (.tmp rfl (fun _ => trivial)) .nil)) rfl ?_
  refine Chain.cons (StepOK.fieldAddr .none fd55_1 hfd55_1 (.tmp rfl (fun _ => trivial))) rfl ?_
  refine Chain.cons (StepOK.load .none ty3 (.tmp rfl (fun _ => trivial))) rfl ?_
  obtain ⟨r2, hv2, h⟩ := bind_some h
  refine Chain.cons (StepOK.call .none (ref_sideError_ok hv2) (.cons (.tmp rfl (fun _ => trivial)) .nil)) rfl ?_
  refine Chain.cons (StepOK.fieldAddr .none fd55_2 hfd55_2 (.tmp rfl (fun _ => trivial))) rfl ?_
  refine Chain.cons (StepOK.load .none ty53 (.tmp rfl (fun _ => trivial))) rfl ?_
  obtain ⟨r3, hv3, h⟩ := bind_some h
  refine Chain.cons (StepOK.call .none (ref_PointError_ok hv3) (.cons (.tmp rfl (fun _ => trivial)) .nil)) rfl ?_
  refine Chain.cons (StepOK.fieldAddr .none fd55_3 hfd55_3 (.tmp rfl (fun _ => trivial))) rfl ?_
  refine Chain.cons (StepOK.load .none ty3 (.tmp rfl (fun _ => trivial))) rfl ?_
  obtain ⟨r4, hv4, h⟩ := bind_some h
  refine Chain.cons (StepOK.call .none (ref_sideError_ok hv4) (.cons (.tmp rfl (fun _ => trivial)) .nil)) rfl ?_
  refine Chain.cons (StepOK.fieldAddr .none fd55_4 hfd55_4 (.tmp rfl (fun _ => trivial))) rfl ?_
  refine Chain.cons (StepOK.load .none ty23 (.tmp rfl (fun _ => trivial))) rfl ?_
  refine Chain.cons (StepOK.len .none sl23 (.tmp rfl (fun _ => trivial))) rfl ?_
  refine Chain.cons (StepOK.gt .none (.tmp rfl (fun _ => trivial)) (.int (by decide))) rfl ?_
  obtain ⟨r5, hv5, h⟩ := bind_some h
  refine Chain.cons (StepOK.call .none (ref_When_ok hv5) (.cons (.tmp rfl (fun _ => trivial)) (.cons (.int (by decide)) .nil))) rfl ?_
  refine Chain.cons (StepOK.buildSlice (xs := [_, _, _, _, _]) .none sl81 ty26 hz26 (.cons (.tmp rfl (fun _ => trivial)) (.cons (.tmp rfl (fun _ => trivial)) (.cons (.tmp rfl (fun _ => trivial)) (.cons (.tmp rfl (fun _ => trivial)) (.cons (.tmp rfl (fun _ => trivial)) .nil))))) rfl (by decide)) rfl ?_
  obtain ⟨e1, hv6, h⟩ := bind_some h
  refine Chain.cons (StepOK.call .none (ref_First_ok hv6) (.cons (.tmp rfl (fun _ => trivial)) .nil)) rfl ?_
  refine Chain.cons (StepOK.assign .none (.tmp rfl (fun _ => trivial))) rfl ?_
  refine Chain.nil ?_
  refine Ends.then ?_
  refine Cod.seq ?_
  refine Cod.region [] mixed (by kernel_rfl) ?_
  refine Chain.cons (StepOK.move .none (.tmp rfl (fun _ => trivial))) rfl ?_
  refine Chain.cons (StepOK.neI .none (.tmp rfl (fun _ => trivial)) (.int (by decide))) rfl ?_
  refine Chain.nil ?_
  refine Ends.then ?_
  refine Cod.cond (t := 27) rfl trivial (fun hb7 => ?_) (fun hb7 => ?_)
  · replace h := bif_t h hb7
    refine Cod.seq ?_
    refine Cod.region [] mixed (by kernel_rfl) ?_
    refine Chain.cons (StepOK.move .none (.tmp rfl (fun _ => trivial))) rfl ?_
    refine Chain.cons (StepOK.assign .none (.tmp rfl (fun _ => trivial))) rfl ?_
    refine Chain.nil ?_
    refine Ends.then ?_
    refine Cod.ret ?_
    refine Ends.thenRet ?_
    obtain rfl := some_eq h
    exact Ends.ret1 (.inl rfl) Try.results25 (ResOK.tmp rfl trivial Imp.refl)
  · replace h := bif_f h hb7
    refine Cod.skip ?_
    refine Ends.then ?_
    refine Cod.seq ?_
    refine Cod.seq ?_
    refine Cod.region [] mixed (by kernel_rfl) ?_
    refine Chain.cons (StepOK.fieldAddr .none fd55_4 hfd55_4 (.tmp rfl (fun _ => trivial))) rfl ?_
    refine Chain.cons (StepOK.load .none ty23 (.tmp rfl (fun _ => trivial))) rfl ?_
    obtain ⟨e2, hv8, h⟩ := bind_some h
    refine Chain.cons (StepOK.call .none (ref_BoxesError_ok hv8) (.cons (.tmp rfl (fun _ => trivial)) .nil)) rfl ?_
    refine Chain.cons (StepOK.assign .none (.tmp rfl (fun _ => trivial))) rfl ?_
    refine Chain.nil ?_
    refine Ends.then ?_
    refine Cod.seq ?_
    refine Cod.region [] mixed (by kernel_rfl) ?_
    refine Chain.cons (StepOK.move .none (.tmp rfl (fun _ => trivial))) rfl ?_
    refine Chain.cons (StepOK.neI .none (.tmp rfl (fun _ => trivial)) (.int (by decide))) rfl ?_
    refine Chain.nil ?_
    refine Ends.then ?_
    refine Cod.cond (t := 33) rfl trivial (fun hb9 => ?_) (fun hb9 => ?_)
    · replace h := bif_t h hb9
      refine Cod.seq ?_
      refine Cod.region [] mixed (by kernel_rfl) ?_
      refine Chain.cons (StepOK.move .none (.tmp rfl (fun _ => trivial))) rfl ?_
      refine Chain.cons (StepOK.assign .none (.tmp rfl (fun _ => trivial))) rfl ?_
      refine Chain.nil ?_
      refine Ends.then ?_
      refine Cod.ret ?_
      refine Ends.thenRet ?_
      obtain rfl := some_eq h
      exact Ends.ret1 (.inl rfl) Try.results25 (ResOK.tmp rfl trivial Imp.refl)
    · replace h := bif_f h hb9
      refine Cod.skip ?_
      refine Ends.then ?_
      refine Cod.seq ?_
      refine Cod.seq ?_
      refine Cod.region [] mixed (by kernel_rfl) ?_
      refine Chain.cons (StepOK.fieldAddr .none fd55_5 hfd55_5 (.tmp rfl (fun _ => trivial))) rfl ?_
      refine Chain.cons (StepOK.load .none ty3 (.tmp rfl (fun _ => trivial))) rfl ?_
      obtain ⟨r6, hv10, h⟩ := bind_some h
      refine Chain.cons (StepOK.call .none (ref_In_ok hv10) (.cons (.tmp rfl (fun _ => trivial)) (.cons (.int (by decide)) (.cons (.int (by decide)) .nil)))) rfl ?_
      refine Chain.cons (StepOK.not .none (.tmp rfl (fun _ => trivial))) rfl ?_
      refine Chain.nil ?_
      refine Ends.then ?_
      refine Cod.cond (t := 38) rfl trivial (fun hb11 => ?_) (fun hb11 => ?_)
      · replace h := bif_t h hb11
        refine Cod.seq ?_
        refine Cod.region [] mixed (by kernel_rfl) ?_
        refine Chain.cons (StepOK.assign .none (.int (by decide))) rfl ?_
        refine Chain.nil ?_
        refine Ends.then ?_
        refine Cod.ret ?_
        refine Ends.thenRet ?_
        obtain rfl := some_eq h
        exact Ends.ret1 (.inl rfl) Try.results25 (ResOK.tmp rfl trivial Imp.refl)
      · replace h := bif_f h hb11
        refine Cod.skip ?_
        refine Ends.then ?_
        refine Cod.seq ?_
        refine Cod.region [([], []), ([], []), ([], []), ([], []), ([], []), ([], [5]), ([], [6]), ([5], [5]), ([6], [6])] mixed (by kernel_rfl) ?_
        refine Chain.consA (StepOK.load .none ty55 (.tmp rfl (fun _ => trivial))) rfl ?_
        obtain ⟨r7, hv12, h⟩ := bind_some h
        refine Chain.consA (StepOK.call .none (ref_Ends_ok hv12) (.cons (.tmp rfl (fun _ => trivial)) .nil)) rfl ?_
        refine Chain.consA (StepOK.move .none (.tmp rfl (fun _ => trivial))) rfl ?_
        refine Chain.consA (StepOK.extract .none (.tmp rfl (fun _ => trivial)) rfl) rfl ?_
        refine Chain.consA (StepOK.extract .none (.tmp rfl (fun _ => trivial)) rfl) rfl ?_
        refine Chain.consW (StepOK.alloc zo53 rfl) rfl rfl ?_
        refine Chain.consW (StepOK.alloc zo53 rfl) rfl rfl ?_
        refine Chain.consN (StepOK.store ty53 rfl rfl (.tmp rfl (fun _ => trivial))) rfl ?_
        refine Chain.consN (StepOK.store ty53 rfl rfl (.tmp rfl (fun _ => trivial))) rfl ?_
        refine Chain.nil ?_
        refine Ends.then ?_
        refine Cod.freeze (t := 5) rfl rfl (.cons (t := 6) rfl SubB.nil) rfl ?_
        refine Cod.freeze (t := 6) rfl rfl SubB.nil rfl ?_
        refine Cod.seq ?_
        refine Cod.region [] mixed (by kernel_rfl) ?_
        refine Chain.cons (StepOK.load .none ty53 (.tmp rfl (fun _ => trivial))) rfl ?_
        obtain ⟨r8, hv13, h⟩ := bind_some h
        refine Chain.cons (StepOK.call .none (ref_PointError_ok hv13) (.cons (.tmp rfl (fun _ => trivial)) .nil)) rfl ?_
        refine Chain.cons (StepOK.load .none ty53 (.tmp rfl (fun _ => trivial))) rfl ?_
        obtain ⟨r9, hv14, h⟩ := bind_some h
        refine Chain.cons (StepOK.call .none (ref_PointError_ok hv14) (.cons (.tmp rfl (fun _ => trivial)) .nil)) rfl ?_
        refine Chain.cons (StepOK.buildSlice (xs := [_, _]) .none sl81 ty26 hz26 (.cons (.tmp rfl (fun _ => trivial)) (.cons (.tmp rfl (fun _ => trivial)) .nil)) rfl (by decide)) rfl ?_
        obtain ⟨r10, hv15, h⟩ := bind_some h
        refine Chain.cons (StepOK.call .none (ref_First_ok hv15) (.cons (.tmp rfl (fun _ => trivial)) .nil)) rfl ?_
        refine Chain.cons (StepOK.assign .none (.tmp rfl (fun _ => trivial))) rfl ?_
        refine Chain.nil ?_
        refine Ends.then ?_
        refine Cod.ret ?_
        obtain rfl := some_eq h
        exact Ends.ret1 (.inl rfl) Try.results25 (ResOK.tmp rfl trivial Imp.refl)

theorem geom_out_ok {n1 : Int} {r : Bool}  (h : geom_out n1 = some r) : FSpec Try.prog 94 [rep n1] (rep r) := by
  unfold geom_out at h
  refine FSpec.intro (n := 9) fnok94 Try.func94 rfl Try.ntmps94 rfl (fun F => ?_)
  refine Cod.seq ?_
  refine Cod.region [] mixed (by kernel_rfl) ?_
  refine Chain.cons (StepOK.assign .none .bool) rfl ?_
  refine Chain.nil ?_
  refine Ends.then ?_
  refine Cod.seq ?_
  refine Cod.region [] mixed (by kernel_rfl) ?_
  refine Chain.cons (StepOK.move .none (.tmp rfl (fun _ => trivial))) rfl ?_
  refine Chain.cons (StepOK.lt .none (.tmp rfl (fun _ => trivial)) (.int (by decide))) rfl ?_
  refine Chain.cons (StepOK.move .none (.tmp rfl (fun _ => trivial))) rfl ?_
  refine Chain.cons (StepOK.move (.at rfl rfl) (.tmp rfl (fun _ => trivial))) rfl ?_
  refine Chain.cons (StepOK.gt (.at rfl rfl) (.tmp rfl id) (.int (by decide))) rfl ?_
  refine Chain.cons (StepOK.pickOr .none (.tmp rfl (fun _ => trivial)) (.tmp rfl id)) rfl ?_
  refine Chain.cons (StepOK.assign .none (.tmp rfl (fun _ => trivial))) rfl ?_
  refine Chain.nil ?_
  refine Ends.then ?_
  refine Cod.ret ?_
  obtain rfl := some_eq h
  exact Ends.ret1 (.inl rfl) Try.results94 (ResOK.tmp rfl trivial Imp.refl)

theorem geom_CheckPoint_ok {p1 : Point} {r : Int}  (h : geom_CheckPoint p1 = some r) : FSpec Try.prog 71 [rep p1] (rep r) := by
  unfold geom_CheckPoint at h
  refine FSpec.intro (n := 11) fnok71 Try.func71 rfl Try.ntmps71 rfl (fun F => ?_)
  refine Cod.seq ?_
  refine Cod.region [] mixed (by kernel_rfl) ?_
  refine Chain.cons (StepOK.box .none (.tmp rfl (fun _ => trivial))) rfl ?_
  refine Chain.cons (StepOK.assign .none (.int (by decide))) rfl ?_
  refine Chain.nil ?_
  refine Ends.then ?_
  refine Cod.seq ?_
  refine Cod.seq ?_
  refine Cod.region [] mixed (by kernel_rfl) ?_
  refine Chain.cons (StepOK.fieldAddr .none fd53_0 hfd53_0 (.tmp rfl (fun _ => trivial))) rfl ?_
  refine Chain.cons (StepOK.load .none ty3 (.tmp rfl (fun _ => trivial))) rfl ?_
  obtain ⟨r1, hv1, h⟩ := bind_some h
  refine Chain.cons (StepOK.call .none (geom_out_ok hv1) (.cons (.tmp rfl (fun _ => trivial)) .nil)) rfl ?_
  refine Chain.cons (StepOK.move .none (.tmp rfl (fun _ => trivial))) rfl ?_
  refine Chain.cons (StepOK.fieldAddr (.at rfl rfl) fd53_1 hfd53_1 (.tmp rfl (fun _ => trivial))) rfl ?_
  refine Chain.cons (StepOK.load (.at rfl rfl) ty3 (.tmp rfl id)) rfl ?_
  obtain ⟨r2, hv2, h⟩ := bind_some h
  refine Chain.cons (StepOK.callIf (.at rfl rfl) fnok94 (fun hg => geom_out_ok ((fun hg => gd_some hv2 ((notT hg.2))) hg)) (.cons (.tmp rfl id) .nil) (fun h => h)) rfl ?_
  refine Chain.cons (StepOK.pickOr .none (.tmp rfl (fun _ => trivial)) (.tmp rfl id)) rfl ?_
  refine Chain.nil ?_
  refine Ends.then ?_
  refine Cod.cond (t := 10) rfl trivial (fun hb3 => ?_) (fun hb3 => ?_)
  · replace h := bif_t h hb3
    refine Cod.seq ?_
    refine Cod.region [] mixed (by kernel_rfl) ?_
    refine Chain.cons (StepOK.assign .none (.int (by decide))) rfl ?_
    refine Chain.nil ?_
    refine Ends.then ?_
    refine Cod.ret ?_
    refine Ends.thenRet ?_
    obtain rfl := some_eq h
    exact Ends.ret1 (.inl rfl) Try.results71 (ResOK.tmp rfl trivial Imp.refl)
  · replace h := bif_f h hb3
    refine Cod.skip ?_
    refine Ends.then ?_
    refine Cod.seq ?_
    refine Cod.region [] mixed (by kernel_rfl) ?_
    refine Chain.cons (StepOK.assign .none (.int (by decide))) rfl ?_
    refine Chain.nil ?_
    refine Ends.then ?_
    refine Cod.ret ?_
    obtain rfl := some_eq h
    exact Ends.ret1 (.inl rfl) Try.results71 (ResOK.tmp rfl trivial Imp.refl)

theorem route_isSide_ok {side1 : Int} {r : Bool}  (h : route_isSide side1 = some r) : FSpec Try.prog 72 [rep side1] (rep r) := by
  unfold route_isSide at h
  refine FSpec.intro (n := 9) fnok72 Try.func72 rfl Try.ntmps72 rfl (fun F => ?_)
  refine Cod.seq ?_
  refine Cod.region [] mixed (by kernel_rfl) ?_
  refine Chain.cons (StepOK.assign .none .bool) rfl ?_
  refine Chain.nil ?_
  refine Ends.then ?_
  refine Cod.seq ?_
  refine Cod.region [] mixed (by kernel_rfl) ?_
  refine Chain.cons (StepOK.move .none (.tmp rfl (fun _ => trivial))) rfl ?_
  refine Chain.cons (StepOK.ge .none (.tmp rfl (fun _ => trivial)) (.int (by decide))) rfl ?_
  refine Chain.cons (StepOK.move .none (.tmp rfl (fun _ => trivial))) rfl ?_
  refine Chain.cons (StepOK.move (.at rfl rfl) (.tmp rfl (fun _ => trivial))) rfl ?_
  refine Chain.cons (StepOK.le (.at rfl rfl) (.tmp rfl id) (.int (by decide))) rfl ?_
  refine Chain.cons (StepOK.pickAnd .none (.tmp rfl (fun _ => trivial)) (.tmp rfl id)) rfl ?_
  refine Chain.cons (StepOK.assign .none (.tmp rfl (fun _ => trivial))) rfl ?_
  refine Chain.nil ?_
  refine Ends.then ?_
  refine Cod.ret ?_
  obtain rfl := some_eq h
  exact Ends.ret1 (.inl rfl) Try.results72 (ResOK.tmp rfl trivial Imp.refl)

theorem geom_CheckBox_ok {b1 : Box} {r : Int}  (h : geom_CheckBox b1 = some r) : FSpec Try.prog 41 [rep b1] (rep r) := by
  unfold geom_CheckBox at h
  refine FSpec.intro (n := 31) fnok41 Try.func41 rfl Try.ntmps41 rfl (fun F => ?_)
  refine Cod.seq ?_
  refine Cod.region [] mixed (by kernel_rfl) ?_
  refine Chain.cons (StepOK.box .none (.tmp rfl (fun _ => trivial))) rfl ?_
  refine Chain.cons (StepOK.assign .none (.int (by decide))) rfl ?_
  refine Chain.nil ?_
  refine Ends.then ?_
  refine Cod.seq ?_
  refine Cod.seq ?_
  refine Cod.region [] mixed (by kernel_rfl) ?_
  refine Chain.cons (StepOK.fieldAddr .none fd25_0 hfd25_0 (.tmp rfl (fun _ => trivial))) rfl ?_
  refine Chain.cons (StepOK.load .none ty3 (.tmp rfl (fun _ => trivial))) rfl ?_
  obtain ⟨r1, hv1, h⟩ := bind_some h
  refine Chain.cons (StepOK.call .none (geom_out_ok hv1) (.cons (.tmp rfl (fun _ => trivial)) .nil)) rfl ?_
  refine Chain.cons (StepOK.move .none (.tmp rfl (fun _ => trivial))) rfl ?_
  refine Chain.cons (StepOK.fieldAddr (.at rfl rfl) fd25_1 hfd25_1 (.tmp rfl (fun _ => trivial))) rfl ?_
  refine Chain.cons (StepOK.load (.at rfl rfl) ty3 (.tmp rfl id)) rfl ?_
  obtain ⟨r2, hv2, h⟩ := bind_some h
  refine Chain.cons (StepOK.callIf (.at rfl rfl) fnok94 (fun hg => geom_out_ok ((fun hg => gd_some hv2 ((notT hg.2))) hg)) (.cons (.tmp rfl id) .nil) (fun h => h)) rfl ?_
  refine Chain.cons (StepOK.pickOr .none (.tmp rfl (fun _ => trivial)) (.tmp rfl id)) rfl ?_
  refine Chain.cons (StepOK.move .none (.tmp rfl (fun _ => trivial))) rfl ?_
  refine Chain.cons (StepOK.fieldAddr (.at rfl rfl) fd25_2 hfd25_2 (.tmp rfl (fun _ => trivial))) rfl ?_
  refine Chain.cons (StepOK.load (.at rfl rfl) ty3 (.tmp rfl id)) rfl ?_
  refine Chain.cons (StepOK.lt (.at rfl rfl) (.tmp rfl id) (.int (by decide))) rfl ?_
  refine Chain.cons (StepOK.pickOr .none (.tmp rfl (fun _ => trivial)) (.tmp rfl id)) rfl ?_
  refine Chain.cons (StepOK.move .none (.tmp rfl (fun _ => trivial))) rfl ?_
  refine Chain.cons (StepOK.fieldAddr (.at rfl rfl) fd25_2 hfd25_2 (.tmp rfl (fun _ => trivial))) rfl ?_
  refine Chain.cons (StepOK.load (.at rfl rfl) ty3 (.tmp rfl id)) rfl ?_
  refine Chain.cons (StepOK.gt (.at rfl rfl) (.tmp rfl id) (.int (by decide))) rfl ?_
  refine Chain.cons (StepOK.pickOr .none (.tmp rfl (fun _ => trivial)) (.tmp rfl id)) rfl ?_
  refine Chain.cons (StepOK.move .none (.tmp rfl (fun _ => trivial))) rfl ?_
  refine Chain.cons (StepOK.fieldAddr (.at rfl rfl) fd25_3 hfd25_3 (.tmp rfl (fun _ => trivial))) rfl ?_
  refine Chain.cons (StepOK.load (.at rfl rfl) ty3 (.tmp rfl id)) rfl ?_
  refine Chain.cons (StepOK.lt (.at rfl rfl) (.tmp rfl id) (.int (by decide))) rfl ?_
  refine Chain.cons (StepOK.pickOr .none (.tmp rfl (fun _ => trivial)) (.tmp rfl id)) rfl ?_
  refine Chain.cons (StepOK.move .none (.tmp rfl (fun _ => trivial))) rfl ?_
  refine Chain.cons (StepOK.fieldAddr (.at rfl rfl) fd25_3 hfd25_3 (.tmp rfl (fun _ => trivial))) rfl ?_
  refine Chain.cons (StepOK.load (.at rfl rfl) ty3 (.tmp rfl id)) rfl ?_
  refine Chain.cons (StepOK.gt (.at rfl rfl) (.tmp rfl id) (.int (by decide))) rfl ?_
  refine Chain.cons (StepOK.pickOr .none (.tmp rfl (fun _ => trivial)) (.tmp rfl id)) rfl ?_
  refine Chain.nil ?_
  refine Ends.then ?_
  refine Cod.cond (t := 30) rfl trivial (fun hb3 => ?_) (fun hb3 => ?_)
  · replace h := bif_t h hb3
    refine Cod.seq ?_
    refine Cod.region [] mixed (by kernel_rfl) ?_
    refine Chain.cons (StepOK.assign .none (.int (by decide))) rfl ?_
    refine Chain.nil ?_
    refine Ends.then ?_
    refine Cod.ret ?_
    refine Ends.thenRet ?_
    obtain rfl := some_eq h
    exact Ends.ret1 (.inl rfl) Try.results41 (ResOK.tmp rfl trivial Imp.refl)
  · replace h := bif_f h hb3
    refine Cod.skip ?_
    refine Ends.then ?_
    refine Cod.seq ?_
    refine Cod.region [] mixed (by kernel_rfl) ?_
    refine Chain.cons (StepOK.assign .none (.int (by decide))) rfl ?_
    refine Chain.nil ?_
    refine Ends.then ?_
    refine Cod.ret ?_
    obtain rfl := some_eq h
    exact Ends.ret1 (.inl rfl) Try.results41 (ResOK.tmp rfl trivial Imp.refl)

theorem route_toward_ok {side1 : Int} {r : Point}  (h : route_toward side1 = some r) : FSpec Try.prog 102 [rep side1] (rep r) := by
  unfold route_toward at h
  refine FSpec.intro (n := 11) fnok102 Try.func102 rfl Try.ntmps102 rfl (fun F => ?_)
  refine Cod.seq ?_
  refine Cod.region [([], [2])] mixed (by kernel_rfl) ?_
  refine Chain.consW (StepOK.alloc zo53 rfl) rfl rfl ?_
  refine Chain.nil ?_
  refine Ends.then ?_
  obtain ⟨v1, hv1, h⟩ := bnd_some h
  refine Cod.reB (t := 2) rfl (congrArg (cont 53) hv1) ?_
  refine Cod.nameBox (t := 2) (g := 5001) rfl rfl (fun m5001 => ?_)
  refine Cod.seq ?_
  refine Cod.region [([], []), ([], []), ([], []), ([], []), ([], []), ([], []), ([], []), ([], []), ([5001], [5001])] mixed (by kernel_rfl) ?_
  refine Chain.consA (StepOK.buildF (y := (⟨(0 : Int), (0 : Int)⟩ : Point)) .none bu53 zc53 rfl .nil .nil) rfl ?_
  refine Chain.consA (StepOK.buildF (y := (⟨(0 : Int), (-1)⟩ : Point)) .none bu53 zc53 rfl (.cons (.int (by decide)) .nil) (.cons rfl sf53_1 .nil)) rfl ?_
  refine Chain.consA (StepOK.buildF (y := (⟨1, (0 : Int)⟩ : Point)) .none bu53 zc53 rfl (.cons (.int (by decide)) .nil) (.cons rfl sf53_0 .nil)) rfl ?_
  refine Chain.consA (StepOK.buildF (y := (⟨(0 : Int), 1⟩ : Point)) .none bu53 zc53 rfl (.cons (.int (by decide)) .nil) (.cons rfl sf53_1 .nil)) rfl ?_
  refine Chain.consA (StepOK.buildF (y := (⟨(-1), (0 : Int)⟩ : Point)) .none bu53 zc53 rfl (.cons (.int (by decide)) .nil) (.cons rfl sf53_0 .nil)) rfl ?_
  refine Chain.consA (StepOK.buildArr (xs := [_, _, _, _, _]) .none ao156 ty53 az156 (.cons (.tmp rfl (fun _ => trivial)) (.cons (.tmp rfl (fun _ => trivial)) (.cons (.tmp rfl (fun _ => trivial)) (.cons (.tmp rfl (fun _ => trivial)) (.cons (.tmp rfl (fun _ => trivial)) .nil))))) rfl) rfl ?_
  refine Chain.consA (StepOK.move .none (.tmp rfl (fun _ => trivial))) rfl ?_
  obtain ⟨hn2, h⟩ := need_some h
  obtain ⟨v2, hv3, h⟩ := bnd_some h
  refine Chain.consA (StepOK.re hv3 (StepOK.indexArr .none ao156 ty53 (.tmp rfl (fun _ => trivial)) (.tmp rfl (fun _ => trivial)) (fun _ => hn2))) rfl ?_
  refine Chain.consN (StepOK.storeAt0 (g := 5001) ty53 rfl (.tmp rfl (fun _ => trivial)) (.tmp rfl (fun _ => trivial))) rfl ?_
  refine Chain.nil ?_
  refine Ends.then ?_
  refine Cod.freezeBox (g := 5001) (ts := [2]) rfl (.cons (t := 2) rfl trivial .nil) SubB.nil rfl ?_
  refine Cod.ret ?_
  obtain rfl := some_eq h
  exact Ends.ret1 (.inl rfl) Try.results102 (ResOK.cellR ty53 rfl trivial Imp.refl)

theorem route_away_ok {p1 : Point} {d1 : Point} {n1 : Int} {r : Point}  (h : route_away p1 d1 n1 = some r) : FSpec Try.prog 45 [rep p1, rep d1, rep n1] (rep r) := by
  unfold route_away at h
  refine FSpec.intro (n := 22) fnok45 Try.func45 rfl Try.ntmps45 rfl (fun F => ?_)
  refine Cod.seq ?_
  refine Cod.region [([], []), ([], []), ([], [6])] mixed (by kernel_rfl) ?_
  refine Chain.consA (StepOK.box .none (.tmp rfl (fun _ => trivial))) rfl ?_
  refine Chain.consA (StepOK.box .none (.tmp rfl (fun _ => trivial))) rfl ?_
  refine Chain.consW (StepOK.alloc zo53 rfl) rfl rfl ?_
  refine Chain.nil ?_
  refine Ends.then ?_
  obtain ⟨v1, hv1, h⟩ := bnd_some h
  refine Cod.reB (t := 6) rfl (congrArg (cont 53) hv1) ?_
  refine Cod.nameBox (t := 6) (g := 5001) rfl rfl (fun m5001 => ?_)
  refine Cod.seq ?_
  refine Cod.region [([], []), ([], []), ([], []), ([], []), ([], []), ([], []), ([], []), ([], []), ([], []), ([], []), ([], []), ([], []), ([], []), ([], []), ([], []), ([5001], [5001])] mixed (by kernel_rfl) ?_
  refine Chain.consA (StepOK.fieldAddr .none fd53_0 hfd53_0 (.tmp rfl (fun _ => trivial))) rfl ?_
  refine Chain.consA (StepOK.load .none ty3 (.tmp rfl (fun _ => trivial))) rfl ?_
  refine Chain.consA (StepOK.move .none (.tmp rfl (fun _ => trivial))) rfl ?_
  refine Chain.consA (StepOK.fieldAddr .none fd53_0 hfd53_0 (.tmp rfl (fun _ => trivial))) rfl ?_
  refine Chain.consA (StepOK.load .none ty3 (.tmp rfl (fun _ => trivial))) rfl ?_
  refine Chain.consA (StepOK.mulW .none (.tmp rfl (fun _ => trivial)) (.tmp rfl (fun _ => trivial))) rfl ?_
  refine Chain.consA (StepOK.addW .none (.tmp rfl (fun _ => trivial)) (.tmp rfl (fun _ => trivial))) rfl ?_
  refine Chain.consA (StepOK.fieldAddr .none fd53_1 hfd53_1 (.tmp rfl (fun _ => trivial))) rfl ?_
  refine Chain.consA (StepOK.load .none ty3 (.tmp rfl (fun _ => trivial))) rfl ?_
  refine Chain.consA (StepOK.move .none (.tmp rfl (fun _ => trivial))) rfl ?_
  refine Chain.consA (StepOK.fieldAddr .none fd53_1 hfd53_1 (.tmp rfl (fun _ => trivial))) rfl ?_
  refine Chain.consA (StepOK.load .none ty3 (.tmp rfl (fun _ => trivial))) rfl ?_
  refine Chain.consA (StepOK.mulW .none (.tmp rfl (fun _ => trivial)) (.tmp rfl (fun _ => trivial))) rfl ?_
  refine Chain.consA (StepOK.addW .none (.tmp rfl (fun _ => trivial)) (.tmp rfl (fun _ => trivial))) rfl ?_
  obtain ⟨v2, hv2, h⟩ := bnd_some h
  refine Chain.consA (StepOK.re hv2 (StepOK.buildF (y := (⟨W (p1.X + (W (n1 * d1.X))), W (p1.Y + (W (n1 * d1.Y)))⟩ : Point)) .none bu53 zc53 rfl (.cons (.tmp rfl (fun _ => trivial)) (.cons (.tmp rfl (fun _ => trivial)) .nil)) (.cons rfl sf53_0 (.cons rfl sf53_1 .nil)))) rfl ?_
  refine Chain.consN (StepOK.storeAt0 (g := 5001) ty53 rfl (.tmp rfl (fun _ => trivial)) (.tmp rfl (fun _ => trivial))) rfl ?_
  refine Chain.nil ?_
  refine Ends.then ?_
  refine Cod.freezeBox (g := 5001) (ts := [6]) rfl (.cons (t := 6) rfl trivial .nil) SubB.nil rfl ?_
  refine Cod.ret ?_
  obtain rfl := some_eq h
  exact Ends.ret1 (.inl rfl) Try.results45 (ResOK.cellR ty53 rfl trivial Imp.refl)

theorem route_ends_ok {t1 : Task} {r : (Point × Point)}  (h : route_ends t1 = some r) : FSpec Try.prog 73 [rep t1] (tup [rep r.1, rep r.2]) := by
  unfold route_ends at h
  refine FSpec.intro (n := 20) fnok73 Try.func73 rfl Try.ntmps73 rfl (fun F => ?_)
  refine Cod.seq ?_
  refine Cod.region [([], []), ([], [2]), ([], [3])] mixed (by kernel_rfl) ?_
  refine Chain.consA (StepOK.box .none (.tmp rfl (fun _ => trivial))) rfl ?_
  refine Chain.consW (StepOK.alloc zo53 rfl) rfl rfl ?_
  refine Chain.consW (StepOK.alloc zo53 rfl) rfl rfl ?_
  refine Chain.nil ?_
  refine Ends.then ?_
  obtain ⟨start1, hv1, h⟩ := bnd_some h
  refine Cod.reB (t := 2) rfl (congrArg (cont 53) hv1) ?_
  obtain ⟨end1, hv2, h⟩ := bnd_some h
  refine Cod.reB (t := 3) rfl (congrArg (cont 53) hv2) ?_
  refine Cod.nameBox (t := 2) (g := 5001) rfl rfl (fun m5001 => ?_)
  refine Cod.nameBox (t := 3) (g := 5002) rfl rfl (fun m5002 => ?_)
  refine Cod.seq ?_
  refine Cod.region [([], []), ([], []), ([], []), ([], []), ([], []), ([], []), ([], []), ([], []), ([], []), ([], []), ([], []), ([], []), ([], []), ([], []), ([], []), ([], []), ([5001], [5001]), ([5002], [5002])] mixed (by kernel_rfl) ?_
  refine Chain.consA (StepOK.fieldAddr .none fd55_0 hfd55_0 (.tmp rfl (fun _ => trivial))) rfl ?_
  refine Chain.consA (StepOK.load .none ty53 (.tmp rfl (fun _ => trivial))) rfl ?_
  refine Chain.consA (StepOK.fieldAddr .none fd55_1 hfd55_1 (.tmp rfl (fun _ => trivial))) rfl ?_
  refine Chain.consA (StepOK.load .none ty3 (.tmp rfl (fun _ => trivial))) rfl ?_
  obtain ⟨r1, hv3, h⟩ := bind_some h
  refine Chain.consA (StepOK.call .none (route_toward_ok hv3) (.cons (.tmp rfl (fun _ => trivial)) .nil)) rfl ?_
  refine Chain.consA (StepOK.fieldAddr .none fd55_5 hfd55_5 (.tmp rfl (fun _ => trivial))) rfl ?_
  refine Chain.consA (StepOK.load .none ty3 (.tmp rfl (fun _ => trivial))) rfl ?_
  obtain ⟨r2, hv4, h⟩ := bind_some h
  refine Chain.consA (StepOK.call .none (route_away_ok hv4) (.cons (.tmp rfl (fun _ => trivial)) (.cons (.tmp rfl (fun _ => trivial)) (.cons (.tmp rfl (fun _ => trivial)) .nil)))) rfl ?_
  refine Chain.consA (StepOK.fieldAddr .none fd55_2 hfd55_2 (.tmp rfl (fun _ => trivial))) rfl ?_
  refine Chain.consA (StepOK.load .none ty53 (.tmp rfl (fun _ => trivial))) rfl ?_
  refine Chain.consA (StepOK.fieldAddr .none fd55_3 hfd55_3 (.tmp rfl (fun _ => trivial))) rfl ?_
  refine Chain.consA (StepOK.load .none ty3 (.tmp rfl (fun _ => trivial))) rfl ?_
  obtain ⟨r3, hv5, h⟩ := bind_some h
  refine Chain.consA (StepOK.call .none (route_toward_ok hv5) (.cons (.tmp rfl (fun _ => trivial)) .nil)) rfl ?_
  refine Chain.consA (StepOK.fieldAddr .none fd55_5 hfd55_5 (.tmp rfl (fun _ => trivial))) rfl ?_
  refine Chain.consA (StepOK.load .none ty3 (.tmp rfl (fun _ => trivial))) rfl ?_
  obtain ⟨r4, hv6, h⟩ := bind_some h
  refine Chain.consA (StepOK.call .none (route_away_ok hv6) (.cons (.tmp rfl (fun _ => trivial)) (.cons (.tmp rfl (fun _ => trivial)) (.cons (.tmp rfl (fun _ => trivial)) .nil)))) rfl ?_
  refine Chain.consN (StepOK.storeAt0 (g := 5001) ty53 rfl (.tmp rfl (fun _ => trivial)) (.tmp rfl (fun _ => trivial))) rfl ?_
  refine Chain.consN (StepOK.storeAt0 (g := 5002) ty53 rfl (.tmp rfl (fun _ => trivial)) (.tmp rfl (fun _ => trivial))) rfl ?_
  refine Chain.nil ?_
  refine Ends.then ?_
  refine Cod.freezeBox (g := 5001) (ts := [2]) rfl (.cons (t := 2) rfl trivial .nil) (.cons (t := 5002) rfl SubB.nil) rfl ?_
  refine Cod.freezeBox (g := 5002) (ts := [3]) rfl (.cons (t := 3) rfl trivial .nil) SubB.nil rfl ?_
  refine Cod.ret ?_
  obtain rfl := some_eq h
  exact Ends.ret2 (.inl rfl) Try.results73 (ResOK.cellR ty53 rfl trivial Imp.refl) (ResOK.cellR ty53 rfl trivial Imp.refl)

theorem route_Check_ok {t1 : Task} {r : Int}  (h : route_Check t1 = some r) : FSpec Try.prog 27 [rep t1] (rep r) := by
  unfold route_Check at h
  refine FSpec.intro (n := 76) fnok27 Try.func27 rfl Try.ntmps27 rfl (fun F => ?_)
  refine Cod.seq ?_
  refine Cod.region [] mixed (by kernel_rfl) ?_
  refine Chain.cons (StepOK.box .none (.tmp rfl (fun _ => trivial))) rfl ?_
  refine Chain.cons (StepOK.assign .none (.int (by decide))) rfl ?_
  refine Chain.nil ?_
  refine Ends.then ?_
  refine Cod.seq ?_
  refine Cod.seq ?_
  refine Cod.region [] mixed (by kernel_rfl) ?_
  refine Chain.cons (StepOK.fieldAddr .none fd55_0 hfd55_0 (.tmp rfl (fun _ => trivial))) rfl ?_
  refine Chain.cons (StepOK.load .none ty53 (.tmp rfl (fun _ => trivial))) rfl ?_
  refine Chain.cons (StepOK.fieldAddr .none fd55_1 hfd55_1 (.tmp rfl (fun _ => trivial))) rfl ?_
  refine Chain.cons (StepOK.load .none ty3 (.tmp rfl (fun _ => trivial))) rfl ?_
  refine Chain.cons (StepOK.buildF (y := (⟨t1.From, t1.FromSide⟩ : Anon_p_side)) .none bu97 zc97 rfl (.cons (.tmp rfl (fun _ => trivial)) (.cons (.tmp rfl (fun _ => trivial)) .nil)) (.cons rfl sf97_0 (.cons rfl sf97_1 .nil))) rfl ?_
  refine Chain.cons (StepOK.fieldAddr .none fd55_2 hfd55_2 (.tmp rfl (fun _ => trivial))) rfl ?_
  refine Chain.cons (StepOK.load .none ty53 (.tmp rfl (fun _ => trivial))) rfl ?_
  refine Chain.cons (StepOK.fieldAddr .none fd55_3 hfd55_3 (.tmp rfl (fun _ => trivial))) rfl ?_
  refine Chain.cons (StepOK.load .none ty3 (.tmp rfl (fun _ => trivial))) rfl ?_
  refine Chain.cons (StepOK.buildF (y := (⟨t1.To, t1.ToSide⟩ : Anon_p_side)) .none bu97 zc97 rfl (.cons (.tmp rfl (fun _ => trivial)) (.cons (.tmp rfl (fun _ => trivial)) .nil)) (.cons rfl sf97_0 (.cons rfl sf97_1 .nil))) rfl ?_
  obtain ⟨v1, hv1, h⟩ := bnd_some h
  refine Chain.cons (StepOK.re hv1 (StepOK.buildSlice (xs := [_, _]) .none sl98 ty97 hz97 (.cons (.tmp rfl (fun _ => trivial)) (.cons (.tmp rfl (fun _ => trivial)) .nil)) rfl (by decide))) rfl ?_
  refine Chain.cons (StepOK.len .none sl98 (.tmp rfl (fun _ => trivial))) rfl ?_
  refine Chain.cons (StepOK.move .none (.int (by decide))) rfl ?_
  refine Chain.nil ?_
  refine Ends.then ?_
  obtain ⟨o_2, h, hK2⟩ := bindR_some h
  refine Cod.thenJ (ι := Unit) (fun j_2 => []) (fun j_2 => []) (fun s => o_2 = Res.nx s) (.cons (t := 1) rfl Sub.nil) SubB.nil ?_ (fun j_2 hj2 => ?_)
  · skip
    refine Cod.block ?_
    refine Cod.rforEL h (fun p3_ => [(24, ⟨True, rep p3_.1⟩)]) (fun p3_ => []) (.cons (t := 24) rfl Sub.nil) SubB.nil (.cons (t := 1) rfl (.cons (t := 22) rfl (.cons (t := 23) rfl Sub.nil))) SubB.nil (fun p3_ o_3 h hD3 => ?_)
    refine Cod.seq ?_
    refine Cod.region [] mixed (by kernel_rfl) ?_
    refine Chain.cons (StepOK.lt .none (.tmp rfl (fun _ => trivial)) (.tmp rfl (fun _ => trivial))) rfl ?_
    refine Chain.nil ?_
    refine Ends.then ?_
    refine Cod.seq ?_
    refine Cod.cond (t := 25) rfl trivial (fun hb4 => ?_) (fun hb4 => ?_)
    · replace h := bif_t h hb4
      refine Cod.skip ?_
      refine Ends.then ?_
      refine Cod.seq ?_
      obtain ⟨o_5, h, hK5⟩ := bindD_some h
      unfold route_Check_L1 at h
      refine Cod.thenJ (ι := Unit) (fun j_5 => []) (fun j_5 => []) (fun s => o_5 = Res.nx s) (.cons (t := 1) rfl (.cons (t := 22) rfl (.cons (t := 23) rfl (.cons (t := 24) rfl Sub.nil)))) SubB.nil ?_ (fun j_5 hj5 => ?_)
      · skip
        refine Cod.block ?_
        refine Cod.seq ?_
        refine Cod.region [([], []), ([], []), ([], [4]), ([4], [4])] mixed (by kernel_rfl) ?_
        obtain ⟨hn6, h⟩ := need_some h
        refine Chain.consA (StepOK.indexAddr .none sl98 ty97 (.tmp rfl (fun _ => trivial)) (.tmp rfl (fun _ => trivial)) (fun _ => hn6)) rfl ?_
        obtain ⟨v2, hv7, h⟩ := bnd_some h
        refine Chain.consA (StepOK.re hv7 (StepOK.load .none ty97 (.tmp rfl (fun _ => trivial)))) rfl ?_
        refine Chain.consW (StepOK.alloc zo97 rfl) rfl rfl ?_
        refine Chain.consN (StepOK.store ty97 rfl rfl (.tmp rfl (fun _ => trivial))) rfl ?_
        refine Chain.nil ?_
        refine Ends.then ?_
        refine Cod.freeze (t := 4) rfl rfl SubB.nil rfl ?_
        refine Cod.seq ?_
        refine Cod.seq ?_
        refine Cod.region [] mixed (by kernel_rfl) ?_
        refine Chain.cons (StepOK.fieldAddr .none fd97_0 hfd97_0 (.tmp rfl (fun _ => trivial))) rfl ?_
        refine Chain.cons (StepOK.load .none ty53 (.tmp rfl (fun _ => trivial))) rfl ?_
        obtain ⟨e1, hv8, h⟩ := bind_some h
        refine Chain.cons (StepOK.call .none (geom_CheckPoint_ok hv8) (.cons (.tmp rfl (fun _ => trivial)) .nil)) rfl ?_
        refine Chain.cons (StepOK.assign .none (.tmp rfl (fun _ => trivial))) rfl ?_
        refine Chain.nil ?_
        refine Ends.then ?_
        refine Cod.seq ?_
        refine Cod.region [] mixed (by kernel_rfl) ?_
        refine Chain.cons (StepOK.move .none (.tmp rfl (fun _ => trivial))) rfl ?_
        refine Chain.cons (StepOK.neI .none (.tmp rfl (fun _ => trivial)) (.int (by decide))) rfl ?_
        refine Chain.nil ?_
        refine Ends.then ?_
        refine Cod.cond (t := 32) rfl trivial (fun hb9 => ?_) (fun hb9 => ?_)
        · replace h := bif_t h hb9
          refine Cod.seq ?_
          refine Cod.region [] mixed (by kernel_rfl) ?_
          refine Chain.cons (StepOK.move .none (.tmp rfl (fun _ => trivial))) rfl ?_
          refine Chain.cons (StepOK.assign .none (.tmp rfl (fun _ => trivial))) rfl ?_
          refine Chain.nil ?_
          refine Ends.then ?_
          refine Cod.ret ?_
          refine Ends.thenRet ?_
          refine Ends.blkRet ?_
          refine Ends.thenRet ?_
          refine Ends.thenRet ?_
          refine Ends.blkRet ?_
          refine Ends.thenRet ?_
          replace h := resd_ab hK5 (some_eq h)
          replace h := hD3 _ (some_eq h)
          replace h := resb_ab hK2 (some_eq h)
          obtain rfl := some_eq h
          exact Ends.ret1 (.inl rfl) Try.results27 (ResOK.tmp rfl trivial Imp.refl)
        · replace h := bif_f h hb9
          refine Cod.skip ?_
          refine Ends.then ?_
          refine Cod.seq ?_
          refine Cod.region [] mixed (by kernel_rfl) ?_
          refine Chain.cons (StepOK.fieldAddr .none fd97_1 hfd97_1 (.tmp rfl (fun _ => trivial))) rfl ?_
          refine Chain.cons (StepOK.load .none ty3 (.tmp rfl (fun _ => trivial))) rfl ?_
          obtain ⟨r1, hv10, h⟩ := bind_some h
          refine Chain.cons (StepOK.call .none (route_isSide_ok hv10) (.cons (.tmp rfl (fun _ => trivial)) .nil)) rfl ?_
          refine Chain.cons (StepOK.not .none (.tmp rfl (fun _ => trivial))) rfl ?_
          refine Chain.nil ?_
          refine Ends.then ?_
          refine Cod.cond (t := 37) rfl trivial (fun hb11 => ?_) (fun hb11 => ?_)
          · replace h := bif_t h hb11
            refine Cod.seq ?_
            refine Cod.region [] mixed (by kernel_rfl) ?_
            refine Chain.cons (StepOK.assign .none (.int (by decide))) rfl ?_
            refine Chain.nil ?_
            refine Ends.then ?_
            refine Cod.ret ?_
            refine Ends.blkRet ?_
            refine Ends.thenRet ?_
            refine Ends.thenRet ?_
            refine Ends.blkRet ?_
            refine Ends.thenRet ?_
            replace h := resd_ab hK5 (some_eq h)
            replace h := hD3 _ (some_eq h)
            replace h := resb_ab hK2 (some_eq h)
            obtain rfl := some_eq h
            exact Ends.ret1 (.inl rfl) Try.results27 (ResOK.tmp rfl trivial Imp.refl)
          · replace h := bif_f h hb11
            refine Cod.skip ?_
            refine Ends.blkNormal ?_
            exact Ends.join _ (some_eq h) (.cons (t := 1) rfl (.cons (t := 22) rfl (.cons (t := 23) rfl (.cons (t := 24) rfl Sub.nil)))) SubB.nil
      · have h := resd_nx hK5 hj5
        refine Cod.region [] mixed (by kernel_rfl) ?_
        refine Chain.cons (StepOK.addW .none (.tmp rfl (fun _ => trivial)) (.int (by decide))) rfl ?_
        refine Chain.cons (StepOK.move .none (.tmp rfl (fun _ => trivial))) rfl ?_
        refine Chain.nil ?_
        exact Ends.againL (some_eq h) (.cons (t := 24) rfl (.cons (t := 1) rfl (.cons (t := 22) rfl (.cons (t := 23) rfl Sub.nil)))) SubB.nil
    · replace h := bif_f h hb4
      refine Cod.exit ?_
      refine Ends.thenExit ?_
      refine Ends.thenExit ?_
      refine Ends.blkExit ?_
      replace h := hD3 _ (some_eq h)
      exact Ends.join _ (some_eq h) (.cons (t := 1) rfl Sub.nil) SubB.nil
  · have h := resb_nx hK2 hj2
    refine Cod.seq ?_
    refine Cod.seq ?_
    refine Cod.region [] mixed (by kernel_rfl) ?_
    refine Chain.cons (StepOK.fieldAddr .none fd55_4 hfd55_4 (.tmp rfl (fun _ => trivial))) rfl ?_
    refine Chain.cons (StepOK.load .none ty23 (.tmp rfl (fun _ => trivial))) rfl ?_
    refine Chain.cons (StepOK.len .none sl23 (.tmp rfl (fun _ => trivial))) rfl ?_
    refine Chain.cons (StepOK.gt .none (.tmp rfl (fun _ => trivial)) (.int (by decide))) rfl ?_
    refine Chain.nil ?_
    refine Ends.then ?_
    refine Cod.cond (t := 42) rfl trivial (fun hb12 => ?_) (fun hb12 => ?_)
    · replace h := bif_t h hb12
      refine Cod.seq ?_
      refine Cod.region [] mixed (by kernel_rfl) ?_
      refine Chain.cons (StepOK.assign .none (.int (by decide))) rfl ?_
      refine Chain.nil ?_
      refine Ends.then ?_
      refine Cod.ret ?_
      refine Ends.thenRet ?_
      obtain rfl := some_eq h
      exact Ends.ret1 (.inl rfl) Try.results27 (ResOK.tmp rfl trivial Imp.refl)
    · replace h := bif_f h hb12
      refine Cod.skip ?_
      refine Ends.then ?_
      refine Cod.seq ?_
      refine Cod.seq ?_
      refine Cod.region [] mixed (by kernel_rfl) ?_
      refine Chain.cons (StepOK.fieldAddr .none fd55_4 hfd55_4 (.tmp rfl (fun _ => trivial))) rfl ?_
      refine Chain.cons (StepOK.load .none ty23 (.tmp rfl (fun _ => trivial))) rfl ?_
      refine Chain.cons (StepOK.len .none sl23 (.tmp rfl (fun _ => trivial))) rfl ?_
      refine Chain.cons (StepOK.move .none (.int (by decide))) rfl ?_
      refine Chain.nil ?_
      refine Ends.then ?_
      obtain ⟨o_13, h, hK13⟩ := bindR_some h
      refine Cod.thenJ (ι := Unit) (fun j_13 => []) (fun j_13 => []) (fun s => o_13 = Res.nx s) (.cons (t := 1) rfl Sub.nil) SubB.nil ?_ (fun j_13 hj13 => ?_)
      · skip
        refine Cod.block ?_
        refine Cod.rforEL h (fun p14_ => [(46, ⟨True, rep p14_.1⟩)]) (fun p14_ => []) (.cons (t := 46) rfl Sub.nil) SubB.nil (.cons (t := 1) rfl (.cons (t := 44) rfl (.cons (t := 45) rfl Sub.nil))) SubB.nil (fun p14_ o_14 h hD14 => ?_)
        refine Cod.seq ?_
        refine Cod.region [] mixed (by kernel_rfl) ?_
        refine Chain.cons (StepOK.lt .none (.tmp rfl (fun _ => trivial)) (.tmp rfl (fun _ => trivial))) rfl ?_
        refine Chain.nil ?_
        refine Ends.then ?_
        refine Cod.seq ?_
        refine Cod.cond (t := 47) rfl trivial (fun hb15 => ?_) (fun hb15 => ?_)
        · replace h := bif_t h hb15
          refine Cod.skip ?_
          refine Ends.then ?_
          refine Cod.seq ?_
          obtain ⟨o_16, h, hK16⟩ := bindD_some h
          unfold route_Check_L2 at h
          refine Cod.thenJ (ι := Unit) (fun j_16 => []) (fun j_16 => []) (fun s => o_16 = Res.nx s) (.cons (t := 1) rfl (.cons (t := 44) rfl (.cons (t := 45) rfl (.cons (t := 46) rfl Sub.nil)))) SubB.nil ?_ (fun j_16 hj16 => ?_)
          · skip
            refine Cod.block ?_
            refine Cod.seq ?_
            refine Cod.region [([], []), ([], []), ([], [7]), ([7], [7])] mixed (by kernel_rfl) ?_
            obtain ⟨hn17, h⟩ := need_some h
            refine Chain.consA (StepOK.indexAddr .none sl23 ty25 (.tmp rfl (fun _ => trivial)) (.tmp rfl (fun _ => trivial)) (fun _ => hn17)) rfl ?_
            obtain ⟨v3, hv18, h⟩ := bnd_some h
            refine Chain.consA (StepOK.re hv18 (StepOK.load .none ty25 (.tmp rfl (fun _ => trivial)))) rfl ?_
            refine Chain.consW (StepOK.alloc zo25 rfl) rfl rfl ?_
            refine Chain.consN (StepOK.store ty25 rfl rfl (.tmp rfl (fun _ => trivial))) rfl ?_
            refine Chain.nil ?_
            refine Ends.then ?_
            refine Cod.freeze (t := 7) rfl rfl SubB.nil rfl ?_
            refine Cod.seq ?_
            refine Cod.region [] mixed (by kernel_rfl) ?_
            refine Chain.cons (StepOK.load .none ty25 (.tmp rfl (fun _ => trivial))) rfl ?_
            obtain ⟨e2, hv19, h⟩ := bind_some h
            refine Chain.cons (StepOK.call .none (geom_CheckBox_ok hv19) (.cons (.tmp rfl (fun _ => trivial)) .nil)) rfl ?_
            refine Chain.cons (StepOK.assign .none (.tmp rfl (fun _ => trivial))) rfl ?_
            refine Chain.nil ?_
            refine Ends.then ?_
            refine Cod.seq ?_
            refine Cod.region [] mixed (by kernel_rfl) ?_
            refine Chain.cons (StepOK.move .none (.tmp rfl (fun _ => trivial))) rfl ?_
            refine Chain.cons (StepOK.neI .none (.tmp rfl (fun _ => trivial)) (.int (by decide))) rfl ?_
            refine Chain.nil ?_
            refine Ends.then ?_
            refine Cod.cond (t := 53) rfl trivial (fun hb20 => ?_) (fun hb20 => ?_)
            · replace h := bif_t h hb20
              refine Cod.seq ?_
              refine Cod.region [] mixed (by kernel_rfl) ?_
              refine Chain.cons (StepOK.move .none (.tmp rfl (fun _ => trivial))) rfl ?_
              refine Chain.cons (StepOK.assign .none (.tmp rfl (fun _ => trivial))) rfl ?_
              refine Chain.nil ?_
              refine Ends.then ?_
              refine Cod.ret ?_
              refine Ends.blkRet ?_
              refine Ends.thenRet ?_
              refine Ends.thenRet ?_
              refine Ends.blkRet ?_
              refine Ends.thenRet ?_
              replace h := resd_ab hK16 (some_eq h)
              replace h := hD14 _ (some_eq h)
              replace h := resb_ab hK13 (some_eq h)
              obtain rfl := some_eq h
              exact Ends.ret1 (.inl rfl) Try.results27 (ResOK.tmp rfl trivial Imp.refl)
            · replace h := bif_f h hb20
              refine Cod.skip ?_
              refine Ends.blkNormal ?_
              exact Ends.join _ (some_eq h) (.cons (t := 1) rfl (.cons (t := 44) rfl (.cons (t := 45) rfl (.cons (t := 46) rfl Sub.nil)))) SubB.nil
          · have h := resd_nx hK16 hj16
            refine Cod.region [] mixed (by kernel_rfl) ?_
            refine Chain.cons (StepOK.addW .none (.tmp rfl (fun _ => trivial)) (.int (by decide))) rfl ?_
            refine Chain.cons (StepOK.move .none (.tmp rfl (fun _ => trivial))) rfl ?_
            refine Chain.nil ?_
            exact Ends.againL (some_eq h) (.cons (t := 46) rfl (.cons (t := 1) rfl (.cons (t := 44) rfl (.cons (t := 45) rfl Sub.nil)))) SubB.nil
        · replace h := bif_f h hb15
          refine Cod.exit ?_
          refine Ends.thenExit ?_
          refine Ends.thenExit ?_
          refine Ends.blkExit ?_
          replace h := hD14 _ (some_eq h)
          exact Ends.join _ (some_eq h) (.cons (t := 1) rfl Sub.nil) SubB.nil
      · have h := resb_nx hK13 hj13
        refine Cod.seq ?_
        refine Cod.seq ?_
        refine Cod.region [] mixed (by kernel_rfl) ?_
        refine Chain.cons (StepOK.fieldAddr .none fd55_5 hfd55_5 (.tmp rfl (fun _ => trivial))) rfl ?_
        refine Chain.cons (StepOK.load .none ty3 (.tmp rfl (fun _ => trivial))) rfl ?_
        refine Chain.cons (StepOK.lt .none (.tmp rfl (fun _ => trivial)) (.int (by decide))) rfl ?_
        refine Chain.cons (StepOK.move .none (.tmp rfl (fun _ => trivial))) rfl ?_
        refine Chain.cons (StepOK.fieldAddr (.at rfl rfl) fd55_5 hfd55_5 (.tmp rfl (fun _ => trivial))) rfl ?_
        refine Chain.cons (StepOK.load (.at rfl rfl) ty3 (.tmp rfl id)) rfl ?_
        refine Chain.cons (StepOK.gt (.at rfl rfl) (.tmp rfl id) (.int (by decide))) rfl ?_
        refine Chain.cons (StepOK.pickOr .none (.tmp rfl (fun _ => trivial)) (.tmp rfl id)) rfl ?_
        refine Chain.nil ?_
        refine Ends.then ?_
        refine Cod.cond (t := 63) rfl trivial (fun hb21 => ?_) (fun hb21 => ?_)
        · replace h := bif_t h hb21
          refine Cod.seq ?_
          refine Cod.region [] mixed (by kernel_rfl) ?_
          refine Chain.cons (StepOK.assign .none (.int (by decide))) rfl ?_
          refine Chain.nil ?_
          refine Ends.then ?_
          refine Cod.ret ?_
          refine Ends.thenRet ?_
          obtain rfl := some_eq h
          exact Ends.ret1 (.inl rfl) Try.results27 (ResOK.tmp rfl trivial Imp.refl)
        · replace h := bif_f h hb21
          refine Cod.skip ?_
          refine Ends.then ?_
          refine Cod.seq ?_
          refine Cod.region [([], []), ([], []), ([], []), ([], []), ([], []), ([], [9]), ([], [10]), ([9], [9]), ([10], [10])] mixed (by kernel_rfl) ?_
          refine Chain.consA (StepOK.load .none ty55 (.tmp rfl (fun _ => trivial))) rfl ?_
          obtain ⟨r2, hv22, h⟩ := bind_some h
          refine Chain.consA (StepOK.call .none (route_ends_ok hv22) (.cons (.tmp rfl (fun _ => trivial)) .nil)) rfl ?_
          refine Chain.consA (StepOK.move .none (.tmp rfl (fun _ => trivial))) rfl ?_
          refine Chain.consA (StepOK.extract .none (.tmp rfl (fun _ => trivial)) rfl) rfl ?_
          refine Chain.consA (StepOK.extract .none (.tmp rfl (fun _ => trivial)) rfl) rfl ?_
          refine Chain.consW (StepOK.alloc zo53 rfl) rfl rfl ?_
          refine Chain.consW (StepOK.alloc zo53 rfl) rfl rfl ?_
          refine Chain.consN (StepOK.store ty53 rfl rfl (.tmp rfl (fun _ => trivial))) rfl ?_
          refine Chain.consN (StepOK.store ty53 rfl rfl (.tmp rfl (fun _ => trivial))) rfl ?_
          refine Chain.nil ?_
          refine Ends.then ?_
          refine Cod.freeze (t := 9) rfl rfl (.cons (t := 10) rfl SubB.nil) rfl ?_
          refine Cod.freeze (t := 10) rfl rfl SubB.nil rfl ?_
          refine Cod.seq ?_
          refine Cod.seq ?_
          refine Cod.region [] mixed (by kernel_rfl) ?_
          refine Chain.cons (StepOK.load .none ty53 (.tmp rfl (fun _ => trivial))) rfl ?_
          obtain ⟨e3, hv23, h⟩ := bind_some h
          refine Chain.cons (StepOK.call .none (geom_CheckPoint_ok hv23) (.cons (.tmp rfl (fun _ => trivial)) .nil)) rfl ?_
          refine Chain.cons (StepOK.assign .none (.tmp rfl (fun _ => trivial))) rfl ?_
          refine Chain.nil ?_
          refine Ends.then ?_
          refine Cod.seq ?_
          refine Cod.region [] mixed (by kernel_rfl) ?_
          refine Chain.cons (StepOK.move .none (.tmp rfl (fun _ => trivial))) rfl ?_
          refine Chain.cons (StepOK.neI .none (.tmp rfl (fun _ => trivial)) (.int (by decide))) rfl ?_
          refine Chain.nil ?_
          refine Ends.then ?_
          refine Cod.cond (t := 72) rfl trivial (fun hb24 => ?_) (fun hb24 => ?_)
          · replace h := bif_t h hb24
            refine Cod.seq ?_
            refine Cod.region [] mixed (by kernel_rfl) ?_
            refine Chain.cons (StepOK.move .none (.tmp rfl (fun _ => trivial))) rfl ?_
            refine Chain.cons (StepOK.assign .none (.tmp rfl (fun _ => trivial))) rfl ?_
            refine Chain.nil ?_
            refine Ends.then ?_
            refine Cod.ret ?_
            refine Ends.thenRet ?_
            obtain rfl := some_eq h
            exact Ends.ret1 (.inl rfl) Try.results27 (ResOK.tmp rfl trivial Imp.refl)
          · replace h := bif_f h hb24
            refine Cod.skip ?_
            refine Ends.then ?_
            refine Cod.seq ?_
            refine Cod.region [] mixed (by kernel_rfl) ?_
            refine Chain.cons (StepOK.load .none ty53 (.tmp rfl (fun _ => trivial))) rfl ?_
            obtain ⟨r3, hv25, h⟩ := bind_some h
            refine Chain.cons (StepOK.call .none (geom_CheckPoint_ok hv25) (.cons (.tmp rfl (fun _ => trivial)) .nil)) rfl ?_
            refine Chain.cons (StepOK.assign .none (.tmp rfl (fun _ => trivial))) rfl ?_
            refine Chain.nil ?_
            refine Ends.then ?_
            refine Cod.ret ?_
            obtain rfl := some_eq h
            exact Ends.ret1 (.inl rfl) Try.results27 (ResOK.tmp rfl trivial Imp.refl)

theorem geom_points_ok {l1 : (List Point)} {r : Int}  (h : geom_points l1 = some r) : FSpec Try.prog 100 [rep l1] (rep r) := by
  unfold geom_points at h
  refine FSpec.intro (n := 18) fnok100 Try.func100 rfl Try.ntmps100 rfl (fun F => ?_)
  refine Cod.seq ?_
  refine Cod.region [] mixed (by kernel_rfl) ?_
  refine Chain.cons (StepOK.assign .none (.int (by decide))) rfl ?_
  refine Chain.nil ?_
  refine Ends.then ?_
  refine Cod.seq ?_
  refine Cod.seq ?_
  refine Cod.region [] mixed (by kernel_rfl) ?_
  refine Chain.cons (StepOK.move .none (.tmp rfl (fun _ => trivial))) rfl ?_
  refine Chain.cons (StepOK.len .none sl22 (.tmp rfl (fun _ => trivial))) rfl ?_
  refine Chain.cons (StepOK.move .none (.int (by decide))) rfl ?_
  refine Chain.nil ?_
  refine Ends.then ?_
  obtain ⟨o_1, h, hK1⟩ := bindR_some h
  refine Cod.thenJ (ι := Unit) (fun j_1 => []) (fun j_1 => []) (fun s => o_1 = Res.nx s) Sub.nil SubB.nil ?_ (fun j_1 hj1 => ?_)
  · skip
    refine Cod.block ?_
    refine Cod.rforEL h (fun p2_ => [(8, ⟨True, rep p2_.1⟩)]) (fun p2_ => []) (.cons (t := 8) rfl Sub.nil) SubB.nil (.cons (t := 6) rfl (.cons (t := 7) rfl Sub.nil)) SubB.nil (fun p2_ o_2 h hD2 => ?_)
    refine Cod.seq ?_
    refine Cod.region [] mixed (by kernel_rfl) ?_
    refine Chain.cons (StepOK.lt .none (.tmp rfl (fun _ => trivial)) (.tmp rfl (fun _ => trivial))) rfl ?_
    refine Chain.nil ?_
    refine Ends.then ?_
    refine Cod.seq ?_
    refine Cod.cond (t := 9) rfl trivial (fun hb3 => ?_) (fun hb3 => ?_)
    · replace h := bif_t h hb3
      refine Cod.skip ?_
      refine Ends.then ?_
      refine Cod.seq ?_
      obtain ⟨o_4, h, hK4⟩ := bindD_some h
      unfold geom_points_L1 at h
      refine Cod.thenJ (ι := Unit) (fun j_4 => []) (fun j_4 => []) (fun s => o_4 = Res.nx s) (.cons (t := 6) rfl (.cons (t := 7) rfl (.cons (t := 8) rfl Sub.nil))) SubB.nil ?_ (fun j_4 hj4 => ?_)
      · skip
        refine Cod.block ?_
        refine Cod.seq ?_
        refine Cod.region [([], []), ([], []), ([], [4]), ([4], [4])] mixed (by kernel_rfl) ?_
        obtain ⟨hn5, h⟩ := need_some h
        refine Chain.consA (StepOK.indexAddr .none sl22 ty53 (.tmp rfl (fun _ => trivial)) (.tmp rfl (fun _ => trivial)) (fun _ => hn5)) rfl ?_
        obtain ⟨v1, hv6, h⟩ := bnd_some h
        refine Chain.consA (StepOK.re hv6 (StepOK.load .none ty53 (.tmp rfl (fun _ => trivial)))) rfl ?_
        refine Chain.consW (StepOK.alloc zo53 rfl) rfl rfl ?_
        refine Chain.consN (StepOK.store ty53 rfl rfl (.tmp rfl (fun _ => trivial))) rfl ?_
        refine Chain.nil ?_
        refine Ends.then ?_
        refine Cod.freeze (t := 4) rfl rfl SubB.nil rfl ?_
        refine Cod.seq ?_
        refine Cod.region [] mixed (by kernel_rfl) ?_
        refine Chain.cons (StepOK.load .none ty53 (.tmp rfl (fun _ => trivial))) rfl ?_
        obtain ⟨e1, hv7, h⟩ := bind_some h
        refine Chain.cons (StepOK.call .none (geom_CheckPoint_ok hv7) (.cons (.tmp rfl (fun _ => trivial)) .nil)) rfl ?_
        refine Chain.cons (StepOK.assign .none (.tmp rfl (fun _ => trivial))) rfl ?_
        refine Chain.nil ?_
        refine Ends.then ?_
        refine Cod.seq ?_
        refine Cod.region [] mixed (by kernel_rfl) ?_
        refine Chain.cons (StepOK.move .none (.tmp rfl (fun _ => trivial))) rfl ?_
        refine Chain.cons (StepOK.neI .none (.tmp rfl (fun _ => trivial)) (.int (by decide))) rfl ?_
        refine Chain.nil ?_
        refine Ends.then ?_
        refine Cod.cond (t := 15) rfl trivial (fun hb8 => ?_) (fun hb8 => ?_)
        · replace h := bif_t h hb8
          refine Cod.seq ?_
          refine Cod.region [] mixed (by kernel_rfl) ?_
          refine Chain.cons (StepOK.move .none (.tmp rfl (fun _ => trivial))) rfl ?_
          refine Chain.cons (StepOK.assign .none (.tmp rfl (fun _ => trivial))) rfl ?_
          refine Chain.nil ?_
          refine Ends.then ?_
          refine Cod.ret ?_
          refine Ends.blkRet ?_
          refine Ends.thenRet ?_
          refine Ends.thenRet ?_
          refine Ends.blkRet ?_
          refine Ends.thenRet ?_
          replace h := resd_ab hK4 (some_eq h)
          replace h := hD2 _ (some_eq h)
          replace h := resb_ab hK1 (some_eq h)
          obtain rfl := some_eq h
          exact Ends.ret1 (.inl rfl) Try.results100 (ResOK.tmp rfl trivial Imp.refl)
        · replace h := bif_f h hb8
          refine Cod.skip ?_
          refine Ends.blkNormal ?_
          exact Ends.join _ (some_eq h) (.cons (t := 6) rfl (.cons (t := 7) rfl (.cons (t := 8) rfl Sub.nil))) SubB.nil
      · have h := resd_nx hK4 hj4
        refine Cod.region [] mixed (by kernel_rfl) ?_
        refine Chain.cons (StepOK.addW .none (.tmp rfl (fun _ => trivial)) (.int (by decide))) rfl ?_
        refine Chain.cons (StepOK.move .none (.tmp rfl (fun _ => trivial))) rfl ?_
        refine Chain.nil ?_
        exact Ends.againL (some_eq h) (.cons (t := 8) rfl (.cons (t := 6) rfl (.cons (t := 7) rfl Sub.nil))) SubB.nil
    · replace h := bif_f h hb3
      refine Cod.exit ?_
      refine Ends.thenExit ?_
      refine Ends.thenExit ?_
      refine Ends.blkExit ?_
      replace h := hD2 _ (some_eq h)
      exact Ends.join _ (some_eq h) Sub.nil SubB.nil
  · have h := resb_nx hK1 hj1
    refine Cod.seq ?_
    refine Cod.region [] mixed (by kernel_rfl) ?_
    refine Chain.cons (StepOK.assign .none (.int (by decide))) rfl ?_
    refine Chain.nil ?_
    refine Ends.then ?_
    refine Cod.ret ?_
    obtain rfl := some_eq h
    exact Ends.ret1 (.inl rfl) Try.results100 (ResOK.tmp rfl trivial Imp.refl)

theorem geom_CheckPoints_ok {l1 : (List Point)} {r : Int}  (h : geom_CheckPoints l1 = some r) : FSpec Try.prog 69 [rep l1] (rep r) := by
  unfold geom_CheckPoints at h
  refine FSpec.intro (n := 8) fnok69 Try.func69 rfl Try.ntmps69 rfl (fun F => ?_)
  refine Cod.seq ?_
  refine Cod.region [] mixed (by kernel_rfl) ?_
  refine Chain.cons (StepOK.assign .none (.int (by decide))) rfl ?_
  refine Chain.nil ?_
  refine Ends.then ?_
  refine Cod.seq ?_
  refine Cod.seq ?_
  refine Cod.region [] mixed (by kernel_rfl) ?_
  refine Chain.cons (StepOK.move .none (.tmp rfl (fun _ => trivial))) rfl ?_
  refine Chain.cons (StepOK.len .none sl22 (.tmp rfl (fun _ => trivial))) rfl ?_
  refine Chain.cons (StepOK.gt .none (.tmp rfl (fun _ => trivial)) (.int (by decide))) rfl ?_
  refine Chain.nil ?_
  refine Ends.then ?_
  refine Cod.cond (t := 5) rfl trivial (fun hb1 => ?_) (fun hb1 => ?_)
  · replace h := bif_t h hb1
    refine Cod.seq ?_
    refine Cod.region [] mixed (by kernel_rfl) ?_
    refine Chain.cons (StepOK.assign .none (.int (by decide))) rfl ?_
    refine Chain.nil ?_
    refine Ends.then ?_
    refine Cod.ret ?_
    refine Ends.thenRet ?_
    obtain rfl := some_eq h
    exact Ends.ret1 (.inl rfl) Try.results69 (ResOK.tmp rfl trivial Imp.refl)
  · replace h := bif_f h hb1
    refine Cod.skip ?_
    refine Ends.then ?_
    refine Cod.seq ?_
    refine Cod.region [] mixed (by kernel_rfl) ?_
    refine Chain.cons (StepOK.move .none (.tmp rfl (fun _ => trivial))) rfl ?_
    obtain ⟨r1, hv2, h⟩ := bind_some h
    refine Chain.cons (StepOK.call .none (geom_points_ok hv2) (.cons (.tmp rfl (fun _ => trivial)) .nil)) rfl ?_
    refine Chain.cons (StepOK.assign .none (.tmp rfl (fun _ => trivial))) rfl ?_
    refine Chain.nil ?_
    refine Ends.then ?_
    refine Cod.ret ?_
    obtain rfl := some_eq h
    exact Ends.ret1 (.inl rfl) Try.results69 (ResOK.tmp rfl trivial Imp.refl)

theorem geom_CheckPath_ok {l1 : (List Point)} {r : Int}  (h : geom_CheckPath l1 = some r) : FSpec Try.prog 87 [rep l1] (rep r) := by
  unfold geom_CheckPath at h
  refine FSpec.intro (n := 44) fnok87 Try.func87 rfl Try.ntmps87 rfl (fun F => ?_)
  refine Cod.seq ?_
  refine Cod.region [] mixed (by kernel_rfl) ?_
  refine Chain.cons (StepOK.assign .none (.int (by decide))) rfl ?_
  refine Chain.nil ?_
  refine Ends.then ?_
  refine Cod.seq ?_
  refine Cod.seq ?_
  refine Cod.region [] mixed (by kernel_rfl) ?_
  refine Chain.cons (StepOK.move .none (.tmp rfl (fun _ => trivial))) rfl ?_
  obtain ⟨e1, hv1, h⟩ := bind_some h
  refine Chain.cons (StepOK.call .none (geom_CheckPoints_ok hv1) (.cons (.tmp rfl (fun _ => trivial)) .nil)) rfl ?_
  refine Chain.cons (StepOK.assign .none (.tmp rfl (fun _ => trivial))) rfl ?_
  refine Chain.nil ?_
  refine Ends.then ?_
  refine Cod.seq ?_
  refine Cod.region [] mixed (by kernel_rfl) ?_
  refine Chain.cons (StepOK.move .none (.tmp rfl (fun _ => trivial))) rfl ?_
  refine Chain.cons (StepOK.neI .none (.tmp rfl (fun _ => trivial)) (.int (by decide))) rfl ?_
  refine Chain.nil ?_
  refine Ends.then ?_
  refine Cod.cond (t := 8) rfl trivial (fun hb2 => ?_) (fun hb2 => ?_)
  · replace h := bif_t h hb2
    refine Cod.seq ?_
    refine Cod.region [] mixed (by kernel_rfl) ?_
    refine Chain.cons (StepOK.move .none (.tmp rfl (fun _ => trivial))) rfl ?_
    refine Chain.cons (StepOK.assign .none (.tmp rfl (fun _ => trivial))) rfl ?_
    refine Chain.nil ?_
    refine Ends.then ?_
    refine Cod.ret ?_
    refine Ends.thenRet ?_
    obtain rfl := some_eq h
    exact Ends.ret1 (.inl rfl) Try.results87 (ResOK.tmp rfl trivial Imp.refl)
  · replace h := bif_f h hb2
    refine Cod.skip ?_
    refine Ends.then ?_
    refine Cod.seq ?_
    refine Cod.seq ?_
    refine Cod.region [] mixed (by kernel_rfl) ?_
    refine Chain.cons (StepOK.move .none (.tmp rfl (fun _ => trivial))) rfl ?_
    refine Chain.cons (StepOK.len .none sl22 (.tmp rfl (fun _ => trivial))) rfl ?_
    refine Chain.cons (StepOK.lt .none (.tmp rfl (fun _ => trivial)) (.int (by decide))) rfl ?_
    refine Chain.nil ?_
    refine Ends.then ?_
    refine Cod.cond (t := 12) rfl trivial (fun hb3 => ?_) (fun hb3 => ?_)
    · replace h := bif_t h hb3
      refine Cod.seq ?_
      refine Cod.region [] mixed (by kernel_rfl) ?_
      refine Chain.cons (StepOK.assign .none (.int (by decide))) rfl ?_
      refine Chain.nil ?_
      refine Ends.then ?_
      refine Cod.ret ?_
      refine Ends.thenRet ?_
      obtain rfl := some_eq h
      exact Ends.ret1 (.inl rfl) Try.results87 (ResOK.tmp rfl trivial Imp.refl)
    · replace h := bif_f h hb3
      refine Cod.skip ?_
      refine Ends.then ?_
      refine Cod.seq ?_
      refine Cod.seq ?_
      refine Cod.region [] mixed (by kernel_rfl) ?_
      refine Chain.cons (StepOK.assign .none (.int (by decide))) rfl ?_
      refine Chain.nil ?_
      refine Ends.then ?_
      obtain ⟨o_4, h, hK4⟩ := bindR_some h
      refine Cod.thenJ (ι := Unit) (fun j_4 => []) (fun j_4 => []) (fun s => o_4 = Res.nx s) Sub.nil SubB.nil ?_ (fun j_4 hj4 => ?_)
      · skip
        refine Cod.block ?_
        refine Cod.loopL h (fun s5_ => [(4, ⟨True, rep s5_⟩)]) (fun s5_ => []) (.cons (t := 4) rfl Sub.nil) SubB.nil (.cons (t := 0) rfl Sub.nil) SubB.nil (fun s5_ o_5 h hD5 => ?_)
        unfold geom_CheckPath_L1 at h
        refine Cod.seq ?_
        refine Cod.seq ?_
        refine Cod.region [] mixed (by kernel_rfl) ?_
        refine Chain.cons (StepOK.move .none (.tmp rfl (fun _ => trivial))) rfl ?_
        refine Chain.cons (StepOK.move .none (.tmp rfl (fun _ => trivial))) rfl ?_
        refine Chain.cons (StepOK.len .none sl22 (.tmp rfl (fun _ => trivial))) rfl ?_
        refine Chain.cons (StepOK.lt .none (.tmp rfl (fun _ => trivial)) (.tmp rfl (fun _ => trivial))) rfl ?_
        refine Chain.nil ?_
        refine Ends.then ?_
        refine Cod.cond (t := 16) rfl trivial (fun hb6 => ?_) (fun hb6 => ?_)
        · replace h := bif_t h hb6
          refine Cod.skip ?_
          refine Ends.then ?_
          refine Cod.seq ?_
          refine Cod.block ?_
          refine Cod.seq ?_
          refine Cod.region [] mixed (by kernel_rfl) ?_
          refine Chain.cons (StepOK.move .none (.tmp rfl (fun _ => trivial))) rfl ?_
          refine Chain.cons (StepOK.move .none (.tmp rfl (fun _ => trivial))) rfl ?_
          obtain ⟨hn7, h⟩ := need_some h
          refine Chain.cons (StepOK.indexAddr .none sl22 ty53 (.tmp rfl (fun _ => trivial)) (.tmp rfl (fun _ => trivial)) (fun _ => hn7)) rfl ?_
          refine Chain.cons (StepOK.fieldAddr .none fd53_0 hfd53_0 (.tmp rfl (fun _ => trivial))) rfl ?_
          refine Chain.cons (StepOK.load .none ty3 (.tmp rfl (fun _ => trivial))) rfl ?_
          refine Chain.cons (StepOK.move .none (.tmp rfl (fun _ => trivial))) rfl ?_
          refine Chain.cons (StepOK.move .none (.tmp rfl (fun _ => trivial))) rfl ?_
          refine Chain.cons (StepOK.subW .none (.tmp rfl (fun _ => trivial)) (.int (by decide))) rfl ?_
          obtain ⟨hn8, h⟩ := need_some h
          refine Chain.cons (StepOK.indexAddr .none sl22 ty53 (.tmp rfl (fun _ => trivial)) (.tmp rfl (fun _ => trivial)) (fun _ => hn8)) rfl ?_
          refine Chain.cons (StepOK.fieldAddr .none fd53_0 hfd53_0 (.tmp rfl (fun _ => trivial))) rfl ?_
          refine Chain.cons (StepOK.load .none ty3 (.tmp rfl (fun _ => trivial))) rfl ?_
          refine Chain.cons (StepOK.eqI .none (.tmp rfl (fun _ => trivial)) (.tmp rfl (fun _ => trivial))) rfl ?_
          refine Chain.cons (StepOK.move .none (.tmp rfl (fun _ => trivial))) rfl ?_
          refine Chain.cons (StepOK.move .none (.tmp rfl (fun _ => trivial))) rfl ?_
          obtain ⟨hn9, h⟩ := need_some h
          refine Chain.cons (StepOK.indexAddr .none sl22 ty53 (.tmp rfl (fun _ => trivial)) (.tmp rfl (fun _ => trivial)) (fun _ => hn9)) rfl ?_
          refine Chain.cons (StepOK.fieldAddr .none fd53_1 hfd53_1 (.tmp rfl (fun _ => trivial))) rfl ?_
          refine Chain.cons (StepOK.load .none ty3 (.tmp rfl (fun _ => trivial))) rfl ?_
          refine Chain.cons (StepOK.move .none (.tmp rfl (fun _ => trivial))) rfl ?_
          refine Chain.cons (StepOK.move .none (.tmp rfl (fun _ => trivial))) rfl ?_
          refine Chain.cons (StepOK.subW .none (.tmp rfl (fun _ => trivial)) (.int (by decide))) rfl ?_
          obtain ⟨hn10, h⟩ := need_some h
          refine Chain.cons (StepOK.indexAddr .none sl22 ty53 (.tmp rfl (fun _ => trivial)) (.tmp rfl (fun _ => trivial)) (fun _ => hn10)) rfl ?_
          refine Chain.cons (StepOK.fieldAddr .none fd53_1 hfd53_1 (.tmp rfl (fun _ => trivial))) rfl ?_
          refine Chain.cons (StepOK.load .none ty3 (.tmp rfl (fun _ => trivial))) rfl ?_
          refine Chain.cons (StepOK.eqI .none (.tmp rfl (fun _ => trivial)) (.tmp rfl (fun _ => trivial))) rfl ?_
          refine Chain.cons (StepOK.eqS .none (eqAt_bool Try.underlying4) (.tmp rfl (fun _ => trivial)) (.tmp rfl (fun _ => trivial))) rfl ?_
          refine Chain.nil ?_
          refine Ends.then ?_
          refine Cod.cond (t := 43) rfl trivial (fun hb11 => ?_) (fun hb11 => ?_)
          · replace h := bif_t h hb11
            refine Cod.seq ?_
            refine Cod.region [] mixed (by kernel_rfl) ?_
            refine Chain.cons (StepOK.assign .none (.int (by decide))) rfl ?_
            refine Chain.nil ?_
            refine Ends.then ?_
            refine Cod.ret ?_
            refine Ends.blkRet ?_
            refine Ends.thenRet ?_
            refine Ends.thenRet ?_
            refine Ends.blkRet ?_
            refine Ends.thenRet ?_
            replace h := hD5 _ (some_eq h)
            replace h := resb_ab hK4 (some_eq h)
            obtain rfl := some_eq h
            exact Ends.ret1 (.inl rfl) Try.results87 (ResOK.tmp rfl trivial Imp.refl)
          · replace h := bif_f h hb11
            refine Cod.skip ?_
            refine Ends.blkNormal ?_
            refine Ends.then ?_
            refine Cod.region [] mixed (by kernel_rfl) ?_
            refine Chain.cons (StepOK.move .none (.tmp rfl (fun _ => trivial))) rfl ?_
            refine Chain.cons (StepOK.addW .none (.tmp rfl (fun _ => trivial)) (.int (by decide))) rfl ?_
            obtain ⟨i1, hv12, h⟩ := bnd_some h
            refine Chain.cons (StepOK.re hv12 (StepOK.assign .none (.tmp rfl (fun _ => trivial)))) rfl ?_
            refine Chain.nil ?_
            exact Ends.againL (some_eq h) (.cons (t := 4) rfl (.cons (t := 0) rfl Sub.nil)) SubB.nil
        · replace h := bif_f h hb6
          refine Cod.exit ?_
          refine Ends.thenExit ?_
          refine Ends.thenExit ?_
          refine Ends.blkExit ?_
          replace h := hD5 _ (some_eq h)
          exact Ends.join _ (some_eq h) Sub.nil SubB.nil
      · have h := resb_nx hK4 hj4
        refine Cod.seq ?_
        refine Cod.region [] mixed (by kernel_rfl) ?_
        refine Chain.cons (StepOK.assign .none (.int (by decide))) rfl ?_
        refine Chain.nil ?_
        refine Ends.then ?_
        refine Cod.ret ?_
        obtain rfl := some_eq h
        exact Ends.ret1 (.inl rfl) Try.results87 (ResOK.tmp rfl trivial Imp.refl)

theorem route_heading_1_ok {n1 : Int} {r : Int}  (h : route_heading_1 n1 = some r) : FSpec Try.prog 95 [rep n1] (rep r) := by
  unfold route_heading_1 at h
  refine FSpec.intro (n := 6) fnok95 Try.func95 rfl Try.ntmps95 rfl (fun F => ?_)
  refine Cod.seq ?_
  refine Cod.region [] mixed (by kernel_rfl) ?_
  refine Chain.cons (StepOK.assign .none (.int (by decide))) rfl ?_
  refine Chain.nil ?_
  refine Ends.then ?_
  refine Cod.seq ?_
  refine Cod.region [] mixed (by kernel_rfl) ?_
  refine Chain.cons (StepOK.move .none (.tmp rfl (fun _ => trivial))) rfl ?_
  refine Chain.cons (StepOK.max2 .none (.tmp rfl (fun _ => trivial)) (.int (by decide))) rfl ?_
  refine Chain.cons (StepOK.min2 .none (.tmp rfl (fun _ => trivial)) (.int (by decide))) rfl ?_
  refine Chain.cons (StepOK.assign .none (.tmp rfl (fun _ => trivial))) rfl ?_
  refine Chain.nil ?_
  refine Ends.then ?_
  refine Cod.ret ?_
  obtain rfl := some_eq h
  exact Ends.ret1 (.inl rfl) Try.results95 (ResOK.tmp rfl trivial Imp.refl)

theorem route_heading_ok {a1 : Point} {b1 : Point} {r : Point}  (h : route_heading a1 b1 = some r) : FSpec Try.prog 43 [rep a1, rep b1] (rep r) := by
  unfold route_heading at h
  refine FSpec.intro (n := 21) fnok43 Try.func43 rfl Try.ntmps43 rfl (fun F => ?_)
  refine Cod.seq ?_
  refine Cod.region [([], []), ([], []), ([], [4])] mixed (by kernel_rfl) ?_
  refine Chain.consA (StepOK.box .none (.tmp rfl (fun _ => trivial))) rfl ?_
  refine Chain.consA (StepOK.box .none (.tmp rfl (fun _ => trivial))) rfl ?_
  refine Chain.consW (StepOK.alloc zo53 rfl) rfl rfl ?_
  refine Chain.nil ?_
  refine Ends.then ?_
  obtain ⟨v1, hv1, h⟩ := bnd_some h
  refine Cod.reB (t := 4) rfl (congrArg (cont 53) hv1) ?_
  refine Cod.nameBox (t := 4) (g := 5001) rfl rfl (fun m5001 => ?_)
  refine Cod.seq ?_
  refine Cod.region [] mixed (by kernel_rfl) ?_
  refine Chain.cons (StepOK.assign .none (Opd.func (ι := Int × Int) (pre := fun i => route_heading_1 i.1 = some i.2) (Ss := fun i => [rep i.1]) (S := fun i => rep i.2) fnok95 (fun i h => route_heading_1_ok h))) rfl ?_
  refine Chain.nil ?_
  refine Ends.then ?_
  refine Cod.seq ?_
  refine Cod.region [([], []), ([], []), ([], []), ([], []), ([], []), ([], []), ([], []), ([], []), ([], []), ([], []), ([], []), ([], []), ([], []), ([], []), ([], []), ([5001], [5001])] mixed (by kernel_rfl) ?_
  refine Chain.consA (StepOK.move .none (.tmp rfl (fun _ => trivial))) rfl ?_
  refine Chain.consA (StepOK.fieldAddr .none fd53_0 hfd53_0 (.tmp rfl (fun _ => trivial))) rfl ?_
  refine Chain.consA (StepOK.load .none ty3 (.tmp rfl (fun _ => trivial))) rfl ?_
  refine Chain.consA (StepOK.fieldAddr .none fd53_0 hfd53_0 (.tmp rfl (fun _ => trivial))) rfl ?_
  refine Chain.consA (StepOK.load .none ty3 (.tmp rfl (fun _ => trivial))) rfl ?_
  refine Chain.consA (StepOK.subW .none (.tmp rfl (fun _ => trivial)) (.tmp rfl (fun _ => trivial))) rfl ?_
  obtain ⟨r1, hv2, h⟩ := bind_some h
  refine Chain.consA (StepOK.callV (W (b1.X - a1.X), r1) .none (.tmp rfl (fun _ => trivial)) (fun _ => hv2) (.cons (.tmp rfl (fun _ => trivial)) .nil)) rfl ?_
  refine Chain.consA (StepOK.move .none (.tmp rfl (fun _ => trivial))) rfl ?_
  refine Chain.consA (StepOK.fieldAddr .none fd53_1 hfd53_1 (.tmp rfl (fun _ => trivial))) rfl ?_
  refine Chain.consA (StepOK.load .none ty3 (.tmp rfl (fun _ => trivial))) rfl ?_
  refine Chain.consA (StepOK.fieldAddr .none fd53_1 hfd53_1 (.tmp rfl (fun _ => trivial))) rfl ?_
  refine Chain.consA (StepOK.load .none ty3 (.tmp rfl (fun _ => trivial))) rfl ?_
  refine Chain.consA (StepOK.subW .none (.tmp rfl (fun _ => trivial)) (.tmp rfl (fun _ => trivial))) rfl ?_
  obtain ⟨r2, hv3, h⟩ := bind_some h
  refine Chain.consA (StepOK.callV (W (b1.Y - a1.Y), r2) .none (.tmp rfl (fun _ => trivial)) (fun _ => hv3) (.cons (.tmp rfl (fun _ => trivial)) .nil)) rfl ?_
  obtain ⟨v2, hv4, h⟩ := bnd_some h
  refine Chain.consA (StepOK.re hv4 (StepOK.buildF (y := (⟨r1, r2⟩ : Point)) .none bu53 zc53 rfl (.cons (.tmp rfl (fun _ => trivial)) (.cons (.tmp rfl (fun _ => trivial)) .nil)) (.cons rfl sf53_0 (.cons rfl sf53_1 .nil)))) rfl ?_
  refine Chain.consN (StepOK.storeAt0 (g := 5001) ty53 rfl (.tmp rfl (fun _ => trivial)) (.tmp rfl (fun _ => trivial))) rfl ?_
  refine Chain.nil ?_
  refine Ends.then ?_
  refine Cod.freezeBox (g := 5001) (ts := [4]) rfl (.cons (t := 4) rfl trivial .nil) SubB.nil rfl ?_
  refine Cod.ret ?_
  obtain rfl := some_eq h
  exact Ends.ret1 (.inl rfl) Try.results43 (ResOK.cellR ty53 rfl trivial Imp.refl)

theorem route_opposite_ok {d1 : Point} {r : Point}  (h : route_opposite d1 = some r) : FSpec Try.prog 101 [rep d1] (rep r) := by
  unfold route_opposite at h
  refine FSpec.intro (n := 10) fnok101 Try.func101 rfl Try.ntmps101 rfl (fun F => ?_)
  refine Cod.seq ?_
  refine Cod.region [([], []), ([], [2])] mixed (by kernel_rfl) ?_
  refine Chain.consA (StepOK.box .none (.tmp rfl (fun _ => trivial))) rfl ?_
  refine Chain.consW (StepOK.alloc zo53 rfl) rfl rfl ?_
  refine Chain.nil ?_
  refine Ends.then ?_
  obtain ⟨v1, hv1, h⟩ := bnd_some h
  refine Cod.reB (t := 2) rfl (congrArg (cont 53) hv1) ?_
  refine Cod.nameBox (t := 2) (g := 5001) rfl rfl (fun m5001 => ?_)
  refine Cod.seq ?_
  refine Cod.region [([], []), ([], []), ([], []), ([], []), ([], []), ([], []), ([], []), ([5001], [5001])] mixed (by kernel_rfl) ?_
  refine Chain.consA (StepOK.fieldAddr .none fd53_0 hfd53_0 (.tmp rfl (fun _ => trivial))) rfl ?_
  refine Chain.consA (StepOK.load .none ty3 (.tmp rfl (fun _ => trivial))) rfl ?_
  refine Chain.consA (StepOK.negW .none (.tmp rfl (fun _ => trivial))) rfl ?_
  refine Chain.consA (StepOK.fieldAddr .none fd53_1 hfd53_1 (.tmp rfl (fun _ => trivial))) rfl ?_
  refine Chain.consA (StepOK.load .none ty3 (.tmp rfl (fun _ => trivial))) rfl ?_
  refine Chain.consA (StepOK.negW .none (.tmp rfl (fun _ => trivial))) rfl ?_
  obtain ⟨v2, hv2, h⟩ := bnd_some h
  refine Chain.consA (StepOK.re hv2 (StepOK.buildF (y := (⟨W (-d1.X), W (-d1.Y)⟩ : Point)) .none bu53 zc53 rfl (.cons (.tmp rfl (fun _ => trivial)) (.cons (.tmp rfl (fun _ => trivial)) .nil)) (.cons rfl sf53_0 (.cons rfl sf53_1 .nil)))) rfl ?_
  refine Chain.consN (StepOK.storeAt0 (g := 5001) ty53 rfl (.tmp rfl (fun _ => trivial)) (.tmp rfl (fun _ => trivial))) rfl ?_
  refine Chain.nil ?_
  refine Ends.then ?_
  refine Cod.freezeBox (g := 5001) (ts := [2]) rfl (.cons (t := 2) rfl trivial .nil) SubB.nil rfl ?_
  refine Cod.ret ?_
  obtain rfl := some_eq h
  exact Ends.ret1 (.inl rfl) Try.results101 (ResOK.cellR ty53 rfl trivial Imp.refl)

theorem geom_apart_ok {a1 : Point} {b1 : Point} {r : Int}  (h : geom_apart a1 b1 = some r) : FSpec Try.prog 93 [rep a1, rep b1] (rep r) := by
  unfold geom_apart at h
  refine FSpec.intro (n := 26) fnok93 Try.func93 rfl Try.ntmps93 rfl (fun F => ?_)
  refine Cod.seq ?_
  refine Cod.region [] mixed (by kernel_rfl) ?_
  refine Chain.cons (StepOK.box .none (.tmp rfl (fun _ => trivial))) rfl ?_
  refine Chain.cons (StepOK.box .none (.tmp rfl (fun _ => trivial))) rfl ?_
  refine Chain.cons (StepOK.assign .none (.int (by decide))) rfl ?_
  refine Chain.nil ?_
  refine Ends.then ?_
  refine Cod.seq ?_
  refine Cod.region [] mixed (by kernel_rfl) ?_
  refine Chain.cons (StepOK.fieldAddr .none fd53_0 hfd53_0 (.tmp rfl (fun _ => trivial))) rfl ?_
  refine Chain.cons (StepOK.load .none ty3 (.tmp rfl (fun _ => trivial))) rfl ?_
  refine Chain.cons (StepOK.fieldAddr .none fd53_0 hfd53_0 (.tmp rfl (fun _ => trivial))) rfl ?_
  refine Chain.cons (StepOK.load .none ty3 (.tmp rfl (fun _ => trivial))) rfl ?_
  refine Chain.cons (StepOK.subW .none (.tmp rfl (fun _ => trivial)) (.tmp rfl (fun _ => trivial))) rfl ?_
  refine Chain.cons (StepOK.fieldAddr .none fd53_1 hfd53_1 (.tmp rfl (fun _ => trivial))) rfl ?_
  refine Chain.cons (StepOK.load .none ty3 (.tmp rfl (fun _ => trivial))) rfl ?_
  refine Chain.cons (StepOK.fieldAddr .none fd53_1 hfd53_1 (.tmp rfl (fun _ => trivial))) rfl ?_
  refine Chain.cons (StepOK.load .none ty3 (.tmp rfl (fun _ => trivial))) rfl ?_
  refine Chain.cons (StepOK.subW .none (.tmp rfl (fun _ => trivial)) (.tmp rfl (fun _ => trivial))) rfl ?_
  obtain ⟨x1, hv1, h⟩ := bnd_some h
  refine Chain.cons (StepOK.re hv1 (StepOK.assign .none (.tmp rfl (fun _ => trivial)))) rfl ?_
  obtain ⟨y1, hv2, h⟩ := bnd_some h
  refine Chain.cons (StepOK.re hv2 (StepOK.assign .none (.tmp rfl (fun _ => trivial)))) rfl ?_
  refine Chain.nil ?_
  refine Ends.then ?_
  refine Cod.seq ?_
  refine Cod.region [] mixed (by kernel_rfl) ?_
  refine Chain.cons (StepOK.move .none (.tmp rfl (fun _ => trivial))) rfl ?_
  refine Chain.cons (StepOK.move .none (.tmp rfl (fun _ => trivial))) rfl ?_
  refine Chain.cons (StepOK.negW .none (.tmp rfl (fun _ => trivial))) rfl ?_
  refine Chain.cons (StepOK.max2 .none (.tmp rfl (fun _ => trivial)) (.tmp rfl (fun _ => trivial))) rfl ?_
  refine Chain.cons (StepOK.move .none (.tmp rfl (fun _ => trivial))) rfl ?_
  refine Chain.cons (StepOK.move .none (.tmp rfl (fun _ => trivial))) rfl ?_
  refine Chain.cons (StepOK.negW .none (.tmp rfl (fun _ => trivial))) rfl ?_
  refine Chain.cons (StepOK.max2 .none (.tmp rfl (fun _ => trivial)) (.tmp rfl (fun _ => trivial))) rfl ?_
  refine Chain.cons (StepOK.addW .none (.tmp rfl (fun _ => trivial)) (.tmp rfl (fun _ => trivial))) rfl ?_
  refine Chain.cons (StepOK.assign .none (.tmp rfl (fun _ => trivial))) rfl ?_
  refine Chain.nil ?_
  refine Ends.then ?_
  refine Cod.ret ?_
  obtain rfl := some_eq h
  exact Ends.ret1 (.inl rfl) Try.results93 (ResOK.tmp rfl trivial Imp.refl)

theorem geom_length_ok {l1 : (List Point)} {r : Int}  (h : geom_length l1 = some r) : FSpec Try.prog 88 [rep l1] (rep r) := by
  unfold geom_length at h
  refine FSpec.intro (n := 24) fnok88 Try.func88 rfl Try.ntmps88 rfl (fun F => ?_)
  refine Cod.seq ?_
  refine Cod.region [] mixed (by kernel_rfl) ?_
  refine Chain.cons (StepOK.assign .none (.int (by decide))) rfl ?_
  refine Chain.nil ?_
  refine Ends.then ?_
  refine Cod.seq ?_
  refine Cod.region [] mixed (by kernel_rfl) ?_
  refine Chain.cons (StepOK.assign .none (.int (by decide))) rfl ?_
  refine Chain.nil ?_
  refine Ends.then ?_
  refine Cod.seq ?_
  refine Cod.seq ?_
  refine Cod.region [] mixed (by kernel_rfl) ?_
  refine Chain.cons (StepOK.assign .none (.int (by decide))) rfl ?_
  refine Chain.nil ?_
  refine Ends.then ?_
  obtain ⟨j_1, h, hK1⟩ := bind_some h
  refine Cod.thenJ (ι := Int) (fun j_1 => [(3, ⟨True, rep j_1⟩)]) (fun j_1 => []) (fun s => j_1 = s) Sub.nil SubB.nil ?_ (fun j_1' hj1 => ?_)
  · skip
    refine Cod.block ?_
    refine Cod.loopL h (fun s2_ => [(3, ⟨True, rep s2_.1⟩), (4, ⟨True, rep s2_.2⟩)]) (fun s2_ => []) (.cons (t := 3) rfl (.cons (t := 4) rfl Sub.nil)) SubB.nil (.cons (t := 0) rfl Sub.nil) SubB.nil (fun s2_ o_2 h hD2 => ?_)
    unfold geom_length_L1 at h
    refine Cod.seq ?_
    refine Cod.seq ?_
    refine Cod.region [] mixed (by kernel_rfl) ?_
    refine Chain.cons (StepOK.move .none (.tmp rfl (fun _ => trivial))) rfl ?_
    refine Chain.cons (StepOK.move .none (.tmp rfl (fun _ => trivial))) rfl ?_
    refine Chain.cons (StepOK.len .none sl22 (.tmp rfl (fun _ => trivial))) rfl ?_
    refine Chain.cons (StepOK.lt .none (.tmp rfl (fun _ => trivial)) (.tmp rfl (fun _ => trivial))) rfl ?_
    refine Chain.nil ?_
    refine Ends.then ?_
    refine Cod.cond (t := 8) rfl trivial (fun hb3 => ?_) (fun hb3 => ?_)
    · replace h := bif_t h hb3
      refine Cod.skip ?_
      refine Ends.then ?_
      refine Cod.seq ?_
      refine Cod.block ?_
      refine Cod.region [] mixed (by kernel_rfl) ?_
      refine Chain.cons (StepOK.move .none (.tmp rfl (fun _ => trivial))) rfl ?_
      refine Chain.cons (StepOK.move .none (.tmp rfl (fun _ => trivial))) rfl ?_
      refine Chain.cons (StepOK.move .none (.tmp rfl (fun _ => trivial))) rfl ?_
      refine Chain.cons (StepOK.subW .none (.tmp rfl (fun _ => trivial)) (.int (by decide))) rfl ?_
      obtain ⟨hn4, h⟩ := need_some h
      refine Chain.cons (StepOK.indexAddr .none sl22 ty53 (.tmp rfl (fun _ => trivial)) (.tmp rfl (fun _ => trivial)) (fun _ => hn4)) rfl ?_
      refine Chain.cons (StepOK.load .none ty53 (.tmp rfl (fun _ => trivial))) rfl ?_
      refine Chain.cons (StepOK.move .none (.tmp rfl (fun _ => trivial))) rfl ?_
      refine Chain.cons (StepOK.move .none (.tmp rfl (fun _ => trivial))) rfl ?_
      obtain ⟨hn5, h⟩ := need_some h
      refine Chain.cons (StepOK.indexAddr .none sl22 ty53 (.tmp rfl (fun _ => trivial)) (.tmp rfl (fun _ => trivial)) (fun _ => hn5)) rfl ?_
      refine Chain.cons (StepOK.load .none ty53 (.tmp rfl (fun _ => trivial))) rfl ?_
      obtain ⟨r1, hv6, h⟩ := bind_some h
      refine Chain.cons (StepOK.call .none (geom_apart_ok hv6) (.cons (.tmp rfl (fun _ => trivial)) (.cons (.tmp rfl (fun _ => trivial)) .nil))) rfl ?_
      refine Chain.cons (StepOK.addW .none (.tmp rfl (fun _ => trivial)) (.tmp rfl (fun _ => trivial))) rfl ?_
      obtain ⟨n1, hv7, h⟩ := bnd_some h
      refine Chain.cons (StepOK.re hv7 (StepOK.assign .none (.tmp rfl (fun _ => trivial)))) rfl ?_
      refine Chain.nil ?_
      refine Ends.blkNormal ?_
      refine Ends.then ?_
      refine Cod.region [] mixed (by kernel_rfl) ?_
      refine Chain.cons (StepOK.move .none (.tmp rfl (fun _ => trivial))) rfl ?_
      refine Chain.cons (StepOK.addW .none (.tmp rfl (fun _ => trivial)) (.int (by decide))) rfl ?_
      obtain ⟨i1, hv8, h⟩ := bnd_some h
      refine Chain.cons (StepOK.re hv8 (StepOK.assign .none (.tmp rfl (fun _ => trivial)))) rfl ?_
      refine Chain.nil ?_
      exact Ends.againL (some_eq h) (.cons (t := 3) rfl (.cons (t := 4) rfl (.cons (t := 0) rfl Sub.nil))) SubB.nil
    · replace h := bif_f h hb3
      refine Cod.exit ?_
      refine Ends.thenExit ?_
      refine Ends.thenExit ?_
      refine Ends.blkExit ?_
      replace h := hD2 _ (some_eq h)
      exact Ends.join _ (some_eq h) (.cons (t := 3) rfl Sub.nil) SubB.nil
  · subst hj1; have h := hK1; clear hK1
    refine Cod.seq ?_
    refine Cod.region [] mixed (by kernel_rfl) ?_
    refine Chain.cons (StepOK.move .none (.tmp rfl (fun _ => trivial))) rfl ?_
    refine Chain.cons (StepOK.assign .none (.tmp rfl (fun _ => trivial))) rfl ?_
    refine Chain.nil ?_
    refine Ends.then ?_
    refine Cod.ret ?_
    obtain rfl := some_eq h
    exact Ends.ret1 (.inl rfl) Try.results88 (ResOK.tmp rfl trivial Imp.refl)

theorem geom_Length_ok {l1 : (List Point)} {r : (Int × Int)}  (h : geom_Length l1 = some r) : FSpec Try.prog 33 [rep l1] (tup [rep r.1, rep r.2]) := by
  unfold geom_Length at h
  refine FSpec.intro (n := 12) fnok33 Try.func33 rfl Try.ntmps33 rfl (fun F => ?_)
  refine Cod.seq ?_
  refine Cod.region [] mixed (by kernel_rfl) ?_
  refine Chain.cons (StepOK.assign .none (.int (by decide))) rfl ?_
  refine Chain.cons (StepOK.assign .none (.int (by decide))) rfl ?_
  refine Chain.nil ?_
  refine Ends.then ?_
  refine Cod.seq ?_
  refine Cod.seq ?_
  refine Cod.region [] mixed (by kernel_rfl) ?_
  refine Chain.cons (StepOK.move .none (.tmp rfl (fun _ => trivial))) rfl ?_
  obtain ⟨e1, hv1, h⟩ := bind_some h
  refine Chain.cons (StepOK.call .none (geom_CheckPath_ok hv1) (.cons (.tmp rfl (fun _ => trivial)) .nil)) rfl ?_
  refine Chain.cons (StepOK.assign .none (.tmp rfl (fun _ => trivial))) rfl ?_
  refine Chain.nil ?_
  refine Ends.then ?_
  refine Cod.seq ?_
  refine Cod.region [] mixed (by kernel_rfl) ?_
  refine Chain.cons (StepOK.move .none (.tmp rfl (fun _ => trivial))) rfl ?_
  refine Chain.cons (StepOK.neI .none (.tmp rfl (fun _ => trivial)) (.int (by decide))) rfl ?_
  refine Chain.nil ?_
  refine Ends.then ?_
  refine Cod.cond (t := 8) rfl trivial (fun hb2 => ?_) (fun hb2 => ?_)
  · replace h := bif_t h hb2
    refine Cod.seq ?_
    refine Cod.region [] mixed (by kernel_rfl) ?_
    refine Chain.cons (StepOK.move .none (.tmp rfl (fun _ => trivial))) rfl ?_
    refine Chain.cons (StepOK.assign .none (.int (by decide))) rfl ?_
    refine Chain.cons (StepOK.assign .none (.tmp rfl (fun _ => trivial))) rfl ?_
    refine Chain.nil ?_
    refine Ends.then ?_
    refine Cod.ret ?_
    refine Ends.thenRet ?_
    obtain rfl := some_eq h
    exact Ends.ret2 (.inl rfl) Try.results33 (ResOK.tmp rfl trivial Imp.refl) (ResOK.tmp rfl trivial Imp.refl)
  · replace h := bif_f h hb2
    refine Cod.skip ?_
    refine Ends.then ?_
    refine Cod.seq ?_
    refine Cod.region [] mixed (by kernel_rfl) ?_
    refine Chain.cons (StepOK.move .none (.tmp rfl (fun _ => trivial))) rfl ?_
    obtain ⟨r1, hv3, h⟩ := bind_some h
    refine Chain.cons (StepOK.call .none (geom_length_ok hv3) (.cons (.tmp rfl (fun _ => trivial)) .nil)) rfl ?_
    refine Chain.cons (StepOK.assign .none (.tmp rfl (fun _ => trivial))) rfl ?_
    refine Chain.cons (StepOK.assign .none (.int (by decide))) rfl ?_
    refine Chain.nil ?_
    refine Ends.then ?_
    refine Cod.ret ?_
    obtain rfl := some_eq h
    exact Ends.ret2 (.inl rfl) Try.results33 (ResOK.tmp rfl trivial Imp.refl) (ResOK.tmp rfl trivial Imp.refl)

theorem route_zones_ok {t1 : Task} {r : (List Route_zone)}  (h : route_zones t1 = some r) : FSpec Try.prog 81 [rep t1] (rep r) := by
  unfold route_zones at h
  refine FSpec.intro (n := 45) fnok81 Try.func81 rfl Try.ntmps81 rfl (fun F => ?_)
  refine Cod.seq ?_
  refine Cod.region [] mixed (by kernel_rfl) ?_
  refine Chain.cons (StepOK.box .none (.tmp rfl (fun _ => trivial))) rfl ?_
  refine Chain.cons (StepOK.assign .none (.const (x := ([] : (List Route_zone))) (fun M w => ⟨_, ⟨none, 0, rfl, Nat.le_refl _, by decide, rfl⟩, rfl⟩))) rfl ?_
  refine Chain.nil ?_
  refine Ends.then ?_
  refine Cod.seq ?_
  refine Cod.region [([], [3])] mixed (by kernel_rfl) ?_
  refine Chain.consW (StepOK.nilRow (T := 135) (α := Route_zone) rfl) rfl rfl ?_
  refine Chain.nil ?_
  refine Ends.then ?_
  refine Cod.nameRow (t := 3) (g := 5001) rfl rfl rfl (fun s5001 => ?_)
  refine Cod.seq ?_
  refine Cod.seq ?_
  refine Cod.region [] mixed (by kernel_rfl) ?_
  refine Chain.cons (StepOK.fieldAddr .none fd55_4 hfd55_4 (.tmp rfl (fun _ => trivial))) rfl ?_
  refine Chain.cons (StepOK.load .none ty23 (.tmp rfl (fun _ => trivial))) rfl ?_
  refine Chain.cons (StepOK.len .none sl23 (.tmp rfl (fun _ => trivial))) rfl ?_
  refine Chain.cons (StepOK.move .none (.int (by decide))) rfl ?_
  refine Chain.nil ?_
  refine Ends.then ?_
  obtain ⟨j_1, h, hK1⟩ := bind_some h
  refine Cod.thenJ (ι := (List Route_zone)) (fun j_1 => []) (fun j_1 => [(3, some (rowV 135 j_1))]) (fun s => j_1 = s) Sub.nil SubB.nil ?_ (fun j_1' hj1 => ?_)
  · skip
    refine Cod.block ?_
    refine Cod.anon (t := 3) (g := 5001) rfl rfl trivial rfl ?_
    refine Cod.rforL h (fun p2_ => [(9, ⟨True, rep p2_.1⟩)]) (fun p2_ => [(3, some (rowV 135 p2_.2))]) (.cons (t := 9) rfl Sub.nil) (.cons (t := 3) rfl SubB.nil) (.cons (t := 1) rfl (.cons (t := 7) rfl (.cons (t := 8) rfl Sub.nil))) SubB.nil (fun p2_ o_2 h hD2 => ?_)
    refine Cod.nameRow (t := 3) (g := 5002) rfl rfl rfl (fun s5002 => ?_)
    refine Cod.seq ?_
    refine Cod.region [] mixed (by kernel_rfl) ?_
    refine Chain.cons (StepOK.lt .none (.tmp rfl (fun _ => trivial)) (.tmp rfl (fun _ => trivial))) rfl ?_
    refine Chain.nil ?_
    refine Ends.then ?_
    refine Cod.seq ?_
    refine Cod.cond (t := 10) rfl trivial (fun hb3 => ?_) (fun hb3 => ?_)
    · replace h := bif_t h hb3
      refine Cod.skip ?_
      refine Ends.then ?_
      refine Cod.seq ?_
      obtain ⟨j_4, h, hK4⟩ := bind_some h
      unfold route_zones_L1 at h
      refine Cod.thenJ (ι := (List Route_zone)) (fun j_4 => []) (fun j_4 => [(3, some (rowV 135 j_4))]) (fun s => j_4 = s) (.cons (t := 1) rfl (.cons (t := 7) rfl (.cons (t := 8) rfl (.cons (t := 9) rfl Sub.nil)))) SubB.nil ?_ (fun j_4' hj4 => ?_)
      · skip
        refine Cod.block ?_
        refine Cod.seq ?_
        refine Cod.region [([], []), ([], []), ([], [5]), ([5], [5])] mixed (by kernel_rfl) ?_
        obtain ⟨hn5, h⟩ := need_some h
        refine Chain.consA (StepOK.indexAddr .none sl23 ty25 (.tmp rfl (fun _ => trivial)) (.tmp rfl (fun _ => trivial)) (fun _ => hn5)) rfl ?_
        obtain ⟨v1, hv6, h⟩ := bnd_some h
        refine Chain.consA (StepOK.re hv6 (StepOK.load .none ty25 (.tmp rfl (fun _ => trivial)))) rfl ?_
        refine Chain.consW (StepOK.alloc zo25 rfl) rfl rfl ?_
        refine Chain.consN (StepOK.store ty25 rfl rfl (.tmp rfl (fun _ => trivial))) rfl ?_
        refine Chain.nil ?_
        refine Ends.then ?_
        refine Cod.freeze (t := 5) rfl rfl (.cons (t := 5002) rfl SubB.nil) rfl ?_
        refine Cod.region [([], []), ([], []), ([], []), ([], []), ([], []), ([], []), ([], []), ([], []), ([], []), ([], []), ([], []), ([], []), ([], []), ([], []), ([], []), ([], []), ([], []), ([], []), ([], []), ([], []), ([], []), ([], []), ([], []), ([], []), ([], []), ([], []), ([], []), ([], []), ([], []), ([5002], [42, 5002]), ([42], [3, 42])] mixed (by kernel_rfl) ?_
        refine Chain.consA (StepOK.move .none (.tmp rfl (fun _ => trivial))) rfl ?_
        refine Chain.consA (StepOK.fieldAddr .none fd25_0 hfd25_0 (.tmp rfl (fun _ => trivial))) rfl ?_
        refine Chain.consA (StepOK.load .none ty3 (.tmp rfl (fun _ => trivial))) rfl ?_
        refine Chain.consA (StepOK.fieldAddr .none fd55_5 hfd55_5 (.tmp rfl (fun _ => trivial))) rfl ?_
        refine Chain.consA (StepOK.load .none ty3 (.tmp rfl (fun _ => trivial))) rfl ?_
        refine Chain.consA (StepOK.subW .none (.tmp rfl (fun _ => trivial)) (.tmp rfl (fun _ => trivial))) rfl ?_
        refine Chain.consA (StepOK.fieldAddr .none fd25_1 hfd25_1 (.tmp rfl (fun _ => trivial))) rfl ?_
        refine Chain.consA (StepOK.load .none ty3 (.tmp rfl (fun _ => trivial))) rfl ?_
        refine Chain.consA (StepOK.fieldAddr .none fd55_5 hfd55_5 (.tmp rfl (fun _ => trivial))) rfl ?_
        refine Chain.consA (StepOK.load .none ty3 (.tmp rfl (fun _ => trivial))) rfl ?_
        refine Chain.consA (StepOK.subW .none (.tmp rfl (fun _ => trivial)) (.tmp rfl (fun _ => trivial))) rfl ?_
        refine Chain.consA (StepOK.fieldAddr .none fd25_0 hfd25_0 (.tmp rfl (fun _ => trivial))) rfl ?_
        refine Chain.consA (StepOK.load .none ty3 (.tmp rfl (fun _ => trivial))) rfl ?_
        refine Chain.consA (StepOK.fieldAddr .none fd25_2 hfd25_2 (.tmp rfl (fun _ => trivial))) rfl ?_
        refine Chain.consA (StepOK.load .none ty3 (.tmp rfl (fun _ => trivial))) rfl ?_
        refine Chain.consA (StepOK.addW .none (.tmp rfl (fun _ => trivial)) (.tmp rfl (fun _ => trivial))) rfl ?_
        refine Chain.consA (StepOK.fieldAddr .none fd55_5 hfd55_5 (.tmp rfl (fun _ => trivial))) rfl ?_
        refine Chain.consA (StepOK.load .none ty3 (.tmp rfl (fun _ => trivial))) rfl ?_
        refine Chain.consA (StepOK.addW .none (.tmp rfl (fun _ => trivial)) (.tmp rfl (fun _ => trivial))) rfl ?_
        refine Chain.consA (StepOK.fieldAddr .none fd25_1 hfd25_1 (.tmp rfl (fun _ => trivial))) rfl ?_
        refine Chain.consA (StepOK.load .none ty3 (.tmp rfl (fun _ => trivial))) rfl ?_
        refine Chain.consA (StepOK.fieldAddr .none fd25_3 hfd25_3 (.tmp rfl (fun _ => trivial))) rfl ?_
        refine Chain.consA (StepOK.load .none ty3 (.tmp rfl (fun _ => trivial))) rfl ?_
        refine Chain.consA (StepOK.addW .none (.tmp rfl (fun _ => trivial)) (.tmp rfl (fun _ => trivial))) rfl ?_
        refine Chain.consA (StepOK.fieldAddr .none fd55_5 hfd55_5 (.tmp rfl (fun _ => trivial))) rfl ?_
        refine Chain.consA (StepOK.load .none ty3 (.tmp rfl (fun _ => trivial))) rfl ?_
        refine Chain.consA (StepOK.addW .none (.tmp rfl (fun _ => trivial)) (.tmp rfl (fun _ => trivial))) rfl ?_
        refine Chain.consA (StepOK.buildF (y := (⟨W (v1.X - t1.Clear), W (v1.Y - t1.Clear), W ((W (v1.X + v1.W_)) + t1.Clear), W ((W (v1.Y + v1.H)) + t1.Clear)⟩ : Route_zone)) .none bu135 zc135 rfl (.cons (.tmp rfl (fun _ => trivial)) (.cons (.tmp rfl (fun _ => trivial)) (.cons (.tmp rfl (fun _ => trivial)) (.cons (.tmp rfl (fun _ => trivial)) .nil)))) (.cons rfl sf135_0 (.cons rfl sf135_1 (.cons rfl sf135_2 (.cons rfl sf135_3 .nil))))) rfl ?_
        refine Chain.consA (StepOK.buildSlice (xs := [_]) .none sl106 ty135 hz135 (.cons (.tmp rfl (fun _ => trivial)) .nil) rfl (by decide)) rfl ?_
        obtain ⟨hn7, h⟩ := need_some h
        refine Chain.consW (StepOK.append (k := 5002) rk106 rfl (.told (.tmp rfl (fun _ => trivial)) rfl) (.tmp rfl (fun _ => trivial)) hn7) rfl rfl ?_
        refine Chain.consW (StepOK.passRow rfl (.tmp rfl)) rfl rfl ?_
        refine Chain.nil ?_
        refine Ends.blkNormal ?_
        exact Ends.join _ (some_eq h) (.cons (t := 1) rfl (.cons (t := 7) rfl (.cons (t := 8) rfl (.cons (t := 9) rfl Sub.nil)))) (.cons (t := 3) rfl SubB.nil)
      · subst hj4; have h := hK4; clear hK4
        refine Cod.nameRow (t := 3) (g := 5003) rfl rfl rfl (fun s5003 => ?_)
        refine Cod.region [] mixed (by kernel_rfl) ?_
        refine Chain.cons (StepOK.addW .none (.tmp rfl (fun _ => trivial)) (.int (by decide))) rfl ?_
        refine Chain.cons (StepOK.move .none (.tmp rfl (fun _ => trivial))) rfl ?_
        refine Chain.nil ?_
        refine Ends.anon (t := 3) (g := 5003) rfl rfl trivial rfl ?_
        exact Ends.againL (some_eq h) (.cons (t := 9) rfl (.cons (t := 1) rfl (.cons (t := 7) rfl (.cons (t := 8) rfl Sub.nil)))) (.cons (t := 3) rfl SubB.nil)
    · replace h := bif_f h hb3
      refine Cod.exit ?_
      refine Ends.thenExit ?_
      refine Ends.thenExit ?_
      refine Ends.blkExit ?_
      refine Ends.anon (t := 3) (g := 5002) rfl rfl trivial rfl ?_
      replace h := hD2 _ (some_eq h)
      exact Ends.join _ (some_eq h) Sub.nil (.cons (t := 3) rfl SubB.nil)
  · subst hj1; have h := hK1; clear hK1
    refine Cod.freezeRowA (t := 3) rfl rfl SubB.nil rfl ?_
    refine Cod.seq ?_
    refine Cod.region [] mixed (by kernel_rfl) ?_
    refine Chain.cons (StepOK.move .none (.tmp rfl (fun _ => trivial))) rfl ?_
    refine Chain.cons (StepOK.assign .none (.tmp rfl (fun _ => trivial))) rfl ?_
    refine Chain.nil ?_
    refine Ends.then ?_
    refine Cod.ret ?_
    obtain rfl := some_eq h
    exact Ends.ret1 (.inl rfl) Try.results81 (ResOK.tmp rfl trivial Imp.refl)

theorem slices_Clone_Point_ok {s1 : (List Point)} {r : (List Point)}  (h : slices_Clone_Point s1 = some r) : FSpecO Try.prog 79 [rep s1] [] (anyV) [some (rowV 53 r)] := by
  unfold slices_Clone_Point at h
  refine FSpecO.intro (n := 8) fnok79 Try.func79 rfl Try.ntmps79 rfl (fun F => ?_)
  refine Cod.seq ?_
  refine Cod.region [] mixed (by kernel_rfl) ?_
  refine Chain.cons (StepOK.assign .none (.const (x := ([] : (List Point))) (fun M w => ⟨_, ⟨none, 0, rfl, Nat.le_refl _, by decide, rfl⟩, rfl⟩))) rfl ?_
  refine Chain.nil ?_
  refine Ends.then ?_
  refine Cod.seq ?_
  refine Cod.seq ?_
  refine Cod.region [] mixed (by kernel_rfl) ?_
  refine Chain.cons (StepOK.move .none (.tmp rfl (fun _ => trivial))) rfl ?_
  refine Chain.cons (StepOK.eqNil .none sl22 (.tmp rfl (fun _ => trivial))) rfl ?_
  refine Chain.nil ?_
  refine Ends.then ?_
  refine Cod.condNil (t := 4) rfl trivial (fun hb1 => ?_) ?_
  · replace h := nilc_t h hb1
    refine Cod.seq ?_
    refine Cod.region [([], [2])] mixed (by kernel_rfl) ?_
    refine Chain.consW (StepOK.nilRow (T := 53) (α := Point) rfl) rfl rfl ?_
    refine Chain.nil ?_
    refine Ends.then ?_
    refine Cod.nameRow (t := 2) (g := 5001) rfl rfl rfl (fun s5001 => ?_)
    refine Cod.ret ?_
    refine Ends.thenRet ?_
    refine Ends.anon (t := 2) (g := 5001) rfl rfl trivial rfl ?_
    obtain rfl := some_eq h
    exact Ends.ret1O (.inl rfl) [2] Try.results79 (by decide) (.res rfl rfl) (ResOK.tmp rfl trivial (fun _ _ _ _ => trivial))
  · replace h := nilc_f h
    refine Cod.skip ?_
    refine Ends.then ?_
    refine Cod.seq ?_
    refine Cod.region [([], [5]), ([], []), ([5], [7, 5]), ([7], [2, 7])] mixed (by kernel_rfl) ?_
    refine Chain.consW (StepOK.buildSliceO (xs := []) rfl sl22 ty53 hz53 .nil rfl (by decide)) rfl rfl ?_
    refine Chain.consA (StepOK.move .none (.tmp rfl (fun _ => trivial))) rfl ?_
    obtain ⟨hn2, h⟩ := need_some h
    refine Chain.consW (StepOK.append (k := 5) rk22 rfl (.tmp rfl) (.tmp rfl (fun _ => trivial)) hn2) rfl rfl ?_
    refine Chain.consW (StepOK.passRow rfl (.tmp rfl)) rfl rfl ?_
    refine Chain.nil ?_
    refine Ends.then ?_
    obtain ⟨v1, hv3, h⟩ := bnd_some h
    refine Cod.reB (t := 2) rfl (congrArg (rowV 53) hv3) ?_
    refine Cod.nameRow (t := 2) (g := 5002) rfl rfl rfl (fun s5002 => ?_)
    refine Cod.ret ?_
    refine Ends.anon (t := 2) (g := 5002) rfl rfl trivial rfl ?_
    obtain rfl := some_eq h
    exact Ends.ret1O (.inl rfl) [2] Try.results79 (by decide) (.res rfl rfl) (ResOK.tmp rfl trivial (fun _ _ _ _ => trivial))

theorem route_free_1_ok {z1 : Route_zone} {c0_1 : Point} {c1_1 : Point} {r : Bool}  (h : route_free_1 z1 c0_1 c1_1 = some r) : FSpec Try.prog 112 [rep z1, ref c0_1, ref c1_1] (rep r) := by
  unfold route_free_1 at h
  refine FSpec.intro (n := 43) fnok112 Try.func112 rfl Try.ntmps112 rfl (fun F => ?_)
  refine Cod.seq ?_
  refine Cod.region [] mixed (by kernel_rfl) ?_
  refine Chain.cons (StepOK.box .none (.tmp rfl (fun _ => trivial))) rfl ?_
  refine Chain.cons (StepOK.assign .none .bool) rfl ?_
  refine Chain.nil ?_
  refine Ends.then ?_
  refine Cod.seq ?_
  refine Cod.region [] mixed (by kernel_rfl) ?_
  refine Chain.cons (StepOK.fieldAddr .none fd53_0 hfd53_0 (.tmp rfl (fun _ => trivial))) rfl ?_
  refine Chain.cons (StepOK.load .none ty3 (.tmp rfl (fun _ => trivial))) rfl ?_
  refine Chain.cons (StepOK.fieldAddr .none fd53_0 hfd53_0 (.tmp rfl (fun _ => trivial))) rfl ?_
  refine Chain.cons (StepOK.load .none ty3 (.tmp rfl (fun _ => trivial))) rfl ?_
  refine Chain.cons (StepOK.max2 .none (.tmp rfl (fun _ => trivial)) (.tmp rfl (fun _ => trivial))) rfl ?_
  refine Chain.cons (StepOK.fieldAddr .none fd135_0 hfd135_0 (.tmp rfl (fun _ => trivial))) rfl ?_
  refine Chain.cons (StepOK.load .none ty3 (.tmp rfl (fun _ => trivial))) rfl ?_
  refine Chain.cons (StepOK.gt .none (.tmp rfl (fun _ => trivial)) (.tmp rfl (fun _ => trivial))) rfl ?_
  refine Chain.cons (StepOK.move .none (.tmp rfl (fun _ => trivial))) rfl ?_
  refine Chain.cons (StepOK.fieldAddr (.at rfl rfl) fd53_0 hfd53_0 (.tmp rfl (fun _ => trivial))) rfl ?_
  refine Chain.cons (StepOK.load (.at rfl rfl) ty3 (.tmp rfl id)) rfl ?_
  refine Chain.cons (StepOK.fieldAddr (.at rfl rfl) fd53_0 hfd53_0 (.tmp rfl (fun _ => trivial))) rfl ?_
  refine Chain.cons (StepOK.load (.at rfl rfl) ty3 (.tmp rfl id)) rfl ?_
  refine Chain.cons (StepOK.min2 (.at rfl rfl) (.tmp rfl id) (.tmp rfl id)) rfl ?_
  refine Chain.cons (StepOK.fieldAddr (.at rfl rfl) fd135_2 hfd135_2 (.tmp rfl (fun _ => trivial))) rfl ?_
  refine Chain.cons (StepOK.load (.at rfl rfl) ty3 (.tmp rfl id)) rfl ?_
  refine Chain.cons (StepOK.lt (.at rfl rfl) (.tmp rfl id) (.tmp rfl id)) rfl ?_
  refine Chain.cons (StepOK.pickAnd .none (.tmp rfl (fun _ => trivial)) (.tmp rfl id)) rfl ?_
  refine Chain.cons (StepOK.move .none (.tmp rfl (fun _ => trivial))) rfl ?_
  refine Chain.cons (StepOK.fieldAddr (.at rfl rfl) fd53_1 hfd53_1 (.tmp rfl (fun _ => trivial))) rfl ?_
  refine Chain.cons (StepOK.load (.at rfl rfl) ty3 (.tmp rfl id)) rfl ?_
  refine Chain.cons (StepOK.fieldAddr (.at rfl rfl) fd53_1 hfd53_1 (.tmp rfl (fun _ => trivial))) rfl ?_
  refine Chain.cons (StepOK.load (.at rfl rfl) ty3 (.tmp rfl id)) rfl ?_
  refine Chain.cons (StepOK.max2 (.at rfl rfl) (.tmp rfl id) (.tmp rfl id)) rfl ?_
  refine Chain.cons (StepOK.fieldAddr (.at rfl rfl) fd135_1 hfd135_1 (.tmp rfl (fun _ => trivial))) rfl ?_
  refine Chain.cons (StepOK.load (.at rfl rfl) ty3 (.tmp rfl id)) rfl ?_
  refine Chain.cons (StepOK.gt (.at rfl rfl) (.tmp rfl id) (.tmp rfl id)) rfl ?_
  refine Chain.cons (StepOK.pickAnd .none (.tmp rfl (fun _ => trivial)) (.tmp rfl id)) rfl ?_
  refine Chain.cons (StepOK.move .none (.tmp rfl (fun _ => trivial))) rfl ?_
  refine Chain.cons (StepOK.fieldAddr (.at rfl rfl) fd53_1 hfd53_1 (.tmp rfl (fun _ => trivial))) rfl ?_
  refine Chain.cons (StepOK.load (.at rfl rfl) ty3 (.tmp rfl id)) rfl ?_
  refine Chain.cons (StepOK.fieldAddr (.at rfl rfl) fd53_1 hfd53_1 (.tmp rfl (fun _ => trivial))) rfl ?_
  refine Chain.cons (StepOK.load (.at rfl rfl) ty3 (.tmp rfl id)) rfl ?_
  refine Chain.cons (StepOK.min2 (.at rfl rfl) (.tmp rfl id) (.tmp rfl id)) rfl ?_
  refine Chain.cons (StepOK.fieldAddr (.at rfl rfl) fd135_3 hfd135_3 (.tmp rfl (fun _ => trivial))) rfl ?_
  refine Chain.cons (StepOK.load (.at rfl rfl) ty3 (.tmp rfl id)) rfl ?_
  refine Chain.cons (StepOK.lt (.at rfl rfl) (.tmp rfl id) (.tmp rfl id)) rfl ?_
  refine Chain.cons (StepOK.pickAnd .none (.tmp rfl (fun _ => trivial)) (.tmp rfl id)) rfl ?_
  refine Chain.cons (StepOK.assign .none (.tmp rfl (fun _ => trivial))) rfl ?_
  refine Chain.nil ?_
  refine Ends.then ?_
  refine Cod.ret ?_
  obtain rfl := some_eq h
  exact Ends.ret1 (.inl rfl) Try.results112 (ResOK.tmp rfl trivial Imp.refl)

theorem slices_IndexFunc_zone_ok {s1 : (List Route_zone)} {f1 : (Route_zone → Option Bool)} {r : Int}  (h : slices_IndexFunc_zone s1 f1 = some r) : FSpec Try.prog 126 [rep s1, fn1 Try.prog (rep (α := Bool)) f1] (rep r) := by
  unfold slices_IndexFunc_zone at h
  refine FSpec.intro (n := 19) fnok126 Try.func126 rfl Try.ntmps126 rfl (fun F => ?_)
  refine Cod.seq ?_
  refine Cod.region [] mixed (by kernel_rfl) ?_
  refine Chain.cons (StepOK.assign .none (.int (by decide))) rfl ?_
  refine Chain.nil ?_
  refine Ends.then ?_
  refine Cod.seq ?_
  refine Cod.seq ?_
  refine Cod.region [] mixed (by kernel_rfl) ?_
  refine Chain.cons (StepOK.move .none (.tmp rfl (fun _ => trivial))) rfl ?_
  refine Chain.cons (StepOK.len .none sl106 (.tmp rfl (fun _ => trivial))) rfl ?_
  refine Chain.cons (StepOK.move .none (.int (by decide))) rfl ?_
  refine Chain.nil ?_
  refine Ends.then ?_
  obtain ⟨o_1, h, hK1⟩ := bindR_some h
  refine Cod.thenJ (ι := Unit) (fun j_1 => []) (fun j_1 => []) (fun s => o_1 = Res.nx s) Sub.nil SubB.nil ?_ (fun j_1 hj1 => ?_)
  · skip
    refine Cod.block ?_
    refine Cod.rforEL h (fun p2_ => [(8, ⟨True, rep p2_.1⟩)]) (fun p2_ => []) (.cons (t := 8) rfl Sub.nil) SubB.nil (.cons (t := 0) rfl (.cons (t := 1) rfl (.cons (t := 7) rfl Sub.nil))) SubB.nil (fun p2_ o_2 h hD2 => ?_)
    refine Cod.seq ?_
    refine Cod.region [] mixed (by kernel_rfl) ?_
    refine Chain.cons (StepOK.lt .none (.tmp rfl (fun _ => trivial)) (.tmp rfl (fun _ => trivial))) rfl ?_
    refine Chain.nil ?_
    refine Ends.then ?_
    refine Cod.seq ?_
    refine Cod.cond (t := 9) rfl trivial (fun hb3 => ?_) (fun hb3 => ?_)
    · replace h := bif_t h hb3
      refine Cod.skip ?_
      refine Ends.then ?_
      refine Cod.seq ?_
      obtain ⟨o_4, h, hK4⟩ := bindD_some h
      unfold slices_IndexFunc_zone_L1 at h
      refine Cod.thenJ (ι := Unit) (fun j_4 => []) (fun j_4 => []) (fun s => o_4 = Res.nx s) (.cons (t := 0) rfl (.cons (t := 1) rfl (.cons (t := 7) rfl (.cons (t := 8) rfl Sub.nil)))) SubB.nil ?_ (fun j_4 hj4 => ?_)
      · skip
        refine Cod.block ?_
        refine Cod.seq ?_
        refine Cod.region [] mixed (by kernel_rfl) ?_
        refine Chain.cons (StepOK.move .none (.tmp rfl (fun _ => trivial))) rfl ?_
        refine Chain.cons (StepOK.assign .none (.tmp rfl (fun _ => trivial))) rfl ?_
        refine Chain.nil ?_
        refine Ends.then ?_
        refine Cod.seq ?_
        refine Cod.region [] mixed (by kernel_rfl) ?_
        refine Chain.cons (StepOK.move .none (.tmp rfl (fun _ => trivial))) rfl ?_
        refine Chain.cons (StepOK.move .none (.tmp rfl (fun _ => trivial))) rfl ?_
        refine Chain.cons (StepOK.move .none (.tmp rfl (fun _ => trivial))) rfl ?_
        obtain ⟨hn5, h⟩ := need_some h
        refine Chain.cons (StepOK.indexAddr .none sl106 ty135 (.tmp rfl (fun _ => trivial)) (.tmp rfl (fun _ => trivial)) (fun _ => hn5)) rfl ?_
        refine Chain.cons (StepOK.load .none ty135 (.tmp rfl (fun _ => trivial))) rfl ?_
        obtain ⟨r1, hv6, h⟩ := bind_some h
        refine Chain.cons (StepOK.callV (gx s1 p2_.1, r1) .none (.tmp rfl (fun _ => trivial)) (fun _ => hv6) (.cons (.tmp rfl (fun _ => trivial)) .nil)) rfl ?_
        refine Chain.nil ?_
        refine Ends.then ?_
        refine Cod.cond (t := 16) rfl trivial (fun hb7 => ?_) (fun hb7 => ?_)
        · replace h := bif_t h hb7
          refine Cod.seq ?_
          refine Cod.region [] mixed (by kernel_rfl) ?_
          refine Chain.cons (StepOK.move .none (.tmp rfl (fun _ => trivial))) rfl ?_
          refine Chain.cons (StepOK.assign .none (.tmp rfl (fun _ => trivial))) rfl ?_
          refine Chain.nil ?_
          refine Ends.then ?_
          refine Cod.ret ?_
          refine Ends.blkRet ?_
          refine Ends.thenRet ?_
          refine Ends.thenRet ?_
          refine Ends.blkRet ?_
          refine Ends.thenRet ?_
          replace h := resd_ab hK4 (some_eq h)
          replace h := hD2 _ (some_eq h)
          replace h := resb_ab hK1 (some_eq h)
          obtain rfl := some_eq h
          exact Ends.ret1 (.inl rfl) Try.results126 (ResOK.tmp rfl trivial Imp.refl)
        · replace h := bif_f h hb7
          refine Cod.skip ?_
          refine Ends.blkNormal ?_
          exact Ends.join _ (some_eq h) (.cons (t := 0) rfl (.cons (t := 1) rfl (.cons (t := 7) rfl (.cons (t := 8) rfl Sub.nil)))) SubB.nil
      · have h := resd_nx hK4 hj4
        refine Cod.region [] mixed (by kernel_rfl) ?_
        refine Chain.cons (StepOK.addW .none (.tmp rfl (fun _ => trivial)) (.int (by decide))) rfl ?_
        refine Chain.cons (StepOK.move .none (.tmp rfl (fun _ => trivial))) rfl ?_
        refine Chain.nil ?_
        exact Ends.againL (some_eq h) (.cons (t := 8) rfl (.cons (t := 0) rfl (.cons (t := 1) rfl (.cons (t := 7) rfl Sub.nil)))) SubB.nil
    · replace h := bif_f h hb3
      refine Cod.exit ?_
      refine Ends.thenExit ?_
      refine Ends.thenExit ?_
      refine Ends.blkExit ?_
      replace h := hD2 _ (some_eq h)
      exact Ends.join _ (some_eq h) Sub.nil SubB.nil
  · have h := resb_nx hK1 hj1
    refine Cod.seq ?_
    refine Cod.region [] mixed (by kernel_rfl) ?_
    refine Chain.cons (StepOK.assign .none (.int (by decide))) rfl ?_
    refine Chain.nil ?_
    refine Ends.then ?_
    refine Cod.ret ?_
    obtain rfl := some_eq h
    exact Ends.ret1 (.inl rfl) Try.results126 (ResOK.tmp rfl trivial Imp.refl)

theorem slices_ContainsFunc_zone_ok {s1 : (List Route_zone)} {f1 : (Route_zone → Option Bool)} {r : Bool}  (h : slices_ContainsFunc_zone s1 f1 = some r) : FSpec Try.prog 111 [rep s1, fn1 Try.prog (rep (α := Bool)) f1] (rep r) := by
  unfold slices_ContainsFunc_zone at h
  refine FSpec.intro (n := 9) fnok111 Try.func111 rfl Try.ntmps111 rfl (fun F => ?_)
  refine Cod.seq ?_
  refine Cod.region [] mixed (by kernel_rfl) ?_
  refine Chain.cons (StepOK.assign .none .bool) rfl ?_
  refine Chain.nil ?_
  refine Ends.then ?_
  refine Cod.seq ?_
  refine Cod.region [] mixed (by kernel_rfl) ?_
  refine Chain.cons (StepOK.move .none (.tmp rfl (fun _ => trivial))) rfl ?_
  refine Chain.cons (StepOK.move .none (.tmp rfl (fun _ => trivial))) rfl ?_
  obtain ⟨r1, hv1, h⟩ := bind_some h
  refine Chain.cons (StepOK.call .none (slices_IndexFunc_zone_ok hv1) (.cons (.tmp rfl (fun _ => trivial)) (.cons (.tmp rfl (fun _ => trivial)) .nil))) rfl ?_
  refine Chain.cons (StepOK.ge .none (.tmp rfl (fun _ => trivial)) (.int (by decide))) rfl ?_
  refine Chain.cons (StepOK.assign .none (.tmp rfl (fun _ => trivial))) rfl ?_
  refine Chain.nil ?_
  refine Ends.then ?_
  refine Cod.ret ?_
  obtain rfl := some_eq h
  exact Ends.ret1 (.inl rfl) Try.results111 (ResOK.tmp rfl trivial Imp.refl)

theorem route_free_ok {l1 : (List Route_zone)} {a1 : Point} {b1 : Point} {r : Bool}  (h : route_free l1 a1 b1 = some r) : FSpec Try.prog 82 [rep l1, rep a1, rep b1] (rep r) := by
  unfold route_free at h
  refine FSpec.intro (n := 11) fnok82 Try.func82 rfl Try.ntmps82 rfl (fun F => ?_)
  refine Cod.seq ?_
  refine Cod.region [] mixed (by kernel_rfl) ?_
  refine Chain.cons (StepOK.box .none (.tmp rfl (fun _ => trivial))) rfl ?_
  refine Chain.cons (StepOK.box .none (.tmp rfl (fun _ => trivial))) rfl ?_
  refine Chain.cons (StepOK.assign .none .bool) rfl ?_
  refine Chain.nil ?_
  refine Ends.then ?_
  refine Cod.seq ?_
  refine Cod.region [] mixed (by kernel_rfl) ?_
  refine Chain.cons (StepOK.move .none (.tmp rfl (fun _ => trivial))) rfl ?_
  refine Chain.cons (StepOK.makeFunc (ι := Route_zone × Bool) (pre := fun i => (fun x0 => route_free_1 x0 a1 b1) i.1 = some i.2) (Ss := fun i => [rep i.1]) (S := fun i => rep i.2) .none fnok112 (fun i h => route_free_1_ok h) (.cons (.tmp rfl (fun _ => trivial)) (.cons (.tmp rfl (fun _ => trivial)) .nil))) rfl ?_
  obtain ⟨r1, hv1, h⟩ := bind_some h
  refine Chain.cons (StepOK.call .none (slices_ContainsFunc_zone_ok hv1) (.cons (.tmp rfl (fun _ => trivial)) (.cons (.tmp rfl (fun _ => trivial)) .nil))) rfl ?_
  refine Chain.cons (StepOK.not .none (.tmp rfl (fun _ => trivial))) rfl ?_
  refine Chain.cons (StepOK.assign .none (.tmp rfl (fun _ => trivial))) rfl ?_
  refine Chain.nil ?_
  refine Ends.then ?_
  refine Cod.ret ?_
  obtain rfl := some_eq h
  exact Ends.ret1 (.inl rfl) Try.results82 (ResOK.tmp rfl trivial Imp.refl)

theorem route_lines_1_ok {l1 : (List Int)} {at1 : (List Int)} {r : (List Int)} {s34 : Value} (h : route_lines_1 l1 at1 = some r) : FSpecO Try.prog 123 [isV s34, rep at1] [(s34, rowV 3 l1)] (anyV) [none, some (rowV 3 r)] := by
  unfold route_lines_1 at h
  refine FSpecO.intro (n := 34) fnok123 Try.func123 rfl Try.ntmps123 rfl (fun F => ?_)
  refine Cod.seq ?_
  refine Cod.region [] mixed (by kernel_rfl) ?_
  refine Chain.cons (StepOK.assign .none (.const (x := ([] : (List Int))) (fun M w => ⟨_, ⟨none, 0, rfl, Nat.le_refl _, by decide, rfl⟩, rfl⟩))) rfl ?_
  refine Chain.nil ?_
  refine Ends.then ?_
  refine Cod.seq ?_
  refine Cod.seq ?_
  refine Cod.region [] mixed (by kernel_rfl) ?_
  refine Chain.cons (StepOK.move .none (.tmp rfl (fun _ => trivial))) rfl ?_
  refine Chain.cons (StepOK.len .none sl42 (.tmp rfl (fun _ => trivial))) rfl ?_
  refine Chain.cons (StepOK.move .none (.int (by decide))) rfl ?_
  refine Chain.nil ?_
  refine Ends.then ?_
  obtain ⟨j_1, h, hK1⟩ := bind_some h
  refine Cod.thenJ (ι := (List Int)) (fun j_1 => []) (fun j_1 => [(0, some (rowV 3 j_1))]) (fun s => j_1 = s) Sub.nil SubB.nil ?_ (fun j_1' hj1 => ?_)
  · skip
    refine Cod.block ?_
    refine Cod.anon (t := 0) (g := 34) rfl rfl trivial rfl ?_
    refine Cod.rforL h (fun p2_ => [(10, ⟨True, rep p2_.1⟩)]) (fun p2_ => [(0, some (rowV 3 p2_.2))]) (.cons (t := 10) rfl Sub.nil) (.cons (t := 0) rfl SubB.nil) (.cons (t := 8) rfl (.cons (t := 9) rfl Sub.nil)) SubB.nil (fun p2_ o_2 h hD2 => ?_)
    refine Cod.nameRow (t := 0) (g := 5001) rfl rfl rfl (fun s5001 => ?_)
    refine Cod.seq ?_
    refine Cod.region [] mixed (by kernel_rfl) ?_
    refine Chain.cons (StepOK.lt .none (.tmp rfl (fun _ => trivial)) (.tmp rfl (fun _ => trivial))) rfl ?_
    refine Chain.nil ?_
    refine Ends.then ?_
    refine Cod.seq ?_
    refine Cod.cond (t := 11) rfl trivial (fun hb3 => ?_) (fun hb3 => ?_)
    · replace h := bif_t h hb3
      refine Cod.skip ?_
      refine Ends.then ?_
      refine Cod.seq ?_
      obtain ⟨j_4, h, hK4⟩ := bind_some h
      unfold route_lines_1_L1 at h
      refine Cod.thenJ (ι := (List Int)) (fun j_4 => []) (fun j_4 => [(0, some (rowV 3 j_4))]) (fun s => j_4 = s) (.cons (t := 8) rfl (.cons (t := 9) rfl (.cons (t := 10) rfl Sub.nil))) SubB.nil ?_ (fun j_4' hj4 => ?_)
      · skip
        refine Cod.block ?_
        refine Cod.seq ?_
        refine Cod.region [] mixed (by kernel_rfl) ?_
        obtain ⟨hn5, h⟩ := need_some h
        refine Chain.cons (StepOK.indexAddr .none sl42 ty3 (.tmp rfl (fun _ => trivial)) (.tmp rfl (fun _ => trivial)) (fun _ => hn5)) rfl ?_
        refine Chain.cons (StepOK.load .none ty3 (.tmp rfl (fun _ => trivial))) rfl ?_
        obtain ⟨n1, hv6, h⟩ := bnd_some h
        refine Chain.cons (StepOK.re hv6 (StepOK.assign .none (.tmp rfl (fun _ => trivial)))) rfl ?_
        refine Chain.nil ?_
        refine Ends.then ?_
        refine Cod.seq ?_
        refine Cod.region [] mixed (by kernel_rfl) ?_
        refine Chain.cons (StepOK.move .none (.tmp rfl (fun _ => trivial))) rfl ?_
        refine Chain.cons (StepOK.subW .none (.tmp rfl (fun _ => trivial)) (.int (by decide))) rfl ?_
        obtain ⟨k1, hv7, h⟩ := bnd_some h
        refine Chain.cons (StepOK.re hv7 (StepOK.assign .none (.tmp rfl (fun _ => trivial)))) rfl ?_
        refine Chain.nil ?_
        refine Ends.then ?_
        refine Cod.block ?_
        refine Cod.anon (t := 0) (g := 5001) rfl rfl trivial rfl ?_
        refine Cod.loopL h (fun s8_ => [(7, ⟨True, rep s8_.2⟩)]) (fun s8_ => [(0, some (rowV 3 s8_.1))]) (.cons (t := 7) rfl Sub.nil) (.cons (t := 0) rfl SubB.nil) (.cons (t := 6) rfl (.cons (t := 8) rfl (.cons (t := 9) rfl (.cons (t := 10) rfl Sub.nil)))) SubB.nil (fun s8_ o_8 h hD8 => ?_)
        unfold route_lines_1_L2 at h
        refine Cod.nameRow (t := 0) (g := 5002) rfl rfl rfl (fun s5002 => ?_)
        refine Cod.seq ?_
        refine Cod.seq ?_
        refine Cod.region [] mixed (by kernel_rfl) ?_
        refine Chain.cons (StepOK.move .none (.tmp rfl (fun _ => trivial))) rfl ?_
        refine Chain.cons (StepOK.move .none (.tmp rfl (fun _ => trivial))) rfl ?_
        refine Chain.cons (StepOK.addW .none (.tmp rfl (fun _ => trivial)) (.int (by decide))) rfl ?_
        refine Chain.cons (StepOK.le .none (.tmp rfl (fun _ => trivial)) (.tmp rfl (fun _ => trivial))) rfl ?_
        refine Chain.nil ?_
        refine Ends.then ?_
        refine Cod.cond (t := 19) rfl trivial (fun hb9 => ?_) (fun hb9 => ?_)
        · replace h := bif_t h hb9
          refine Cod.skip ?_
          refine Ends.then ?_
          refine Cod.seq ?_
          obtain ⟨j_10, h, hK10⟩ := bind_some h
          refine Cod.thenJ (ι := (List Int)) (fun j_10 => []) (fun j_10 => [(0, some (rowV 3 j_10))]) (fun s => j_10 = s) (.cons (t := 6) rfl (.cons (t := 7) rfl (.cons (t := 8) rfl (.cons (t := 9) rfl (.cons (t := 10) rfl Sub.nil))))) SubB.nil ?_ (fun j_10' hj10 => ?_)
          · skip
            refine Cod.block ?_
            refine Cod.seq ?_
            refine Cod.region [] mixed (by kernel_rfl) ?_
            refine Chain.cons (StepOK.move .none (.tmp rfl (fun _ => trivial))) rfl ?_
            refine Chain.cons (StepOK.ge .none (.tmp rfl (fun _ => trivial)) (.int (by decide))) rfl ?_
            refine Chain.cons (StepOK.move .none (.tmp rfl (fun _ => trivial))) rfl ?_
            refine Chain.cons (StepOK.move (.at rfl rfl) (.tmp rfl (fun _ => trivial))) rfl ?_
            refine Chain.cons (StepOK.le (.at rfl rfl) (.tmp rfl id) (.int (by decide))) rfl ?_
            refine Chain.cons (StepOK.pickAnd .none (.tmp rfl (fun _ => trivial)) (.tmp rfl id)) rfl ?_
            refine Chain.nil ?_
            refine Ends.then ?_
            refine Cod.cond (t := 27) rfl trivial (fun hb11 => ?_) (fun hb11 => ?_)
            · replace h := bif_t h hb11
              refine Cod.region [([], []), ([], []), ([], []), ([5002], [31, 5002]), ([31], [0, 31])] mixed (by kernel_rfl) ?_
              refine Chain.consA (StepOK.move .none (.tmp rfl (fun _ => trivial))) rfl ?_
              refine Chain.consA (StepOK.move .none (.tmp rfl (fun _ => trivial))) rfl ?_
              refine Chain.consA (StepOK.buildSlice (xs := [_]) .none sl42 ty3 hz3 (.cons (.tmp rfl (fun _ => trivial)) .nil) rfl (by decide)) rfl ?_
              obtain ⟨hn12, h⟩ := need_some h
              refine Chain.consW (StepOK.append (k := 5002) rk42 rfl (.told (.tmp rfl (fun _ => trivial)) rfl) (.tmp rfl (fun _ => trivial)) hn12) rfl rfl ?_
              refine Chain.consWD (StepOK.passRow rfl (.tmp rfl)) rfl rfl ?_
              refine Chain.nil ?_
              refine Ends.blkNormal ?_
              exact Ends.join _ (some_eq h) (.cons (t := 6) rfl (.cons (t := 7) rfl (.cons (t := 8) rfl (.cons (t := 9) rfl (.cons (t := 10) rfl Sub.nil))))) (.cons (t := 0) rfl SubB.nil)
            · replace h := bif_f h hb11
              refine Cod.skip ?_
              refine Ends.blkNormal ?_
              refine Ends.anon (t := 0) (g := 5002) rfl rfl trivial rfl ?_
              exact Ends.join _ (some_eq h) (.cons (t := 6) rfl (.cons (t := 7) rfl (.cons (t := 8) rfl (.cons (t := 9) rfl (.cons (t := 10) rfl Sub.nil))))) (.cons (t := 0) rfl SubB.nil)
          · subst hj10; have h := hK10; clear hK10
            refine Cod.nameRow (t := 0) (g := 5003) rfl rfl rfl (fun s5003 => ?_)
            refine Cod.region [] mixed (by kernel_rfl) ?_
            refine Chain.cons (StepOK.move .none (.tmp rfl (fun _ => trivial))) rfl ?_
            refine Chain.cons (StepOK.addW .none (.tmp rfl (fun _ => trivial)) (.int (by decide))) rfl ?_
            obtain ⟨k2, hv13, h⟩ := bnd_some h
            refine Chain.cons (StepOK.re hv13 (StepOK.assign .none (.tmp rfl (fun _ => trivial)))) rfl ?_
            refine Chain.nil ?_
            refine Ends.anon (t := 0) (g := 5003) rfl rfl trivial rfl ?_
            exact Ends.againL (some_eq h) (.cons (t := 7) rfl (.cons (t := 6) rfl (.cons (t := 8) rfl (.cons (t := 9) rfl (.cons (t := 10) rfl Sub.nil))))) (.cons (t := 0) rfl SubB.nil)
        · replace h := bif_f h hb9
          refine Cod.exit ?_
          refine Ends.thenExit ?_
          refine Ends.thenExit ?_
          refine Ends.blkExit ?_
          refine Ends.blkNormal ?_
          refine Ends.anon (t := 0) (g := 5002) rfl rfl trivial rfl ?_
          replace h := hD8 _ (some_eq h)
          exact Ends.join _ (some_eq h) (.cons (t := 8) rfl (.cons (t := 9) rfl (.cons (t := 10) rfl Sub.nil))) (.cons (t := 0) rfl SubB.nil)
      · subst hj4; have h := hK4; clear hK4
        refine Cod.nameRow (t := 0) (g := 5004) rfl rfl rfl (fun s5004 => ?_)
        refine Cod.region [] mixed (by kernel_rfl) ?_
        refine Chain.cons (StepOK.addW .none (.tmp rfl (fun _ => trivial)) (.int (by decide))) rfl ?_
        refine Chain.cons (StepOK.move .none (.tmp rfl (fun _ => trivial))) rfl ?_
        refine Chain.nil ?_
        refine Ends.anon (t := 0) (g := 5004) rfl rfl trivial rfl ?_
        exact Ends.againL (some_eq h) (.cons (t := 10) rfl (.cons (t := 8) rfl (.cons (t := 9) rfl Sub.nil))) (.cons (t := 0) rfl SubB.nil)
    · replace h := bif_f h hb3
      refine Cod.exit ?_
      refine Ends.thenExit ?_
      refine Ends.thenExit ?_
      refine Ends.blkExit ?_
      refine Ends.anon (t := 0) (g := 5001) rfl rfl trivial rfl ?_
      replace h := hD2 _ (some_eq h)
      exact Ends.join _ (some_eq h) Sub.nil (.cons (t := 0) rfl SubB.nil)
  · subst hj1; have h := hK1; clear hK1
    refine Cod.nameRow (t := 0) (g := 5005) rfl rfl rfl (fun s5005 => ?_)
    refine Cod.seq ?_
    refine Cod.region [] mixed (by kernel_rfl) ?_
    refine Chain.cons (StepOK.move .none (.tmp rfl (fun _ => trivial))) rfl ?_
    refine Chain.cons (StepOK.assign .none (.tmp rfl (fun _ => trivial))) rfl ?_
    refine Chain.nil ?_
    refine Ends.then ?_
    refine Cod.ret ?_
    refine Ends.anon (t := 4) (g := 5005) rfl rfl trivial rfl ?_
    obtain rfl := some_eq h
    exact Ends.ret1O (.inl rfl) [34, 4] Try.results123 (by decide) (.skip (.res rfl rfl)) (ResOK.tmp rfl trivial (fun _ _ _ _ => trivial))

theorem route_lines_ok {t1 : Task} {r : ((List Int) × (List Int))}  (h : route_lines t1 = some r) : FSpec Try.prog 103 [rep t1] (tup [rep r.1, rep r.2]) := by
  unfold route_lines at h
  refine FSpec.intro (n := 62) fnok103 Try.func103 rfl Try.ntmps103 rfl (fun F => ?_)
  refine Cod.seq ?_
  refine Cod.region [([], []), ([], [2]), ([], [3])] mixed (by kernel_rfl) ?_
  refine Chain.consA (StepOK.box .none (.tmp rfl (fun _ => trivial))) rfl ?_
  refine Chain.consW (StepOK.nilRow (T := 3) (α := Int) rfl) rfl rfl ?_
  refine Chain.consW (StepOK.nilRow (T := 3) (α := Int) rfl) rfl rfl ?_
  refine Chain.nil ?_
  refine Ends.then ?_
  refine Cod.nameRow (t := 2) (g := 5001) rfl rfl rfl (fun s5001 => ?_)
  refine Cod.nameRow (t := 3) (g := 5002) rfl rfl rfl (fun s5002 => ?_)
  refine Cod.seq ?_
  refine Cod.region [([], []), ([], []), ([], []), ([], []), ([], []), ([], [4]), ([], [5]), ([4], [4]), ([5], [5])] mixed (by kernel_rfl) ?_
  refine Chain.consA (StepOK.load .none ty55 (.tmp rfl (fun _ => trivial))) rfl ?_
  obtain ⟨r1, hv1, h⟩ := bind_some h
  refine Chain.consA (StepOK.call .none (route_ends_ok hv1) (.cons (.tmp rfl (fun _ => trivial)) .nil)) rfl ?_
  refine Chain.consA (StepOK.move .none (.tmp rfl (fun _ => trivial))) rfl ?_
  refine Chain.consA (StepOK.extract .none (.tmp rfl (fun _ => trivial)) rfl) rfl ?_
  refine Chain.consA (StepOK.extract .none (.tmp rfl (fun _ => trivial)) rfl) rfl ?_
  refine Chain.consW (StepOK.alloc zo53 rfl) rfl rfl ?_
  refine Chain.consW (StepOK.alloc zo53 rfl) rfl rfl ?_
  refine Chain.consN (StepOK.store ty53 rfl rfl (.tmp rfl (fun _ => trivial))) rfl ?_
  refine Chain.consN (StepOK.store ty53 rfl rfl (.tmp rfl (fun _ => trivial))) rfl ?_
  refine Chain.nil ?_
  refine Ends.then ?_
  refine Cod.freeze (t := 4) rfl rfl (.cons (t := 5) rfl (.cons (t := 5001) rfl (.cons (t := 5002) rfl SubB.nil))) rfl ?_
  refine Cod.freeze (t := 5) rfl rfl (.cons (t := 5001) rfl (.cons (t := 5002) rfl SubB.nil)) rfl ?_
  refine Cod.seq ?_
  refine Cod.region [] mixed (by kernel_rfl) ?_
  refine Chain.cons (StepOK.assign .none .funcC) rfl ?_
  refine Chain.nil ?_
  refine Ends.then ?_
  refine Cod.seq ?_
  refine Cod.region [([], []), ([], []), ([], []), ([], []), ([], []), ([], []), ([], []), ([5001], [5001, 21]), ([], []), ([], []), ([], []), ([], []), ([], []), ([], []), ([], []), ([5002], [5002, 29]), ([21], [2, 21]), ([29], [3, 29])] mixed (by kernel_rfl) ?_
  refine Chain.consA (StepOK.move .none (.tmp rfl (fun _ => trivial))) rfl ?_
  refine Chain.consA (StepOK.move .none (.tmp rfl (fun _ => trivial))) rfl ?_
  refine Chain.consA (StepOK.fieldAddr .none fd53_0 hfd53_0 (.tmp rfl (fun _ => trivial))) rfl ?_
  refine Chain.consA (StepOK.load .none ty3 (.tmp rfl (fun _ => trivial))) rfl ?_
  refine Chain.consA (StepOK.fieldAddr .none fd53_0 hfd53_0 (.tmp rfl (fun _ => trivial))) rfl ?_
  refine Chain.consA (StepOK.load .none ty3 (.tmp rfl (fun _ => trivial))) rfl ?_
  refine Chain.consA (StepOK.buildSlice (xs := [_, _]) .none sl42 ty3 hz3 (.cons (.tmp rfl (fun _ => trivial)) (.cons (.tmp rfl (fun _ => trivial)) .nil)) rfl (by decide)) rfl ?_
  obtain ⟨xs1, hv2, h⟩ := bind_some h
  refine Chain.consW (StepOK.callClo [5001] (Ss := [isV _, rep [r1.1.X, r1.2.X]]) (Cs := []) (.tmp rfl (fun _ => trivial)) (route_lines_1_ok hv2) (.cons (.tmp rfl (fun _ => trivial)) (.cons (.tmp rfl (fun _ => trivial)) .nil)) (.cons (k := 5001) rfl .nil) rfl (by decide) (by decide) (by intro d h; cases h; decide)) rfl rfl ?_
  refine Chain.consA (StepOK.move .none (.tmp rfl (fun _ => trivial))) rfl ?_
  refine Chain.consA (StepOK.move .none (.tmp rfl (fun _ => trivial))) rfl ?_
  refine Chain.consA (StepOK.fieldAddr .none fd53_1 hfd53_1 (.tmp rfl (fun _ => trivial))) rfl ?_
  refine Chain.consA (StepOK.load .none ty3 (.tmp rfl (fun _ => trivial))) rfl ?_
  refine Chain.consA (StepOK.fieldAddr .none fd53_1 hfd53_1 (.tmp rfl (fun _ => trivial))) rfl ?_
  refine Chain.consA (StepOK.load .none ty3 (.tmp rfl (fun _ => trivial))) rfl ?_
  refine Chain.consA (StepOK.buildSlice (xs := [_, _]) .none sl42 ty3 hz3 (.cons (.tmp rfl (fun _ => trivial)) (.cons (.tmp rfl (fun _ => trivial)) .nil)) rfl (by decide)) rfl ?_
  obtain ⟨ys1, hv3, h⟩ := bind_some h
  refine Chain.consW (StepOK.callClo [5002] (Ss := [isV _, rep [r1.1.Y, r1.2.Y]]) (Cs := []) (.tmp rfl (fun _ => trivial)) (route_lines_1_ok hv3) (.cons (.tmp rfl (fun _ => trivial)) (.cons (.tmp rfl (fun _ => trivial)) .nil)) (.cons (k := 5002) rfl .nil) rfl (by decide) (by decide) (by intro d h; cases h; decide)) rfl rfl ?_
  refine Chain.consW (StepOK.passRow rfl (.tmp rfl)) rfl rfl ?_
  refine Chain.consW (StepOK.passRow rfl (.tmp rfl)) rfl rfl ?_
  refine Chain.nil ?_
  refine Ends.then ?_
  refine Cod.nameRow (t := 2) (g := 5003) rfl rfl rfl (fun s5003 => ?_)
  refine Cod.nameRow (t := 3) (g := 5004) rfl rfl rfl (fun s5004 => ?_)
  refine Cod.seq ?_
  refine Cod.seq ?_
  refine Cod.region [] mixed (by kernel_rfl) ?_
  refine Chain.cons (StepOK.load .none ty55 (.tmp rfl (fun _ => trivial))) rfl ?_
  obtain ⟨r2, hv4, h⟩ := bind_some h
  refine Chain.cons (StepOK.call .none (route_zones_ok hv4) (.cons (.tmp rfl (fun _ => trivial)) .nil)) rfl ?_
  refine Chain.cons (StepOK.len .none sl106 (.tmp rfl (fun _ => trivial))) rfl ?_
  refine Chain.cons (StepOK.move .none (.int (by decide))) rfl ?_
  refine Chain.nil ?_
  refine Ends.then ?_
  obtain ⟨j_5, h, hK5⟩ := bind_some h
  refine Cod.thenJ (ι := ((List Int) × (List Int))) (fun j_5 => []) (fun j_5 => [(2, some (rowV 3 j_5.1)), (3, some (rowV 3 j_5.2))]) (fun s => j_5 = s) Sub.nil SubB.nil ?_ (fun j_5' hj5 => ?_)
  · skip
    refine Cod.block ?_
    refine Cod.anon (t := 2) (g := 5003) rfl rfl trivial rfl ?_
    refine Cod.anon (t := 3) (g := 5004) rfl rfl trivial rfl ?_
    refine Cod.rforL h (fun p6_ => [(33, ⟨True, rep p6_.1⟩)]) (fun p6_ => [(2, some (rowV 3 p6_.2.1)), (3, some (rowV 3 p6_.2.2))]) (.cons (t := 33) rfl Sub.nil) (.cons (t := 2) rfl (.cons (t := 3) rfl SubB.nil)) (.cons (t := 6) rfl (.cons (t := 31) rfl (.cons (t := 32) rfl Sub.nil))) SubB.nil (fun p6_ o_6 h hD6 => ?_)
    refine Cod.nameRow (t := 2) (g := 5005) rfl rfl rfl (fun s5005 => ?_)
    refine Cod.nameRow (t := 3) (g := 5006) rfl rfl rfl (fun s5006 => ?_)
    refine Cod.seq ?_
    refine Cod.region [] mixed (by kernel_rfl) ?_
    refine Chain.cons (StepOK.lt .none (.tmp rfl (fun _ => trivial)) (.tmp rfl (fun _ => trivial))) rfl ?_
    refine Chain.nil ?_
    refine Ends.then ?_
    refine Cod.seq ?_
    refine Cod.cond (t := 34) rfl trivial (fun hb7 => ?_) (fun hb7 => ?_)
    · replace h := bif_t h hb7
      refine Cod.skip ?_
      refine Ends.then ?_
      refine Cod.seq ?_
      obtain ⟨j_8, h, hK8⟩ := bind_some h
      unfold route_lines_L1 at h
      refine Cod.thenJ (ι := ((List Int) × (List Int))) (fun j_8 => []) (fun j_8 => [(2, some (rowV 3 j_8.1)), (3, some (rowV 3 j_8.2))]) (fun s => j_8 = s) (.cons (t := 6) rfl (.cons (t := 31) rfl (.cons (t := 32) rfl (.cons (t := 33) rfl Sub.nil)))) SubB.nil ?_ (fun j_8' hj8 => ?_)
      · skip
        refine Cod.block ?_
        refine Cod.seq ?_
        refine Cod.region [([], []), ([], []), ([], [8]), ([8], [8])] mixed (by kernel_rfl) ?_
        obtain ⟨hn9, h⟩ := need_some h
        refine Chain.consA (StepOK.indexAddr .none sl106 ty135 (.tmp rfl (fun _ => trivial)) (.tmp rfl (fun _ => trivial)) (fun _ => hn9)) rfl ?_
        obtain ⟨v1, hv10, h⟩ := bnd_some h
        refine Chain.consA (StepOK.re hv10 (StepOK.load .none ty135 (.tmp rfl (fun _ => trivial)))) rfl ?_
        refine Chain.consW (StepOK.alloc zo135 rfl) rfl rfl ?_
        refine Chain.consN (StepOK.store ty135 rfl rfl (.tmp rfl (fun _ => trivial))) rfl ?_
        refine Chain.nil ?_
        refine Ends.then ?_
        refine Cod.freeze (t := 8) rfl rfl (.cons (t := 5005) rfl (.cons (t := 5006) rfl SubB.nil)) rfl ?_
        refine Cod.region [([], []), ([], []), ([], []), ([], []), ([], []), ([], []), ([], []), ([5005], [5005, 44]), ([], []), ([], []), ([], []), ([], []), ([], []), ([], []), ([], []), ([5006], [5006, 52]), ([44], [2, 44]), ([52], [3, 52])] mixed (by kernel_rfl) ?_
        refine Chain.consA (StepOK.move .none (.tmp rfl (fun _ => trivial))) rfl ?_
        refine Chain.consA (StepOK.move .none (.tmp rfl (fun _ => trivial))) rfl ?_
        refine Chain.consA (StepOK.fieldAddr .none fd135_0 hfd135_0 (.tmp rfl (fun _ => trivial))) rfl ?_
        refine Chain.consA (StepOK.load .none ty3 (.tmp rfl (fun _ => trivial))) rfl ?_
        refine Chain.consA (StepOK.fieldAddr .none fd135_2 hfd135_2 (.tmp rfl (fun _ => trivial))) rfl ?_
        refine Chain.consA (StepOK.load .none ty3 (.tmp rfl (fun _ => trivial))) rfl ?_
        refine Chain.consA (StepOK.buildSlice (xs := [_, _]) .none sl42 ty3 hz3 (.cons (.tmp rfl (fun _ => trivial)) (.cons (.tmp rfl (fun _ => trivial)) .nil)) rfl (by decide)) rfl ?_
        obtain ⟨xs2, hv11, h⟩ := bind_some h
        refine Chain.consW (StepOK.callClo [5005] (Ss := [isV _, rep [v1.left, v1.right]]) (Cs := []) (.tmp rfl (fun _ => trivial)) (route_lines_1_ok hv11) (.cons (.tmp rfl (fun _ => trivial)) (.cons (.tmp rfl (fun _ => trivial)) .nil)) (.cons (k := 5005) rfl .nil) rfl (by decide) (by decide) (by intro d h; cases h; decide)) rfl rfl ?_
        refine Chain.consA (StepOK.move .none (.tmp rfl (fun _ => trivial))) rfl ?_
        refine Chain.consA (StepOK.move .none (.tmp rfl (fun _ => trivial))) rfl ?_
        refine Chain.consA (StepOK.fieldAddr .none fd135_1 hfd135_1 (.tmp rfl (fun _ => trivial))) rfl ?_
        refine Chain.consA (StepOK.load .none ty3 (.tmp rfl (fun _ => trivial))) rfl ?_
        refine Chain.consA (StepOK.fieldAddr .none fd135_3 hfd135_3 (.tmp rfl (fun _ => trivial))) rfl ?_
        refine Chain.consA (StepOK.load .none ty3 (.tmp rfl (fun _ => trivial))) rfl ?_
        refine Chain.consA (StepOK.buildSlice (xs := [_, _]) .none sl42 ty3 hz3 (.cons (.tmp rfl (fun _ => trivial)) (.cons (.tmp rfl (fun _ => trivial)) .nil)) rfl (by decide)) rfl ?_
        obtain ⟨ys2, hv12, h⟩ := bind_some h
        refine Chain.consW (StepOK.callClo [5006] (Ss := [isV _, rep [v1.top, v1.bottom]]) (Cs := []) (.tmp rfl (fun _ => trivial)) (route_lines_1_ok hv12) (.cons (.tmp rfl (fun _ => trivial)) (.cons (.tmp rfl (fun _ => trivial)) .nil)) (.cons (k := 5006) rfl .nil) rfl (by decide) (by decide) (by intro d h; cases h; decide)) rfl rfl ?_
        refine Chain.consW (StepOK.passRow rfl (.tmp rfl)) rfl rfl ?_
        refine Chain.consW (StepOK.passRow rfl (.tmp rfl)) rfl rfl ?_
        refine Chain.nil ?_
        refine Ends.blkNormal ?_
        exact Ends.join _ (some_eq h) (.cons (t := 6) rfl (.cons (t := 31) rfl (.cons (t := 32) rfl (.cons (t := 33) rfl Sub.nil)))) (.cons (t := 2) rfl (.cons (t := 3) rfl SubB.nil))
      · subst hj8; have h := hK8; clear hK8
        refine Cod.nameRow (t := 2) (g := 5007) rfl rfl rfl (fun s5007 => ?_)
        refine Cod.nameRow (t := 3) (g := 5008) rfl rfl rfl (fun s5008 => ?_)
        refine Cod.region [] mixed (by kernel_rfl) ?_
        refine Chain.cons (StepOK.addW .none (.tmp rfl (fun _ => trivial)) (.int (by decide))) rfl ?_
        refine Chain.cons (StepOK.move .none (.tmp rfl (fun _ => trivial))) rfl ?_
        refine Chain.nil ?_
        refine Ends.anon (t := 2) (g := 5007) rfl rfl trivial rfl ?_
        refine Ends.anon (t := 3) (g := 5008) rfl rfl trivial rfl ?_
        exact Ends.againL (some_eq h) (.cons (t := 33) rfl (.cons (t := 6) rfl (.cons (t := 31) rfl (.cons (t := 32) rfl Sub.nil)))) (.cons (t := 2) rfl (.cons (t := 3) rfl SubB.nil))
    · replace h := bif_f h hb7
      refine Cod.exit ?_
      refine Ends.thenExit ?_
      refine Ends.thenExit ?_
      refine Ends.blkExit ?_
      refine Ends.anon (t := 2) (g := 5005) rfl rfl trivial rfl ?_
      refine Ends.anon (t := 3) (g := 5006) rfl rfl trivial rfl ?_
      replace h := hD6 _ (some_eq h)
      exact Ends.join _ (some_eq h) Sub.nil (.cons (t := 2) rfl (.cons (t := 3) rfl SubB.nil))
  · subst hj5; have h := hK5; clear hK5
    refine Cod.nameRow (t := 2) (g := 5009) rfl rfl rfl (fun s5009 => ?_)
    refine Cod.nameRow (t := 3) (g := 5010) rfl rfl rfl (fun s5010 => ?_)
    refine Cod.seq ?_
    refine Cod.region [([], []), ([5009], [5009])] mixed (by kernel_rfl) ?_
    refine Chain.consA (StepOK.move .none (.tmp rfl (fun _ => trivial))) rfl ?_
    obtain ⟨r3, hv13, h⟩ := bind_some h
    refine Chain.consW (StepOK.callO [5009] (slices_Sort_int_ok hv13) (.cons (.tmp rfl (fun _ => trivial)) .nil) (.cons (k := 5009) rfl .nil) rfl (by decide) (by decide) (by intro d h; cases h; decide)) rfl rfl ?_
    refine Chain.nil ?_
    refine Ends.then ?_
    refine Cod.seq ?_
    refine Cod.region [([], []), ([5010], [5010])] mixed (by kernel_rfl) ?_
    refine Chain.consA (StepOK.move .none (.tmp rfl (fun _ => trivial))) rfl ?_
    obtain ⟨r4, hv14, h⟩ := bind_some h
    refine Chain.consW (StepOK.callO [5010] (slices_Sort_int_ok hv14) (.cons (.tmp rfl (fun _ => trivial)) .nil) (.cons (k := 5010) rfl .nil) rfl (by decide) (by decide) (by intro d h; cases h; decide)) rfl rfl ?_
    refine Chain.nil ?_
    refine Ends.then ?_
    refine Cod.seq ?_
    refine Cod.region [([], []), ([5009], [5009, 59]), ([], []), ([5010], [5010, 61]), ([59], [2, 59]), ([61], [3, 61])] mixed (by kernel_rfl) ?_
    refine Chain.consA (StepOK.move .none (.tmp rfl (fun _ => trivial))) rfl ?_
    obtain ⟨xs3, hv15, h⟩ := bind_some h
    refine Chain.consW (StepOK.callO [5009] (slices_Compact_int_ok hv15) (.cons (.tmp rfl (fun _ => trivial)) .nil) (.cons (k := 5009) rfl .nil) rfl (by decide) (by decide) (by intro d h; cases h; decide)) rfl rfl ?_
    refine Chain.consA (StepOK.move .none (.tmp rfl (fun _ => trivial))) rfl ?_
    obtain ⟨ys3, hv16, h⟩ := bind_some h
    refine Chain.consW (StepOK.callO [5010] (slices_Compact_int_ok hv16) (.cons (.tmp rfl (fun _ => trivial)) .nil) (.cons (k := 5010) rfl .nil) rfl (by decide) (by decide) (by intro d h; cases h; decide)) rfl rfl ?_
    refine Chain.consWD (StepOK.passRow rfl (.tmp rfl)) rfl rfl ?_
    refine Chain.consWD (StepOK.passRow rfl (.tmp rfl)) rfl rfl ?_
    refine Chain.nil ?_
    refine Ends.then ?_
    refine Cod.freezeRowA (t := 2) rfl rfl (.cons (t := 3) rfl SubB.nil) rfl ?_
    refine Cod.freezeRowA (t := 3) rfl rfl SubB.nil rfl ?_
    refine Cod.ret ?_
    obtain rfl := some_eq h
    exact Ends.ret2 (.inl rfl) Try.results103 (ResOK.tmp rfl trivial Imp.refl) (ResOK.tmp rfl trivial Imp.refl)

theorem cmp_isNaN_int_ok {x1 : Int} {r : Bool}  (h : cmp_isNaN_int x1 = some r) : FSpec Try.prog 99 [rep x1] (rep r) := by
  unfold cmp_isNaN_int at h
  refine FSpec.intro (n := 6) fnok99 Try.func99 rfl Try.ntmps99 rfl (fun F => ?_)
  refine Cod.seq ?_
  refine Cod.region [] mixed (by kernel_rfl) ?_
  refine Chain.cons (StepOK.assign .none .bool) rfl ?_
  refine Chain.nil ?_
  refine Ends.then ?_
  refine Cod.seq ?_
  refine Cod.region [] mixed (by kernel_rfl) ?_
  refine Chain.cons (StepOK.move .none (.tmp rfl (fun _ => trivial))) rfl ?_
  refine Chain.cons (StepOK.move .none (.tmp rfl (fun _ => trivial))) rfl ?_
  refine Chain.cons (StepOK.neI .none (.tmp rfl (fun _ => trivial)) (.tmp rfl (fun _ => trivial))) rfl ?_
  refine Chain.cons (StepOK.assign .none (.tmp rfl (fun _ => trivial))) rfl ?_
  refine Chain.nil ?_
  refine Ends.then ?_
  refine Cod.ret ?_
  obtain rfl := some_eq h
  exact Ends.ret1 (.inl rfl) Try.results99 (ResOK.tmp rfl trivial Imp.refl)

theorem cmp_Less_int_ok {x1 : Int} {y1 : Int} {r : Bool}  (h : cmp_Less_int x1 y1 = some r) : FSpec Try.prog 108 [rep x1, rep y1] (rep r) := by
  unfold cmp_Less_int at h
  refine FSpec.intro (n := 17) fnok108 Try.func108 rfl Try.ntmps108 rfl (fun F => ?_)
  refine Cod.seq ?_
  refine Cod.region [] mixed (by kernel_rfl) ?_
  refine Chain.cons (StepOK.assign .none .bool) rfl ?_
  refine Chain.nil ?_
  refine Ends.then ?_
  refine Cod.seq ?_
  refine Cod.region [] mixed (by kernel_rfl) ?_
  refine Chain.cons (StepOK.move .none (.tmp rfl (fun _ => trivial))) rfl ?_
  obtain ⟨r1, hv1, h⟩ := bind_some h
  refine Chain.cons (StepOK.call .none (cmp_isNaN_int_ok hv1) (.cons (.tmp rfl (fun _ => trivial)) .nil)) rfl ?_
  refine Chain.cons (StepOK.move .none (.tmp rfl (fun _ => trivial))) rfl ?_
  refine Chain.cons (StepOK.move (.at rfl rfl) (.tmp rfl (fun _ => trivial))) rfl ?_
  obtain ⟨r2, hv2, h⟩ := bind_some h
  refine Chain.cons (StepOK.callIf (.at rfl rfl) fnok99 (fun hg => cmp_isNaN_int_ok ((fun hg => gd_some hv2 (hg.2)) hg)) (.cons (.tmp rfl id) .nil) (fun h => h)) rfl ?_
  refine Chain.cons (StepOK.not (.at rfl rfl) (.tmp rfl id)) rfl ?_
  refine Chain.cons (StepOK.pickAnd .none (.tmp rfl (fun _ => trivial)) (.tmp rfl id)) rfl ?_
  refine Chain.cons (StepOK.move .none (.tmp rfl (fun _ => trivial))) rfl ?_
  refine Chain.cons (StepOK.move (.at rfl rfl) (.tmp rfl (fun _ => trivial))) rfl ?_
  refine Chain.cons (StepOK.move (.at rfl rfl) (.tmp rfl (fun _ => trivial))) rfl ?_
  refine Chain.cons (StepOK.lt (.at rfl rfl) (.tmp rfl id) (.tmp rfl id)) rfl ?_
  refine Chain.cons (StepOK.pickOr .none (.tmp rfl (fun _ => trivial)) (.tmp rfl id)) rfl ?_
  refine Chain.cons (StepOK.assign .none (.tmp rfl (fun _ => trivial))) rfl ?_
  refine Chain.nil ?_
  refine Ends.then ?_
  refine Cod.ret ?_
  obtain rfl := some_eq h
  exact Ends.ret1 (.inl rfl) Try.results108 (ResOK.tmp rfl trivial Imp.refl)

theorem slices_isNaN_int_ok {x1 : Int} {r : Bool}  (h : slices_isNaN_int x1 = some r) : FSpec Try.prog 109 [rep x1] (rep r) := by
  unfold slices_isNaN_int at h
  refine FSpec.intro (n := 6) fnok109 Try.func109 rfl Try.ntmps109 rfl (fun F => ?_)
  refine Cod.seq ?_
  refine Cod.region [] mixed (by kernel_rfl) ?_
  refine Chain.cons (StepOK.assign .none .bool) rfl ?_
  refine Chain.nil ?_
  refine Ends.then ?_
  refine Cod.seq ?_
  refine Cod.region [] mixed (by kernel_rfl) ?_
  refine Chain.cons (StepOK.move .none (.tmp rfl (fun _ => trivial))) rfl ?_
  refine Chain.cons (StepOK.move .none (.tmp rfl (fun _ => trivial))) rfl ?_
  refine Chain.cons (StepOK.neI .none (.tmp rfl (fun _ => trivial)) (.tmp rfl (fun _ => trivial))) rfl ?_
  refine Chain.cons (StepOK.assign .none (.tmp rfl (fun _ => trivial))) rfl ?_
  refine Chain.nil ?_
  refine Ends.then ?_
  refine Cod.ret ?_
  obtain rfl := some_eq h
  exact Ends.ret1 (.inl rfl) Try.results109 (ResOK.tmp rfl trivial Imp.refl)

theorem slices_BinarySearch_int_ok {x1 : (List Int)} {target1 : Int} {r : (Int × Bool)}  (h : slices_BinarySearch_int x1 target1 = some r) : FSpec Try.prog 78 [rep x1, rep target1] (tup [rep r.1, rep r.2]) := by
  unfold slices_BinarySearch_int at h
  refine FSpec.intro (n := 54) fnok78 Try.func78 rfl Try.ntmps78 rfl (fun F => ?_)
  refine Cod.seq ?_
  refine Cod.region [] mixed (by kernel_rfl) ?_
  refine Chain.cons (StepOK.assign .none (.int (by decide))) rfl ?_
  refine Chain.cons (StepOK.assign .none .bool) rfl ?_
  refine Chain.nil ?_
  refine Ends.then ?_
  refine Cod.seq ?_
  refine Cod.region [] mixed (by kernel_rfl) ?_
  refine Chain.cons (StepOK.move .none (.tmp rfl (fun _ => trivial))) rfl ?_
  refine Chain.cons (StepOK.len .none sl42 (.tmp rfl (fun _ => trivial))) rfl ?_
  obtain ⟨n1, hv1, h⟩ := bnd_some h
  refine Chain.cons (StepOK.re hv1 (StepOK.assign .none (.tmp rfl (fun _ => trivial)))) rfl ?_
  refine Chain.nil ?_
  refine Ends.then ?_
  refine Cod.seq ?_
  refine Cod.region [] mixed (by kernel_rfl) ?_
  refine Chain.cons (StepOK.move .none (.tmp rfl (fun _ => trivial))) rfl ?_
  refine Chain.cons (StepOK.assign .none (.int (by decide))) rfl ?_
  refine Chain.cons (StepOK.assign .none (.tmp rfl (fun _ => trivial))) rfl ?_
  refine Chain.nil ?_
  refine Ends.then ?_
  refine Cod.seq ?_
  obtain ⟨j_2, h, hK2⟩ := bind_some h
  refine Cod.thenJ (ι := Int) (fun j_2 => [(7, ⟨True, rep j_2⟩)]) (fun j_2 => []) (fun s => j_2 = s) (.cons (t := 0) rfl (.cons (t := 1) rfl (.cons (t := 6) rfl Sub.nil))) SubB.nil ?_ (fun j_2' hj2 => ?_)
  · skip
    refine Cod.block ?_
    refine Cod.loopL h (fun s3_ => [(7, ⟨True, rep s3_.1⟩), (8, ⟨True, rep s3_.2⟩)]) (fun s3_ => []) (.cons (t := 7) rfl (.cons (t := 8) rfl Sub.nil)) SubB.nil (.cons (t := 0) rfl (.cons (t := 1) rfl (.cons (t := 6) rfl Sub.nil))) SubB.nil (fun s3_ o_3 h hD3 => ?_)
    unfold slices_BinarySearch_int_L1 at h
    refine Cod.seq ?_
    refine Cod.seq ?_
    refine Cod.region [] mixed (by kernel_rfl) ?_
    refine Chain.cons (StepOK.move .none (.tmp rfl (fun _ => trivial))) rfl ?_
    refine Chain.cons (StepOK.move .none (.tmp rfl (fun _ => trivial))) rfl ?_
    refine Chain.cons (StepOK.lt .none (.tmp rfl (fun _ => trivial)) (.tmp rfl (fun _ => trivial))) rfl ?_
    refine Chain.nil ?_
    refine Ends.then ?_
    refine Cod.cond (t := 15) rfl trivial (fun hb4 => ?_) (fun hb4 => ?_)
    · replace h := bif_t h hb4
      refine Cod.skip ?_
      refine Ends.then ?_
      refine Cod.block ?_
      refine Cod.seq ?_
      refine Cod.region [] mixed (by kernel_rfl) ?_
      refine Chain.cons (StepOK.move .none (.tmp rfl (fun _ => trivial))) rfl ?_
      refine Chain.cons (StepOK.move .none (.tmp rfl (fun _ => trivial))) rfl ?_
      refine Chain.cons (StepOK.addW .none (.tmp rfl (fun _ => trivial)) (.tmp rfl (fun _ => trivial))) rfl ?_
      refine Chain.cons (StepOK.toK .none (by kernel_rfl) Try.underlying132 (.tmp rfl (fun _ => trivial))) rfl ?_
      refine Chain.cons (StepOK.kshr .none (.tmp rfl (fun _ => trivial)) .ki (fun _ => by decide)) rfl ?_
      refine Chain.cons (StepOK.toInt .none (by kernel_rfl) Try.underlying3 (.tmp rfl (fun _ => trivial))) rfl ?_
      obtain ⟨h1, hv5, h⟩ := bnd_some h
      refine Chain.cons (StepOK.re hv5 (StepOK.assign .none (.tmp rfl (fun _ => trivial)))) rfl ?_
      refine Chain.nil ?_
      refine Ends.then ?_
      refine Cod.seq ?_
      refine Cod.region [] mixed (by kernel_rfl) ?_
      refine Chain.cons (StepOK.move .none (.tmp rfl (fun _ => trivial))) rfl ?_
      refine Chain.cons (StepOK.move .none (.tmp rfl (fun _ => trivial))) rfl ?_
      obtain ⟨hn6, h⟩ := need_some h
      refine Chain.cons (StepOK.indexAddr .none sl42 ty3 (.tmp rfl (fun _ => trivial)) (.tmp rfl (fun _ => trivial)) (fun _ => hn6)) rfl ?_
      refine Chain.cons (StepOK.load .none ty3 (.tmp rfl (fun _ => trivial))) rfl ?_
      refine Chain.cons (StepOK.move .none (.tmp rfl (fun _ => trivial))) rfl ?_
      obtain ⟨r1, hv7, h⟩ := bind_some h
      refine Chain.cons (StepOK.call .none (cmp_Less_int_ok hv7) (.cons (.tmp rfl (fun _ => trivial)) (.cons (.tmp rfl (fun _ => trivial)) .nil))) rfl ?_
      refine Chain.nil ?_
      refine Ends.then ?_
      refine Cod.cond (t := 27) rfl trivial (fun hb8 => ?_) (fun hb8 => ?_)
      · replace h := bif_t h hb8
        refine Cod.region [] mixed (by kernel_rfl) ?_
        refine Chain.cons (StepOK.move .none (.tmp rfl (fun _ => trivial))) rfl ?_
        refine Chain.cons (StepOK.addW .none (.tmp rfl (fun _ => trivial)) (.int (by decide))) rfl ?_
        obtain ⟨i1, hv9, h⟩ := bnd_some h
        refine Chain.cons (StepOK.re hv9 (StepOK.assign .none (.tmp rfl (fun _ => trivial)))) rfl ?_
        refine Chain.nil ?_
        refine Ends.blkNormal ?_
        exact Ends.againL (some_eq h) (.cons (t := 7) rfl (.cons (t := 8) rfl (.cons (t := 0) rfl (.cons (t := 1) rfl (.cons (t := 6) rfl Sub.nil))))) SubB.nil
      · replace h := bif_f h hb8
        refine Cod.region [] mixed (by kernel_rfl) ?_
        refine Chain.cons (StepOK.move .none (.tmp rfl (fun _ => trivial))) rfl ?_
        refine Chain.cons (StepOK.assign .none (.tmp rfl (fun _ => trivial))) rfl ?_
        refine Chain.nil ?_
        refine Ends.blkNormal ?_
        exact Ends.againL (some_eq h) (.cons (t := 7) rfl (.cons (t := 8) rfl (.cons (t := 0) rfl (.cons (t := 1) rfl (.cons (t := 6) rfl Sub.nil))))) SubB.nil
    · replace h := bif_f h hb4
      refine Cod.exit ?_
      refine Ends.thenExit ?_
      refine Ends.thenExit ?_
      refine Ends.blkExit ?_
      replace h := hD3 _ (some_eq h)
      exact Ends.join _ (some_eq h) (.cons (t := 7) rfl (.cons (t := 0) rfl (.cons (t := 1) rfl (.cons (t := 6) rfl Sub.nil)))) SubB.nil
  · subst hj2; have h := hK2; clear hK2
    refine Cod.seq ?_
    refine Cod.region [] mixed (by kernel_rfl) ?_
    refine Chain.cons (StepOK.move .none (.tmp rfl (fun _ => trivial))) rfl ?_
    refine Chain.cons (StepOK.move .none (.tmp rfl (fun _ => trivial))) rfl ?_
    refine Chain.cons (StepOK.move .none (.tmp rfl (fun _ => trivial))) rfl ?_
    refine Chain.cons (StepOK.lt .none (.tmp rfl (fun _ => trivial)) (.tmp rfl (fun _ => trivial))) rfl ?_
    refine Chain.cons (StepOK.move .none (.tmp rfl (fun _ => trivial))) rfl ?_
    refine Chain.cons (StepOK.move (.at rfl rfl) (.tmp rfl (fun _ => trivial))) rfl ?_
    refine Chain.cons (StepOK.move (.at rfl rfl) (.tmp rfl (fun _ => trivial))) rfl ?_
    obtain ⟨hn10, h⟩ := need_some h
    refine Chain.cons (StepOK.indexAddr (.at rfl rfl) sl42 ty3 (.tmp rfl id) (.tmp rfl id) (fun hg => hn10 hg.2)) rfl ?_
    refine Chain.cons (StepOK.load (.at rfl rfl) ty3 (.tmp rfl id)) rfl ?_
    refine Chain.cons (StepOK.move (.at rfl rfl) (.tmp rfl (fun _ => trivial))) rfl ?_
    refine Chain.cons (StepOK.eqI (.at rfl rfl) (.tmp rfl id) (.tmp rfl id)) rfl ?_
    refine Chain.cons (StepOK.move (.at rfl rfl) (.tmp rfl id)) rfl ?_
    refine Chain.cons (StepOK.move (.at rfl rfl) (.tmp rfl (fun _ => trivial))) rfl ?_
    refine Chain.cons (StepOK.move (.at rfl rfl) (.tmp rfl (fun _ => trivial))) rfl ?_
    obtain ⟨hn11, h⟩ := need_some h
    refine Chain.cons (StepOK.indexAddr (.at rfl rfl) sl42 ty3 (.tmp rfl id) (.tmp rfl id) (fun hg => hn11 hg.1.2 hg.2)) rfl ?_
    refine Chain.cons (StepOK.load (.at rfl rfl) ty3 (.tmp rfl id)) rfl ?_
    obtain ⟨r2, hv12, h⟩ := bind_some h
    refine Chain.cons (StepOK.callIf (.at rfl rfl) fnok109 (fun hg => slices_isNaN_int_ok ((fun hg => gd_some hv12 ((andT hg.1.2 (notT hg.2)))) hg)) (.cons (.tmp rfl id) .nil) (fun h => h)) rfl ?_
    refine Chain.cons (StepOK.move (.at rfl rfl) (.tmp rfl id)) rfl ?_
    refine Chain.cons (StepOK.move (.at rfl rfl) (.tmp rfl (fun _ => trivial))) rfl ?_
    obtain ⟨r3, hv13, h⟩ := bind_some h
    refine Chain.cons (StepOK.callIf (.at rfl rfl) fnok109 (fun hg => slices_isNaN_int_ok ((fun hg => gd_some hv13 ((andT (andT hg.1.1.2 (notT hg.1.2)) hg.2))) hg)) (.cons (.tmp rfl id) .nil) (fun h => h)) rfl ?_
    refine Chain.cons (StepOK.pickAnd (.at rfl rfl) (.tmp rfl id) (.tmp rfl id)) rfl ?_
    refine Chain.cons (StepOK.pickOr (.at rfl rfl) (.tmp rfl id) (.tmp rfl id)) rfl ?_
    refine Chain.cons (StepOK.pickAnd .none (.tmp rfl (fun _ => trivial)) (.tmp rfl id)) rfl ?_
    refine Chain.cons (StepOK.assign .none (.tmp rfl (fun _ => trivial))) rfl ?_
    refine Chain.cons (StepOK.assign .none (.tmp rfl (fun _ => trivial))) rfl ?_
    refine Chain.nil ?_
    refine Ends.then ?_
    refine Cod.ret ?_
    obtain rfl := some_eq h
    exact Ends.ret2 (.inl rfl) Try.results78 (ResOK.tmp rfl trivial Imp.refl) (ResOK.tmp rfl trivial Imp.refl)


end Go.Proofs.Ytegjicmejjfgfaa
