/-
  The walks: what a function computes is what its plain function says (printed by a program of one's own).
-/
import Derived.Test.YtbahnfkccdlpnaaRanFa
set_option maxRecDepth 100000
set_option linter.unusedSimpArgs false
set_option linter.unusedVariables false
namespace Go.Proofs.Ytbahnfkccdlpnaa
open Go Go.DB Go.RowKit

theorem slices_Sort_int_ok {l : List Int} {r : List Int} {s : Value} (h : slices_Sort_int l = some r) : FSpecO Try.prog 67 [isV s] [(s, rowV 3 l)] (anyV) [some (rowV 3 r)] := by
  obtain ⟨hl, h⟩ := need_some h
  obtain rfl := some_eq h
  exact sortI_spec sortI_lay rfl fnok67 hl

theorem ref_In_ok {n1 : Int} {low1 : Int} {high1 : Int} {r : Bool}  (h : ref_In n1 low1 high1 = some r) : FSpec Try.prog 28 [rep n1, rep low1, rep high1] (rep r) := by
  unfold ref_In at h
  refine FSpec.intro (n := 15) fnok28 Try.func28 rfl Try.ntmps28 rfl (fun F => ?_)
  refine .seq ?_
  refine .region [] mixed (by kernel_rfl) ?_
  refine .cons (.assign .none .bool) rfl ?_
  refine .nil ?_
  refine .then ?_
  refine .seq ?_
  refine .region [] mixed (by kernel_rfl) ?_
  refine .cons (.move .none (.s rfl)) rfl ?_
  refine .cons (.move .none (.s rfl)) rfl ?_
  refine .cons (.ge .none (.s rfl) (.s rfl)) rfl ?_
  refine .cons (.move .none (.s rfl)) rfl ?_
  refine .cons (.move (.at rfl rfl) (.s rfl)) rfl ?_
  refine .cons (.move (.at rfl rfl) (.s rfl)) rfl ?_
  refine .cons (.le (.at rfl rfl) (.tmp rfl id) (.tmp rfl id)) rfl ?_
  refine .cons (.pickAnd .none (.s rfl) (.tmp rfl id)) rfl ?_
  refine .cons (.assign .none (.s rfl)) rfl ?_
  refine .nil ?_
  refine .then ?_
  refine .ret ?_
  obtain rfl := some_eq h
  exact Ends.ret1 (.inl rfl) Try.results28 (ResOK.tmp rfl trivial Imp.refl)

theorem ref_When_ok {is1 : Bool} {e1 : Int} {r : Int}  (h : ref_When is1 e1 = some r) : FSpec Try.prog 45 [rep is1, rep e1] (rep r) := by
  unfold ref_When at h
  refine FSpec.intro (n := 7) fnok45 Try.func45 rfl Try.ntmps45 rfl (fun F => ?_)
  refine .seq ?_
  refine .region [] mixed (by kernel_rfl) ?_
  refine .cons (.assign .none (.int (by decide))) rfl ?_
  refine .nil ?_
  refine .then ?_
  refine .seq ?_
  refine .seq ?_
  refine .region [] mixed (by kernel_rfl) ?_
  refine .cons (.move .none (.s rfl)) rfl ?_
  refine .nil ?_
  refine .then ?_
  refine .cond (t := 5) rfl trivial (fun hb1 => ?_) (fun hb1 => ?_)
  · replace h := bif_t h hb1
    refine .seq ?_
    refine .region [] mixed (by kernel_rfl) ?_
    refine .cons (.move .none (.s rfl)) rfl ?_
    refine .cons (.assign .none (.s rfl)) rfl ?_
    refine .nil ?_
    refine .then ?_
    refine .ret ?_
    refine .thenRet ?_
    obtain rfl := some_eq h
    exact Ends.ret1 (.inl rfl) Try.results45 (ResOK.tmp rfl trivial Imp.refl)
  · replace h := bif_f h hb1
    refine .skip ?_
    refine .then ?_
    refine .seq ?_
    refine .region [] mixed (by kernel_rfl) ?_
    refine .cons (.assign .none (.int (by decide))) rfl ?_
    refine .nil ?_
    refine .then ?_
    refine .ret ?_
    obtain rfl := some_eq h
    exact Ends.ret1 (.inl rfl) Try.results45 (ResOK.tmp rfl trivial Imp.refl)

theorem ref_First_ok {l1 : (List Int)} {r : Int}  (h : ref_First l1 = some r) : FSpec Try.prog 44 [rep l1] (rep r) := by
  unfold ref_First at h
  refine FSpec.intro (n := 15) fnok44 Try.func44 rfl Try.ntmps44 rfl (fun F => ?_)
  refine .seq ?_
  refine .region [] mixed (by kernel_rfl) ?_
  refine .cons (.assign .none (.int (by decide))) rfl ?_
  refine .nil ?_
  refine .then ?_
  refine .seq ?_
  refine .seq ?_
  refine .region [] mixed (by kernel_rfl) ?_
  refine .cons (.move .none (.s rfl)) rfl ?_
  refine .cons (.len .none sl109 (.s rfl)) rfl ?_
  refine .cons (.move .none (.int (by decide))) rfl ?_
  refine .nil ?_
  refine .then ?_
  obtain ⟨o_1, h, hK1⟩ := bindR_some h
  refine .thenJ (ι := Unit) (fun j_1 => []) (fun j_1 => []) (fun s => o_1 = Res.nx s) Sub.nil SubB.nil ?_ (fun j_1 hj1 => ?_)
  · skip
    refine .block ?_
    refine .rforEL h (fun p2_ => [(7, ⟨True, rep p2_.1⟩)]) (fun p2_ => []) (.cons (t := 7) rfl Sub.nil) SubB.nil (.cons (t := 5) rfl (.cons (t := 6) rfl Sub.nil)) SubB.nil (fun p2_ o_2 h hD2 => ?_)
    refine .seq ?_
    refine .region [] mixed (by kernel_rfl) ?_
    refine .cons (.lt .none (.s rfl) (.s rfl)) rfl ?_
    refine .nil ?_
    refine .then ?_
    refine .seq ?_
    refine .cond (t := 8) rfl trivial (fun hb3 => ?_) (fun hb3 => ?_)
    · replace h := bif_t h hb3
      refine .skip ?_
      refine .then ?_
      refine .seq ?_
      obtain ⟨o_4, h, hK4⟩ := bindD_some h
      unfold ref_First_L1 at h
      refine .thenJ (ι := Unit) (fun j_4 => []) (fun j_4 => []) (fun s => o_4 = Res.nx s) (.cons (t := 5) rfl (.cons (t := 6) rfl (.cons (t := 7) rfl Sub.nil))) SubB.nil ?_ (fun j_4 hj4 => ?_)
      · skip
        refine .block ?_
        refine .seq ?_
        refine .region [] mixed (by kernel_rfl) ?_
        obtain ⟨hn5, h⟩ := need_some h
        refine .cons (.indexAddr .none sl109 ty24 (.s rfl) (.s rfl) (fun _ => hn5)) rfl ?_
        refine .cons (.load .none ty24 (.s rfl)) rfl ?_
        obtain ⟨e1, hv6, h⟩ := bnd_some h
        refine .cons (.re hv6 (.assign .none (.s rfl))) rfl ?_
        refine .nil ?_
        refine .then ?_
        refine .seq ?_
        refine .region [] mixed (by kernel_rfl) ?_
        refine .cons (.move .none (.s rfl)) rfl ?_
        refine .cons (.neI .none (.s rfl) (.int (by decide))) rfl ?_
        refine .nil ?_
        refine .then ?_
        refine .cond (t := 12) rfl trivial (fun hb7 => ?_) (fun hb7 => ?_)
        · replace h := bif_t h hb7
          refine .seq ?_
          refine .region [] mixed (by kernel_rfl) ?_
          refine .cons (.move .none (.s rfl)) rfl ?_
          refine .cons (.assign .none (.s rfl)) rfl ?_
          refine .nil ?_
          refine .then ?_
          refine .ret ?_
          refine .blkRet ?_
          refine .thenRet ?_
          refine .thenRet ?_
          refine .blkRet ?_
          refine .thenRet ?_
          replace h := resd_ab hK4 (some_eq h)
          replace h := hD2 _ (some_eq h)
          replace h := resb_ab hK1 (some_eq h)
          obtain rfl := some_eq h
          exact Ends.ret1 (.inl rfl) Try.results44 (ResOK.tmp rfl trivial Imp.refl)
        · replace h := bif_f h hb7
          refine .skip ?_
          refine .blkNormal ?_
          exact Ends.join _ (some_eq h) (.cons (t := 5) rfl (.cons (t := 6) rfl (.cons (t := 7) rfl Sub.nil))) SubB.nil
      · have h := resd_nx hK4 hj4
        refine .region [] mixed (by kernel_rfl) ?_
        refine .cons (.addW .none (.s rfl) (.int (by decide))) rfl ?_
        refine .cons (.move .none (.s rfl)) rfl ?_
        refine .nil ?_
        exact Ends.againL (some_eq h) (.cons (t := 7) rfl (.cons (t := 5) rfl (.cons (t := 6) rfl Sub.nil))) SubB.nil
    · replace h := bif_f h hb3
      refine .exit ?_
      refine .thenExit ?_
      refine .thenExit ?_
      refine .blkExit ?_
      replace h := hD2 _ (some_eq h)
      exact Ends.join _ (some_eq h) Sub.nil SubB.nil
  · have h := resb_nx hK1 hj1
    refine .seq ?_
    refine .region [] mixed (by kernel_rfl) ?_
    refine .cons (.assign .none (.int (by decide))) rfl ?_
    refine .nil ?_
    refine .then ?_
    refine .ret ?_
    obtain rfl := some_eq h
    exact Ends.ret1 (.inl rfl) Try.results44 (ResOK.tmp rfl trivial Imp.refl)

theorem ref_GraphError_ok {n1 : Int} {l1 : (List Link)} {r : Int}  (h : ref_GraphError n1 l1 = some r) : FSpec Try.prog 17 [rep n1, rep l1] (rep r) := by
  unfold ref_GraphError at h
  refine FSpec.intro (n := 55) fnok17 Try.func17 rfl Try.ntmps17 rfl (fun F => ?_)
  refine .seq ?_
  refine .region [] mixed (by kernel_rfl) ?_
  refine .cons (.assign .none (.int (by decide))) rfl ?_
  refine .nil ?_
  refine .then ?_
  refine .seq ?_
  refine .seq ?_
  refine .region [] mixed (by kernel_rfl) ?_
  refine .cons (.move .none (.s rfl)) rfl ?_
  obtain ⟨r1, hv1, h⟩ := bind_some h
  refine .cons (.call .none (ref_In_ok hv1) (.cons (.s rfl) (.cons (.int (by decide)) (.cons (.int (by decide)) .nil)))) rfl ?_
  refine .cons (.not .none (.s rfl)) rfl ?_
  obtain ⟨r2, hv2, h⟩ := bind_some h
  refine .cons (.call .none (ref_When_ok hv2) (.cons (.s rfl) (.cons (.int (by decide)) .nil))) rfl ?_
  refine .cons (.move .none (.s rfl)) rfl ?_
  refine .cons (.len .none sl23 (.s rfl)) rfl ?_
  refine .cons (.gt .none (.s rfl) (.int (by decide))) rfl ?_
  obtain ⟨r3, hv3, h⟩ := bind_some h
  refine .cons (.call .none (ref_When_ok hv3) (.cons (.s rfl) (.cons (.int (by decide)) .nil))) rfl ?_
  refine .cons (.buildSlice (xs := [_, _]) .none sl109 ty24 hz24 (.cons (.s rfl) (.cons (.s rfl) .nil)) rfl (by decide)) rfl ?_
  obtain ⟨e1, hv4, h⟩ := bind_some h
  refine .cons (.call .none (ref_First_ok hv4) (.cons (.s rfl) .nil)) rfl ?_
  refine .cons (.assign .none (.s rfl)) rfl ?_
  refine .nil ?_
  refine .then ?_
  refine .seq ?_
  refine .region [] mixed (by kernel_rfl) ?_
  refine .cons (.move .none (.s rfl)) rfl ?_
  refine .cons (.neI .none (.s rfl) (.int (by decide))) rfl ?_
  refine .nil ?_
  refine .then ?_
  refine .cond (t := 20) rfl trivial (fun hb5 => ?_) (fun hb5 => ?_)
  · replace h := bif_t h hb5
    refine .seq ?_
    refine .region [] mixed (by kernel_rfl) ?_
    refine .cons (.move .none (.s rfl)) rfl ?_
    refine .cons (.assign .none (.s rfl)) rfl ?_
    refine .nil ?_
    refine .then ?_
    refine .ret ?_
    refine .thenRet ?_
    obtain rfl := some_eq h
    exact Ends.ret1 (.inl rfl) Try.results17 (ResOK.tmp rfl trivial Imp.refl)
  · replace h := bif_f h hb5
    refine .skip ?_
    refine .then ?_
    refine .seq ?_
    refine .seq ?_
    refine .region [] mixed (by kernel_rfl) ?_
    refine .cons (.move .none (.s rfl)) rfl ?_
    refine .cons (.len .none sl23 (.s rfl)) rfl ?_
    refine .cons (.move .none (.int (by decide))) rfl ?_
    refine .nil ?_
    refine .then ?_
    obtain ⟨o_6, h, hK6⟩ := bindR_some h
    refine .thenJ (ι := Unit) (fun j_6 => []) (fun j_6 => []) (fun s => o_6 = Res.nx s) Sub.nil SubB.nil ?_ (fun j_6 hj6 => ?_)
    · skip
      refine .block ?_
      refine .rforEL h (fun p7_ => [(24, ⟨True, rep p7_.1⟩)]) (fun p7_ => []) (.cons (t := 24) rfl Sub.nil) SubB.nil (.cons (t := 0) rfl (.cons (t := 22) rfl (.cons (t := 23) rfl Sub.nil))) SubB.nil (fun p7_ o_7 h hD7 => ?_)
      refine .seq ?_
      refine .region [] mixed (by kernel_rfl) ?_
      refine .cons (.lt .none (.s rfl) (.s rfl)) rfl ?_
      refine .nil ?_
      refine .then ?_
      refine .seq ?_
      refine .cond (t := 25) rfl trivial (fun hb8 => ?_) (fun hb8 => ?_)
      · replace h := bif_t h hb8
        refine .skip ?_
        refine .then ?_
        refine .seq ?_
        obtain ⟨o_9, h, hK9⟩ := bindD_some h
        unfold ref_GraphError_L1 at h
        refine .thenJ (ι := Unit) (fun j_9 => []) (fun j_9 => []) (fun s => o_9 = Res.nx s) (.cons (t := 0) rfl (.cons (t := 22) rfl (.cons (t := 23) rfl (.cons (t := 24) rfl Sub.nil)))) SubB.nil ?_ (fun j_9 hj9 => ?_)
        · skip
          refine .block ?_
          refine .seq ?_
          refine .region [([], []), ([], []), ([], [7]), ([7], [7])] mixed (by kernel_rfl) ?_
          obtain ⟨hn10, h⟩ := need_some h
          refine .consA (.indexAddr .none sl23 ty79 (.s rfl) (.s rfl) (fun _ => hn10)) rfl ?_
          obtain ⟨v1, hv11, h⟩ := bnd_some h
          refine .consA (.re hv11 (.load .none ty79 (.s rfl))) rfl ?_
          refine .consW (.alloc zo79 rfl) rfl rfl ?_
          refine .consN (.store ty79 rfl rfl (.s rfl)) rfl ?_
          refine .nil ?_
          refine .then ?_
          refine .freeze (t := 7) rfl rfl SubB.nil rfl ?_
          refine .seq ?_
          refine .region [] mixed (by kernel_rfl) ?_
          refine .cons (.fieldAddr .none fd79_0 hfd79_0 (.s rfl)) rfl ?_
          refine .cons (.load .none ty3 (.s rfl)) rfl ?_
          refine .cons (.move .none (.s rfl)) rfl ?_
          refine .cons (.subW .none (.s rfl) (.int (by decide))) rfl ?_
          obtain ⟨r4, hv12, h⟩ := bind_some h
          refine .cons (.call .none (ref_In_ok hv12) (.cons (.s rfl) (.cons (.int (by decide)) (.cons (.s rfl) .nil)))) rfl ?_
          refine .cons (.not .none (.s rfl)) rfl ?_
          refine .cons (.move .none (.s rfl)) rfl ?_
          refine .cons (.fieldAddr (.at rfl rfl) fd79_1 hfd79_1 (.s rfl)) rfl ?_
          refine .cons (.load (.at rfl rfl) ty3 (.tmp rfl id)) rfl ?_
          refine .cons (.move (.at rfl rfl) (.s rfl)) rfl ?_
          refine .cons (.subW (.at rfl rfl) (.tmp rfl id) (.int (by decide))) rfl ?_
          obtain ⟨r5, hv13, h⟩ := bind_some h
          refine .cons (.callIf (.at rfl rfl) fnok28 (fun hg => ref_In_ok ((fun hg => gd_some hv13 ((notT hg.2))) hg)) (.cons (.tmp rfl id) (.cons (.int (by decide)) (.cons (.tmp rfl id) .nil))) (fun h => h)) rfl ?_
          refine .cons (.not (.at rfl rfl) (.tmp rfl id)) rfl ?_
          refine .cons (.pickOr .none (.s rfl) (.tmp rfl id)) rfl ?_
          obtain ⟨r6, hv14, h⟩ := bind_some h
          refine .cons (.call .none (ref_When_ok hv14) (.cons (.s rfl) (.cons (.int (by decide)) .nil))) rfl ?_
          refine .cons (.fieldAddr .none fd79_0 hfd79_0 (.s rfl)) rfl ?_
          refine .cons (.load .none ty3 (.s rfl)) rfl ?_
          refine .cons (.fieldAddr .none fd79_1 hfd79_1 (.s rfl)) rfl ?_
          refine .cons (.load .none ty3 (.s rfl)) rfl ?_
          refine .cons (.eqI .none (.s rfl) (.s rfl)) rfl ?_
          obtain ⟨r7, hv15, h⟩ := bind_some h
          refine .cons (.call .none (ref_When_ok hv15) (.cons (.s rfl) (.cons (.int (by decide)) .nil))) rfl ?_
          refine .cons (.buildSlice (xs := [_, _]) .none sl109 ty24 hz24 (.cons (.s rfl) (.cons (.s rfl) .nil)) rfl (by decide)) rfl ?_
          obtain ⟨e2, hv16, h⟩ := bind_some h
          refine .cons (.call .none (ref_First_ok hv16) (.cons (.s rfl) .nil)) rfl ?_
          refine .cons (.assign .none (.s rfl)) rfl ?_
          refine .nil ?_
          refine .then ?_
          refine .seq ?_
          refine .region [] mixed (by kernel_rfl) ?_
          refine .cons (.move .none (.s rfl)) rfl ?_
          refine .cons (.neI .none (.s rfl) (.int (by decide))) rfl ?_
          refine .nil ?_
          refine .then ?_
          refine .cond (t := 52) rfl trivial (fun hb17 => ?_) (fun hb17 => ?_)
          · replace h := bif_t h hb17
            refine .seq ?_
            refine .region [] mixed (by kernel_rfl) ?_
            refine .cons (.move .none (.s rfl)) rfl ?_
            refine .cons (.assign .none (.s rfl)) rfl ?_
            refine .nil ?_
            refine .then ?_
            refine .ret ?_
            refine .blkRet ?_
            refine .thenRet ?_
            refine .thenRet ?_
            refine .blkRet ?_
            refine .thenRet ?_
            replace h := resd_ab hK9 (some_eq h)
            replace h := hD7 _ (some_eq h)
            replace h := resb_ab hK6 (some_eq h)
            obtain rfl := some_eq h
            exact Ends.ret1 (.inl rfl) Try.results17 (ResOK.tmp rfl trivial Imp.refl)
          · replace h := bif_f h hb17
            refine .skip ?_
            refine .blkNormal ?_
            exact Ends.join _ (some_eq h) (.cons (t := 0) rfl (.cons (t := 22) rfl (.cons (t := 23) rfl (.cons (t := 24) rfl Sub.nil)))) SubB.nil
        · have h := resd_nx hK9 hj9
          refine .region [] mixed (by kernel_rfl) ?_
          refine .cons (.addW .none (.s rfl) (.int (by decide))) rfl ?_
          refine .cons (.move .none (.s rfl)) rfl ?_
          refine .nil ?_
          exact Ends.againL (some_eq h) (.cons (t := 24) rfl (.cons (t := 0) rfl (.cons (t := 22) rfl (.cons (t := 23) rfl Sub.nil)))) SubB.nil
      · replace h := bif_f h hb8
        refine .exit ?_
        refine .thenExit ?_
        refine .thenExit ?_
        refine .blkExit ?_
        replace h := hD7 _ (some_eq h)
        exact Ends.join _ (some_eq h) Sub.nil SubB.nil
    · have h := resb_nx hK6 hj6
      refine .seq ?_
      refine .region [] mixed (by kernel_rfl) ?_
      refine .cons (.assign .none (.int (by decide))) rfl ?_
      refine .nil ?_
      refine .then ?_
      refine .ret ?_
      obtain rfl := some_eq h
      exact Ends.ret1 (.inl rfl) Try.results17 (ResOK.tmp rfl trivial Imp.refl)

theorem ref_TurnedOf_1_okS {self : (Int × (List Int) × (List Link) × (List Int)) → Option ((List Int) × (List Int))} (hself : ∀ {m43 : Nat} {s44 : Value} {m45 : Nat} {m46 : Nat} {s47 : Value} (x : (Int × (List Int) × (List Link) × (List Int))) (r : ((List Int) × (List Int))), self x = some r → FSpecO Try.prog 66 [rep x.1, isV (ptr m43 0), ref x.2.2.1, isV (ptr m45 0), isV (ptr m46 0)] [(ptr m43 0, cont 32 (⟨s44⟩ : Raw)), (s44, rowV 3 x.2.1), (ptr m45 0, contS 100 (cloV 66 [isV (ptr m43 0), ref x.2.2.1, isV (ptr m45 0), isV (ptr m46 0)])), (ptr m46 0, cont 32 (⟨s47⟩ : Raw)), (s47, rowV 3 x.2.2.2)] (anyV) [some (deep (fun z0 => cont 32 (⟨z0⟩ : Raw)) (rowV 3 r.1)), none, some (contS 100 (cloV 66 [isV (ptr m43 0), ref x.2.2.1, isV (ptr m45 0), isV (ptr m46 0)])), some (deep (fun z0 => cont 32 (⟨z0⟩ : Raw)) (rowV 3 r.2)), none]) {m43 : Nat} {s44 : Value} {m45 : Nat} {m46 : Nat} {s47 : Value} {x : (Int × (List Int) × (List Link) × (List Int))} {r : ((List Int) × (List Int))} (h : ref_TurnedOf_1_body self x = some r) : FSpecO Try.prog 66 [rep x.1, isV (ptr m43 0), ref x.2.2.1, isV (ptr m45 0), isV (ptr m46 0)] [(ptr m43 0, cont 32 (⟨s44⟩ : Raw)), (s44, rowV 3 x.2.1), (ptr m45 0, contS 100 (cloV 66 [isV (ptr m43 0), ref x.2.2.1, isV (ptr m45 0), isV (ptr m46 0)])), (ptr m46 0, cont 32 (⟨s47⟩ : Raw)), (s47, rowV 3 x.2.2.2)] (anyV) [some (deep (fun z0 => cont 32 (⟨z0⟩ : Raw)) (rowV 3 r.1)), none, some (contS 100 (cloV 66 [isV (ptr m43 0), ref x.2.2.1, isV (ptr m45 0), isV (ptr m46 0)])), some (deep (fun z0 => cont 32 (⟨z0⟩ : Raw)) (rowV 3 r.2)), none] := by
  unfold ref_TurnedOf_1_body at h
  refine FSpecO.intro (n := 43) fnok66 Try.func66 rfl Try.ntmps66 rfl (fun F => ?_)
  refine .seq ?_
  refine .region [([43], []), ([], []), ([44], []), ([44], [44])] mixed (by kernel_rfl) ?_
  refine .consA (.loadAt0 (k := 43) .none tr32 rfl (.s rfl)) rfl ?_
  refine .consA (.move .none (.s rfl)) rfl ?_
  obtain ⟨hn1, h⟩ := need_some h
  refine .consA (.indexAddrO (k := 44) .none sl32 ty3 (.s rfl) rfl (.s rfl) (fun _ => hn1)) rfl ?_
  refine .consN (.storeElem0 (k := 44) ty3 (.s rfl) rfl (.int (by decide)) hn1) rfl ?_
  refine .nil ?_
  refine .then ?_
  obtain ⟨c1, hv2, h⟩ := bnd_some h
  refine .reB (t := 44) rfl (congrArg (fun y => CPred.at s44 (rowV 3 y)) hv2) ?_
  refine .seq ?_
  refine .seq ?_
  refine .region [] mixed (by kernel_rfl) ?_
  refine .cons (.load .none ty23 (.s rfl)) rfl ?_
  refine .cons (.len .none sl23 (.s rfl)) rfl ?_
  refine .cons (.move .none (.int (by decide))) rfl ?_
  refine .nil ?_
  refine .then ?_
  obtain ⟨j_3, h, hK3⟩ := bind_some h
  refine .thenJ (ι := ((List Int) × (List Int))) (fun j_3 => []) (fun j_3 => [(43, some (CPred.at (ptr m43 0) (deep (fun z0 => cont 32 (⟨z0⟩ : Raw)) (rowV 3 j_3.1)))), (46, some (CPred.at (ptr m46 0) (deep (fun z0 => cont 32 (⟨z0⟩ : Raw)) (rowV 3 j_3.2))))]) (fun s => j_3 = s) (.cons (t := 0) rfl (.cons (t := 1) rfl (.cons (t := 3) rfl (.cons (t := 4) rfl Sub.nil)))) (.cons (t := 45) rfl SubB.nil) ?_ (fun j_3' hj3 => ?_)
  · skip
    refine .block ?_
    refine .close (k := 43) (g := 44) (fun z => cont 32 (⟨z⟩ : Raw)) rfl rfl rfl ?_
    refine .close (k := 46) (g := 47) (fun z => cont 32 (⟨z⟩ : Raw)) rfl rfl rfl ?_
    refine .rforL h (fun p4_ => [(13, ⟨True, rep p4_.1⟩)]) (fun p4_ => [(43, some (CPred.at (ptr m43 0) (deep (fun z0 => cont 32 (⟨z0⟩ : Raw)) (rowV 3 p4_.2.1)))), (46, some (CPred.at (ptr m46 0) (deep (fun z0 => cont 32 (⟨z0⟩ : Raw)) (rowV 3 p4_.2.2))))]) (.cons (t := 13) rfl Sub.nil) (.cons (t := 43) rfl (.cons (t := 46) rfl SubB.nil)) (.cons (t := 0) rfl (.cons (t := 1) rfl (.cons (t := 2) rfl (.cons (t := 3) rfl (.cons (t := 4) rfl (.cons (t := 11) rfl (.cons (t := 12) rfl Sub.nil))))))) (.cons (t := 45) rfl SubB.nil) (fun p4_ o_4 h hD4 => ?_)
    refine .open (k := 43) (g := 5001) rfl rfl (fun s5001 => ?_)
    refine .open (k := 46) (g := 5002) rfl rfl (fun s5002 => ?_)
    refine .seq ?_
    refine .region [] mixed (by kernel_rfl) ?_
    refine .cons (.lt .none (.s rfl) (.s rfl)) rfl ?_
    refine .nil ?_
    refine .then ?_
    refine .seq ?_
    refine .cond (t := 14) rfl trivial (fun hb5 => ?_) (fun hb5 => ?_)
    · replace h := bif_t h hb5
      refine .skip ?_
      refine .then ?_
      refine .seq ?_
      obtain ⟨j_6, h, hK6⟩ := bind_some h
      unfold ref_TurnedOf_1_L1 at h
      refine .thenJ (ι := ((List Int) × (List Int))) (fun j_6 => []) (fun j_6 => [(43, some (CPred.at (ptr m43 0) (deep (fun z0 => cont 32 (⟨z0⟩ : Raw)) (rowV 3 j_6.1)))), (46, some (CPred.at (ptr m46 0) (deep (fun z0 => cont 32 (⟨z0⟩ : Raw)) (rowV 3 j_6.2))))]) (fun s => j_6 = s) (.cons (t := 0) rfl (.cons (t := 1) rfl (.cons (t := 2) rfl (.cons (t := 3) rfl (.cons (t := 4) rfl (.cons (t := 11) rfl (.cons (t := 12) rfl (.cons (t := 13) rfl Sub.nil)))))))) (.cons (t := 45) rfl SubB.nil) ?_ (fun j_6' hj6 => ?_)
      · skip
        refine .block ?_
        refine .seq ?_
        refine .region [([], []), ([], []), ([], []), ([], [7]), ([], []), ([7], [7])] mixed (by kernel_rfl) ?_
        refine .consA (.move .none (.s rfl)) rfl ?_
        obtain ⟨hn7, h⟩ := need_some h
        refine .consA (.indexAddr .none sl23 ty79 (.s rfl) (.s rfl) (fun _ => hn7)) rfl ?_
        obtain ⟨v2, hv8, h⟩ := bnd_some h
        refine .consA (.re hv8 (.load .none ty79 (.s rfl))) rfl ?_
        refine .consW (.alloc zo79 rfl) rfl rfl ?_
        refine .consA (.assign .none (.s rfl)) rfl ?_
        refine .consN (.store ty79 rfl rfl (.s rfl)) rfl ?_
        refine .nil ?_
        refine .then ?_
        refine .freeze (t := 7) rfl rfl (.cons (t := 43) rfl (.cons (t := 45) rfl (.cons (t := 46) rfl (.cons (t := 5001) rfl (.cons (t := 5002) rfl SubB.nil))))) rfl ?_
        refine .seq ?_
        refine .seq ?_
        refine .region [] mixed (by kernel_rfl) ?_
        refine .cons (.fieldAddr .none fd79_0 hfd79_0 (.s rfl)) rfl ?_
        refine .cons (.load .none ty3 (.s rfl)) rfl ?_
        refine .cons (.move .none (.s rfl)) rfl ?_
        refine .cons (.neI .none (.s rfl) (.s rfl)) rfl ?_
        refine .nil ?_
        refine .then ?_
        refine .cond (t := 21) rfl trivial (fun hb9 => ?_) (fun hb9 => ?_)
        · replace h := bif_t h hb9
          refine .exit ?_
          refine .thenExit ?_
          refine .blkExit ?_
          refine .close (k := 43) (g := 5001) (fun z => cont 32 (⟨z⟩ : Raw)) rfl rfl rfl ?_
          refine .close (k := 46) (g := 5002) (fun z => cont 32 (⟨z⟩ : Raw)) rfl rfl rfl ?_
          exact Ends.join _ (some_eq h) (.cons (t := 0) rfl (.cons (t := 1) rfl (.cons (t := 2) rfl (.cons (t := 3) rfl (.cons (t := 4) rfl (.cons (t := 11) rfl (.cons (t := 12) rfl (.cons (t := 13) rfl Sub.nil)))))))) (.cons (t := 43) rfl (.cons (t := 46) rfl (.cons (t := 45) rfl SubB.nil)))
        · replace h := bif_f h hb9
          refine .skip ?_
          refine .then ?_
          refine .seq ?_
          refine .region [([43], []), ([], []), ([], []), ([5001], []), ([5001], [])] mixed (by kernel_rfl) ?_
          refine .consA (.loadAt0 (k := 43) .none tr32 rfl (.s rfl)) rfl ?_
          refine .consA (.fieldAddr .none fd79_1 hfd79_1 (.s rfl)) rfl ?_
          refine .consA (.load .none ty3 (.s rfl)) rfl ?_
          obtain ⟨hn10, h⟩ := need_some h
          refine .consA (.indexAddrO (k := 5001) .none sl32 ty3 (.s rfl) rfl (.s rfl) (fun _ => hn10)) rfl ?_
          obtain ⟨v3, hv11, h⟩ := bnd_some h
          refine .consA (.re hv11 (.loadElem0 (k := 5001) .none ty3 (.s rfl) rfl (fun _ => hn10))) rfl ?_
          refine .nil ?_
          refine .then ?_
          refine .block ?_
          refine .seq ?_
          refine .region [] mixed (by kernel_rfl) ?_
          refine .cons (.eqI .none (.s rfl) (.int (by decide))) rfl ?_
          refine .cons (.assign .none (.s rfl)) rfl ?_
          refine .nil ?_
          refine .then ?_
          refine .cond (t := 27) rfl trivial (fun hb12 => ?_) (fun hb12 => ?_)
          · replace h := bif_t h hb12
            refine .region [([45], []), ([], []), ([], []), ([43, 5001, 45, 46, 5002], [43, 5001, 45, 46, 5002])] mixed (by kernel_rfl) ?_
            refine .consA (.loadS (k := 45) .none tr100 rfl (.s rfl) cloV_one) rfl ?_
            refine .consA (.fieldAddr .none fd79_1 hfd79_1 (.s rfl)) rfl ?_
            refine .consA (.load .none ty3 (.s rfl)) rfl ?_
            obtain ⟨r1, hv13, h⟩ := bind_some h
            refine .consW (.callClo [43, 5001, 45, 46, 5002] (Ss := [rep v2.To]) (Cs := [isV (ptr m43 0), ref x.2.2.1, isV (ptr m45 0), isV (ptr m46 0)]) (.s rfl) (hself _ _ hv13) (.cons (.s rfl) .nil) (.cons (k := 43) rfl (.cons (k := 5001) rfl (.cons (k := 45) rfl (.cons (k := 46) rfl (.cons (k := 5002) rfl .nil))))) rfl (by decide) (by decide) (by intro d h; cases h; decide)) rfl rfl ?_
            refine .nil ?_
            refine .blkNormal ?_
            refine .blkNormal ?_
            exact Ends.join _ (some_eq h) (.cons (t := 0) rfl (.cons (t := 1) rfl (.cons (t := 2) rfl (.cons (t := 3) rfl (.cons (t := 4) rfl (.cons (t := 11) rfl (.cons (t := 12) rfl (.cons (t := 13) rfl Sub.nil)))))))) (.cons (t := 43) rfl (.cons (t := 46) rfl (.cons (t := 45) rfl SubB.nil)))
          · replace h := bif_f h hb12
            refine .seq ?_
            refine .region [] mixed (by kernel_rfl) ?_
            refine .cons (.eqI .none (.s rfl) (.int (by decide))) rfl ?_
            refine .cons (.assign .none (.s rfl)) rfl ?_
            refine .nil ?_
            refine .then ?_
            refine .cond (t := 33) rfl trivial (fun hb14 => ?_) (fun hb14 => ?_)
            · replace h := bif_t h hb14
              refine .region [([46], []), ([], []), ([], []), ([5002], [38, 5002]), ([46, 38], [46, 38])] mixed (by kernel_rfl) ?_
              refine .consA (.loadAt0 (k := 46) .none tr32 rfl (.s rfl)) rfl ?_
              refine .consA (.move .none (.s rfl)) rfl ?_
              refine .consA (.buildSlice (xs := [_]) .none sl32 ty3 hz3 (.cons (.s rfl) .nil) rfl (by decide)) rfl ?_
              obtain ⟨hn15, h⟩ := need_some h
              refine .consW (.append (k := 5002) rk32 rfl (.told (.s rfl) rfl) (.s rfl) hn15) rfl rfl ?_
              refine .consN (.storeRow (k := 46) (t := 38) (set := fun _ z => z) ty32 rfl (.s rfl) .self rfl rfl) rfl ?_
              refine .nil ?_
              refine .blkNormal ?_
              refine .blkNormal ?_
              refine .close (k := 43) (g := 5001) (fun z => cont 32 (⟨z⟩ : Raw)) rfl rfl rfl ?_
              exact Ends.join _ (some_eq h) (.cons (t := 0) rfl (.cons (t := 1) rfl (.cons (t := 2) rfl (.cons (t := 3) rfl (.cons (t := 4) rfl (.cons (t := 11) rfl (.cons (t := 12) rfl (.cons (t := 13) rfl Sub.nil)))))))) (.cons (t := 43) rfl (.cons (t := 46) rfl (.cons (t := 45) rfl SubB.nil)))
            · replace h := bif_f h hb14
              refine .skip ?_
              refine .blkNormal ?_
              refine .blkNormal ?_
              refine .close (k := 43) (g := 5001) (fun z => cont 32 (⟨z⟩ : Raw)) rfl rfl rfl ?_
              refine .close (k := 46) (g := 5002) (fun z => cont 32 (⟨z⟩ : Raw)) rfl rfl rfl ?_
              exact Ends.join _ (some_eq h) (.cons (t := 0) rfl (.cons (t := 1) rfl (.cons (t := 2) rfl (.cons (t := 3) rfl (.cons (t := 4) rfl (.cons (t := 11) rfl (.cons (t := 12) rfl (.cons (t := 13) rfl Sub.nil)))))))) (.cons (t := 43) rfl (.cons (t := 46) rfl (.cons (t := 45) rfl SubB.nil)))
      · subst hj6; have h := hK6; clear hK6
        refine .open (k := 43) (g := 5003) rfl rfl (fun s5003 => ?_)
        refine .open (k := 46) (g := 5004) rfl rfl (fun s5004 => ?_)
        refine .region [] mixed (by kernel_rfl) ?_
        refine .cons (.addW .none (.s rfl) (.int (by decide))) rfl ?_
        refine .cons (.move .none (.s rfl)) rfl ?_
        refine .nil ?_
        refine .close (k := 43) (g := 5003) (fun z => cont 32 (⟨z⟩ : Raw)) rfl rfl rfl ?_
        refine .close (k := 46) (g := 5004) (fun z => cont 32 (⟨z⟩ : Raw)) rfl rfl rfl ?_
        exact Ends.againL (some_eq h) (.cons (t := 13) rfl (.cons (t := 0) rfl (.cons (t := 1) rfl (.cons (t := 2) rfl (.cons (t := 3) rfl (.cons (t := 4) rfl (.cons (t := 11) rfl (.cons (t := 12) rfl Sub.nil)))))))) (.cons (t := 43) rfl (.cons (t := 46) rfl (.cons (t := 45) rfl SubB.nil)))
    · replace h := bif_f h hb5
      refine .exit ?_
      refine .thenExit ?_
      refine .thenExit ?_
      refine .blkExit ?_
      refine .close (k := 43) (g := 5001) (fun z => cont 32 (⟨z⟩ : Raw)) rfl rfl rfl ?_
      refine .close (k := 46) (g := 5002) (fun z => cont 32 (⟨z⟩ : Raw)) rfl rfl rfl ?_
      replace h := hD4 _ (some_eq h)
      exact Ends.join _ (some_eq h) (.cons (t := 0) rfl (.cons (t := 1) rfl (.cons (t := 3) rfl (.cons (t := 4) rfl Sub.nil)))) (.cons (t := 43) rfl (.cons (t := 46) rfl (.cons (t := 45) rfl SubB.nil)))
  · subst hj3; have h := hK3; clear hK3
    refine .open (k := 43) (g := 5005) rfl rfl (fun s5005 => ?_)
    refine .open (k := 46) (g := 5006) rfl rfl (fun s5006 => ?_)
    refine .region [([43], []), ([], []), ([5005], []), ([5005], [5005])] mixed (by kernel_rfl) ?_
    refine .consA (.loadAt0 (k := 43) .none tr32 rfl (.s rfl)) rfl ?_
    refine .consA (.move .none (.s rfl)) rfl ?_
    obtain ⟨hn16, h⟩ := need_some h
    refine .consA (.indexAddrO (k := 5005) .none sl32 ty3 (.s rfl) rfl (.s rfl) (fun _ => hn16)) rfl ?_
    refine .consN (.storeElem0 (k := 5005) ty3 (.s rfl) rfl (.int (by decide)) hn16) rfl ?_
    refine .nil ?_
    refine .close (k := 43) (g := 5005) (fun z => cont 32 (⟨z⟩ : Raw)) rfl rfl rfl ?_
    refine .close (k := 46) (g := 5006) (fun z => cont 32 (⟨z⟩ : Raw)) rfl rfl rfl ?_
    obtain rfl := some_eq h
    exact Ends.ret0O (.inr rfl) [43, 44, 45, 46, 47] Try.results66 (by decide) (.held rfl (.skip (.held rfl (.held rfl (.skip .nil))))) 
theorem ref_TurnedOf_1_okN : ∀ (k : Nat) {m43 : Nat} {s44 : Value} {m45 : Nat} {m46 : Nat} {s47 : Value} (x : (Int × (List Int) × (List Link) × (List Int))) (r : ((List Int) × (List Int))) (h : fixN ref_TurnedOf_1_body k x = some r), FSpecO Try.prog 66 [rep x.1, isV (ptr m43 0), ref x.2.2.1, isV (ptr m45 0), isV (ptr m46 0)] [(ptr m43 0, cont 32 (⟨s44⟩ : Raw)), (s44, rowV 3 x.2.1), (ptr m45 0, contS 100 (cloV 66 [isV (ptr m43 0), ref x.2.2.1, isV (ptr m45 0), isV (ptr m46 0)])), (ptr m46 0, cont 32 (⟨s47⟩ : Raw)), (s47, rowV 3 x.2.2.2)] (anyV) [some (deep (fun z0 => cont 32 (⟨z0⟩ : Raw)) (rowV 3 r.1)), none, some (contS 100 (cloV 66 [isV (ptr m43 0), ref x.2.2.1, isV (ptr m45 0), isV (ptr m46 0)])), some (deep (fun z0 => cont 32 (⟨z0⟩ : Raw)) (rowV 3 r.2)), none]
  | 0, _, _, _, _, _, x, r, h => by simp [fixN] at h
  | k + 1, _, _, _, _, _, x, r, h => ref_TurnedOf_1_okS (ref_TurnedOf_1_okN k) h
theorem ref_TurnedOf_1_ok {v1 : Int} {c0_1 : (List Int)} {c1_1 : (List Link)} {c3_1 : (List Int)} {r : ((List Int) × (List Int))} {m43 : Nat} {s44 : Value} {m45 : Nat} {m46 : Nat} {s47 : Value} (h : ref_TurnedOf_1 v1 c0_1 c1_1 c3_1 = some r) : FSpecO Try.prog 66 [rep v1, isV (ptr m43 0), ref c1_1, isV (ptr m45 0), isV (ptr m46 0)] [(ptr m43 0, cont 32 (⟨s44⟩ : Raw)), (s44, rowV 3 c0_1), (ptr m45 0, contS 100 (cloV 66 [isV (ptr m43 0), ref c1_1, isV (ptr m45 0), isV (ptr m46 0)])), (ptr m46 0, cont 32 (⟨s47⟩ : Raw)), (s47, rowV 3 c3_1)] (anyV) [some (deep (fun z0 => cont 32 (⟨z0⟩ : Raw)) (rowV 3 r.1)), none, some (contS 100 (cloV 66 [isV (ptr m43 0), ref c1_1, isV (ptr m45 0), isV (ptr m46 0)])), some (deep (fun z0 => cont 32 (⟨z0⟩ : Raw)) (rowV 3 r.2)), none] :=
  let ⟨k, hk⟩ := fixp_some h
  ref_TurnedOf_1_okN k (v1, c0_1, c1_1, c3_1) r hk

theorem ref_TurnedOf_ok {n1 : Int} {l1 : (List Link)} {r : (List Int)}  (h : ref_TurnedOf n1 l1 = some r) : FSpec Try.prog 22 [rep n1, rep l1] (rep r) := by
  unfold ref_TurnedOf at h
  refine FSpec.intro (n := 28) fnok22 Try.func22 rfl Try.ntmps22 rfl (fun F => ?_)
  refine .seq ?_
  refine .region [] mixed (by kernel_rfl) ?_
  refine .cons (.box .none (.s rfl)) rfl ?_
  refine .cons (.assign .none (.const (x := ([] : (List Int))) (fun M w => ⟨_, ⟨none, 0, rfl, Nat.le_refl _, by decide, rfl⟩, rfl⟩))) rfl ?_
  refine .nil ?_
  refine .then ?_
  refine .seq ?_
  refine .region [([], []), ([], [10]), ([], [5]), ([5, 10], [5, 10])] mixed (by kernel_rfl) ?_
  refine .consA (.move .none (.s rfl)) rfl ?_
  obtain ⟨hn1, h⟩ := need_some h
  refine .consW (.makeSlice rk32 zo3 rfl (.s rfl) (.s rfl) hn1) rfl rfl ?_
  refine .consW (.alloc zr32 rfl) rfl rfl ?_
  refine .consN (.storeRow0 (k := 5) (t := 10) ty32 rfl rfl rfl rfl) rfl ?_
  refine .nil ?_
  refine .then ?_
  refine .nameAt (t := 5) (g := 5001) rfl rfl (isBox_deep fun _ => isBox_cont) rfl (fun m5001 => ?_)
  refine .open (k := 5001) (g := 5002) rfl rfl (fun s5002 => ?_)
  refine .seq ?_
  refine .region [([], [6])] mixed (by kernel_rfl) ?_
  refine .consW (.alloc zr32 rfl) rfl rfl ?_
  refine .nil ?_
  refine .then ?_
  obtain ⟨c1, hv2, h⟩ := bnd_some h
  refine .reB (t := 5002) rfl (congrArg (fun y => CPred.at s5002 (rowV 3 y)) hv2) ?_
  refine .nameAt (t := 6) (g := 5003) rfl rfl isBox_cont rfl (fun m5003 => ?_)
  refine .nilKey (g := 5004) (T := 3) (α := Int) rfl ?_
  refine .seq ?_
  refine .region [([], [7])] mixed (by kernel_rfl) ?_
  refine .consW (.alloc zr100 rfl) rfl rfl ?_
  refine .nil ?_
  refine .then ?_
  refine .nameAt (t := 7) (g := 5005) rfl rfl isBox_cont rfl (fun m5005 => ?_)
  refine .seq ?_
  refine .region [([], []), ([5005], [5005])] mixed (by kernel_rfl) ?_
  refine .consA (.makeFuncC (Cs := [isV (ptr m5001 0), ref l1, isV (ptr m5005 0), isV (ptr m5003 0)]) .none (.cons (.s rfl) (.cons (.s rfl) (.cons (.s rfl) (.cons (.s rfl) .nil))))) rfl ?_
  refine .consN (.storeS (k := 5005) (S := cloV 66 [isV (ptr m5001 0), ref l1, isV (ptr m5005 0), isV (ptr m5003 0)]) tr100 rfl cont_cells (.s rfl) (.s rfl) cloV_one) rfl ?_
  refine .nil ?_
  refine .then ?_
  refine .seq ?_
  refine .seq ?_
  refine .region [] mixed (by kernel_rfl) ?_
  refine .cons (.move .none (.s rfl)) rfl ?_
  refine .cons (.move .none (.int (by decide))) rfl ?_
  refine .nil ?_
  refine .then ?_
  obtain ⟨j_3, h, hK3⟩ := bind_some h
  refine .thenJ (ι := ((List Int) × (List Int))) (fun j_3 => []) (fun j_3 => [(5001, some (CPred.at (ptr m5001 0) (deep (fun z0 => cont 32 (⟨z0⟩ : Raw)) (rowV 3 j_3.1)))), (5003, some (CPred.at (ptr m5003 0) (deep (fun z0 => cont 32 (⟨z0⟩ : Raw)) (rowV 3 j_3.2))))]) (fun s => j_3 = s) (.cons (t := 5) rfl (.cons (t := 6) rfl (.cons (t := 7) rfl Sub.nil))) (.cons (t := 5005) rfl SubB.nil) ?_ (fun j_3' hj3 => ?_)
  · skip
    refine .block ?_
    refine .close (k := 5001) (g := 5002) (fun z => cont 32 (⟨z⟩ : Raw)) rfl rfl rfl ?_
    refine .close (k := 5003) (g := 5004) (fun z => cont 32 (⟨z⟩ : Raw)) rfl rfl rfl ?_
    refine .rforL h (fun p4_ => [(13, ⟨True, rep p4_.1⟩)]) (fun p4_ => [(5001, some (CPred.at (ptr m5001 0) (deep (fun z0 => cont 32 (⟨z0⟩ : Raw)) (rowV 3 p4_.2.1)))), (5003, some (CPred.at (ptr m5003 0) (deep (fun z0 => cont 32 (⟨z0⟩ : Raw)) (rowV 3 p4_.2.2))))]) (.cons (t := 13) rfl Sub.nil) (.cons (t := 5001) rfl (.cons (t := 5003) rfl SubB.nil)) (.cons (t := 3) rfl (.cons (t := 5) rfl (.cons (t := 6) rfl (.cons (t := 7) rfl (.cons (t := 12) rfl Sub.nil))))) (.cons (t := 5005) rfl SubB.nil) (fun p4_ o_4 h hD4 => ?_)
    refine .open (k := 5001) (g := 5006) rfl rfl (fun s5006 => ?_)
    refine .open (k := 5003) (g := 5007) rfl rfl (fun s5007 => ?_)
    refine .seq ?_
    refine .region [] mixed (by kernel_rfl) ?_
    refine .cons (.lt .none (.s rfl) (.s rfl)) rfl ?_
    refine .nil ?_
    refine .then ?_
    refine .seq ?_
    refine .cond (t := 14) rfl trivial (fun hb5 => ?_) (fun hb5 => ?_)
    · replace h := bif_t h hb5
      refine .skip ?_
      refine .then ?_
      refine .seq ?_
      obtain ⟨j_6, h, hK6⟩ := bind_some h
      unfold ref_TurnedOf_L1 at h
      refine .thenJ (ι := ((List Int) × (List Int))) (fun j_6 => []) (fun j_6 => [(5001, some (CPred.at (ptr m5001 0) (deep (fun z0 => cont 32 (⟨z0⟩ : Raw)) (rowV 3 j_6.1)))), (5003, some (CPred.at (ptr m5003 0) (deep (fun z0 => cont 32 (⟨z0⟩ : Raw)) (rowV 3 j_6.2))))]) (fun s => j_6 = s) (.cons (t := 3) rfl (.cons (t := 5) rfl (.cons (t := 6) rfl (.cons (t := 7) rfl (.cons (t := 12) rfl (.cons (t := 13) rfl Sub.nil)))))) (.cons (t := 5005) rfl SubB.nil) ?_ (fun j_6' hj6 => ?_)
      · skip
        refine .block ?_
        refine .seq ?_
        refine .region [] mixed (by kernel_rfl) ?_
        refine .cons (.move .none (.s rfl)) rfl ?_
        refine .cons (.assign .none (.s rfl)) rfl ?_
        refine .nil ?_
        refine .then ?_
        refine .seq ?_
        refine .region [([5001], []), ([], []), ([5006], []), ([5006], []), ([], [])] mixed (by kernel_rfl) ?_
        refine .consA (.loadAt0 (k := 5001) .none tr32 rfl (.s rfl)) rfl ?_
        refine .consA (.move .none (.s rfl)) rfl ?_
        obtain ⟨hn7, h⟩ := need_some h
        refine .consA (.indexAddrO (k := 5006) .none sl32 ty3 (.s rfl) rfl (.s rfl) (fun _ => hn7)) rfl ?_
        refine .consA (.loadElem0 (k := 5006) .none ty3 (.s rfl) rfl (fun _ => hn7)) rfl ?_
        refine .consA (.eqI .none (.s rfl) (.int (by decide))) rfl ?_
        refine .nil ?_
        refine .then ?_
        refine .cond (t := 20) rfl trivial (fun hb8 => ?_) (fun hb8 => ?_)
        · replace h := bif_t h hb8
          refine .region [([5005], []), ([], []), ([5001, 5006, 5005, 5003, 5007], [5001, 5006, 5005, 5003, 5007])] mixed (by kernel_rfl) ?_
          refine .consA (.loadS (k := 5005) .none tr100 rfl (.s rfl) cloV_one) rfl ?_
          refine .consA (.move .none (.s rfl)) rfl ?_
          obtain ⟨r1, hv9, h⟩ := bind_some h
          refine .consW (.callClo [5001, 5006, 5005, 5003, 5007] (Ss := [rep p4_.1]) (Cs := [isV (ptr m5001 0), ref l1, isV (ptr m5005 0), isV (ptr m5003 0)]) (.s rfl) (ref_TurnedOf_1_ok hv9) (.cons (.s rfl) .nil) (.cons (k := 5001) rfl (.cons (k := 5006) rfl (.cons (k := 5005) rfl (.cons (k := 5003) rfl (.cons (k := 5007) rfl .nil))))) rfl (by decide) (by decide) (by intro d h; cases h; decide)) rfl rfl ?_
          refine .nil ?_
          refine .blkNormal ?_
          exact Ends.join _ (some_eq h) (.cons (t := 3) rfl (.cons (t := 5) rfl (.cons (t := 6) rfl (.cons (t := 7) rfl (.cons (t := 12) rfl (.cons (t := 13) rfl Sub.nil)))))) (.cons (t := 5001) rfl (.cons (t := 5003) rfl (.cons (t := 5005) rfl SubB.nil)))
        · replace h := bif_f h hb8
          refine .skip ?_
          refine .blkNormal ?_
          refine .close (k := 5001) (g := 5006) (fun z => cont 32 (⟨z⟩ : Raw)) rfl rfl rfl ?_
          refine .close (k := 5003) (g := 5007) (fun z => cont 32 (⟨z⟩ : Raw)) rfl rfl rfl ?_
          exact Ends.join _ (some_eq h) (.cons (t := 3) rfl (.cons (t := 5) rfl (.cons (t := 6) rfl (.cons (t := 7) rfl (.cons (t := 12) rfl (.cons (t := 13) rfl Sub.nil)))))) (.cons (t := 5001) rfl (.cons (t := 5003) rfl (.cons (t := 5005) rfl SubB.nil)))
      · subst hj6; have h := hK6; clear hK6
        refine .open (k := 5001) (g := 5008) rfl rfl (fun s5008 => ?_)
        refine .open (k := 5003) (g := 5009) rfl rfl (fun s5009 => ?_)
        refine .region [] mixed (by kernel_rfl) ?_
        refine .cons (.addW .none (.s rfl) (.int (by decide))) rfl ?_
        refine .cons (.move .none (.s rfl)) rfl ?_
        refine .nil ?_
        refine .close (k := 5001) (g := 5008) (fun z => cont 32 (⟨z⟩ : Raw)) rfl rfl rfl ?_
        refine .close (k := 5003) (g := 5009) (fun z => cont 32 (⟨z⟩ : Raw)) rfl rfl rfl ?_
        exact Ends.againL (some_eq h) (.cons (t := 13) rfl (.cons (t := 3) rfl (.cons (t := 5) rfl (.cons (t := 6) rfl (.cons (t := 7) rfl (.cons (t := 12) rfl Sub.nil)))))) (.cons (t := 5001) rfl (.cons (t := 5003) rfl (.cons (t := 5005) rfl SubB.nil)))
    · replace h := bif_f h hb5
      refine .exit ?_
      refine .thenExit ?_
      refine .thenExit ?_
      refine .blkExit ?_
      refine .close (k := 5001) (g := 5006) (fun z => cont 32 (⟨z⟩ : Raw)) rfl rfl rfl ?_
      refine .close (k := 5003) (g := 5007) (fun z => cont 32 (⟨z⟩ : Raw)) rfl rfl rfl ?_
      replace h := hD4 _ (some_eq h)
      exact Ends.join _ (some_eq h) (.cons (t := 5) rfl (.cons (t := 6) rfl (.cons (t := 7) rfl Sub.nil))) (.cons (t := 5001) rfl (.cons (t := 5003) rfl (.cons (t := 5005) rfl SubB.nil)))
  · subst hj3; have h := hK3; clear hK3
    refine .open (k := 5003) (g := 5010) rfl rfl (fun s5010 => ?_)
    refine .seq ?_
    refine .region [([5003], []), ([5010], [5010])] mixed (by kernel_rfl) ?_
    refine .consA (.loadAt0 (k := 5003) .none tr32 rfl (.s rfl)) rfl ?_
    obtain ⟨r2, hv10, h⟩ := bind_some h
    refine .consW (.callO [5010] (slices_Sort_int_ok hv10) (.cons (.s rfl) .nil) (.cons (k := 5010) rfl .nil) rfl (by decide) (by decide) (by intro d h; cases h; decide)) rfl rfl ?_
    refine .nil ?_
    refine .then ?_
    refine .seq ?_
    refine .region [([5003], []), ([], [])] mixed (by kernel_rfl) ?_
    refine .consA (.loadAt0 (k := 5003) .none tr32 rfl (.s rfl)) rfl ?_
    refine .consA (.assign .none (.s rfl)) rfl ?_
    refine .nil ?_
    refine .then ?_
    refine .freezeRow (g := 5010) (ts := [4]) rfl (.cons (t := 4) rfl trivial .nil) SubB.nil rfl ?_
    refine .ret ?_
    obtain rfl := some_eq h
    exact Ends.ret1 (.inl rfl) Try.results22 (ResOK.tmp rfl trivial Imp.refl)

theorem layer_Check_1_ok {k1 : Int} {c0_1 : Int} {r : Bool}  (h : layer_Check_1 k1 c0_1 = some r) : FSpec Try.prog 65 [rep k1, ref c0_1] (rep r) := by
  unfold layer_Check_1 at h
  refine FSpec.intro (n := 11) fnok65 Try.func65 rfl Try.ntmps65 rfl (fun F => ?_)
  refine .seq ?_
  refine .region [] mixed (by kernel_rfl) ?_
  refine .cons (.assign .none .bool) rfl ?_
  refine .nil ?_
  refine .then ?_
  refine .seq ?_
  refine .region [] mixed (by kernel_rfl) ?_
  refine .cons (.move .none (.s rfl)) rfl ?_
  refine .cons (.ge .none (.s rfl) (.int (by decide))) rfl ?_
  refine .cons (.move .none (.s rfl)) rfl ?_
  refine .cons (.move (.at rfl rfl) (.s rfl)) rfl ?_
  refine .cons (.load (.at rfl rfl) ty3 (.s rfl)) rfl ?_
  refine .cons (.lt (.at rfl rfl) (.tmp rfl id) (.tmp rfl id)) rfl ?_
  refine .cons (.pickAnd .none (.s rfl) (.tmp rfl id)) rfl ?_
  refine .cons (.assign .none (.s rfl)) rfl ?_
  refine .nil ?_
  refine .then ?_
  refine .ret ?_
  obtain rfl := some_eq h
  exact Ends.ret1 (.inl rfl) Try.results65 (ResOK.tmp rfl trivial Imp.refl)

theorem layer_Check_ok {n1 : Int} {l1 : (List Link)} {r : Int}  (h : layer_Check n1 l1 = some r) : FSpec Try.prog 19 [rep n1, rep l1] (rep r) := by
  unfold layer_Check at h
  refine FSpec.intro (n := 44) fnok19 Try.func19 rfl Try.ntmps19 rfl (fun F => ?_)
  refine .seq ?_
  refine .region [] mixed (by kernel_rfl) ?_
  refine .cons (.box .none (.s rfl)) rfl ?_
  refine .cons (.assign .none (.int (by decide))) rfl ?_
  refine .nil ?_
  refine .then ?_
  refine .seq ?_
  refine .block ?_
  refine .seq ?_
  refine .region [] mixed (by kernel_rfl) ?_
  refine .cons (.load .none ty3 (.s rfl)) rfl ?_
  refine .cons (.lt .none (.s rfl) (.int (by decide))) rfl ?_
  refine .cons (.move .none (.s rfl)) rfl ?_
  refine .cons (.load (.at rfl rfl) ty3 (.s rfl)) rfl ?_
  refine .cons (.gt (.at rfl rfl) (.tmp rfl id) (.int (by decide))) rfl ?_
  refine .cons (.pickOr .none (.s rfl) (.tmp rfl id)) rfl ?_
  refine .cons (.assign .none (.s rfl)) rfl ?_
  refine .nil ?_
  refine .then ?_
  refine .cond (t := 8) rfl trivial (fun hb1 => ?_) (fun hb1 => ?_)
  · replace h := bif_t h hb1
    refine .seq ?_
    refine .region [] mixed (by kernel_rfl) ?_
    refine .cons (.assign .none (.int (by decide))) rfl ?_
    refine .nil ?_
    refine .then ?_
    refine .ret ?_
    refine .blkRet ?_
    refine .thenRet ?_
    obtain rfl := some_eq h
    exact Ends.ret1 (.inl rfl) Try.results19 (ResOK.tmp rfl trivial Imp.refl)
  · replace h := bif_f h hb1
    refine .seq ?_
    refine .region [] mixed (by kernel_rfl) ?_
    refine .cons (.move .none (.s rfl)) rfl ?_
    refine .cons (.len .none sl23 (.s rfl)) rfl ?_
    refine .cons (.gt .none (.s rfl) (.int (by decide))) rfl ?_
    refine .cons (.assign .none (.s rfl)) rfl ?_
    refine .nil ?_
    refine .then ?_
    refine .cond (t := 15) rfl trivial (fun hb2 => ?_) (fun hb2 => ?_)
    · replace h := bif_t h hb2
      refine .seq ?_
      refine .region [] mixed (by kernel_rfl) ?_
      refine .cons (.assign .none (.int (by decide))) rfl ?_
      refine .nil ?_
      refine .then ?_
      refine .ret ?_
      refine .blkRet ?_
      refine .thenRet ?_
      obtain rfl := some_eq h
      exact Ends.ret1 (.inl rfl) Try.results19 (ResOK.tmp rfl trivial Imp.refl)
    · replace h := bif_f h hb2
      refine .skip ?_
      refine .blkNormal ?_
      refine .then ?_
      refine .seq ?_
      refine .region [] mixed (by kernel_rfl) ?_
      refine .cons (.makeFunc (ι := Int × Bool) (pre := fun i => (fun x0 => layer_Check_1 x0 n1) i.1 = some i.2) (Ss := fun i => [rep i.1]) (S := fun i => rep i.2) .none fnok65 (fun i h => layer_Check_1_ok h) (.cons (.s rfl) .nil)) rfl ?_
      refine .cons (.assign .none (.s rfl)) rfl ?_
      refine .nil ?_
      refine .then ?_
      refine .seq ?_
      refine .seq ?_
      refine .region [] mixed (by kernel_rfl) ?_
      refine .cons (.move .none (.s rfl)) rfl ?_
      refine .cons (.len .none sl23 (.s rfl)) rfl ?_
      refine .cons (.move .none (.int (by decide))) rfl ?_
      refine .nil ?_
      refine .then ?_
      obtain ⟨o_3, h, hK3⟩ := bindR_some h
      refine .thenJ (ι := Unit) (fun j_3 => []) (fun j_3 => []) (fun s => o_3 = Res.nx s) Sub.nil SubB.nil ?_ (fun j_3 hj3 => ?_)
      · skip
        refine .block ?_
        refine .rforEL h (fun p4_ => [(22, ⟨True, rep p4_.1⟩)]) (fun p4_ => []) (.cons (t := 22) rfl Sub.nil) SubB.nil (.cons (t := 2) rfl (.cons (t := 5) rfl (.cons (t := 20) rfl (.cons (t := 21) rfl Sub.nil)))) SubB.nil (fun p4_ o_4 h hD4 => ?_)
        refine .seq ?_
        refine .region [] mixed (by kernel_rfl) ?_
        refine .cons (.lt .none (.s rfl) (.s rfl)) rfl ?_
        refine .nil ?_
        refine .then ?_
        refine .seq ?_
        refine .cond (t := 23) rfl trivial (fun hb5 => ?_) (fun hb5 => ?_)
        · replace h := bif_t h hb5
          refine .skip ?_
          refine .then ?_
          refine .seq ?_
          obtain ⟨o_6, h, hK6⟩ := bindD_some h
          unfold layer_Check_L1 at h
          refine .thenJ (ι := Unit) (fun j_6 => []) (fun j_6 => []) (fun s => o_6 = Res.nx s) (.cons (t := 2) rfl (.cons (t := 5) rfl (.cons (t := 20) rfl (.cons (t := 21) rfl (.cons (t := 22) rfl Sub.nil))))) SubB.nil ?_ (fun j_6 hj6 => ?_)
          · skip
            refine .block ?_
            refine .seq ?_
            refine .region [([], []), ([], []), ([], [7]), ([7], [7])] mixed (by kernel_rfl) ?_
            obtain ⟨hn7, h⟩ := need_some h
            refine .consA (.indexAddr .none sl23 ty79 (.s rfl) (.s rfl) (fun _ => hn7)) rfl ?_
            obtain ⟨v1, hv8, h⟩ := bnd_some h
            refine .consA (.re hv8 (.load .none ty79 (.s rfl))) rfl ?_
            refine .consW (.alloc zo79 rfl) rfl rfl ?_
            refine .consN (.store ty79 rfl rfl (.s rfl)) rfl ?_
            refine .nil ?_
            refine .then ?_
            refine .freeze (t := 7) rfl rfl SubB.nil rfl ?_
            refine .seq ?_
            refine .seq ?_
            refine .region [] mixed (by kernel_rfl) ?_
            refine .cons (.move .none (.s rfl)) rfl ?_
            refine .cons (.fieldAddr .none fd79_0 hfd79_0 (.s rfl)) rfl ?_
            refine .cons (.load .none ty3 (.s rfl)) rfl ?_
            obtain ⟨r1, hv9, h⟩ := bind_some h
            refine .cons (.callV (v1.From, r1) .none (.s rfl) (fun _ => hv9) (.cons (.s rfl) .nil)) rfl ?_
            refine .cons (.not .none (.s rfl)) rfl ?_
            refine .cons (.move .none (.s rfl)) rfl ?_
            refine .cons (.move (.at rfl rfl) (.s rfl)) rfl ?_
            refine .cons (.fieldAddr (.at rfl rfl) fd79_1 hfd79_1 (.s rfl)) rfl ?_
            refine .cons (.load (.at rfl rfl) ty3 (.tmp rfl id)) rfl ?_
            obtain ⟨r2, hv10, h⟩ := bind_some h
            refine .cons (.callV (v1.To, r2) (.at rfl rfl) (.tmp rfl id) (fun hg => gd_some hv10 ((notT hg.2))) (.cons (.tmp rfl id) .nil)) rfl ?_
            refine .cons (.not (.at rfl rfl) (.tmp rfl id)) rfl ?_
            refine .cons (.pickOr .none (.s rfl) (.tmp rfl id)) rfl ?_
            refine .nil ?_
            refine .then ?_
            refine .cond (t := 37) rfl trivial (fun hb11 => ?_) (fun hb11 => ?_)
            · replace h := bif_t h hb11
              refine .seq ?_
              refine .region [] mixed (by kernel_rfl) ?_
              refine .cons (.assign .none (.int (by decide))) rfl ?_
              refine .nil ?_
              refine .then ?_
              refine .ret ?_
              refine .thenRet ?_
              refine .blkRet ?_
              refine .thenRet ?_
              refine .thenRet ?_
              refine .blkRet ?_
              refine .thenRet ?_
              replace h := resd_ab hK6 (some_eq h)
              replace h := hD4 _ (some_eq h)
              replace h := resb_ab hK3 (some_eq h)
              obtain rfl := some_eq h
              exact Ends.ret1 (.inl rfl) Try.results19 (ResOK.tmp rfl trivial Imp.refl)
            · replace h := bif_f h hb11
              refine .skip ?_
              refine .then ?_
              refine .seq ?_
              refine .region [] mixed (by kernel_rfl) ?_
              refine .cons (.fieldAddr .none fd79_0 hfd79_0 (.s rfl)) rfl ?_
              refine .cons (.load .none ty3 (.s rfl)) rfl ?_
              refine .cons (.fieldAddr .none fd79_1 hfd79_1 (.s rfl)) rfl ?_
              refine .cons (.load .none ty3 (.s rfl)) rfl ?_
              refine .cons (.eqI .none (.s rfl) (.s rfl)) rfl ?_
              refine .nil ?_
              refine .then ?_
              refine .cond (t := 42) rfl trivial (fun hb12 => ?_) (fun hb12 => ?_)
              · replace h := bif_t h hb12
                refine .seq ?_
                refine .region [] mixed (by kernel_rfl) ?_
                refine .cons (.assign .none (.int (by decide))) rfl ?_
                refine .nil ?_
                refine .then ?_
                refine .ret ?_
                refine .blkRet ?_
                refine .thenRet ?_
                refine .thenRet ?_
                refine .blkRet ?_
                refine .thenRet ?_
                replace h := resd_ab hK6 (some_eq h)
                replace h := hD4 _ (some_eq h)
                replace h := resb_ab hK3 (some_eq h)
                obtain rfl := some_eq h
                exact Ends.ret1 (.inl rfl) Try.results19 (ResOK.tmp rfl trivial Imp.refl)
              · replace h := bif_f h hb12
                refine .skip ?_
                refine .blkNormal ?_
                exact Ends.join _ (some_eq h) (.cons (t := 2) rfl (.cons (t := 5) rfl (.cons (t := 20) rfl (.cons (t := 21) rfl (.cons (t := 22) rfl Sub.nil))))) SubB.nil
          · have h := resd_nx hK6 hj6
            refine .region [] mixed (by kernel_rfl) ?_
            refine .cons (.addW .none (.s rfl) (.int (by decide))) rfl ?_
            refine .cons (.move .none (.s rfl)) rfl ?_
            refine .nil ?_
            exact Ends.againL (some_eq h) (.cons (t := 22) rfl (.cons (t := 2) rfl (.cons (t := 5) rfl (.cons (t := 20) rfl (.cons (t := 21) rfl Sub.nil))))) SubB.nil
        · replace h := bif_f h hb5
          refine .exit ?_
          refine .thenExit ?_
          refine .thenExit ?_
          refine .blkExit ?_
          replace h := hD4 _ (some_eq h)
          exact Ends.join _ (some_eq h) Sub.nil SubB.nil
      · have h := resb_nx hK3 hj3
        refine .seq ?_
        refine .region [] mixed (by kernel_rfl) ?_
        refine .cons (.assign .none (.int (by decide))) rfl ?_
        refine .nil ?_
        refine .then ?_
        refine .ret ?_
        obtain rfl := some_eq h
        exact Ends.ret1 (.inl rfl) Try.results19 (ResOK.tmp rfl trivial Imp.refl)

theorem layer_turned_1_okS {self : (Int × (List Int) × (List Link) × (List Int)) → Option ((List Int) × (List Int))} (hself : ∀ {m43 : Nat} {s44 : Value} {m45 : Nat} {s46 : Value} {m47 : Nat} (x : (Int × (List Int) × (List Link) × (List Int))) (r : ((List Int) × (List Int))), self x = some r → FSpecO Try.prog 106 [rep x.1, isV (ptr m43 0), ref x.2.2.1, isV (ptr m45 0), isV (ptr m47 0)] [(ptr m43 0, cont 32 (⟨s44⟩ : Raw)), (s44, rowV 3 x.2.1), (ptr m45 0, cont 32 (⟨s46⟩ : Raw)), (s46, rowV 3 x.2.2.2), (ptr m47 0, contS 100 (cloV 106 [isV (ptr m43 0), ref x.2.2.1, isV (ptr m45 0), isV (ptr m47 0)]))] (anyV) [some (deep (fun z0 => cont 32 (⟨z0⟩ : Raw)) (rowV 3 r.1)), none, some (deep (fun z0 => cont 32 (⟨z0⟩ : Raw)) (rowV 3 r.2)), none, some (contS 100 (cloV 106 [isV (ptr m43 0), ref x.2.2.1, isV (ptr m45 0), isV (ptr m47 0)]))]) {m43 : Nat} {s44 : Value} {m45 : Nat} {s46 : Value} {m47 : Nat} {x : (Int × (List Int) × (List Link) × (List Int))} {r : ((List Int) × (List Int))} (h : layer_turned_1_body self x = some r) : FSpecO Try.prog 106 [rep x.1, isV (ptr m43 0), ref x.2.2.1, isV (ptr m45 0), isV (ptr m47 0)] [(ptr m43 0, cont 32 (⟨s44⟩ : Raw)), (s44, rowV 3 x.2.1), (ptr m45 0, cont 32 (⟨s46⟩ : Raw)), (s46, rowV 3 x.2.2.2), (ptr m47 0, contS 100 (cloV 106 [isV (ptr m43 0), ref x.2.2.1, isV (ptr m45 0), isV (ptr m47 0)]))] (anyV) [some (deep (fun z0 => cont 32 (⟨z0⟩ : Raw)) (rowV 3 r.1)), none, some (deep (fun z0 => cont 32 (⟨z0⟩ : Raw)) (rowV 3 r.2)), none, some (contS 100 (cloV 106 [isV (ptr m43 0), ref x.2.2.1, isV (ptr m45 0), isV (ptr m47 0)]))] := by
  unfold layer_turned_1_body at h
  refine FSpecO.intro (n := 43) fnok106 Try.func106 rfl Try.ntmps106 rfl (fun F => ?_)
  refine .seq ?_
  refine .region [([43], []), ([], []), ([44], []), ([44], [44])] mixed (by kernel_rfl) ?_
  refine .consA (.loadAt0 (k := 43) .none tr32 rfl (.s rfl)) rfl ?_
  refine .consA (.move .none (.s rfl)) rfl ?_
  obtain ⟨hn1, h⟩ := need_some h
  refine .consA (.indexAddrO (k := 44) .none sl32 ty3 (.s rfl) rfl (.s rfl) (fun _ => hn1)) rfl ?_
  refine .consN (.storeElem0 (k := 44) ty3 (.s rfl) rfl (.int (by decide)) hn1) rfl ?_
  refine .nil ?_
  refine .then ?_
  obtain ⟨c1, hv2, h⟩ := bnd_some h
  refine .reB (t := 44) rfl (congrArg (fun y => CPred.at s44 (rowV 3 y)) hv2) ?_
  refine .seq ?_
  refine .seq ?_
  refine .region [] mixed (by kernel_rfl) ?_
  refine .cons (.load .none ty23 (.s rfl)) rfl ?_
  refine .cons (.len .none sl23 (.s rfl)) rfl ?_
  refine .cons (.move .none (.int (by decide))) rfl ?_
  refine .nil ?_
  refine .then ?_
  obtain ⟨j_3, h, hK3⟩ := bind_some h
  refine .thenJ (ι := ((List Int) × (List Int))) (fun j_3 => []) (fun j_3 => [(43, some (CPred.at (ptr m43 0) (deep (fun z0 => cont 32 (⟨z0⟩ : Raw)) (rowV 3 j_3.1)))), (45, some (CPred.at (ptr m45 0) (deep (fun z0 => cont 32 (⟨z0⟩ : Raw)) (rowV 3 j_3.2))))]) (fun s => j_3 = s) (.cons (t := 0) rfl (.cons (t := 1) rfl (.cons (t := 3) rfl (.cons (t := 4) rfl Sub.nil)))) (.cons (t := 47) rfl SubB.nil) ?_ (fun j_3' hj3 => ?_)
  · skip
    refine .block ?_
    refine .close (k := 43) (g := 44) (fun z => cont 32 (⟨z⟩ : Raw)) rfl rfl rfl ?_
    refine .close (k := 45) (g := 46) (fun z => cont 32 (⟨z⟩ : Raw)) rfl rfl rfl ?_
    refine .rforL h (fun p4_ => [(13, ⟨True, rep p4_.1⟩)]) (fun p4_ => [(43, some (CPred.at (ptr m43 0) (deep (fun z0 => cont 32 (⟨z0⟩ : Raw)) (rowV 3 p4_.2.1)))), (45, some (CPred.at (ptr m45 0) (deep (fun z0 => cont 32 (⟨z0⟩ : Raw)) (rowV 3 p4_.2.2))))]) (.cons (t := 13) rfl Sub.nil) (.cons (t := 43) rfl (.cons (t := 45) rfl SubB.nil)) (.cons (t := 0) rfl (.cons (t := 1) rfl (.cons (t := 2) rfl (.cons (t := 3) rfl (.cons (t := 4) rfl (.cons (t := 11) rfl (.cons (t := 12) rfl Sub.nil))))))) (.cons (t := 47) rfl SubB.nil) (fun p4_ o_4 h hD4 => ?_)
    refine .open (k := 43) (g := 5001) rfl rfl (fun s5001 => ?_)
    refine .open (k := 45) (g := 5002) rfl rfl (fun s5002 => ?_)
    refine .seq ?_
    refine .region [] mixed (by kernel_rfl) ?_
    refine .cons (.lt .none (.s rfl) (.s rfl)) rfl ?_
    refine .nil ?_
    refine .then ?_
    refine .seq ?_
    refine .cond (t := 14) rfl trivial (fun hb5 => ?_) (fun hb5 => ?_)
    · replace h := bif_t h hb5
      refine .skip ?_
      refine .then ?_
      refine .seq ?_
      obtain ⟨j_6, h, hK6⟩ := bind_some h
      unfold layer_turned_1_L1 at h
      refine .thenJ (ι := ((List Int) × (List Int))) (fun j_6 => []) (fun j_6 => [(43, some (CPred.at (ptr m43 0) (deep (fun z0 => cont 32 (⟨z0⟩ : Raw)) (rowV 3 j_6.1)))), (45, some (CPred.at (ptr m45 0) (deep (fun z0 => cont 32 (⟨z0⟩ : Raw)) (rowV 3 j_6.2))))]) (fun s => j_6 = s) (.cons (t := 0) rfl (.cons (t := 1) rfl (.cons (t := 2) rfl (.cons (t := 3) rfl (.cons (t := 4) rfl (.cons (t := 11) rfl (.cons (t := 12) rfl (.cons (t := 13) rfl Sub.nil)))))))) (.cons (t := 47) rfl SubB.nil) ?_ (fun j_6' hj6 => ?_)
      · skip
        refine .block ?_
        refine .seq ?_
        refine .region [([], []), ([], []), ([], []), ([], [7]), ([], []), ([7], [7])] mixed (by kernel_rfl) ?_
        refine .consA (.move .none (.s rfl)) rfl ?_
        obtain ⟨hn7, h⟩ := need_some h
        refine .consA (.indexAddr .none sl23 ty79 (.s rfl) (.s rfl) (fun _ => hn7)) rfl ?_
        obtain ⟨v1, hv8, h⟩ := bnd_some h
        refine .consA (.re hv8 (.load .none ty79 (.s rfl))) rfl ?_
        refine .consW (.alloc zo79 rfl) rfl rfl ?_
        refine .consA (.assign .none (.s rfl)) rfl ?_
        refine .consN (.store ty79 rfl rfl (.s rfl)) rfl ?_
        refine .nil ?_
        refine .then ?_
        refine .freeze (t := 7) rfl rfl (.cons (t := 43) rfl (.cons (t := 45) rfl (.cons (t := 47) rfl (.cons (t := 5001) rfl (.cons (t := 5002) rfl SubB.nil))))) rfl ?_
        refine .seq ?_
        refine .seq ?_
        refine .region [] mixed (by kernel_rfl) ?_
        refine .cons (.fieldAddr .none fd79_0 hfd79_0 (.s rfl)) rfl ?_
        refine .cons (.load .none ty3 (.s rfl)) rfl ?_
        refine .cons (.move .none (.s rfl)) rfl ?_
        refine .cons (.neI .none (.s rfl) (.s rfl)) rfl ?_
        refine .nil ?_
        refine .then ?_
        refine .cond (t := 21) rfl trivial (fun hb9 => ?_) (fun hb9 => ?_)
        · replace h := bif_t h hb9
          refine .exit ?_
          refine .thenExit ?_
          refine .blkExit ?_
          refine .close (k := 43) (g := 5001) (fun z => cont 32 (⟨z⟩ : Raw)) rfl rfl rfl ?_
          refine .close (k := 45) (g := 5002) (fun z => cont 32 (⟨z⟩ : Raw)) rfl rfl rfl ?_
          exact Ends.join _ (some_eq h) (.cons (t := 0) rfl (.cons (t := 1) rfl (.cons (t := 2) rfl (.cons (t := 3) rfl (.cons (t := 4) rfl (.cons (t := 11) rfl (.cons (t := 12) rfl (.cons (t := 13) rfl Sub.nil)))))))) (.cons (t := 43) rfl (.cons (t := 45) rfl (.cons (t := 47) rfl SubB.nil)))
        · replace h := bif_f h hb9
          refine .skip ?_
          refine .then ?_
          refine .seq ?_
          refine .region [([43], []), ([], []), ([], []), ([5001], []), ([5001], [])] mixed (by kernel_rfl) ?_
          refine .consA (.loadAt0 (k := 43) .none tr32 rfl (.s rfl)) rfl ?_
          refine .consA (.fieldAddr .none fd79_1 hfd79_1 (.s rfl)) rfl ?_
          refine .consA (.load .none ty3 (.s rfl)) rfl ?_
          obtain ⟨hn10, h⟩ := need_some h
          refine .consA (.indexAddrO (k := 5001) .none sl32 ty3 (.s rfl) rfl (.s rfl) (fun _ => hn10)) rfl ?_
          obtain ⟨v2, hv11, h⟩ := bnd_some h
          refine .consA (.re hv11 (.loadElem0 (k := 5001) .none ty3 (.s rfl) rfl (fun _ => hn10))) rfl ?_
          refine .nil ?_
          refine .then ?_
          refine .block ?_
          refine .seq ?_
          refine .region [] mixed (by kernel_rfl) ?_
          refine .cons (.eqI .none (.s rfl) (.int (by decide))) rfl ?_
          refine .cons (.assign .none (.s rfl)) rfl ?_
          refine .nil ?_
          refine .then ?_
          refine .cond (t := 27) rfl trivial (fun hb12 => ?_) (fun hb12 => ?_)
          · replace h := bif_t h hb12
            refine .region [([45], []), ([], []), ([], []), ([5002], [32, 5002]), ([45, 32], [45, 32])] mixed (by kernel_rfl) ?_
            refine .consA (.loadAt0 (k := 45) .none tr32 rfl (.s rfl)) rfl ?_
            refine .consA (.move .none (.s rfl)) rfl ?_
            refine .consA (.buildSlice (xs := [_]) .none sl32 ty3 hz3 (.cons (.s rfl) .nil) rfl (by decide)) rfl ?_
            obtain ⟨hn13, h⟩ := need_some h
            refine .consW (.append (k := 5002) rk32 rfl (.told (.s rfl) rfl) (.s rfl) hn13) rfl rfl ?_
            refine .consN (.storeRow (k := 45) (t := 32) (set := fun _ z => z) ty32 rfl (.s rfl) .self rfl rfl) rfl ?_
            refine .nil ?_
            refine .blkNormal ?_
            refine .blkNormal ?_
            refine .close (k := 43) (g := 5001) (fun z => cont 32 (⟨z⟩ : Raw)) rfl rfl rfl ?_
            exact Ends.join _ (some_eq h) (.cons (t := 0) rfl (.cons (t := 1) rfl (.cons (t := 2) rfl (.cons (t := 3) rfl (.cons (t := 4) rfl (.cons (t := 11) rfl (.cons (t := 12) rfl (.cons (t := 13) rfl Sub.nil)))))))) (.cons (t := 43) rfl (.cons (t := 45) rfl (.cons (t := 47) rfl SubB.nil)))
          · replace h := bif_f h hb12
            refine .seq ?_
            refine .region [] mixed (by kernel_rfl) ?_
            refine .cons (.eqI .none (.s rfl) (.int (by decide))) rfl ?_
            refine .cons (.assign .none (.s rfl)) rfl ?_
            refine .nil ?_
            refine .then ?_
            refine .cond (t := 33) rfl trivial (fun hb14 => ?_) (fun hb14 => ?_)
            · replace h := bif_t h hb14
              refine .region [([47], []), ([], []), ([], []), ([43, 5001, 45, 5002, 47], [43, 5001, 45, 5002, 47])] mixed (by kernel_rfl) ?_
              refine .consA (.loadS (k := 47) .none tr100 rfl (.s rfl) cloV_one) rfl ?_
              refine .consA (.fieldAddr .none fd79_1 hfd79_1 (.s rfl)) rfl ?_
              refine .consA (.load .none ty3 (.s rfl)) rfl ?_
              obtain ⟨r1, hv15, h⟩ := bind_some h
              refine .consW (.callClo [43, 5001, 45, 5002, 47] (Ss := [rep v1.To]) (Cs := [isV (ptr m43 0), ref x.2.2.1, isV (ptr m45 0), isV (ptr m47 0)]) (.s rfl) (hself _ _ hv15) (.cons (.s rfl) .nil) (.cons (k := 43) rfl (.cons (k := 5001) rfl (.cons (k := 45) rfl (.cons (k := 5002) rfl (.cons (k := 47) rfl .nil))))) rfl (by decide) (by decide) (by intro d h; cases h; decide)) rfl rfl ?_
              refine .nil ?_
              refine .blkNormal ?_
              refine .blkNormal ?_
              exact Ends.join _ (some_eq h) (.cons (t := 0) rfl (.cons (t := 1) rfl (.cons (t := 2) rfl (.cons (t := 3) rfl (.cons (t := 4) rfl (.cons (t := 11) rfl (.cons (t := 12) rfl (.cons (t := 13) rfl Sub.nil)))))))) (.cons (t := 43) rfl (.cons (t := 45) rfl (.cons (t := 47) rfl SubB.nil)))
            · replace h := bif_f h hb14
              refine .skip ?_
              refine .blkNormal ?_
              refine .blkNormal ?_
              refine .close (k := 43) (g := 5001) (fun z => cont 32 (⟨z⟩ : Raw)) rfl rfl rfl ?_
              refine .close (k := 45) (g := 5002) (fun z => cont 32 (⟨z⟩ : Raw)) rfl rfl rfl ?_
              exact Ends.join _ (some_eq h) (.cons (t := 0) rfl (.cons (t := 1) rfl (.cons (t := 2) rfl (.cons (t := 3) rfl (.cons (t := 4) rfl (.cons (t := 11) rfl (.cons (t := 12) rfl (.cons (t := 13) rfl Sub.nil)))))))) (.cons (t := 43) rfl (.cons (t := 45) rfl (.cons (t := 47) rfl SubB.nil)))
      · subst hj6; have h := hK6; clear hK6
        refine .open (k := 43) (g := 5003) rfl rfl (fun s5003 => ?_)
        refine .open (k := 45) (g := 5004) rfl rfl (fun s5004 => ?_)
        refine .region [] mixed (by kernel_rfl) ?_
        refine .cons (.addW .none (.s rfl) (.int (by decide))) rfl ?_
        refine .cons (.move .none (.s rfl)) rfl ?_
        refine .nil ?_
        refine .close (k := 43) (g := 5003) (fun z => cont 32 (⟨z⟩ : Raw)) rfl rfl rfl ?_
        refine .close (k := 45) (g := 5004) (fun z => cont 32 (⟨z⟩ : Raw)) rfl rfl rfl ?_
        exact Ends.againL (some_eq h) (.cons (t := 13) rfl (.cons (t := 0) rfl (.cons (t := 1) rfl (.cons (t := 2) rfl (.cons (t := 3) rfl (.cons (t := 4) rfl (.cons (t := 11) rfl (.cons (t := 12) rfl Sub.nil)))))))) (.cons (t := 43) rfl (.cons (t := 45) rfl (.cons (t := 47) rfl SubB.nil)))
    · replace h := bif_f h hb5
      refine .exit ?_
      refine .thenExit ?_
      refine .thenExit ?_
      refine .blkExit ?_
      refine .close (k := 43) (g := 5001) (fun z => cont 32 (⟨z⟩ : Raw)) rfl rfl rfl ?_
      refine .close (k := 45) (g := 5002) (fun z => cont 32 (⟨z⟩ : Raw)) rfl rfl rfl ?_
      replace h := hD4 _ (some_eq h)
      exact Ends.join _ (some_eq h) (.cons (t := 0) rfl (.cons (t := 1) rfl (.cons (t := 3) rfl (.cons (t := 4) rfl Sub.nil)))) (.cons (t := 43) rfl (.cons (t := 45) rfl (.cons (t := 47) rfl SubB.nil)))
  · subst hj3; have h := hK3; clear hK3
    refine .open (k := 43) (g := 5005) rfl rfl (fun s5005 => ?_)
    refine .open (k := 45) (g := 5006) rfl rfl (fun s5006 => ?_)
    refine .region [([43], []), ([], []), ([5005], []), ([5005], [5005])] mixed (by kernel_rfl) ?_
    refine .consA (.loadAt0 (k := 43) .none tr32 rfl (.s rfl)) rfl ?_
    refine .consA (.move .none (.s rfl)) rfl ?_
    obtain ⟨hn16, h⟩ := need_some h
    refine .consA (.indexAddrO (k := 5005) .none sl32 ty3 (.s rfl) rfl (.s rfl) (fun _ => hn16)) rfl ?_
    refine .consN (.storeElem0 (k := 5005) ty3 (.s rfl) rfl (.int (by decide)) hn16) rfl ?_
    refine .nil ?_
    refine .close (k := 43) (g := 5005) (fun z => cont 32 (⟨z⟩ : Raw)) rfl rfl rfl ?_
    refine .close (k := 45) (g := 5006) (fun z => cont 32 (⟨z⟩ : Raw)) rfl rfl rfl ?_
    obtain rfl := some_eq h
    exact Ends.ret0O (.inr rfl) [43, 44, 45, 46, 47] Try.results106 (by decide) (.held rfl (.skip (.held rfl (.skip (.held rfl .nil))))) 
theorem layer_turned_1_okN : ∀ (k : Nat) {m43 : Nat} {s44 : Value} {m45 : Nat} {s46 : Value} {m47 : Nat} (x : (Int × (List Int) × (List Link) × (List Int))) (r : ((List Int) × (List Int))) (h : fixN layer_turned_1_body k x = some r), FSpecO Try.prog 106 [rep x.1, isV (ptr m43 0), ref x.2.2.1, isV (ptr m45 0), isV (ptr m47 0)] [(ptr m43 0, cont 32 (⟨s44⟩ : Raw)), (s44, rowV 3 x.2.1), (ptr m45 0, cont 32 (⟨s46⟩ : Raw)), (s46, rowV 3 x.2.2.2), (ptr m47 0, contS 100 (cloV 106 [isV (ptr m43 0), ref x.2.2.1, isV (ptr m45 0), isV (ptr m47 0)]))] (anyV) [some (deep (fun z0 => cont 32 (⟨z0⟩ : Raw)) (rowV 3 r.1)), none, some (deep (fun z0 => cont 32 (⟨z0⟩ : Raw)) (rowV 3 r.2)), none, some (contS 100 (cloV 106 [isV (ptr m43 0), ref x.2.2.1, isV (ptr m45 0), isV (ptr m47 0)]))]
  | 0, _, _, _, _, _, x, r, h => by simp [fixN] at h
  | k + 1, _, _, _, _, _, x, r, h => layer_turned_1_okS (layer_turned_1_okN k) h
theorem layer_turned_1_ok {k1 : Int} {c0_1 : (List Int)} {c1_1 : (List Link)} {c2_1 : (List Int)} {r : ((List Int) × (List Int))} {m43 : Nat} {s44 : Value} {m45 : Nat} {s46 : Value} {m47 : Nat} (h : layer_turned_1 k1 c0_1 c1_1 c2_1 = some r) : FSpecO Try.prog 106 [rep k1, isV (ptr m43 0), ref c1_1, isV (ptr m45 0), isV (ptr m47 0)] [(ptr m43 0, cont 32 (⟨s44⟩ : Raw)), (s44, rowV 3 c0_1), (ptr m45 0, cont 32 (⟨s46⟩ : Raw)), (s46, rowV 3 c2_1), (ptr m47 0, contS 100 (cloV 106 [isV (ptr m43 0), ref c1_1, isV (ptr m45 0), isV (ptr m47 0)]))] (anyV) [some (deep (fun z0 => cont 32 (⟨z0⟩ : Raw)) (rowV 3 r.1)), none, some (deep (fun z0 => cont 32 (⟨z0⟩ : Raw)) (rowV 3 r.2)), none, some (contS 100 (cloV 106 [isV (ptr m43 0), ref c1_1, isV (ptr m45 0), isV (ptr m47 0)]))] :=
  let ⟨k, hk⟩ := fixp_some h
  layer_turned_1_okN k (k1, c0_1, c1_1, c2_1) r hk

theorem layer_turned_ok {n1 : Int} {l1 : (List Link)} {r : (List Int)}  (h : layer_turned n1 l1 = some r) : FSpec Try.prog 64 [rep n1, rep l1] (rep r) := by
  unfold layer_turned at h
  refine FSpec.intro (n := 28) fnok64 Try.func64 rfl Try.ntmps64 rfl (fun F => ?_)
  refine .seq ?_
  refine .region [] mixed (by kernel_rfl) ?_
  refine .cons (.box .none (.s rfl)) rfl ?_
  refine .cons (.assign .none (.const (x := ([] : (List Int))) (fun M w => ⟨_, ⟨none, 0, rfl, Nat.le_refl _, by decide, rfl⟩, rfl⟩))) rfl ?_
  refine .nil ?_
  refine .then ?_
  refine .seq ?_
  refine .region [([], []), ([], [10]), ([], [5]), ([5, 10], [5, 10])] mixed (by kernel_rfl) ?_
  refine .consA (.move .none (.s rfl)) rfl ?_
  obtain ⟨hn1, h⟩ := need_some h
  refine .consW (.makeSlice rk32 zo3 rfl (.s rfl) (.s rfl) hn1) rfl rfl ?_
  refine .consW (.alloc zr32 rfl) rfl rfl ?_
  refine .consN (.storeRow0 (k := 5) (t := 10) ty32 rfl rfl rfl rfl) rfl ?_
  refine .nil ?_
  refine .then ?_
  refine .nameAt (t := 5) (g := 5001) rfl rfl (isBox_deep fun _ => isBox_cont) rfl (fun m5001 => ?_)
  refine .open (k := 5001) (g := 5002) rfl rfl (fun s5002 => ?_)
  refine .seq ?_
  refine .region [([], [6])] mixed (by kernel_rfl) ?_
  refine .consW (.alloc zr32 rfl) rfl rfl ?_
  refine .nil ?_
  refine .then ?_
  obtain ⟨c1, hv2, h⟩ := bnd_some h
  refine .reB (t := 5002) rfl (congrArg (fun y => CPred.at s5002 (rowV 3 y)) hv2) ?_
  refine .nameAt (t := 6) (g := 5003) rfl rfl isBox_cont rfl (fun m5003 => ?_)
  refine .nilKey (g := 5004) (T := 3) (α := Int) rfl ?_
  refine .seq ?_
  refine .region [([], [7])] mixed (by kernel_rfl) ?_
  refine .consW (.alloc zr100 rfl) rfl rfl ?_
  refine .nil ?_
  refine .then ?_
  refine .nameAt (t := 7) (g := 5005) rfl rfl isBox_cont rfl (fun m5005 => ?_)
  refine .seq ?_
  refine .region [([], []), ([5005], [5005])] mixed (by kernel_rfl) ?_
  refine .consA (.makeFuncC (Cs := [isV (ptr m5001 0), ref l1, isV (ptr m5003 0), isV (ptr m5005 0)]) .none (.cons (.s rfl) (.cons (.s rfl) (.cons (.s rfl) (.cons (.s rfl) .nil))))) rfl ?_
  refine .consN (.storeS (k := 5005) (S := cloV 106 [isV (ptr m5001 0), ref l1, isV (ptr m5003 0), isV (ptr m5005 0)]) tr100 rfl cont_cells (.s rfl) (.s rfl) cloV_one) rfl ?_
  refine .nil ?_
  refine .then ?_
  refine .seq ?_
  refine .seq ?_
  refine .region [] mixed (by kernel_rfl) ?_
  refine .cons (.move .none (.s rfl)) rfl ?_
  refine .cons (.move .none (.int (by decide))) rfl ?_
  refine .nil ?_
  refine .then ?_
  obtain ⟨j_3, h, hK3⟩ := bind_some h
  refine .thenJ (ι := ((List Int) × (List Int))) (fun j_3 => []) (fun j_3 => [(5001, some (CPred.at (ptr m5001 0) (deep (fun z0 => cont 32 (⟨z0⟩ : Raw)) (rowV 3 j_3.1)))), (5003, some (CPred.at (ptr m5003 0) (deep (fun z0 => cont 32 (⟨z0⟩ : Raw)) (rowV 3 j_3.2))))]) (fun s => j_3 = s) (.cons (t := 5) rfl (.cons (t := 6) rfl (.cons (t := 7) rfl Sub.nil))) (.cons (t := 5005) rfl SubB.nil) ?_ (fun j_3' hj3 => ?_)
  · skip
    refine .block ?_
    refine .close (k := 5001) (g := 5002) (fun z => cont 32 (⟨z⟩ : Raw)) rfl rfl rfl ?_
    refine .close (k := 5003) (g := 5004) (fun z => cont 32 (⟨z⟩ : Raw)) rfl rfl rfl ?_
    refine .rforL h (fun p4_ => [(13, ⟨True, rep p4_.1⟩)]) (fun p4_ => [(5001, some (CPred.at (ptr m5001 0) (deep (fun z0 => cont 32 (⟨z0⟩ : Raw)) (rowV 3 p4_.2.1)))), (5003, some (CPred.at (ptr m5003 0) (deep (fun z0 => cont 32 (⟨z0⟩ : Raw)) (rowV 3 p4_.2.2))))]) (.cons (t := 13) rfl Sub.nil) (.cons (t := 5001) rfl (.cons (t := 5003) rfl SubB.nil)) (.cons (t := 3) rfl (.cons (t := 5) rfl (.cons (t := 6) rfl (.cons (t := 7) rfl (.cons (t := 12) rfl Sub.nil))))) (.cons (t := 5005) rfl SubB.nil) (fun p4_ o_4 h hD4 => ?_)
    refine .open (k := 5001) (g := 5006) rfl rfl (fun s5006 => ?_)
    refine .open (k := 5003) (g := 5007) rfl rfl (fun s5007 => ?_)
    refine .seq ?_
    refine .region [] mixed (by kernel_rfl) ?_
    refine .cons (.lt .none (.s rfl) (.s rfl)) rfl ?_
    refine .nil ?_
    refine .then ?_
    refine .seq ?_
    refine .cond (t := 14) rfl trivial (fun hb5 => ?_) (fun hb5 => ?_)
    · replace h := bif_t h hb5
      refine .skip ?_
      refine .then ?_
      refine .seq ?_
      obtain ⟨j_6, h, hK6⟩ := bind_some h
      unfold layer_turned_L1 at h
      refine .thenJ (ι := ((List Int) × (List Int))) (fun j_6 => []) (fun j_6 => [(5001, some (CPred.at (ptr m5001 0) (deep (fun z0 => cont 32 (⟨z0⟩ : Raw)) (rowV 3 j_6.1)))), (5003, some (CPred.at (ptr m5003 0) (deep (fun z0 => cont 32 (⟨z0⟩ : Raw)) (rowV 3 j_6.2))))]) (fun s => j_6 = s) (.cons (t := 3) rfl (.cons (t := 5) rfl (.cons (t := 6) rfl (.cons (t := 7) rfl (.cons (t := 12) rfl (.cons (t := 13) rfl Sub.nil)))))) (.cons (t := 5005) rfl SubB.nil) ?_ (fun j_6' hj6 => ?_)
      · skip
        refine .block ?_
        refine .seq ?_
        refine .region [] mixed (by kernel_rfl) ?_
        refine .cons (.move .none (.s rfl)) rfl ?_
        refine .cons (.assign .none (.s rfl)) rfl ?_
        refine .nil ?_
        refine .then ?_
        refine .seq ?_
        refine .region [([5001], []), ([], []), ([5006], []), ([5006], []), ([], [])] mixed (by kernel_rfl) ?_
        refine .consA (.loadAt0 (k := 5001) .none tr32 rfl (.s rfl)) rfl ?_
        refine .consA (.move .none (.s rfl)) rfl ?_
        obtain ⟨hn7, h⟩ := need_some h
        refine .consA (.indexAddrO (k := 5006) .none sl32 ty3 (.s rfl) rfl (.s rfl) (fun _ => hn7)) rfl ?_
        refine .consA (.loadElem0 (k := 5006) .none ty3 (.s rfl) rfl (fun _ => hn7)) rfl ?_
        refine .consA (.eqI .none (.s rfl) (.int (by decide))) rfl ?_
        refine .nil ?_
        refine .then ?_
        refine .cond (t := 20) rfl trivial (fun hb8 => ?_) (fun hb8 => ?_)
        · replace h := bif_t h hb8
          refine .region [([5005], []), ([], []), ([5001, 5006, 5003, 5007, 5005], [5001, 5006, 5003, 5007, 5005])] mixed (by kernel_rfl) ?_
          refine .consA (.loadS (k := 5005) .none tr100 rfl (.s rfl) cloV_one) rfl ?_
          refine .consA (.move .none (.s rfl)) rfl ?_
          obtain ⟨r1, hv9, h⟩ := bind_some h
          refine .consW (.callClo [5001, 5006, 5003, 5007, 5005] (Ss := [rep p4_.1]) (Cs := [isV (ptr m5001 0), ref l1, isV (ptr m5003 0), isV (ptr m5005 0)]) (.s rfl) (layer_turned_1_ok hv9) (.cons (.s rfl) .nil) (.cons (k := 5001) rfl (.cons (k := 5006) rfl (.cons (k := 5003) rfl (.cons (k := 5007) rfl (.cons (k := 5005) rfl .nil))))) rfl (by decide) (by decide) (by intro d h; cases h; decide)) rfl rfl ?_
          refine .nil ?_
          refine .blkNormal ?_
          exact Ends.join _ (some_eq h) (.cons (t := 3) rfl (.cons (t := 5) rfl (.cons (t := 6) rfl (.cons (t := 7) rfl (.cons (t := 12) rfl (.cons (t := 13) rfl Sub.nil)))))) (.cons (t := 5001) rfl (.cons (t := 5003) rfl (.cons (t := 5005) rfl SubB.nil)))
        · replace h := bif_f h hb8
          refine .skip ?_
          refine .blkNormal ?_
          refine .close (k := 5001) (g := 5006) (fun z => cont 32 (⟨z⟩ : Raw)) rfl rfl rfl ?_
          refine .close (k := 5003) (g := 5007) (fun z => cont 32 (⟨z⟩ : Raw)) rfl rfl rfl ?_
          exact Ends.join _ (some_eq h) (.cons (t := 3) rfl (.cons (t := 5) rfl (.cons (t := 6) rfl (.cons (t := 7) rfl (.cons (t := 12) rfl (.cons (t := 13) rfl Sub.nil)))))) (.cons (t := 5001) rfl (.cons (t := 5003) rfl (.cons (t := 5005) rfl SubB.nil)))
      · subst hj6; have h := hK6; clear hK6
        refine .open (k := 5001) (g := 5008) rfl rfl (fun s5008 => ?_)
        refine .open (k := 5003) (g := 5009) rfl rfl (fun s5009 => ?_)
        refine .region [] mixed (by kernel_rfl) ?_
        refine .cons (.addW .none (.s rfl) (.int (by decide))) rfl ?_
        refine .cons (.move .none (.s rfl)) rfl ?_
        refine .nil ?_
        refine .close (k := 5001) (g := 5008) (fun z => cont 32 (⟨z⟩ : Raw)) rfl rfl rfl ?_
        refine .close (k := 5003) (g := 5009) (fun z => cont 32 (⟨z⟩ : Raw)) rfl rfl rfl ?_
        exact Ends.againL (some_eq h) (.cons (t := 13) rfl (.cons (t := 3) rfl (.cons (t := 5) rfl (.cons (t := 6) rfl (.cons (t := 7) rfl (.cons (t := 12) rfl Sub.nil)))))) (.cons (t := 5001) rfl (.cons (t := 5003) rfl (.cons (t := 5005) rfl SubB.nil)))
    · replace h := bif_f h hb5
      refine .exit ?_
      refine .thenExit ?_
      refine .thenExit ?_
      refine .blkExit ?_
      refine .close (k := 5001) (g := 5006) (fun z => cont 32 (⟨z⟩ : Raw)) rfl rfl rfl ?_
      refine .close (k := 5003) (g := 5007) (fun z => cont 32 (⟨z⟩ : Raw)) rfl rfl rfl ?_
      replace h := hD4 _ (some_eq h)
      exact Ends.join _ (some_eq h) (.cons (t := 5) rfl (.cons (t := 6) rfl (.cons (t := 7) rfl Sub.nil))) (.cons (t := 5001) rfl (.cons (t := 5003) rfl (.cons (t := 5005) rfl SubB.nil)))
  · subst hj3; have h := hK3; clear hK3
    refine .open (k := 5003) (g := 5010) rfl rfl (fun s5010 => ?_)
    refine .seq ?_
    refine .region [([5003], []), ([5010], [5010])] mixed (by kernel_rfl) ?_
    refine .consA (.loadAt0 (k := 5003) .none tr32 rfl (.s rfl)) rfl ?_
    obtain ⟨r2, hv10, h⟩ := bind_some h
    refine .consW (.callO [5010] (slices_Sort_int_ok hv10) (.cons (.s rfl) .nil) (.cons (k := 5010) rfl .nil) rfl (by decide) (by decide) (by intro d h; cases h; decide)) rfl rfl ?_
    refine .nil ?_
    refine .then ?_
    refine .seq ?_
    refine .region [([5003], []), ([], [])] mixed (by kernel_rfl) ?_
    refine .consA (.loadAt0 (k := 5003) .none tr32 rfl (.s rfl)) rfl ?_
    refine .consA (.assign .none (.s rfl)) rfl ?_
    refine .nil ?_
    refine .then ?_
    refine .freezeRow (g := 5010) (ts := [4]) rfl (.cons (t := 4) rfl trivial .nil) SubB.nil rfl ?_
    refine .ret ?_
    obtain rfl := some_eq h
    exact Ends.ret1 (.inl rfl) Try.results64 (ResOK.tmp rfl trivial Imp.refl)

theorem layer_arcs_ok {l1 : (List Link)} {flow1 : (List Int)} {r : (List Layer_arc)}  (h : layer_arcs l1 flow1 = some r) : FSpecO Try.prog 110 [rep l1, rep flow1] [] (anyV) [some (rowV 129 r)] := by
  unfold layer_arcs at h
  refine FSpecO.intro (n := 40) fnok110 Try.func110 rfl Try.ntmps110 rfl (fun F => ?_)
  refine .seq ?_
  refine .region [] mixed (by kernel_rfl) ?_
  refine .cons (.assign .none (.const (x := ([] : (List Layer_arc))) (fun M w => ⟨_, ⟨none, 0, rfl, Nat.le_refl _, by decide, rfl⟩, rfl⟩))) rfl ?_
  refine .nil ?_
  refine .then ?_
  refine .seq ?_
  refine .region [([], [5])] mixed (by kernel_rfl) ?_
  refine .consW (.nilRow (T := 129) (α := Layer_arc) rfl) rfl rfl ?_
  refine .nil ?_
  refine .then ?_
  refine .nameRow (t := 5) (g := 5001) rfl rfl rfl (fun s5001 => ?_)
  refine .seq ?_
  refine .seq ?_
  refine .region [] mixed (by kernel_rfl) ?_
  refine .cons (.move .none (.s rfl)) rfl ?_
  refine .cons (.len .none sl23 (.s rfl)) rfl ?_
  refine .cons (.move .none (.int (by decide))) rfl ?_
  refine .nil ?_
  refine .then ?_
  obtain ⟨j_1, h, hK1⟩ := bind_some h
  refine .thenJ (ι := (List Layer_arc)) (fun j_1 => []) (fun j_1 => [(5, some (rowV 129 j_1))]) (fun s => j_1 = s) Sub.nil SubB.nil ?_ (fun j_1' hj1 => ?_)
  · skip
    refine .block ?_
    refine .anon (t := 5) (g := 5001) rfl rfl trivial rfl ?_
    refine .rforL h (fun p2_ => [(10, ⟨True, rep p2_.1⟩)]) (fun p2_ => [(5, some (rowV 129 p2_.2))]) (.cons (t := 10) rfl Sub.nil) (.cons (t := 5) rfl SubB.nil) (.cons (t := 1) rfl (.cons (t := 8) rfl (.cons (t := 9) rfl Sub.nil))) SubB.nil (fun p2_ o_2 h hD2 => ?_)
    refine .nameRow (t := 5) (g := 5002) rfl rfl rfl (fun s5002 => ?_)
    refine .seq ?_
    refine .region [] mixed (by kernel_rfl) ?_
    refine .cons (.lt .none (.s rfl) (.s rfl)) rfl ?_
    refine .nil ?_
    refine .then ?_
    refine .seq ?_
    refine .cond (t := 11) rfl trivial (fun hb3 => ?_) (fun hb3 => ?_)
    · replace h := bif_t h hb3
      refine .skip ?_
      refine .then ?_
      refine .seq ?_
      obtain ⟨j_4, h, hK4⟩ := bind_some h
      unfold layer_arcs_L1 at h
      refine .thenJ (ι := (List Layer_arc)) (fun j_4 => []) (fun j_4 => [(5, some (rowV 129 j_4))]) (fun s => j_4 = s) (.cons (t := 1) rfl (.cons (t := 8) rfl (.cons (t := 9) rfl (.cons (t := 10) rfl Sub.nil)))) SubB.nil ?_ (fun j_4' hj4 => ?_)
      · skip
        refine .block ?_
        refine .seq ?_
        refine .region [([], []), ([], []), ([], []), ([], [7]), ([], []), ([7], [7])] mixed (by kernel_rfl) ?_
        refine .consA (.move .none (.s rfl)) rfl ?_
        obtain ⟨hn5, h⟩ := need_some h
        refine .consA (.indexAddr .none sl23 ty79 (.s rfl) (.s rfl) (fun _ => hn5)) rfl ?_
        obtain ⟨v1, hv6, h⟩ := bnd_some h
        refine .consA (.re hv6 (.load .none ty79 (.s rfl))) rfl ?_
        refine .consW (.alloc zo79 rfl) rfl rfl ?_
        refine .consA (.assign .none (.s rfl)) rfl ?_
        refine .consN (.store ty79 rfl rfl (.s rfl)) rfl ?_
        refine .nil ?_
        refine .then ?_
        refine .freeze (t := 7) rfl rfl (.cons (t := 5002) rfl SubB.nil) rfl ?_
        refine .seq ?_
        refine .region [([], []), ([], []), ([], []), ([], []), ([], []), ([], []), ([], []), ([], []), ([5002], [23, 5002]), ([23], [5, 23])] mixed (by kernel_rfl) ?_
        refine .consA (.move .none (.s rfl)) rfl ?_
        refine .consA (.fieldAddr .none fd79_0 hfd79_0 (.s rfl)) rfl ?_
        refine .consA (.load .none ty3 (.s rfl)) rfl ?_
        refine .consA (.fieldAddr .none fd79_1 hfd79_1 (.s rfl)) rfl ?_
        refine .consA (.load .none ty3 (.s rfl)) rfl ?_
        refine .consA (.move .none (.s rfl)) rfl ?_
        refine .consA (.buildF (y := (⟨v1.From, v1.To, p2_.1, 1⟩ : Layer_arc)) .none bu129 zc129 rfl (.cons (.s rfl) (.cons (.s rfl) (.cons (.s rfl) (.cons (.int (by decide)) .nil)))) (.cons rfl sf129_0 (.cons rfl sf129_1 (.cons rfl sf129_2 (.cons rfl sf129_3 .nil))))) rfl ?_
        refine .consA (.buildSlice (xs := [_]) .none sl123 ty129 hz129 (.cons (.s rfl) .nil) rfl (by decide)) rfl ?_
        obtain ⟨hn7, h⟩ := need_some h
        refine .consW (.append (k := 5002) rk123 rfl (.told (.s rfl) rfl) (.s rfl) hn7) rfl rfl ?_
        refine .consW (.passRow rfl (.tmp rfl)) rfl rfl ?_
        refine .nil ?_
        refine .then ?_
        obtain ⟨out1, hv8, h⟩ := bnd_some h
        refine .reB (t := 5) rfl (congrArg (rowV 129) hv8) ?_
        refine .nameRow (t := 5) (g := 5003) rfl rfl rfl (fun s5003 => ?_)
        refine .seq ?_
        refine .region [] mixed (by kernel_rfl) ?_
        refine .cons (.move .none (.s rfl)) rfl ?_
        refine .cons (.move .none (.s rfl)) rfl ?_
        obtain ⟨hn9, h⟩ := need_some h
        refine .cons (.indexAddr .none sl32 ty3 (.s rfl) (.s rfl) (fun _ => hn9)) rfl ?_
        refine .cons (.load .none ty3 (.s rfl)) rfl ?_
        refine .cons (.gt .none (.s rfl) (.int (by decide))) rfl ?_
        refine .nil ?_
        refine .then ?_
        refine .cond (t := 28) rfl trivial (fun hb10 => ?_) (fun hb10 => ?_)
        · replace h := bif_t h hb10
          refine .region [([], []), ([], []), ([], []), ([], []), ([], []), ([], []), ([], []), ([], []), ([5003], [37, 5003]), ([37], [5, 37])] mixed (by kernel_rfl) ?_
          refine .consA (.move .none (.s rfl)) rfl ?_
          refine .consA (.fieldAddr .none fd79_1 hfd79_1 (.s rfl)) rfl ?_
          refine .consA (.load .none ty3 (.s rfl)) rfl ?_
          refine .consA (.fieldAddr .none fd79_0 hfd79_0 (.s rfl)) rfl ?_
          refine .consA (.load .none ty3 (.s rfl)) rfl ?_
          refine .consA (.move .none (.s rfl)) rfl ?_
          refine .consA (.buildF (y := (⟨v1.To, v1.From, p2_.1, (-1)⟩ : Layer_arc)) .none bu129 zc129 rfl (.cons (.s rfl) (.cons (.s rfl) (.cons (.s rfl) (.cons (.int (by decide)) .nil)))) (.cons rfl sf129_0 (.cons rfl sf129_1 (.cons rfl sf129_2 (.cons rfl sf129_3 .nil))))) rfl ?_
          refine .consA (.buildSlice (xs := [_]) .none sl123 ty129 hz129 (.cons (.s rfl) .nil) rfl (by decide)) rfl ?_
          obtain ⟨hn11, h⟩ := need_some h
          refine .consW (.append (k := 5003) rk123 rfl (.told (.s rfl) rfl) (.s rfl) hn11) rfl rfl ?_
          refine .consWD (.passRow rfl (.tmp rfl)) rfl rfl ?_
          refine .nil ?_
          refine .blkNormal ?_
          exact Ends.join _ (some_eq h) (.cons (t := 1) rfl (.cons (t := 8) rfl (.cons (t := 9) rfl (.cons (t := 10) rfl Sub.nil)))) (.cons (t := 5) rfl SubB.nil)
        · replace h := bif_f h hb10
          refine .skip ?_
          refine .blkNormal ?_
          refine .anon (t := 5) (g := 5003) rfl rfl trivial rfl ?_
          exact Ends.join _ (some_eq h) (.cons (t := 1) rfl (.cons (t := 8) rfl (.cons (t := 9) rfl (.cons (t := 10) rfl Sub.nil)))) (.cons (t := 5) rfl SubB.nil)
      · subst hj4; have h := hK4; clear hK4
        refine .nameRow (t := 5) (g := 5004) rfl rfl rfl (fun s5004 => ?_)
        refine .region [] mixed (by kernel_rfl) ?_
        refine .cons (.addW .none (.s rfl) (.int (by decide))) rfl ?_
        refine .cons (.move .none (.s rfl)) rfl ?_
        refine .nil ?_
        refine .anon (t := 5) (g := 5004) rfl rfl trivial rfl ?_
        exact Ends.againL (some_eq h) (.cons (t := 10) rfl (.cons (t := 1) rfl (.cons (t := 8) rfl (.cons (t := 9) rfl Sub.nil)))) (.cons (t := 5) rfl SubB.nil)
    · replace h := bif_f h hb3
      refine .exit ?_
      refine .thenExit ?_
      refine .thenExit ?_
      refine .blkExit ?_
      refine .anon (t := 5) (g := 5002) rfl rfl trivial rfl ?_
      replace h := hD2 _ (some_eq h)
      exact Ends.join _ (some_eq h) Sub.nil (.cons (t := 5) rfl SubB.nil)
  · subst hj1; have h := hK1; clear hK1
    refine .nameRow (t := 5) (g := 5005) rfl rfl rfl (fun s5005 => ?_)
    refine .seq ?_
    refine .region [] mixed (by kernel_rfl) ?_
    refine .cons (.move .none (.s rfl)) rfl ?_
    refine .cons (.assign .none (.s rfl)) rfl ?_
    refine .nil ?_
    refine .then ?_
    refine .ret ?_
    refine .anon (t := 4) (g := 5005) rfl rfl trivial rfl ?_
    obtain rfl := some_eq h
    exact Ends.ret1O (.inl rfl) [4] Try.results110 (by decide) (.res rfl rfl) (ResOK.tmp rfl trivial (fun _ _ _ _ => trivial))

theorem layer_raised_ok {n1 : Int} {l1 : (List Layer_arc)} {r : ((List Int) × (List Layer_arc))}  (h : layer_raised n1 l1 = some r) : FSpec Try.prog 109 [rep n1, rep l1] (tup [rep r.1, repN r.2]) := by
  unfold layer_raised at h
  refine FSpec.intro (n := 95) fnok109 Try.func109 rfl Try.ntmps109 rfl (fun F => ?_)
  refine .seq ?_
  refine .region [([], []), ([], [5])] mixed (by kernel_rfl) ?_
  refine .consA (.assign .none (.const (x := ([] : (List Int))) (fun M w => ⟨_, ⟨none, 0, rfl, Nat.le_refl _, by decide, rfl⟩, rfl⟩))) rfl ?_
  refine .consW (.nilRow (T := 129) (α := Layer_arc) rfl) rfl rfl ?_
  refine .nil ?_
  refine .then ?_
  refine .nameRow (t := 5) (g := 5001) rfl rfl rfl (fun s5001 => ?_)
  refine .seq ?_
  refine .region [([], []), ([], [13]), ([13], [4, 13])] mixed (by kernel_rfl) ?_
  refine .consA (.move .none (.s rfl)) rfl ?_
  obtain ⟨hn1, h⟩ := need_some h
  refine .consW (.makeSlice rk32 zo3 rfl (.s rfl) (.s rfl) hn1) rfl rfl ?_
  refine .consW (.passRow rfl (.tmp rfl)) rfl rfl ?_
  refine .nil ?_
  refine .then ?_
  obtain ⟨ranks1, hv2, h⟩ := bnd_some h
  refine .reB (t := 4) rfl (congrArg (rowV 3) hv2) ?_
  refine .nameRow (t := 4) (g := 5002) rfl rfl rfl (fun s5002 => ?_)
  refine .seq ?_
  refine .region [([], []), ([], [15]), ([15], [6, 15])] mixed (by kernel_rfl) ?_
  refine .consA (.move .none (.s rfl)) rfl ?_
  obtain ⟨hn3, h⟩ := need_some h
  refine .consW (.makeSlice rk32 zo3 rfl (.s rfl) (.s rfl) hn3) rfl rfl ?_
  refine .consW (.passRow rfl (.tmp rfl)) rfl rfl ?_
  refine .nil ?_
  refine .then ?_
  obtain ⟨by1, hv4, h⟩ := bnd_some h
  refine .reB (t := 6) rfl (congrArg (rowV 3) hv4) ?_
  refine .nameRow (t := 6) (g := 5003) rfl rfl rfl (fun s5003 => ?_)
  refine .seq ?_
  refine .region [] mixed (by kernel_rfl) ?_
  refine .cons (.assign .none (.int (by decide))) rfl ?_
  refine .nil ?_
  refine .then ?_
  refine .seq ?_
  refine .seq ?_
  refine .region [] mixed (by kernel_rfl) ?_
  refine .cons (.move .none (.s rfl)) rfl ?_
  refine .cons (.addW .none (.s rfl) (.int (by decide))) rfl ?_
  refine .cons (.move .none (.int (by decide))) rfl ?_
  refine .nil ?_
  refine .then ?_
  obtain ⟨o_5, h, hK5⟩ := bindR_some h
  refine .thenJ (ι := (Int × (List Int) × (List Int))) (fun j_5 => [(7, ⟨True, rep j_5.1⟩)]) (fun j_5 => [(5002, some (CPred.at s5002 (rowV 3 j_5.2.1))), (5003, some (CPred.at s5003 (rowV 3 j_5.2.2)))]) (fun s => o_5 = Res.nx s) (.cons (t := 0) rfl (.cons (t := 1) rfl (.cons (t := 4) rfl (.cons (t := 5) rfl (.cons (t := 6) rfl Sub.nil))))) (.cons (t := 5001) rfl SubB.nil) ?_ (fun j_5 hj5 => ?_)
  · skip
    refine .block ?_
    refine .rforEL h (fun p6_ => [(18, ⟨True, rep p6_.1⟩), (7, ⟨True, rep p6_.2.1⟩)]) (fun p6_ => [(5002, some (CPred.at s5002 (rowV 3 p6_.2.2.1))), (5003, some (CPred.at s5003 (rowV 3 p6_.2.2.2)))]) (.cons (t := 18) rfl (.cons (t := 7) rfl Sub.nil)) (.cons (t := 5002) rfl (.cons (t := 5003) rfl SubB.nil)) (.cons (t := 0) rfl (.cons (t := 1) rfl (.cons (t := 4) rfl (.cons (t := 5) rfl (.cons (t := 6) rfl (.cons (t := 17) rfl Sub.nil)))))) (.cons (t := 5001) rfl SubB.nil) (fun p6_ o_6 h hD6 => ?_)
    refine .seq ?_
    refine .region [] mixed (by kernel_rfl) ?_
    refine .cons (.lt .none (.s rfl) (.s rfl)) rfl ?_
    refine .nil ?_
    refine .then ?_
    refine .seq ?_
    refine .cond (t := 19) rfl trivial (fun hb7 => ?_) (fun hb7 => ?_)
    · replace h := bif_t h hb7
      refine .skip ?_
      refine .then ?_
      refine .seq ?_
      obtain ⟨o_8, h, hK8⟩ := bindD_some h
      unfold layer_raised_L1 at h
      refine .thenJ (ι := (Int × (List Int) × (List Int))) (fun j_8 => [(7, ⟨True, rep j_8.1⟩)]) (fun j_8 => [(5002, some (CPred.at s5002 (rowV 3 j_8.2.1))), (5003, some (CPred.at s5003 (rowV 3 j_8.2.2)))]) (fun s => o_8 = Res.nx s) (.cons (t := 0) rfl (.cons (t := 1) rfl (.cons (t := 4) rfl (.cons (t := 5) rfl (.cons (t := 6) rfl (.cons (t := 17) rfl (.cons (t := 18) rfl Sub.nil))))))) (.cons (t := 5001) rfl SubB.nil) ?_ (fun j_8 hj8 => ?_)
      · skip
        refine .block ?_
        refine .seq ?_
        refine .region [] mixed (by kernel_rfl) ?_
        refine .cons (.assign .none (.int (by decide))) rfl ?_
        refine .nil ?_
        refine .then ?_
        refine .seq ?_
        refine .seq ?_
        refine .region [] mixed (by kernel_rfl) ?_
        refine .cons (.move .none (.s rfl)) rfl ?_
        refine .cons (.len .none sl123 (.s rfl)) rfl ?_
        refine .cons (.move .none (.int (by decide))) rfl ?_
        refine .nil ?_
        refine .then ?_
        obtain ⟨j_9, h, hK9⟩ := bind_some h
        refine .thenJ (ι := (Int × (List Int) × (List Int))) (fun j_9 => [(7, ⟨True, rep j_9.1⟩)]) (fun j_9 => [(5002, some (CPred.at s5002 (rowV 3 j_9.2.1))), (5003, some (CPred.at s5003 (rowV 3 j_9.2.2)))]) (fun s => j_9 = s) (.cons (t := 0) rfl (.cons (t := 1) rfl (.cons (t := 4) rfl (.cons (t := 5) rfl (.cons (t := 6) rfl (.cons (t := 17) rfl (.cons (t := 18) rfl Sub.nil))))))) (.cons (t := 5001) rfl SubB.nil) ?_ (fun j_9' hj9 => ?_)
        · skip
          refine .block ?_
          refine .rforL h (fun p10_ => [(22, ⟨True, rep p10_.1⟩), (7, ⟨True, rep p10_.2.1⟩)]) (fun p10_ => [(5002, some (CPred.at s5002 (rowV 3 p10_.2.2.1))), (5003, some (CPred.at s5003 (rowV 3 p10_.2.2.2)))]) (.cons (t := 22) rfl (.cons (t := 7) rfl Sub.nil)) (.cons (t := 5002) rfl (.cons (t := 5003) rfl SubB.nil)) (.cons (t := 0) rfl (.cons (t := 1) rfl (.cons (t := 4) rfl (.cons (t := 5) rfl (.cons (t := 6) rfl (.cons (t := 17) rfl (.cons (t := 18) rfl (.cons (t := 20) rfl (.cons (t := 21) rfl Sub.nil))))))))) (.cons (t := 5001) rfl SubB.nil) (fun p10_ o_10 h hD10 => ?_)
          refine .seq ?_
          refine .region [] mixed (by kernel_rfl) ?_
          refine .cons (.lt .none (.s rfl) (.s rfl)) rfl ?_
          refine .nil ?_
          refine .then ?_
          refine .seq ?_
          refine .cond (t := 23) rfl trivial (fun hb11 => ?_) (fun hb11 => ?_)
          · replace h := bif_t h hb11
            refine .skip ?_
            refine .then ?_
            refine .seq ?_
            obtain ⟨j_12, h, hK12⟩ := bind_some h
            unfold layer_raised_L2 at h
            refine .thenJ (ι := (Int × (List Int) × (List Int))) (fun j_12 => [(7, ⟨True, rep j_12.1⟩)]) (fun j_12 => [(5002, some (CPred.at s5002 (rowV 3 j_12.2.1))), (5003, some (CPred.at s5003 (rowV 3 j_12.2.2)))]) (fun s => j_12 = s) (.cons (t := 0) rfl (.cons (t := 1) rfl (.cons (t := 4) rfl (.cons (t := 5) rfl (.cons (t := 6) rfl (.cons (t := 17) rfl (.cons (t := 18) rfl (.cons (t := 20) rfl (.cons (t := 21) rfl (.cons (t := 22) rfl Sub.nil)))))))))) (.cons (t := 5001) rfl SubB.nil) ?_ (fun j_12' hj12 => ?_)
            · skip
              refine .block ?_
              refine .seq ?_
              refine .region [([], []), ([], []), ([], []), ([], [9]), ([], []), ([9], [9])] mixed (by kernel_rfl) ?_
              refine .consA (.move .none (.s rfl)) rfl ?_
              obtain ⟨hn13, h⟩ := need_some h
              refine .consA (.indexAddr .none sl123 ty129 (.s rfl) (.s rfl) (fun _ => hn13)) rfl ?_
              obtain ⟨v1, hv14, h⟩ := bnd_some h
              refine .consA (.re hv14 (.load .none ty129 (.s rfl))) rfl ?_
              refine .consW (.alloc zo129 rfl) rfl rfl ?_
              refine .consA (.assign .none (.s rfl)) rfl ?_
              refine .consN (.store ty129 rfl rfl (.s rfl)) rfl ?_
              refine .nil ?_
              refine .then ?_
              refine .freeze (t := 9) rfl rfl (.cons (t := 5001) rfl (.cons (t := 5002) rfl (.cons (t := 5003) rfl SubB.nil))) rfl ?_
              refine .seq ?_
              refine .region [([], []), ([], []), ([], []), ([5002], []), ([5002], []), ([], []), ([], []), ([], []), ([], []), ([], []), ([], []), ([5002], []), ([5002], []), ([], [])] mixed (by kernel_rfl) ?_
              refine .consA (.move .none (.s rfl)) rfl ?_
              refine .consA (.fieldAddr .none fd129_0 hfd129_0 (.s rfl)) rfl ?_
              refine .consA (.load .none ty3 (.s rfl)) rfl ?_
              obtain ⟨hn15, h⟩ := need_some h
              refine .consA (.indexAddrO (k := 5002) .none sl32 ty3 (.s rfl) rfl (.s rfl) (fun _ => hn15)) rfl ?_
              refine .consA (.loadElem0 (k := 5002) .none ty3 (.s rfl) rfl (fun _ => hn15)) rfl ?_
              refine .consA (.fieldAddr .none fd129_3 hfd129_3 (.s rfl)) rfl ?_
              refine .consA (.load .none ty3 (.s rfl)) rfl ?_
              refine .consA (.addW .none (.s rfl) (.s rfl)) rfl ?_
              refine .consA (.move .none (.s rfl)) rfl ?_
              refine .consA (.fieldAddr .none fd129_1 hfd129_1 (.s rfl)) rfl ?_
              refine .consA (.load .none ty3 (.s rfl)) rfl ?_
              obtain ⟨hn16, h⟩ := need_some h
              refine .consA (.indexAddrO (k := 5002) .none sl32 ty3 (.s rfl) rfl (.s rfl) (fun _ => hn16)) rfl ?_
              refine .consA (.loadElem0 (k := 5002) .none ty3 (.s rfl) rfl (fun _ => hn16)) rfl ?_
              refine .consA (.gt .none (.s rfl) (.s rfl)) rfl ?_
              refine .nil ?_
              refine .then ?_
              refine .cond (t := 40) rfl trivial (fun hb17 => ?_) (fun hb17 => ?_)
              · replace h := bif_t h hb17
                refine .seq ?_
                refine .region [([], []), ([], []), ([], []), ([], []), ([], []), ([], []), ([5002], []), ([5002], []), ([], []), ([], []), ([], []), ([5002], []), ([5002], [5002])] mixed (by kernel_rfl) ?_
                refine .consA (.move .none (.s rfl)) rfl ?_
                refine .consA (.fieldAddr .none fd129_1 hfd129_1 (.s rfl)) rfl ?_
                refine .consA (.load .none ty3 (.s rfl)) rfl ?_
                refine .consA (.move .none (.s rfl)) rfl ?_
                refine .consA (.fieldAddr .none fd129_0 hfd129_0 (.s rfl)) rfl ?_
                refine .consA (.load .none ty3 (.s rfl)) rfl ?_
                obtain ⟨hn18, h⟩ := need_some h
                refine .consA (.indexAddrO (k := 5002) .none sl32 ty3 (.s rfl) rfl (.s rfl) (fun _ => hn18)) rfl ?_
                refine .consA (.loadElem0 (k := 5002) .none ty3 (.s rfl) rfl (fun _ => hn18)) rfl ?_
                refine .consA (.fieldAddr .none fd129_3 hfd129_3 (.s rfl)) rfl ?_
                refine .consA (.load .none ty3 (.s rfl)) rfl ?_
                obtain ⟨v2, hv19, h⟩ := bnd_some h
                refine .consA (.re hv19 (.addW .none (.s rfl) (.s rfl))) rfl ?_
                obtain ⟨hn20, h⟩ := need_some h
                refine .consA (.indexAddrO (k := 5002) .none sl32 ty3 (.s rfl) rfl (.s rfl) (fun _ => hn20)) rfl ?_
                refine .consN (.storeElem0 (k := 5002) ty3 (.s rfl) rfl (.s rfl) hn20) rfl ?_
                refine .nil ?_
                refine .then ?_
                obtain ⟨ranks2, hv21, h⟩ := bnd_some h
                refine .reB (t := 5002) rfl (congrArg (fun y => CPred.at s5002 (rowV 3 y)) hv21) ?_
                refine .seq ?_
                refine .region [([], []), ([], []), ([], []), ([], []), ([5003], []), ([5003], [5003])] mixed (by kernel_rfl) ?_
                refine .consA (.move .none (.s rfl)) rfl ?_
                refine .consA (.fieldAddr .none fd129_1 hfd129_1 (.s rfl)) rfl ?_
                refine .consA (.load .none ty3 (.s rfl)) rfl ?_
                refine .consA (.move .none (.s rfl)) rfl ?_
                obtain ⟨hn22, h⟩ := need_some h
                refine .consA (.indexAddrO (k := 5003) .none sl32 ty3 (.s rfl) rfl (.s rfl) (fun _ => hn22)) rfl ?_
                refine .consN (.storeElem0 (k := 5003) ty3 (.s rfl) rfl (.s rfl) hn22) rfl ?_
                refine .nil ?_
                refine .then ?_
                obtain ⟨by2, hv23, h⟩ := bnd_some h
                refine .reB (t := 5003) rfl (congrArg (fun y => CPred.at s5003 (rowV 3 y)) hv23) ?_
                refine .region [] mixed (by kernel_rfl) ?_
                refine .cons (.fieldAddr .none fd129_1 hfd129_1 (.s rfl)) rfl ?_
                refine .cons (.load .none ty3 (.s rfl)) rfl ?_
                refine .cons (.assign .none (.s rfl)) rfl ?_
                refine .nil ?_
                refine .blkNormal ?_
                exact Ends.join _ (some_eq h) (.cons (t := 7) rfl (.cons (t := 0) rfl (.cons (t := 1) rfl (.cons (t := 4) rfl (.cons (t := 5) rfl (.cons (t := 6) rfl (.cons (t := 17) rfl (.cons (t := 18) rfl (.cons (t := 20) rfl (.cons (t := 21) rfl (.cons (t := 22) rfl Sub.nil))))))))))) (.cons (t := 5002) rfl (.cons (t := 5003) rfl (.cons (t := 5001) rfl SubB.nil)))
              · replace h := bif_f h hb17
                refine .skip ?_
                refine .blkNormal ?_
                exact Ends.join _ (some_eq h) (.cons (t := 7) rfl (.cons (t := 0) rfl (.cons (t := 1) rfl (.cons (t := 4) rfl (.cons (t := 5) rfl (.cons (t := 6) rfl (.cons (t := 17) rfl (.cons (t := 18) rfl (.cons (t := 20) rfl (.cons (t := 21) rfl (.cons (t := 22) rfl Sub.nil))))))))))) (.cons (t := 5002) rfl (.cons (t := 5003) rfl (.cons (t := 5001) rfl SubB.nil)))
            · subst hj12; have h := hK12; clear hK12
              refine .region [] mixed (by kernel_rfl) ?_
              refine .cons (.addW .none (.s rfl) (.int (by decide))) rfl ?_
              refine .cons (.move .none (.s rfl)) rfl ?_
              refine .nil ?_
              exact Ends.againL (some_eq h) (.cons (t := 22) rfl (.cons (t := 7) rfl (.cons (t := 0) rfl (.cons (t := 1) rfl (.cons (t := 4) rfl (.cons (t := 5) rfl (.cons (t := 6) rfl (.cons (t := 17) rfl (.cons (t := 18) rfl (.cons (t := 20) rfl (.cons (t := 21) rfl Sub.nil))))))))))) (.cons (t := 5002) rfl (.cons (t := 5003) rfl (.cons (t := 5001) rfl SubB.nil)))
          · replace h := bif_f h hb11
            refine .exit ?_
            refine .thenExit ?_
            refine .thenExit ?_
            refine .blkExit ?_
            replace h := hD10 _ (some_eq h)
            exact Ends.join _ (some_eq h) (.cons (t := 7) rfl (.cons (t := 0) rfl (.cons (t := 1) rfl (.cons (t := 4) rfl (.cons (t := 5) rfl (.cons (t := 6) rfl (.cons (t := 17) rfl (.cons (t := 18) rfl Sub.nil)))))))) (.cons (t := 5002) rfl (.cons (t := 5003) rfl (.cons (t := 5001) rfl SubB.nil)))
        · subst hj9; have h := hK9; clear hK9
          refine .seq ?_
          refine .region [] mixed (by kernel_rfl) ?_
          refine .cons (.move .none (.s rfl)) rfl ?_
          refine .cons (.lt .none (.s rfl) (.int (by decide))) rfl ?_
          refine .nil ?_
          refine .then ?_
          refine .cond (t := 62) rfl trivial (fun hb24 => ?_) (fun hb24 => ?_)
          · replace h := bif_t h hb24
            refine .seq ?_
            refine .region [] mixed (by kernel_rfl) ?_
            refine .cons (.move .none (.s rfl)) rfl ?_
            refine .cons (.assign .none (.s rfl)) rfl ?_
            refine .cons (.assign .none (Opd.nilN (α := Layer_arc))) rfl ?_
            refine .nil ?_
            refine .then ?_
            refine .freezeRow (g := 5002) (ts := [4]) rfl (.cons (t := 4) rfl trivial .nil) SubB.nil rfl ?_
            refine .ret ?_
            refine .blkRet ?_
            refine .thenRet ?_
            refine .thenRet ?_
            refine .blkRet ?_
            refine .thenRet ?_
            replace h := resd_ab hK8 (some_eq h)
            replace h := hD6 _ (some_eq h)
            replace h := resb_ab hK5 (some_eq h)
            obtain rfl := some_eq h
            exact Ends.ret2 (.inl rfl) Try.results109 (ResOK.tmp rfl trivial Imp.refl) (ResOK.tmp rfl trivial Imp.refl)
          · replace h := bif_f h hb24
            refine .skip ?_
            refine .blkNormal ?_
            exact Ends.join _ (some_eq h) (.cons (t := 7) rfl (.cons (t := 0) rfl (.cons (t := 1) rfl (.cons (t := 4) rfl (.cons (t := 5) rfl (.cons (t := 6) rfl (.cons (t := 17) rfl (.cons (t := 18) rfl Sub.nil)))))))) (.cons (t := 5002) rfl (.cons (t := 5003) rfl (.cons (t := 5001) rfl SubB.nil)))
      · have h := resd_nx hK8 hj8
        refine .region [] mixed (by kernel_rfl) ?_
        refine .cons (.addW .none (.s rfl) (.int (by decide))) rfl ?_
        refine .cons (.move .none (.s rfl)) rfl ?_
        refine .nil ?_
        exact Ends.againL (some_eq h) (.cons (t := 18) rfl (.cons (t := 7) rfl (.cons (t := 0) rfl (.cons (t := 1) rfl (.cons (t := 4) rfl (.cons (t := 5) rfl (.cons (t := 6) rfl (.cons (t := 17) rfl Sub.nil)))))))) (.cons (t := 5002) rfl (.cons (t := 5003) rfl (.cons (t := 5001) rfl SubB.nil)))
    · replace h := bif_f h hb7
      refine .exit ?_
      refine .thenExit ?_
      refine .thenExit ?_
      refine .blkExit ?_
      replace h := hD6 _ (some_eq h)
      exact Ends.join _ (some_eq h) (.cons (t := 7) rfl (.cons (t := 0) rfl (.cons (t := 1) rfl (.cons (t := 4) rfl (.cons (t := 5) rfl (.cons (t := 6) rfl Sub.nil)))))) (.cons (t := 5002) rfl (.cons (t := 5003) rfl (.cons (t := 5001) rfl SubB.nil)))
  · have h := resb_nx hK5 hj5
    refine .freezeRow (g := 5003) (ts := [6]) rfl (.cons (t := 6) rfl trivial .nil) (.cons (t := 5001) rfl SubB.nil) rfl ?_
    refine .seq ?_
    refine .seq ?_
    refine .region [] mixed (by kernel_rfl) ?_
    refine .cons (.move .none (.s rfl)) rfl ?_
    refine .cons (.move .none (.int (by decide))) rfl ?_
    refine .nil ?_
    refine .then ?_
    obtain ⟨j_25, h, hK25⟩ := bind_some h
    refine .thenJ (ι := Int) (fun j_25 => [(7, ⟨True, rep j_25⟩)]) (fun j_25 => []) (fun s => j_25 = s) (.cons (t := 1) rfl (.cons (t := 5) rfl (.cons (t := 6) rfl Sub.nil))) (.cons (t := 5001) rfl SubB.nil) ?_ (fun j_25' hj25 => ?_)
    · skip
      refine .block ?_
      refine .rforL h (fun p26_ => [(66, ⟨True, rep p26_.1⟩), (7, ⟨True, rep p26_.2⟩)]) (fun p26_ => []) (.cons (t := 66) rfl (.cons (t := 7) rfl Sub.nil)) SubB.nil (.cons (t := 1) rfl (.cons (t := 5) rfl (.cons (t := 6) rfl (.cons (t := 65) rfl Sub.nil)))) (.cons (t := 5001) rfl SubB.nil) (fun p26_ o_26 h hD26 => ?_)
      refine .seq ?_
      refine .region [] mixed (by kernel_rfl) ?_
      refine .cons (.lt .none (.s rfl) (.s rfl)) rfl ?_
      refine .nil ?_
      refine .then ?_
      refine .seq ?_
      refine .cond (t := 67) rfl trivial (fun hb27 => ?_) (fun hb27 => ?_)
      · replace h := bif_t h hb27
        refine .skip ?_
        refine .then ?_
        refine .seq ?_
        obtain ⟨j_28, h, hK28⟩ := bind_some h
        unfold layer_raised_L3 at h
        refine .thenJ (ι := Int) (fun j_28 => [(7, ⟨True, rep j_28⟩)]) (fun j_28 => []) (fun s => j_28 = s) (.cons (t := 1) rfl (.cons (t := 5) rfl (.cons (t := 6) rfl (.cons (t := 65) rfl (.cons (t := 66) rfl Sub.nil))))) (.cons (t := 5001) rfl SubB.nil) ?_ (fun j_28' hj28 => ?_)
        · skip
          refine .block ?_
          refine .region [] mixed (by kernel_rfl) ?_
          refine .cons (.move .none (.s rfl)) rfl ?_
          refine .cons (.move .none (.s rfl)) rfl ?_
          refine .cons (.move .none (.s rfl)) rfl ?_
          obtain ⟨hn29, h⟩ := need_some h
          refine .cons (.indexAddr .none sl32 ty3 (.s rfl) (.s rfl) (fun _ => hn29)) rfl ?_
          refine .cons (.load .none ty3 (.s rfl)) rfl ?_
          obtain ⟨hn30, h⟩ := need_some h
          refine .cons (.indexAddr .none sl123 ty129 (.s rfl) (.s rfl) (fun _ => hn30)) rfl ?_
          refine .cons (.fieldAddr .none fd129_0 hfd129_0 (.s rfl)) rfl ?_
          refine .cons (.load .none ty3 (.s rfl)) rfl ?_
          obtain ⟨last1, hv31, h⟩ := bnd_some h
          refine .cons (.re hv31 (.assign .none (.s rfl))) rfl ?_
          refine .nil ?_
          refine .blkNormal ?_
          exact Ends.join _ (some_eq h) (.cons (t := 7) rfl (.cons (t := 1) rfl (.cons (t := 5) rfl (.cons (t := 6) rfl (.cons (t := 65) rfl (.cons (t := 66) rfl Sub.nil)))))) (.cons (t := 5001) rfl SubB.nil)
        · subst hj28; have h := hK28; clear hK28
          refine .region [] mixed (by kernel_rfl) ?_
          refine .cons (.addW .none (.s rfl) (.int (by decide))) rfl ?_
          refine .cons (.move .none (.s rfl)) rfl ?_
          refine .nil ?_
          exact Ends.againL (some_eq h) (.cons (t := 66) rfl (.cons (t := 7) rfl (.cons (t := 1) rfl (.cons (t := 5) rfl (.cons (t := 6) rfl (.cons (t := 65) rfl Sub.nil)))))) (.cons (t := 5001) rfl SubB.nil)
      · replace h := bif_f h hb27
        refine .exit ?_
        refine .thenExit ?_
        refine .thenExit ?_
        refine .blkExit ?_
        replace h := hD26 _ (some_eq h)
        exact Ends.join _ (some_eq h) (.cons (t := 7) rfl (.cons (t := 1) rfl (.cons (t := 5) rfl (.cons (t := 6) rfl Sub.nil)))) (.cons (t := 5001) rfl SubB.nil)
    · subst hj25; have h := hK25; clear hK25
      refine .seq ?_
      refine .region [] mixed (by kernel_rfl) ?_
      refine .cons (.move .none (.s rfl)) rfl ?_
      refine .cons (.assign .none (.s rfl)) rfl ?_
      refine .nil ?_
      refine .then ?_
      refine .block ?_
      refine .anon (t := 5) (g := 5001) rfl rfl trivial rfl ?_
      refine .loopL h (fun s32_ => [(10, ⟨True, rep s32_.2⟩)]) (fun s32_ => [(5, some (rowV 129 s32_.1))]) (.cons (t := 10) rfl Sub.nil) (.cons (t := 5) rfl SubB.nil) (.cons (t := 1) rfl (.cons (t := 6) rfl (.cons (t := 7) rfl Sub.nil))) SubB.nil (fun s32_ o_32 h hD32 => ?_)
      unfold layer_raised_L4 at h
      refine .nameRow (t := 5) (g := 5004) rfl rfl rfl (fun s5004 => ?_)
      refine .block ?_
      refine .seq ?_
      refine .region [([], []), ([], []), ([], []), ([], []), ([], []), ([], []), ([], []), ([], [11]), ([11], [11])] mixed (by kernel_rfl) ?_
      refine .consA (.move .none (.s rfl)) rfl ?_
      refine .consA (.move .none (.s rfl)) rfl ?_
      refine .consA (.move .none (.s rfl)) rfl ?_
      obtain ⟨hn33, h⟩ := need_some h
      refine .consA (.indexAddr .none sl32 ty3 (.s rfl) (.s rfl) (fun _ => hn33)) rfl ?_
      refine .consA (.load .none ty3 (.s rfl)) rfl ?_
      obtain ⟨hn34, h⟩ := need_some h
      refine .consA (.indexAddr .none sl123 ty129 (.s rfl) (.s rfl) (fun _ => hn34)) rfl ?_
      obtain ⟨v3, hv35, h⟩ := bnd_some h
      refine .consA (.re hv35 (.load .none ty129 (.s rfl))) rfl ?_
      refine .consW (.alloc zo129 rfl) rfl rfl ?_
      refine .consN (.store ty129 rfl rfl (.s rfl)) rfl ?_
      refine .nil ?_
      refine .then ?_
      refine .freeze (t := 11) rfl rfl (.cons (t := 5004) rfl SubB.nil) rfl ?_
      refine .seq ?_
      refine .region [([], []), ([], []), ([], []), ([5004], [88, 5004]), ([88], [5, 88])] mixed (by kernel_rfl) ?_
      refine .consA (.move .none (.s rfl)) rfl ?_
      refine .consA (.load .none ty129 (.s rfl)) rfl ?_
      refine .consA (.buildSlice (xs := [_]) .none sl123 ty129 hz129 (.cons (.s rfl) .nil) rfl (by decide)) rfl ?_
      obtain ⟨hn36, h⟩ := need_some h
      refine .consW (.append (k := 5004) rk123 rfl (.told (.s rfl) rfl) (.s rfl) hn36) rfl rfl ?_
      refine .consW (.passRow rfl (.tmp rfl)) rfl rfl ?_
      refine .nil ?_
      refine .then ?_
      obtain ⟨circle1, hv37, h⟩ := bnd_some h
      refine .reB (t := 5) rfl (congrArg (rowV 129) hv37) ?_
      refine .nameRow (t := 5) (g := 5005) rfl rfl rfl (fun s5005 => ?_)
      refine .seq ?_
      refine .region [] mixed (by kernel_rfl) ?_
      refine .cons (.fieldAddr .none fd129_0 hfd129_0 (.s rfl)) rfl ?_
      refine .cons (.load .none ty3 (.s rfl)) rfl ?_
      refine .cons (.assign .none (.s rfl)) rfl ?_
      refine .nil ?_
      refine .then ?_
      refine .seq ?_
      refine .region [] mixed (by kernel_rfl) ?_
      refine .cons (.move .none (.s rfl)) rfl ?_
      refine .cons (.move .none (.s rfl)) rfl ?_
      refine .cons (.eqI .none (.s rfl) (.s rfl)) rfl ?_
      refine .nil ?_
      refine .then ?_
      refine .cond (t := 93) rfl trivial (fun hb38 => ?_) (fun hb38 => ?_)
      · replace h := bif_t h hb38
        refine .seq ?_
        refine .region [([], []), ([], []), ([], [])] mixed (by kernel_rfl) ?_
        refine .consA (.move .none (.s rfl)) rfl ?_
        refine .consA (.assign .none (.const (x := ([] : (List Int))) (fun M w => ⟨_, ⟨none, 0, rfl, Nat.le_refl _, by decide, rfl⟩, rfl⟩))) rfl ?_
        refine .consD (.assign .none (.s rfl)) rfl ?_
        refine .nil ?_
        refine .then ?_
        refine .freezeRow (g := 5005) (ts := [5]) rfl (.cons (t := 5) rfl trivial .nil) SubB.nil rfl ?_
        refine .ret ?_
        refine .blkRet ?_
        refine .thenRet ?_
        refine .blkRet ?_
        obtain ⟨hn39, h⟩ := need_some h
        replace h := hD32 _ (some_eq h)
        obtain rfl := some_eq h
        exact Ends.ret2 (.inl rfl) Try.results109 (ResOK.tmp rfl trivial Imp.refl) (ResOK.tmp rfl trivial (Imp.toN hn39))
      · replace h := bif_f h hb38
        refine .skip ?_
        refine .blkNormal ?_
        refine .anon (t := 5) (g := 5005) rfl rfl trivial rfl ?_
        exact Ends.againL (some_eq h) (.cons (t := 10) rfl (.cons (t := 1) rfl (.cons (t := 6) rfl (.cons (t := 7) rfl Sub.nil)))) (.cons (t := 5) rfl SubB.nil)

theorem layer_pieces_ok {n1 : Int} {l1 : (List Link)} {r : (List Int)}  (h : layer_pieces n1 l1 = some r) : FSpec Try.prog 132 [rep n1, rep l1] (rep r) := by
  unfold layer_pieces at h
  refine FSpec.intro (n := 55) fnok132 Try.func132 rfl Try.ntmps132 rfl (fun F => ?_)
  refine .seq ?_
  refine .region [] mixed (by kernel_rfl) ?_
  refine .cons (.assign .none (.const (x := ([] : (List Int))) (fun M w => ⟨_, ⟨none, 0, rfl, Nat.le_refl _, by decide, rfl⟩, rfl⟩))) rfl ?_
  refine .nil ?_
  refine .then ?_
  refine .seq ?_
  refine .region [([], []), ([], [11]), ([11], [5, 11])] mixed (by kernel_rfl) ?_
  refine .consA (.move .none (.s rfl)) rfl ?_
  obtain ⟨hn1, h⟩ := need_some h
  refine .consW (.makeSlice rk32 zo3 rfl (.s rfl) (.s rfl) hn1) rfl rfl ?_
  refine .consW (.passRow rfl (.tmp rfl)) rfl rfl ?_
  refine .nil ?_
  refine .then ?_
  obtain ⟨of1, hv2, h⟩ := bnd_some h
  refine .reB (t := 5) rfl (congrArg (rowV 3) hv2) ?_
  refine .nameRow (t := 5) (g := 5001) rfl rfl rfl (fun s5001 => ?_)
  refine .seq ?_
  refine .seq ?_
  refine .region [([], []), ([5001], []), ([], [])] mixed (by kernel_rfl) ?_
  refine .consA (.move .none (.s rfl)) rfl ?_
  refine .consA (.lenO (k := 5001) sl32 (.told (.s rfl) rfl)) rfl ?_
  refine .consA (.move .none (.int (by decide))) rfl ?_
  refine .nil ?_
  refine .then ?_
  obtain ⟨j_3, h, hK3⟩ := bind_some h
  refine .thenJ (ι := (List Int)) (fun j_3 => []) (fun j_3 => [(5001, some (CPred.at s5001 (rowV 3 j_3)))]) (fun s => j_3 = s) (.cons (t := 0) rfl (.cons (t := 1) rfl (.cons (t := 5) rfl Sub.nil))) SubB.nil ?_ (fun j_3' hj3 => ?_)
  · skip
    refine .block ?_
    refine .rforL h (fun p4_ => [(14, ⟨True, rep p4_.1⟩)]) (fun p4_ => [(5001, some (CPred.at s5001 (rowV 3 p4_.2)))]) (.cons (t := 14) rfl Sub.nil) (.cons (t := 5001) rfl SubB.nil) (.cons (t := 0) rfl (.cons (t := 1) rfl (.cons (t := 5) rfl (.cons (t := 13) rfl Sub.nil)))) SubB.nil (fun p4_ o_4 h hD4 => ?_)
    refine .seq ?_
    refine .region [] mixed (by kernel_rfl) ?_
    refine .cons (.lt .none (.s rfl) (.s rfl)) rfl ?_
    refine .nil ?_
    refine .then ?_
    refine .seq ?_
    refine .cond (t := 15) rfl trivial (fun hb5 => ?_) (fun hb5 => ?_)
    · replace h := bif_t h hb5
      refine .skip ?_
      refine .then ?_
      refine .seq ?_
      obtain ⟨j_6, h, hK6⟩ := bind_some h
      unfold layer_pieces_L1 at h
      refine .thenJ (ι := (List Int)) (fun j_6 => []) (fun j_6 => [(5001, some (CPred.at s5001 (rowV 3 j_6)))]) (fun s => j_6 = s) (.cons (t := 0) rfl (.cons (t := 1) rfl (.cons (t := 5) rfl (.cons (t := 13) rfl (.cons (t := 14) rfl Sub.nil))))) SubB.nil ?_ (fun j_6' hj6 => ?_)
      · skip
        refine .block ?_
        refine .seq ?_
        refine .region [] mixed (by kernel_rfl) ?_
        refine .cons (.move .none (.s rfl)) rfl ?_
        refine .cons (.assign .none (.s rfl)) rfl ?_
        refine .nil ?_
        refine .then ?_
        refine .region [([], []), ([], []), ([], []), ([5001], []), ([5001], [5001])] mixed (by kernel_rfl) ?_
        refine .consA (.move .none (.s rfl)) rfl ?_
        refine .consA (.move .none (.s rfl)) rfl ?_
        refine .consA (.move .none (.s rfl)) rfl ?_
        obtain ⟨hn7, h⟩ := need_some h
        refine .consA (.indexAddrO (k := 5001) .none sl32 ty3 (.s rfl) rfl (.s rfl) (fun _ => hn7)) rfl ?_
        refine .consN (.storeElem0 (k := 5001) ty3 (.s rfl) rfl (.s rfl) hn7) rfl ?_
        refine .nil ?_
        refine .blkNormal ?_
        exact Ends.join _ (some_eq h) (.cons (t := 0) rfl (.cons (t := 1) rfl (.cons (t := 5) rfl (.cons (t := 13) rfl (.cons (t := 14) rfl Sub.nil))))) (.cons (t := 5001) rfl SubB.nil)
      · subst hj6; have h := hK6; clear hK6
        refine .region [] mixed (by kernel_rfl) ?_
        refine .cons (.addW .none (.s rfl) (.int (by decide))) rfl ?_
        refine .cons (.move .none (.s rfl)) rfl ?_
        refine .nil ?_
        exact Ends.againL (some_eq h) (.cons (t := 14) rfl (.cons (t := 0) rfl (.cons (t := 1) rfl (.cons (t := 5) rfl (.cons (t := 13) rfl Sub.nil))))) (.cons (t := 5001) rfl SubB.nil)
    · replace h := bif_f h hb5
      refine .exit ?_
      refine .thenExit ?_
      refine .thenExit ?_
      refine .blkExit ?_
      replace h := hD4 _ (some_eq h)
      exact Ends.join _ (some_eq h) (.cons (t := 0) rfl (.cons (t := 1) rfl (.cons (t := 5) rfl Sub.nil))) (.cons (t := 5001) rfl SubB.nil)
  · subst hj3; have h := hK3; clear hK3
    refine .seq ?_
    refine .seq ?_
    refine .region [] mixed (by kernel_rfl) ?_
    refine .cons (.move .none (.s rfl)) rfl ?_
    refine .cons (.move .none (.int (by decide))) rfl ?_
    refine .nil ?_
    refine .then ?_
    obtain ⟨j_8, h, hK8⟩ := bind_some h
    refine .thenJ (ι := (List Int)) (fun j_8 => []) (fun j_8 => [(5001, some (CPred.at s5001 (rowV 3 j_8)))]) (fun s => j_8 = s) (.cons (t := 5) rfl Sub.nil) SubB.nil ?_ (fun j_8' hj8 => ?_)
    · skip
      refine .block ?_
      refine .rforL h (fun p9_ => [(23, ⟨True, rep p9_.1⟩)]) (fun p9_ => [(5001, some (CPred.at s5001 (rowV 3 p9_.2)))]) (.cons (t := 23) rfl Sub.nil) (.cons (t := 5001) rfl SubB.nil) (.cons (t := 1) rfl (.cons (t := 5) rfl (.cons (t := 22) rfl Sub.nil))) SubB.nil (fun p9_ o_9 h hD9 => ?_)
      refine .seq ?_
      refine .region [] mixed (by kernel_rfl) ?_
      refine .cons (.lt .none (.s rfl) (.s rfl)) rfl ?_
      refine .nil ?_
      refine .then ?_
      refine .seq ?_
      refine .cond (t := 24) rfl trivial (fun hb10 => ?_) (fun hb10 => ?_)
      · replace h := bif_t h hb10
        refine .skip ?_
        refine .then ?_
        refine .seq ?_
        obtain ⟨j_11, h, hK11⟩ := bind_some h
        unfold layer_pieces_L2 at h
        refine .thenJ (ι := (List Int)) (fun j_11 => []) (fun j_11 => [(5001, some (CPred.at s5001 (rowV 3 j_11)))]) (fun s => j_11 = s) (.cons (t := 1) rfl (.cons (t := 5) rfl (.cons (t := 22) rfl (.cons (t := 23) rfl Sub.nil)))) SubB.nil ?_ (fun j_11' hj11 => ?_)
        · skip
          refine .block ?_
          refine .seq ?_
          refine .region [] mixed (by kernel_rfl) ?_
          refine .cons (.move .none (.s rfl)) rfl ?_
          refine .cons (.len .none sl23 (.s rfl)) rfl ?_
          refine .cons (.move .none (.int (by decide))) rfl ?_
          refine .nil ?_
          refine .then ?_
          refine .block ?_
          refine .rforL h (fun p12_ => [(27, ⟨True, rep p12_.1⟩)]) (fun p12_ => [(5001, some (CPred.at s5001 (rowV 3 p12_.2)))]) (.cons (t := 27) rfl Sub.nil) (.cons (t := 5001) rfl SubB.nil) (.cons (t := 1) rfl (.cons (t := 5) rfl (.cons (t := 22) rfl (.cons (t := 23) rfl (.cons (t := 25) rfl (.cons (t := 26) rfl Sub.nil)))))) SubB.nil (fun p12_ o_12 h hD12 => ?_)
          refine .seq ?_
          refine .region [] mixed (by kernel_rfl) ?_
          refine .cons (.lt .none (.s rfl) (.s rfl)) rfl ?_
          refine .nil ?_
          refine .then ?_
          refine .seq ?_
          refine .cond (t := 28) rfl trivial (fun hb13 => ?_) (fun hb13 => ?_)
          · replace h := bif_t h hb13
            refine .skip ?_
            refine .then ?_
            refine .seq ?_
            obtain ⟨j_14, h, hK14⟩ := bind_some h
            unfold layer_pieces_L3 at h
            refine .thenJ (ι := (List Int)) (fun j_14 => []) (fun j_14 => [(5001, some (CPred.at s5001 (rowV 3 j_14)))]) (fun s => j_14 = s) (.cons (t := 1) rfl (.cons (t := 5) rfl (.cons (t := 22) rfl (.cons (t := 23) rfl (.cons (t := 25) rfl (.cons (t := 26) rfl (.cons (t := 27) rfl Sub.nil))))))) SubB.nil ?_ (fun j_14' hj14 => ?_)
            · skip
              refine .block ?_
              refine .seq ?_
              refine .region [([], []), ([], []), ([], [8]), ([8], [8])] mixed (by kernel_rfl) ?_
              obtain ⟨hn15, h⟩ := need_some h
              refine .consA (.indexAddr .none sl23 ty79 (.s rfl) (.s rfl) (fun _ => hn15)) rfl ?_
              obtain ⟨v1, hv16, h⟩ := bnd_some h
              refine .consA (.re hv16 (.load .none ty79 (.s rfl))) rfl ?_
              refine .consW (.alloc zo79 rfl) rfl rfl ?_
              refine .consN (.store ty79 rfl rfl (.s rfl)) rfl ?_
              refine .nil ?_
              refine .then ?_
              refine .freeze (t := 8) rfl rfl (.cons (t := 5001) rfl SubB.nil) rfl ?_
              refine .seq ?_
              refine .region [([], []), ([], []), ([], []), ([5001], []), ([5001], []), ([], []), ([], []), ([], []), ([5001], []), ([5001], []), ([], []), ([], [])] mixed (by kernel_rfl) ?_
              refine .consA (.move .none (.s rfl)) rfl ?_
              refine .consA (.fieldAddr .none fd79_0 hfd79_0 (.s rfl)) rfl ?_
              refine .consA (.load .none ty3 (.s rfl)) rfl ?_
              obtain ⟨hn17, h⟩ := need_some h
              refine .consA (.indexAddrO (k := 5001) .none sl32 ty3 (.s rfl) rfl (.s rfl) (fun _ => hn17)) rfl ?_
              refine .consA (.loadElem0 (k := 5001) .none ty3 (.s rfl) rfl (fun _ => hn17)) rfl ?_
              refine .consA (.move .none (.s rfl)) rfl ?_
              refine .consA (.fieldAddr .none fd79_1 hfd79_1 (.s rfl)) rfl ?_
              refine .consA (.load .none ty3 (.s rfl)) rfl ?_
              obtain ⟨hn18, h⟩ := need_some h
              refine .consA (.indexAddrO (k := 5001) .none sl32 ty3 (.s rfl) rfl (.s rfl) (fun _ => hn18)) rfl ?_
              refine .consA (.loadElem0 (k := 5001) .none ty3 (.s rfl) rfl (fun _ => hn18)) rfl ?_
              refine .consA (.min2 .none (.s rfl) (.s rfl)) rfl ?_
              obtain ⟨k1, hv19, h⟩ := bnd_some h
              refine .consA (.re hv19 (.assign .none (.s rfl))) rfl ?_
              refine .nil ?_
              refine .then ?_
              refine .region [([], []), ([], []), ([], []), ([], []), ([], []), ([], []), ([], []), ([], []), ([5001], []), ([5001], [5001]), ([5001], []), ([5001], [5001])] mixed (by kernel_rfl) ?_
              refine .consA (.move .none (.s rfl)) rfl ?_
              refine .consA (.fieldAddr .none fd79_0 hfd79_0 (.s rfl)) rfl ?_
              refine .consA (.load .none ty3 (.s rfl)) rfl ?_
              refine .consA (.move .none (.s rfl)) rfl ?_
              refine .consA (.fieldAddr .none fd79_1 hfd79_1 (.s rfl)) rfl ?_
              refine .consA (.load .none ty3 (.s rfl)) rfl ?_
              refine .consA (.move .none (.s rfl)) rfl ?_
              refine .consA (.move .none (.s rfl)) rfl ?_
              obtain ⟨hn20, h⟩ := need_some h
              refine .consA (.indexAddrO (k := 5001) .none sl32 ty3 (.s rfl) rfl (.s rfl) (fun _ => hn20)) rfl ?_
              refine .consN (.storeElem0 (k := 5001) ty3 (.s rfl) rfl (.s rfl) hn20) rfl ?_
              obtain ⟨hn21, h⟩ := need_some h
              refine .consA (.indexAddrO (k := 5001) .none sl32 ty3 (.s rfl) rfl (.s rfl) (fun _ => hn21)) rfl ?_
              refine .consN (.storeElem0 (k := 5001) ty3 (.s rfl) rfl (.s rfl) hn21) rfl ?_
              refine .nil ?_
              refine .blkNormal ?_
              exact Ends.join _ (some_eq h) (.cons (t := 1) rfl (.cons (t := 5) rfl (.cons (t := 22) rfl (.cons (t := 23) rfl (.cons (t := 25) rfl (.cons (t := 26) rfl (.cons (t := 27) rfl Sub.nil))))))) (.cons (t := 5001) rfl SubB.nil)
            · subst hj14; have h := hK14; clear hK14
              refine .region [] mixed (by kernel_rfl) ?_
              refine .cons (.addW .none (.s rfl) (.int (by decide))) rfl ?_
              refine .cons (.move .none (.s rfl)) rfl ?_
              refine .nil ?_
              exact Ends.againL (some_eq h) (.cons (t := 27) rfl (.cons (t := 1) rfl (.cons (t := 5) rfl (.cons (t := 22) rfl (.cons (t := 23) rfl (.cons (t := 25) rfl (.cons (t := 26) rfl Sub.nil))))))) (.cons (t := 5001) rfl SubB.nil)
          · replace h := bif_f h hb13
            refine .exit ?_
            refine .thenExit ?_
            refine .thenExit ?_
            refine .blkExit ?_
            refine .blkNormal ?_
            replace h := hD12 _ (some_eq h)
            exact Ends.join _ (some_eq h) (.cons (t := 1) rfl (.cons (t := 5) rfl (.cons (t := 22) rfl (.cons (t := 23) rfl Sub.nil)))) (.cons (t := 5001) rfl SubB.nil)
        · subst hj11; have h := hK11; clear hK11
          refine .region [] mixed (by kernel_rfl) ?_
          refine .cons (.addW .none (.s rfl) (.int (by decide))) rfl ?_
          refine .cons (.move .none (.s rfl)) rfl ?_
          refine .nil ?_
          exact Ends.againL (some_eq h) (.cons (t := 23) rfl (.cons (t := 1) rfl (.cons (t := 5) rfl (.cons (t := 22) rfl Sub.nil)))) (.cons (t := 5001) rfl SubB.nil)
      · replace h := bif_f h hb10
        refine .exit ?_
        refine .thenExit ?_
        refine .thenExit ?_
        refine .blkExit ?_
        replace h := hD9 _ (some_eq h)
        exact Ends.join _ (some_eq h) (.cons (t := 5) rfl Sub.nil) (.cons (t := 5001) rfl SubB.nil)
    · subst hj8; have h := hK8; clear hK8
      refine .freezeRow (g := 5001) (ts := [5]) rfl (.cons (t := 5) rfl trivial .nil) SubB.nil rfl ?_
      refine .seq ?_
      refine .region [] mixed (by kernel_rfl) ?_
      refine .cons (.move .none (.s rfl)) rfl ?_
      refine .cons (.assign .none (.s rfl)) rfl ?_
      refine .nil ?_
      refine .then ?_
      refine .ret ?_
      obtain rfl := some_eq h
      exact Ends.ret1 (.inl rfl) Try.results132 (ResOK.tmp rfl trivial Imp.refl)

theorem slices_Clone_int_ok {s1 : (List Int)} {r : (List Int)}  (h : slices_Clone_int s1 = some r) : FSpecO Try.prog 27 [rep s1] [] (anyV) [some (rowV 3 r)] := by
  unfold slices_Clone_int at h
  refine FSpecO.intro (n := 8) fnok27 Try.func27 rfl Try.ntmps27 rfl (fun F => ?_)
  refine .seq ?_
  refine .region [] mixed (by kernel_rfl) ?_
  refine .cons (.assign .none (.const (x := ([] : (List Int))) (fun M w => ⟨_, ⟨none, 0, rfl, Nat.le_refl _, by decide, rfl⟩, rfl⟩))) rfl ?_
  refine .nil ?_
  refine .then ?_
  refine .seq ?_
  refine .seq ?_
  refine .region [] mixed (by kernel_rfl) ?_
  refine .cons (.move .none (.s rfl)) rfl ?_
  refine .cons (.eqNil .none sl32 (.s rfl)) rfl ?_
  refine .nil ?_
  refine .then ?_
  refine .condNil (t := 4) rfl trivial (fun hb1 => ?_) ?_
  · replace h := nilc_t h hb1
    refine .seq ?_
    refine .region [([], [2])] mixed (by kernel_rfl) ?_
    refine .consW (.nilRow (T := 3) (α := Int) rfl) rfl rfl ?_
    refine .nil ?_
    refine .then ?_
    refine .nameRow (t := 2) (g := 5001) rfl rfl rfl (fun s5001 => ?_)
    refine .ret ?_
    refine .thenRet ?_
    refine .anon (t := 2) (g := 5001) rfl rfl trivial rfl ?_
    obtain rfl := some_eq h
    exact Ends.ret1O (.inl rfl) [2] Try.results27 (by decide) (.res rfl rfl) (ResOK.tmp rfl trivial (fun _ _ _ _ => trivial))
  · replace h := nilc_f h
    refine .skip ?_
    refine .then ?_
    refine .seq ?_
    refine .region [([], [5]), ([], []), ([5], [7, 5]), ([7], [2, 7])] mixed (by kernel_rfl) ?_
    refine .consW (.buildSliceO (xs := []) rfl sl32 ty3 hz3 .nil rfl (by decide)) rfl rfl ?_
    refine .consA (.move .none (.s rfl)) rfl ?_
    obtain ⟨hn2, h⟩ := need_some h
    refine .consW (.append (k := 5) rk32 rfl (.tmp rfl) (.s rfl) hn2) rfl rfl ?_
    refine .consW (.passRow rfl (.tmp rfl)) rfl rfl ?_
    refine .nil ?_
    refine .then ?_
    obtain ⟨v1, hv3, h⟩ := bnd_some h
    refine .reB (t := 2) rfl (congrArg (rowV 3) hv3) ?_
    refine .nameRow (t := 2) (g := 5002) rfl rfl rfl (fun s5002 => ?_)
    refine .ret ?_
    refine .anon (t := 2) (g := 5002) rfl rfl trivial rfl ?_
    obtain rfl := some_eq h
    exact Ends.ret1O (.inl rfl) [2] Try.results27 (by decide) (.res rfl rfl) (ResOK.tmp rfl trivial (fun _ _ _ _ => trivial))

theorem layer_grounded_ok {n1 : Int} {l1 : (List Link)} {r1 : (List Int)} {r : (List Int)}  (h : layer_grounded n1 l1 r1 = some r) : FSpec Try.prog 111 [rep n1, rep l1, rep r1] (rep r) := by
  unfold layer_grounded at h
  refine FSpec.intro (n := 63) fnok111 Try.func111 rfl Try.ntmps111 rfl (fun F => ?_)
  refine .seq ?_
  refine .region [] mixed (by kernel_rfl) ?_
  refine .cons (.assign .none (.const (x := ([] : (List Int))) (fun M w => ⟨_, ⟨none, 0, rfl, Nat.le_refl _, by decide, rfl⟩, rfl⟩))) rfl ?_
  refine .nil ?_
  refine .then ?_
  refine .seq ?_
  refine .region [] mixed (by kernel_rfl) ?_
  refine .cons (.move .none (.s rfl)) rfl ?_
  refine .cons (.move .none (.s rfl)) rfl ?_
  obtain ⟨of1, hv1, h⟩ := bind_some h
  refine .cons (.call .none (layer_pieces_ok hv1) (.cons (.s rfl) (.cons (.s rfl) .nil))) rfl ?_
  refine .cons (.assign .none (.s rfl)) rfl ?_
  refine .nil ?_
  refine .then ?_
  refine .seq ?_
  refine .region [([], []), ([], [16]), ([16], [8, 16])] mixed (by kernel_rfl) ?_
  refine .consA (.move .none (.s rfl)) rfl ?_
  obtain ⟨least1, hv2, h⟩ := bind_some h
  refine .consW (.callO [] (slices_Clone_int_ok hv2) (.cons (.s rfl) .nil) .nil rfl (by decide) (by decide) (by intro d h; cases h; decide)) rfl rfl ?_
  refine .consW (.passRow rfl (.tmp rfl)) rfl rfl ?_
  refine .nil ?_
  refine .then ?_
  refine .nameRow (t := 8) (g := 5001) rfl rfl rfl (fun s5001 => ?_)
  refine .seq ?_
  refine .seq ?_
  refine .region [] mixed (by kernel_rfl) ?_
  refine .cons (.move .none (.s rfl)) rfl ?_
  refine .cons (.move .none (.int (by decide))) rfl ?_
  refine .nil ?_
  refine .then ?_
  obtain ⟨j_3, h, hK3⟩ := bind_some h
  refine .thenJ (ι := (List Int)) (fun j_3 => []) (fun j_3 => [(5001, some (CPred.at s5001 (rowV 3 j_3)))]) (fun s => j_3 = s) (.cons (t := 0) rfl (.cons (t := 2) rfl (.cons (t := 7) rfl (.cons (t := 8) rfl Sub.nil)))) SubB.nil ?_ (fun j_3' hj3 => ?_)
  · skip
    refine .block ?_
    refine .rforL h (fun p4_ => [(18, ⟨True, rep p4_.1⟩)]) (fun p4_ => [(5001, some (CPred.at s5001 (rowV 3 p4_.2)))]) (.cons (t := 18) rfl Sub.nil) (.cons (t := 5001) rfl SubB.nil) (.cons (t := 0) rfl (.cons (t := 2) rfl (.cons (t := 7) rfl (.cons (t := 8) rfl (.cons (t := 17) rfl Sub.nil))))) SubB.nil (fun p4_ o_4 h hD4 => ?_)
    refine .seq ?_
    refine .region [] mixed (by kernel_rfl) ?_
    refine .cons (.lt .none (.s rfl) (.s rfl)) rfl ?_
    refine .nil ?_
    refine .then ?_
    refine .seq ?_
    refine .cond (t := 19) rfl trivial (fun hb5 => ?_) (fun hb5 => ?_)
    · replace h := bif_t h hb5
      refine .skip ?_
      refine .then ?_
      refine .seq ?_
      obtain ⟨j_6, h, hK6⟩ := bind_some h
      unfold layer_grounded_L1 at h
      refine .thenJ (ι := (List Int)) (fun j_6 => []) (fun j_6 => [(5001, some (CPred.at s5001 (rowV 3 j_6)))]) (fun s => j_6 = s) (.cons (t := 0) rfl (.cons (t := 2) rfl (.cons (t := 7) rfl (.cons (t := 8) rfl (.cons (t := 17) rfl (.cons (t := 18) rfl Sub.nil)))))) SubB.nil ?_ (fun j_6' hj6 => ?_)
      · skip
        refine .block ?_
        refine .seq ?_
        refine .region [] mixed (by kernel_rfl) ?_
        refine .cons (.move .none (.s rfl)) rfl ?_
        refine .cons (.assign .none (.s rfl)) rfl ?_
        refine .nil ?_
        refine .then ?_
        refine .region [([], []), ([], []), ([], []), ([], []), ([], []), ([], []), ([], []), ([], []), ([], []), ([], []), ([5001], []), ([5001], []), ([], []), ([], []), ([], []), ([], []), ([], []), ([5001], []), ([5001], [5001])] mixed (by kernel_rfl) ?_
        refine .consA (.move .none (.s rfl)) rfl ?_
        refine .consA (.move .none (.s rfl)) rfl ?_
        refine .consA (.move .none (.s rfl)) rfl ?_
        obtain ⟨hn7, h⟩ := need_some h
        refine .consA (.indexAddr .none sl32 ty3 (.s rfl) (.s rfl) (fun _ => hn7)) rfl ?_
        refine .consA (.load .none ty3 (.s rfl)) rfl ?_
        refine .consA (.move .none (.s rfl)) rfl ?_
        refine .consA (.move .none (.s rfl)) rfl ?_
        refine .consA (.move .none (.s rfl)) rfl ?_
        obtain ⟨hn8, h⟩ := need_some h
        refine .consA (.indexAddr .none sl32 ty3 (.s rfl) (.s rfl) (fun _ => hn8)) rfl ?_
        refine .consA (.load .none ty3 (.s rfl)) rfl ?_
        obtain ⟨hn9, h⟩ := need_some h
        refine .consA (.indexAddrO (k := 5001) .none sl32 ty3 (.s rfl) rfl (.s rfl) (fun _ => hn9)) rfl ?_
        refine .consA (.loadElem0 (k := 5001) .none ty3 (.s rfl) rfl (fun _ => hn9)) rfl ?_
        refine .consA (.move .none (.s rfl)) rfl ?_
        refine .consA (.move .none (.s rfl)) rfl ?_
        obtain ⟨hn10, h⟩ := need_some h
        refine .consA (.indexAddr .none sl32 ty3 (.s rfl) (.s rfl) (fun _ => hn10)) rfl ?_
        refine .consA (.load .none ty3 (.s rfl)) rfl ?_
        obtain ⟨v1, hv11, h⟩ := bnd_some h
        refine .consA (.re hv11 (.min2 .none (.s rfl) (.s rfl))) rfl ?_
        obtain ⟨hn12, h⟩ := need_some h
        refine .consA (.indexAddrO (k := 5001) .none sl32 ty3 (.s rfl) rfl (.s rfl) (fun _ => hn12)) rfl ?_
        refine .consN (.storeElem0 (k := 5001) ty3 (.s rfl) rfl (.s rfl) hn12) rfl ?_
        refine .nil ?_
        refine .blkNormal ?_
        exact Ends.join _ (some_eq h) (.cons (t := 0) rfl (.cons (t := 2) rfl (.cons (t := 7) rfl (.cons (t := 8) rfl (.cons (t := 17) rfl (.cons (t := 18) rfl Sub.nil)))))) (.cons (t := 5001) rfl SubB.nil)
      · subst hj6; have h := hK6; clear hK6
        refine .region [] mixed (by kernel_rfl) ?_
        refine .cons (.addW .none (.s rfl) (.int (by decide))) rfl ?_
        refine .cons (.move .none (.s rfl)) rfl ?_
        refine .nil ?_
        exact Ends.againL (some_eq h) (.cons (t := 18) rfl (.cons (t := 0) rfl (.cons (t := 2) rfl (.cons (t := 7) rfl (.cons (t := 8) rfl (.cons (t := 17) rfl Sub.nil)))))) (.cons (t := 5001) rfl SubB.nil)
    · replace h := bif_f h hb5
      refine .exit ?_
      refine .thenExit ?_
      refine .thenExit ?_
      refine .blkExit ?_
      replace h := hD4 _ (some_eq h)
      exact Ends.join _ (some_eq h) (.cons (t := 0) rfl (.cons (t := 2) rfl (.cons (t := 7) rfl (.cons (t := 8) rfl Sub.nil)))) (.cons (t := 5001) rfl SubB.nil)
  · subst hj3; have h := hK3; clear hK3
    refine .freezeRow (g := 5001) (ts := [8]) rfl (.cons (t := 8) rfl trivial .nil) SubB.nil rfl ?_
    refine .seq ?_
    refine .region [([], []), ([], [41]), ([41], [10, 41])] mixed (by kernel_rfl) ?_
    refine .consA (.move .none (.s rfl)) rfl ?_
    obtain ⟨hn13, h⟩ := need_some h
    refine .consW (.makeSlice rk32 zo3 rfl (.s rfl) (.s rfl) hn13) rfl rfl ?_
    refine .consW (.passRow rfl (.tmp rfl)) rfl rfl ?_
    refine .nil ?_
    refine .then ?_
    obtain ⟨out1, hv14, h⟩ := bnd_some h
    refine .reB (t := 10) rfl (congrArg (rowV 3) hv14) ?_
    refine .nameRow (t := 10) (g := 5002) rfl rfl rfl (fun s5002 => ?_)
    refine .seq ?_
    refine .seq ?_
    refine .region [] mixed (by kernel_rfl) ?_
    refine .cons (.move .none (.s rfl)) rfl ?_
    refine .cons (.move .none (.int (by decide))) rfl ?_
    refine .nil ?_
    refine .then ?_
    obtain ⟨j_15, h, hK15⟩ := bind_some h
    refine .thenJ (ι := (List Int)) (fun j_15 => []) (fun j_15 => [(5002, some (CPred.at s5002 (rowV 3 j_15)))]) (fun s => j_15 = s) (.cons (t := 10) rfl Sub.nil) SubB.nil ?_ (fun j_15' hj15 => ?_)
    · skip
      refine .block ?_
      refine .rforL h (fun p16_ => [(43, ⟨True, rep p16_.1⟩)]) (fun p16_ => [(5002, some (CPred.at s5002 (rowV 3 p16_.2)))]) (.cons (t := 43) rfl Sub.nil) (.cons (t := 5002) rfl SubB.nil) (.cons (t := 2) rfl (.cons (t := 7) rfl (.cons (t := 8) rfl (.cons (t := 10) rfl (.cons (t := 42) rfl Sub.nil))))) SubB.nil (fun p16_ o_16 h hD16 => ?_)
      refine .seq ?_
      refine .region [] mixed (by kernel_rfl) ?_
      refine .cons (.lt .none (.s rfl) (.s rfl)) rfl ?_
      refine .nil ?_
      refine .then ?_
      refine .seq ?_
      refine .cond (t := 44) rfl trivial (fun hb17 => ?_) (fun hb17 => ?_)
      · replace h := bif_t h hb17
        refine .skip ?_
        refine .then ?_
        refine .seq ?_
        obtain ⟨j_18, h, hK18⟩ := bind_some h
        unfold layer_grounded_L2 at h
        refine .thenJ (ι := (List Int)) (fun j_18 => []) (fun j_18 => [(5002, some (CPred.at s5002 (rowV 3 j_18)))]) (fun s => j_18 = s) (.cons (t := 2) rfl (.cons (t := 7) rfl (.cons (t := 8) rfl (.cons (t := 10) rfl (.cons (t := 42) rfl (.cons (t := 43) rfl Sub.nil)))))) SubB.nil ?_ (fun j_18' hj18 => ?_)
        · skip
          refine .block ?_
          refine .seq ?_
          refine .region [] mixed (by kernel_rfl) ?_
          refine .cons (.move .none (.s rfl)) rfl ?_
          refine .cons (.assign .none (.s rfl)) rfl ?_
          refine .nil ?_
          refine .then ?_
          refine .region [([], []), ([], []), ([], []), ([], []), ([], []), ([], []), ([], []), ([], []), ([], []), ([], []), ([], []), ([], []), ([], []), ([], []), ([5002], []), ([5002], [5002])] mixed (by kernel_rfl) ?_
          refine .consA (.move .none (.s rfl)) rfl ?_
          refine .consA (.move .none (.s rfl)) rfl ?_
          refine .consA (.move .none (.s rfl)) rfl ?_
          refine .consA (.move .none (.s rfl)) rfl ?_
          obtain ⟨hn19, h⟩ := need_some h
          refine .consA (.indexAddr .none sl32 ty3 (.s rfl) (.s rfl) (fun _ => hn19)) rfl ?_
          refine .consA (.load .none ty3 (.s rfl)) rfl ?_
          refine .consA (.move .none (.s rfl)) rfl ?_
          refine .consA (.move .none (.s rfl)) rfl ?_
          refine .consA (.move .none (.s rfl)) rfl ?_
          obtain ⟨hn20, h⟩ := need_some h
          refine .consA (.indexAddr .none sl32 ty3 (.s rfl) (.s rfl) (fun _ => hn20)) rfl ?_
          refine .consA (.load .none ty3 (.s rfl)) rfl ?_
          obtain ⟨hn21, h⟩ := need_some h
          refine .consA (.indexAddr .none sl32 ty3 (.s rfl) (.s rfl) (fun _ => hn21)) rfl ?_
          refine .consA (.load .none ty3 (.s rfl)) rfl ?_
          obtain ⟨v2, hv22, h⟩ := bnd_some h
          refine .consA (.re hv22 (.subW .none (.s rfl) (.s rfl))) rfl ?_
          obtain ⟨hn23, h⟩ := need_some h
          refine .consA (.indexAddrO (k := 5002) .none sl32 ty3 (.s rfl) rfl (.s rfl) (fun _ => hn23)) rfl ?_
          refine .consN (.storeElem0 (k := 5002) ty3 (.s rfl) rfl (.s rfl) hn23) rfl ?_
          refine .nil ?_
          refine .blkNormal ?_
          exact Ends.join _ (some_eq h) (.cons (t := 2) rfl (.cons (t := 7) rfl (.cons (t := 8) rfl (.cons (t := 10) rfl (.cons (t := 42) rfl (.cons (t := 43) rfl Sub.nil)))))) (.cons (t := 5002) rfl SubB.nil)
        · subst hj18; have h := hK18; clear hK18
          refine .region [] mixed (by kernel_rfl) ?_
          refine .cons (.addW .none (.s rfl) (.int (by decide))) rfl ?_
          refine .cons (.move .none (.s rfl)) rfl ?_
          refine .nil ?_
          exact Ends.againL (some_eq h) (.cons (t := 43) rfl (.cons (t := 2) rfl (.cons (t := 7) rfl (.cons (t := 8) rfl (.cons (t := 10) rfl (.cons (t := 42) rfl Sub.nil)))))) (.cons (t := 5002) rfl SubB.nil)
      · replace h := bif_f h hb17
        refine .exit ?_
        refine .thenExit ?_
        refine .thenExit ?_
        refine .blkExit ?_
        replace h := hD16 _ (some_eq h)
        exact Ends.join _ (some_eq h) (.cons (t := 10) rfl Sub.nil) (.cons (t := 5002) rfl SubB.nil)
    · subst hj15; have h := hK15; clear hK15
      refine .freezeRow (g := 5002) (ts := [10]) rfl (.cons (t := 10) rfl trivial .nil) SubB.nil rfl ?_
      refine .seq ?_
      refine .region [] mixed (by kernel_rfl) ?_
      refine .cons (.move .none (.s rfl)) rfl ?_
      refine .cons (.assign .none (.s rfl)) rfl ?_
      refine .nil ?_
      refine .then ?_
      refine .ret ?_
      obtain rfl := some_eq h
      exact Ends.ret1 (.inl rfl) Try.results111 (ResOK.tmp rfl trivial Imp.refl)

theorem layer_ranks_ok {n1 : Int} {l1 : (List Link)} {r : (List Int)}  (h : layer_ranks n1 l1 = some r) : FSpec Try.prog 73 [rep n1, rep l1] (rep r) := by
  unfold layer_ranks at h
  refine FSpec.intro (n := 86) fnok73 Try.func73 rfl Try.ntmps73 rfl (fun F => ?_)
  refine .seq ?_
  refine .region [] mixed (by kernel_rfl) ?_
  refine .cons (.assign .none (.const (x := ([] : (List Int))) (fun M w => ⟨_, ⟨none, 0, rfl, Nat.le_refl _, by decide, rfl⟩, rfl⟩))) rfl ?_
  refine .nil ?_
  refine .then ?_
  refine .seq ?_
  refine .region [([], []), ([], []), ([], [16]), ([16], [5, 16])] mixed (by kernel_rfl) ?_
  refine .consA (.move .none (.s rfl)) rfl ?_
  obtain ⟨v1, hv1, h⟩ := bnd_some h
  refine .consA (.re hv1 (.len .none sl23 (.s rfl))) rfl ?_
  obtain ⟨hn2, h⟩ := need_some h
  refine .consW (.makeSlice rk32 zo3 rfl (.s rfl) (.s rfl) hn2) rfl rfl ?_
  refine .consW (.passRow rfl (.tmp rfl)) rfl rfl ?_
  refine .nil ?_
  refine .then ?_
  obtain ⟨flow1, hv3, h⟩ := bnd_some h
  refine .reB (t := 5) rfl (congrArg (rowV 3) hv3) ?_
  refine .nameRow (t := 5) (g := 5001) rfl rfl rfl (fun s5001 => ?_)
  refine .seq ?_
  refine .seq ?_
  refine .region [([], []), ([5001], []), ([], [])] mixed (by kernel_rfl) ?_
  refine .consA (.move .none (.s rfl)) rfl ?_
  refine .consA (.lenO (k := 5001) sl32 (.told (.s rfl) rfl)) rfl ?_
  refine .consA (.move .none (.int (by decide))) rfl ?_
  refine .nil ?_
  refine .then ?_
  obtain ⟨j_4, h, hK4⟩ := bind_some h
  refine .thenJ (ι := (List Int)) (fun j_4 => []) (fun j_4 => [(5001, some (CPred.at s5001 (rowV 3 j_4)))]) (fun s => j_4 = s) (.cons (t := 0) rfl (.cons (t := 1) rfl (.cons (t := 5) rfl Sub.nil))) SubB.nil ?_ (fun j_4' hj4 => ?_)
  · skip
    refine .block ?_
    refine .rforL h (fun p5_ => [(19, ⟨True, rep p5_.1⟩)]) (fun p5_ => [(5001, some (CPred.at s5001 (rowV 3 p5_.2)))]) (.cons (t := 19) rfl Sub.nil) (.cons (t := 5001) rfl SubB.nil) (.cons (t := 0) rfl (.cons (t := 1) rfl (.cons (t := 5) rfl (.cons (t := 18) rfl Sub.nil)))) SubB.nil (fun p5_ o_5 h hD5 => ?_)
    refine .seq ?_
    refine .region [] mixed (by kernel_rfl) ?_
    refine .cons (.lt .none (.s rfl) (.s rfl)) rfl ?_
    refine .nil ?_
    refine .then ?_
    refine .seq ?_
    refine .cond (t := 20) rfl trivial (fun hb6 => ?_) (fun hb6 => ?_)
    · replace h := bif_t h hb6
      refine .skip ?_
      refine .then ?_
      refine .seq ?_
      obtain ⟨j_7, h, hK7⟩ := bind_some h
      unfold layer_ranks_L1 at h
      refine .thenJ (ι := (List Int)) (fun j_7 => []) (fun j_7 => [(5001, some (CPred.at s5001 (rowV 3 j_7)))]) (fun s => j_7 = s) (.cons (t := 0) rfl (.cons (t := 1) rfl (.cons (t := 5) rfl (.cons (t := 18) rfl (.cons (t := 19) rfl Sub.nil))))) SubB.nil ?_ (fun j_7' hj7 => ?_)
      · skip
        refine .block ?_
        refine .seq ?_
        refine .region [] mixed (by kernel_rfl) ?_
        refine .cons (.move .none (.s rfl)) rfl ?_
        refine .cons (.assign .none (.s rfl)) rfl ?_
        refine .nil ?_
        refine .then ?_
        refine .region [([], []), ([], []), ([5001], []), ([5001], [5001])] mixed (by kernel_rfl) ?_
        refine .consA (.move .none (.s rfl)) rfl ?_
        refine .consA (.move .none (.s rfl)) rfl ?_
        obtain ⟨hn8, h⟩ := need_some h
        refine .consA (.indexAddrO (k := 5001) .none sl32 ty3 (.s rfl) rfl (.s rfl) (fun _ => hn8)) rfl ?_
        refine .consN (.storeElem0 (k := 5001) ty3 (.s rfl) rfl (.int (by decide)) hn8) rfl ?_
        refine .nil ?_
        refine .blkNormal ?_
        exact Ends.join _ (some_eq h) (.cons (t := 0) rfl (.cons (t := 1) rfl (.cons (t := 5) rfl (.cons (t := 18) rfl (.cons (t := 19) rfl Sub.nil))))) (.cons (t := 5001) rfl SubB.nil)
      · subst hj7; have h := hK7; clear hK7
        refine .region [] mixed (by kernel_rfl) ?_
        refine .cons (.addW .none (.s rfl) (.int (by decide))) rfl ?_
        refine .cons (.move .none (.s rfl)) rfl ?_
        refine .nil ?_
        exact Ends.againL (some_eq h) (.cons (t := 19) rfl (.cons (t := 0) rfl (.cons (t := 1) rfl (.cons (t := 5) rfl (.cons (t := 18) rfl Sub.nil))))) (.cons (t := 5001) rfl SubB.nil)
    · replace h := bif_f h hb6
      refine .exit ?_
      refine .thenExit ?_
      refine .thenExit ?_
      refine .blkExit ?_
      replace h := hD5 _ (some_eq h)
      exact Ends.join _ (some_eq h) (.cons (t := 0) rfl (.cons (t := 1) rfl (.cons (t := 5) rfl Sub.nil))) (.cons (t := 5001) rfl SubB.nil)
  · subst hj4; have h := hK4; clear hK4
    refine .block ?_
    refine .loopL h (fun s9_ => []) (fun s9_ => [(5001, some (CPred.at s5001 (rowV 3 s9_)))]) Sub.nil (.cons (t := 5001) rfl SubB.nil) (.cons (t := 0) rfl (.cons (t := 1) rfl (.cons (t := 5) rfl Sub.nil))) SubB.nil (fun s9_ o_9 h hD9 => ?_)
    unfold layer_ranks_L2 at h
    refine .block ?_
    refine .seq ?_
    refine .region [([], []), ([], []), ([], []), ([5001], [30]), ([30], [30]), ([], []), ([], []), ([], []), ([], []), ([], [])] mixed (by kernel_rfl) ?_
    refine .consA (.move .none (.s rfl)) rfl ?_
    refine .consA (.move .none (.s rfl)) rfl ?_
    refine .consA (.move .none (.s rfl)) rfl ?_
    obtain ⟨r1, hv10, h⟩ := bind_some h
    refine .consW (.callOL (kl := [5001]) [] (layer_arcs_ok hv10) .any (FlatO.some .row FlatO.nil) (.cons (.s rfl) (.lend (k := 5001) (.told (.s rfl) rfl) .nil)) .nil rfl (by decide) (by decide) (by intro d h; cases h; decide) (by decide) (by intro k hk; simp only [List.mem_cons, List.mem_nil_iff, or_false] at hk; rcases hk with rfl <;> rfl)) rfl rfl ?_
    obtain ⟨r2, hv11, h⟩ := bind_some h
    refine .consW (.callK (layer_raised_ok hv11) (.cons (.s rfl) (.lend (k := 30) (.tmp rfl) .nil)) (by intro k hk; simp only [List.mem_cons, List.mem_nil_iff, or_false] at hk; rcases hk with rfl <;> exact ⟨_, rfl⟩)) rfl rfl ?_
    refine .consA (.move .none (.s rfl)) rfl ?_
    refine .consA (.extract .none (.s rfl) rfl) rfl ?_
    refine .consA (.extract .none (.s rfl) rfl) rfl ?_
    refine .consA (.assign .none (.s rfl)) rfl ?_
    refine .consA (.assign .none (.s rfl)) rfl ?_
    refine .nil ?_
    refine .then ?_
    refine .seq ?_
    refine .seq ?_
    refine .region [] mixed (by kernel_rfl) ?_
    refine .cons (.move .none (.s rfl)) rfl ?_
    refine .cons (.eqNilX .none sl123 (.s rfl)) rfl ?_
    refine .nil ?_
    refine .then ?_
    refine .cond (t := 35) rfl trivial (fun hb12 => ?_) (fun hb12 => ?_)
    · replace h := bif_t h hb12
      refine .seq ?_
      refine .region [] mixed (by kernel_rfl) ?_
      refine .cons (.move .none (.s rfl)) rfl ?_
      refine .cons (.move .none (.s rfl)) rfl ?_
      refine .cons (.move .none (.s rfl)) rfl ?_
      obtain ⟨r3, hv13, h⟩ := bind_some h
      refine .cons (.call .none (layer_grounded_ok hv13) (.cons (.s rfl) (.cons (.s rfl) (.cons (.s rfl) .nil)))) rfl ?_
      refine .cons (.assign .none (.s rfl)) rfl ?_
      refine .nil ?_
      refine .then ?_
      refine .ret ?_
      refine .thenRet ?_
      refine .blkRet ?_
      refine .thenRet ?_
      refine .blkRet ?_
      replace h := hD9 _ (some_eq h)
      obtain rfl := some_eq h
      exact Ends.ret1 (.inl rfl) Try.results73 (ResOK.tmp rfl trivial Imp.refl)
    · replace h := bif_f h hb12
      refine .skip ?_
      refine .then ?_
      refine .seq ?_
      refine .region [] mixed (by kernel_rfl) ?_
      refine .cons (.assign .none (.int (by decide))) rfl ?_
      refine .nil ?_
      refine .then ?_
      refine .seq ?_
      refine .seq ?_
      refine .region [] mixed (by kernel_rfl) ?_
      refine .cons (.moveW .none (.s rfl)) rfl ?_
      refine .cons (.len .none sl123 (.s rfl)) rfl ?_
      refine .cons (.move .none (.int (by decide))) rfl ?_
      refine .nil ?_
      refine .then ?_
      obtain ⟨j_14, h, hK14⟩ := bind_some h
      refine .thenJ (ι := Int) (fun j_14 => [(9, ⟨True, rep j_14⟩)]) (fun j_14 => []) (fun s => j_14 = s) (.cons (t := 0) rfl (.cons (t := 1) rfl (.cons (t := 5) rfl (.cons (t := 8) rfl Sub.nil)))) (.cons (t := 5001) rfl SubB.nil) ?_ (fun j_14' hj14 => ?_)
      · skip
        refine .block ?_
        refine .rforL h (fun p15_ => [(42, ⟨True, rep p15_.1⟩), (9, ⟨True, rep p15_.2⟩)]) (fun p15_ => []) (.cons (t := 42) rfl (.cons (t := 9) rfl Sub.nil)) SubB.nil (.cons (t := 0) rfl (.cons (t := 1) rfl (.cons (t := 5) rfl (.cons (t := 8) rfl (.cons (t := 40) rfl (.cons (t := 41) rfl Sub.nil)))))) (.cons (t := 5001) rfl SubB.nil) (fun p15_ o_15 h hD15 => ?_)
        refine .seq ?_
        refine .region [] mixed (by kernel_rfl) ?_
        refine .cons (.lt .none (.s rfl) (.s rfl)) rfl ?_
        refine .nil ?_
        refine .then ?_
        refine .seq ?_
        refine .cond (t := 43) rfl trivial (fun hb16 => ?_) (fun hb16 => ?_)
        · replace h := bif_t h hb16
          refine .skip ?_
          refine .then ?_
          refine .seq ?_
          obtain ⟨j_17, h, hK17⟩ := bind_some h
          unfold layer_ranks_L3 at h
          refine .thenJ (ι := Int) (fun j_17 => [(9, ⟨True, rep j_17⟩)]) (fun j_17 => []) (fun s => j_17 = s) (.cons (t := 0) rfl (.cons (t := 1) rfl (.cons (t := 5) rfl (.cons (t := 8) rfl (.cons (t := 40) rfl (.cons (t := 41) rfl (.cons (t := 42) rfl Sub.nil))))))) (.cons (t := 5001) rfl SubB.nil) ?_ (fun j_17' hj17 => ?_)
          · skip
            refine .block ?_
            refine .seq ?_
            refine .region [([], []), ([], []), ([], [11]), ([11], [11])] mixed (by kernel_rfl) ?_
            obtain ⟨hn18, h⟩ := need_some h
            refine .consA (.indexAddr .none sl123 ty129 (.s rfl) (.s rfl) (fun _ => hn18)) rfl ?_
            obtain ⟨v2, hv19, h⟩ := bnd_some h
            refine .consA (.re hv19 (.load .none ty129 (.s rfl))) rfl ?_
            refine .consW (.alloc zo129 rfl) rfl rfl ?_
            refine .consN (.store ty129 rfl rfl (.s rfl)) rfl ?_
            refine .nil ?_
            refine .then ?_
            refine .freeze (t := 11) rfl rfl (.cons (t := 5001) rfl SubB.nil) rfl ?_
            refine .seq ?_
            refine .region [([], []), ([], []), ([], []), ([], []), ([], []), ([], []), ([], []), ([], []), ([], []), ([], []), ([5001], []), ([5001], []), ([], []), ([], []), ([], []), ([], [])] mixed (by kernel_rfl) ?_
            refine .consA (.fieldAddr .none fd129_3 hfd129_3 (.s rfl)) rfl ?_
            refine .consA (.load .none ty3 (.s rfl)) rfl ?_
            refine .consA (.lt .none (.s rfl) (.int (by decide))) rfl ?_
            refine .consA (.move .none (.s rfl)) rfl ?_
            refine .consA (.move (.at rfl rfl) (.s rfl)) rfl ?_
            refine .consA (.lt (.at rfl rfl) (.tmp rfl id) (.int (by decide))) rfl ?_
            refine .consA (.move (.at rfl rfl) (.tmp rfl id)) rfl ?_
            refine .consA (.move (.at rfl rfl) (.s rfl)) rfl ?_
            refine .consA (.fieldAddr (.at rfl rfl) fd129_2 hfd129_2 (.s rfl)) rfl ?_
            refine .consA (.load (.at rfl rfl) ty3 (.tmp rfl id)) rfl ?_
            obtain ⟨hn20, h⟩ := need_some h
            refine .consA (.indexAddrO (k := 5001) (.at rfl rfl) sl32 ty3 (.tmp rfl id) rfl (.tmp rfl id) (fun hg => hn20 hg.1.2 hg.2)) rfl ?_
            refine .consA (.loadElem0 (k := 5001) (.at rfl rfl) ty3 (.tmp rfl id) rfl (fun hg => hn20 hg.1.2 hg.2)) rfl ?_
            refine .consA (.move (.at rfl rfl) (.s rfl)) rfl ?_
            refine .consA (.lt (.at rfl rfl) (.tmp rfl id) (.tmp rfl id)) rfl ?_
            refine .consA (.pickOr (.at rfl rfl) (.tmp rfl id) (.tmp rfl id)) rfl ?_
            refine .consA (.pickAnd .none (.s rfl) (.tmp rfl id)) rfl ?_
            refine .nil ?_
            refine .then ?_
            refine .cond (t := 61) rfl trivial (fun hb21 => ?_) (fun hb21 => ?_)
            · replace h := bif_t h hb21
              refine .region [([], []), ([], []), ([], []), ([5001], []), ([5001], []), ([], [])] mixed (by kernel_rfl) ?_
              refine .consA (.move .none (.s rfl)) rfl ?_
              refine .consA (.fieldAddr .none fd129_2 hfd129_2 (.s rfl)) rfl ?_
              refine .consA (.load .none ty3 (.s rfl)) rfl ?_
              obtain ⟨hn22, h⟩ := need_some h
              refine .consA (.indexAddrO (k := 5001) .none sl32 ty3 (.s rfl) rfl (.s rfl) (fun _ => hn22)) rfl ?_
              refine .consA (.loadElem0 (k := 5001) .none ty3 (.s rfl) rfl (fun _ => hn22)) rfl ?_
              obtain ⟨least1, hv23, h⟩ := bnd_some h
              refine .consA (.re hv23 (.assign .none (.s rfl))) rfl ?_
              refine .nil ?_
              refine .blkNormal ?_
              exact Ends.join _ (some_eq h) (.cons (t := 9) rfl (.cons (t := 0) rfl (.cons (t := 1) rfl (.cons (t := 5) rfl (.cons (t := 8) rfl (.cons (t := 40) rfl (.cons (t := 41) rfl (.cons (t := 42) rfl Sub.nil)))))))) (.cons (t := 5001) rfl SubB.nil)
            · replace h := bif_f h hb21
              refine .skip ?_
              refine .blkNormal ?_
              exact Ends.join _ (some_eq h) (.cons (t := 9) rfl (.cons (t := 0) rfl (.cons (t := 1) rfl (.cons (t := 5) rfl (.cons (t := 8) rfl (.cons (t := 40) rfl (.cons (t := 41) rfl (.cons (t := 42) rfl Sub.nil)))))))) (.cons (t := 5001) rfl SubB.nil)
          · subst hj17; have h := hK17; clear hK17
            refine .region [] mixed (by kernel_rfl) ?_
            refine .cons (.addW .none (.s rfl) (.int (by decide))) rfl ?_
            refine .cons (.move .none (.s rfl)) rfl ?_
            refine .nil ?_
            exact Ends.againL (some_eq h) (.cons (t := 42) rfl (.cons (t := 9) rfl (.cons (t := 0) rfl (.cons (t := 1) rfl (.cons (t := 5) rfl (.cons (t := 8) rfl (.cons (t := 40) rfl (.cons (t := 41) rfl Sub.nil)))))))) (.cons (t := 5001) rfl SubB.nil)
        · replace h := bif_f h hb16
          refine .exit ?_
          refine .thenExit ?_
          refine .thenExit ?_
          refine .blkExit ?_
          replace h := hD15 _ (some_eq h)
          exact Ends.join _ (some_eq h) (.cons (t := 9) rfl (.cons (t := 0) rfl (.cons (t := 1) rfl (.cons (t := 5) rfl (.cons (t := 8) rfl Sub.nil))))) (.cons (t := 5001) rfl SubB.nil)
      · subst hj14; have h := hK14; clear hK14
        refine .seq ?_
        refine .region [] mixed (by kernel_rfl) ?_
        refine .cons (.moveW .none (.s rfl)) rfl ?_
        refine .cons (.len .none sl123 (.s rfl)) rfl ?_
        refine .cons (.move .none (.int (by decide))) rfl ?_
        refine .nil ?_
        refine .then ?_
        obtain ⟨j_24, h, hK24⟩ := bind_some h
        refine .tailJ (ι := (List Int)) (fun j_24 => []) (fun j_24 => [(5001, some (CPred.at s5001 (rowV 3 j_24)))]) (fun s => j_24 = s) (.cons (t := 0) rfl (.cons (t := 1) rfl (.cons (t := 5) rfl Sub.nil))) SubB.nil ?_ (fun j_24' hj24 => ?_)
        · skip
          refine .block ?_
          refine .rforL h (fun p25_ => [(70, ⟨True, rep p25_.1⟩)]) (fun p25_ => [(5001, some (CPred.at s5001 (rowV 3 p25_.2)))]) (.cons (t := 70) rfl Sub.nil) (.cons (t := 5001) rfl SubB.nil) (.cons (t := 0) rfl (.cons (t := 1) rfl (.cons (t := 5) rfl (.cons (t := 9) rfl (.cons (t := 68) rfl (.cons (t := 69) rfl Sub.nil)))))) SubB.nil (fun p25_ o_25 h hD25 => ?_)
          refine .seq ?_
          refine .region [] mixed (by kernel_rfl) ?_
          refine .cons (.lt .none (.s rfl) (.s rfl)) rfl ?_
          refine .nil ?_
          refine .then ?_
          refine .seq ?_
          refine .cond (t := 71) rfl trivial (fun hb26 => ?_) (fun hb26 => ?_)
          · replace h := bif_t h hb26
            refine .skip ?_
            refine .then ?_
            refine .seq ?_
            obtain ⟨j_27, h, hK27⟩ := bind_some h
            unfold layer_ranks_L4 at h
            refine .thenJ (ι := (List Int)) (fun j_27 => []) (fun j_27 => [(5001, some (CPred.at s5001 (rowV 3 j_27)))]) (fun s => j_27 = s) (.cons (t := 0) rfl (.cons (t := 1) rfl (.cons (t := 5) rfl (.cons (t := 9) rfl (.cons (t := 68) rfl (.cons (t := 69) rfl (.cons (t := 70) rfl Sub.nil))))))) SubB.nil ?_ (fun j_27' hj27 => ?_)
            · skip
              refine .block ?_
              refine .seq ?_
              refine .region [([], []), ([], []), ([], [13]), ([13], [13])] mixed (by kernel_rfl) ?_
              obtain ⟨hn28, h⟩ := need_some h
              refine .consA (.indexAddr .none sl123 ty129 (.s rfl) (.s rfl) (fun _ => hn28)) rfl ?_
              obtain ⟨v3, hv29, h⟩ := bnd_some h
              refine .consA (.re hv29 (.load .none ty129 (.s rfl))) rfl ?_
              refine .consW (.alloc zo129 rfl) rfl rfl ?_
              refine .consN (.store ty129 rfl rfl (.s rfl)) rfl ?_
              refine .nil ?_
              refine .then ?_
              refine .freeze (t := 13) rfl rfl (.cons (t := 5001) rfl SubB.nil) rfl ?_
              refine .region [([], []), ([], []), ([], []), ([5001], []), ([5001], []), ([], []), ([], []), ([], []), ([], []), ([], []), ([5001], []), ([5001], [5001])] mixed (by kernel_rfl) ?_
              refine .consA (.move .none (.s rfl)) rfl ?_
              refine .consA (.fieldAddr .none fd129_2 hfd129_2 (.s rfl)) rfl ?_
              refine .consA (.load .none ty3 (.s rfl)) rfl ?_
              obtain ⟨hn30, h⟩ := need_some h
              refine .consA (.indexAddrO (k := 5001) .none sl32 ty3 (.s rfl) rfl (.s rfl) (fun _ => hn30)) rfl ?_
              refine .consA (.loadElem0 (k := 5001) .none ty3 (.s rfl) rfl (fun _ => hn30)) rfl ?_
              refine .consA (.fieldAddr .none fd129_3 hfd129_3 (.s rfl)) rfl ?_
              refine .consA (.load .none ty3 (.s rfl)) rfl ?_
              refine .consA (.move .none (.s rfl)) rfl ?_
              refine .consA (.mulW .none (.s rfl) (.s rfl)) rfl ?_
              obtain ⟨v4, hv31, h⟩ := bnd_some h
              refine .consA (.re hv31 (.addW .none (.s rfl) (.s rfl))) rfl ?_
              obtain ⟨hn32, h⟩ := need_some h
              refine .consA (.indexAddrO (k := 5001) .none sl32 ty3 (.s rfl) rfl (.s rfl) (fun _ => hn32)) rfl ?_
              refine .consN (.storeElem0 (k := 5001) ty3 (.s rfl) rfl (.s rfl) hn32) rfl ?_
              refine .nil ?_
              refine .blkNormal ?_
              exact Ends.join _ (some_eq h) (.cons (t := 0) rfl (.cons (t := 1) rfl (.cons (t := 5) rfl (.cons (t := 9) rfl (.cons (t := 68) rfl (.cons (t := 69) rfl (.cons (t := 70) rfl Sub.nil))))))) (.cons (t := 5001) rfl SubB.nil)
            · subst hj27; have h := hK27; clear hK27
              refine .region [] mixed (by kernel_rfl) ?_
              refine .cons (.addW .none (.s rfl) (.int (by decide))) rfl ?_
              refine .cons (.move .none (.s rfl)) rfl ?_
              refine .nil ?_
              exact Ends.againL (some_eq h) (.cons (t := 70) rfl (.cons (t := 0) rfl (.cons (t := 1) rfl (.cons (t := 5) rfl (.cons (t := 9) rfl (.cons (t := 68) rfl (.cons (t := 69) rfl Sub.nil))))))) (.cons (t := 5001) rfl SubB.nil)
          · replace h := bif_f h hb26
            refine .exit ?_
            refine .thenExit ?_
            refine .thenExit ?_
            refine .blkExit ?_
            replace h := hD25 _ (some_eq h)
            exact Ends.join _ (some_eq h) (.cons (t := 0) rfl (.cons (t := 1) rfl (.cons (t := 5) rfl Sub.nil))) (.cons (t := 5001) rfl SubB.nil)
        · subst hj24; have h := hK24; clear hK24
          refine .blkNormal ?_
          exact Ends.againL (some_eq h) (.cons (t := 0) rfl (.cons (t := 1) rfl (.cons (t := 5) rfl Sub.nil))) (.cons (t := 5001) rfl SubB.nil)

theorem layer_Ranks_ok {n1 : Int} {l1 : (List Link)} {r : ((List Int) × Int)}  (h : layer_Ranks n1 l1 = some r) : FSpec Try.prog 33 [rep n1, rep l1] (tup [rep r.1, rep r.2]) := by
  unfold layer_Ranks at h
  refine FSpec.intro (n := 21) fnok33 Try.func33 rfl Try.ntmps33 rfl (fun F => ?_)
  refine .seq ?_
  refine .region [] mixed (by kernel_rfl) ?_
  refine .cons (.assign .none (.const (x := ([] : (List Int))) (fun M w => ⟨_, ⟨none, 0, rfl, Nat.le_refl _, by decide, rfl⟩, rfl⟩))) rfl ?_
  refine .cons (.assign .none (.int (by decide))) rfl ?_
  refine .nil ?_
  refine .then ?_
  refine .seq ?_
  refine .seq ?_
  refine .region [] mixed (by kernel_rfl) ?_
  refine .cons (.move .none (.s rfl)) rfl ?_
  refine .cons (.move .none (.s rfl)) rfl ?_
  obtain ⟨e1, hv1, h⟩ := bind_some h
  refine .cons (.call .none (layer_Check_ok hv1) (.cons (.s rfl) (.cons (.s rfl) .nil))) rfl ?_
  refine .cons (.assign .none (.s rfl)) rfl ?_
  refine .nil ?_
  refine .then ?_
  refine .seq ?_
  refine .region [] mixed (by kernel_rfl) ?_
  refine .cons (.move .none (.s rfl)) rfl ?_
  refine .cons (.neI .none (.s rfl) (.int (by decide))) rfl ?_
  refine .nil ?_
  refine .then ?_
  refine .cond (t := 11) rfl trivial (fun hb2 => ?_) (fun hb2 => ?_)
  · replace h := bif_t h hb2
    refine .seq ?_
    refine .region [] mixed (by kernel_rfl) ?_
    refine .cons (.move .none (.s rfl)) rfl ?_
    refine .cons (.assign .none (.const (x := ([] : (List Int))) (fun M w => ⟨_, ⟨none, 0, rfl, Nat.le_refl _, by decide, rfl⟩, rfl⟩))) rfl ?_
    refine .cons (.assign .none (.s rfl)) rfl ?_
    refine .nil ?_
    refine .then ?_
    refine .ret ?_
    refine .thenRet ?_
    obtain rfl := some_eq h
    exact Ends.ret2 (.inl rfl) Try.results33 (ResOK.tmp rfl trivial Imp.refl) (ResOK.tmp rfl trivial Imp.refl)
  · replace h := bif_f h hb2
    refine .skip ?_
    refine .then ?_
    refine .seq ?_
    refine .seq ?_
    refine .region [] mixed (by kernel_rfl) ?_
    refine .cons (.move .none (.s rfl)) rfl ?_
    refine .cons (.move .none (.s rfl)) rfl ?_
    obtain ⟨r1, hv3, h⟩ := bind_some h
    refine .cons (.call .none (layer_turned_ok hv3) (.cons (.s rfl) (.cons (.s rfl) .nil))) rfl ?_
    refine .cons (.len .none sl32 (.s rfl)) rfl ?_
    refine .cons (.gt .none (.s rfl) (.int (by decide))) rfl ?_
    refine .nil ?_
    refine .then ?_
    refine .cond (t := 17) rfl trivial (fun hb4 => ?_) (fun hb4 => ?_)
    · replace h := bif_t h hb4
      refine .seq ?_
      refine .region [] mixed (by kernel_rfl) ?_
      refine .cons (.assign .none (.const (x := ([] : (List Int))) (fun M w => ⟨_, ⟨none, 0, rfl, Nat.le_refl _, by decide, rfl⟩, rfl⟩))) rfl ?_
      refine .cons (.assign .none (.int (by decide))) rfl ?_
      refine .nil ?_
      refine .then ?_
      refine .ret ?_
      refine .thenRet ?_
      obtain rfl := some_eq h
      exact Ends.ret2 (.inl rfl) Try.results33 (ResOK.tmp rfl trivial Imp.refl) (ResOK.tmp rfl trivial Imp.refl)
    · replace h := bif_f h hb4
      refine .skip ?_
      refine .then ?_
      refine .seq ?_
      refine .region [] mixed (by kernel_rfl) ?_
      refine .cons (.move .none (.s rfl)) rfl ?_
      refine .cons (.move .none (.s rfl)) rfl ?_
      obtain ⟨r2, hv5, h⟩ := bind_some h
      refine .cons (.call .none (layer_ranks_ok hv5) (.cons (.s rfl) (.cons (.s rfl) .nil))) rfl ?_
      refine .cons (.assign .none (.s rfl)) rfl ?_
      refine .cons (.assign .none (.int (by decide))) rfl ?_
      refine .nil ?_
      refine .then ?_
      refine .ret ?_
      obtain rfl := some_eq h
      exact Ends.ret2 (.inl rfl) Try.results33 (ResOK.tmp rfl trivial Imp.refl) (ResOK.tmp rfl trivial Imp.refl)

theorem law_layers_ok  {r : Bool}  (h : law_layers  = some r) : FSpec Try.prog 12 [] (rep r) := by
  unfold law_layers at h
  refine FSpec.intro (n := 7) fnok12 Try.func12 rfl Try.ntmps12 rfl (fun F => ?_)
  refine .seq ?_
  refine .region [] mixed (by kernel_rfl) ?_
  refine .cons (.assign .none .bool) rfl ?_
  refine .nil ?_
  refine .then ?_
  refine .seq ?_
  refine .region [] mixed (by kernel_rfl) ?_
  obtain ⟨r1, hv1, h⟩ := bind_some h
  refine .cons (.call .none (layer_Check_ok hv1) (.cons (.int (by decide)) (.cons (.const (x := ([] : (List Link))) (fun M w => ⟨_, ⟨none, 0, rfl, Nat.le_refl _, by decide, rfl⟩, rfl⟩)) .nil))) rfl ?_
  refine .cons (.eqI .none (.s rfl) (.int (by decide))) rfl ?_
  refine .cons (.move .none (.s rfl)) rfl ?_
  obtain ⟨r2, hv2, h⟩ := bind_some h
  refine .cons (.callIf (.at rfl rfl) fnok19 (fun hg => layer_Check_ok ((fun hg => gd_some hv2 (hg.2)) hg)) (.cons (.int (by decide)) (.cons (.const (x := ([] : (List Link))) (fun M w => ⟨_, ⟨none, 0, rfl, Nat.le_refl _, by decide, rfl⟩, rfl⟩)) .nil)) (fun h => h)) rfl ?_
  refine .cons (.eqI (.at rfl rfl) (.tmp rfl id) (.int (by decide))) rfl ?_
  refine .cons (.pickAnd .none (.s rfl) (.tmp rfl id)) rfl ?_
  refine .cons (.assign .none (.s rfl)) rfl ?_
  refine .nil ?_
  refine .then ?_
  refine .ret ?_
  obtain rfl := some_eq h
  exact Ends.ret1 (.inl rfl) Try.results12 (ResOK.tmp rfl trivial Imp.refl)

theorem slices_Min_int_ok {x1 : (List Int)} {r : Int}  (h : slices_Min_int x1 = some r) : FSpec Try.prog 34 [rep x1] (rep r) := by
  unfold slices_Min_int at h
  refine FSpec.intro (n := 25) fnok34 Try.func34 rfl Try.ntmps34 rfl (fun F => ?_)
  refine .seq ?_
  refine .region [] mixed (by kernel_rfl) ?_
  refine .cons (.assign .none (.int (by decide))) rfl ?_
  refine .nil ?_
  refine .then ?_
  refine .seq ?_
  refine .seq ?_
  refine .region [] mixed (by kernel_rfl) ?_
  refine .cons (.move .none (.s rfl)) rfl ?_
  refine .cons (.len .none sl32 (.s rfl)) rfl ?_
  refine .cons (.lt .none (.s rfl) (.int (by decide))) rfl ?_
  refine .nil ?_
  refine .then ?_
  refine .cond (t := 7) rfl trivial (fun hb1 => ?_) (fun hb1 => ?_)
  · replace h := bif_t h hb1
    cases h
  · replace h := bif_f h hb1
    refine .skip ?_
    refine .then ?_
    refine .seq ?_
    refine .region [] mixed (by kernel_rfl) ?_
    refine .cons (.move .none (.s rfl)) rfl ?_
    obtain ⟨hn2, h⟩ := need_some h
    refine .cons (.indexAddr .none sl32 ty3 (.s rfl) (.int (by decide)) (fun _ => hn2)) rfl ?_
    refine .cons (.load .none ty3 (.s rfl)) rfl ?_
    obtain ⟨m1, hv3, h⟩ := bnd_some h
    refine .cons (.re hv3 (.assign .none (.s rfl))) rfl ?_
    refine .nil ?_
    refine .then ?_
    refine .seq ?_
    refine .seq ?_
    refine .region [] mixed (by kernel_rfl) ?_
    refine .cons (.assign .none (.int (by decide))) rfl ?_
    refine .nil ?_
    refine .then ?_
    obtain ⟨j_4, h, hK4⟩ := bind_some h
    refine .thenJ (ι := Int) (fun j_4 => [(3, ⟨True, rep j_4⟩)]) (fun j_4 => []) (fun s => j_4 = s) Sub.nil SubB.nil ?_ (fun j_4' hj4 => ?_)
    · skip
      refine .block ?_
      refine .loopL h (fun s5_ => [(3, ⟨True, rep s5_.1⟩), (4, ⟨True, rep s5_.2⟩)]) (fun s5_ => []) (.cons (t := 3) rfl (.cons (t := 4) rfl Sub.nil)) SubB.nil (.cons (t := 0) rfl Sub.nil) SubB.nil (fun s5_ o_5 h hD5 => ?_)
      unfold slices_Min_int_L1 at h
      refine .seq ?_
      refine .seq ?_
      refine .region [] mixed (by kernel_rfl) ?_
      refine .cons (.move .none (.s rfl)) rfl ?_
      refine .cons (.move .none (.s rfl)) rfl ?_
      refine .cons (.len .none sl32 (.s rfl)) rfl ?_
      refine .cons (.lt .none (.s rfl) (.s rfl)) rfl ?_
      refine .nil ?_
      refine .then ?_
      refine .cond (t := 15) rfl trivial (fun hb6 => ?_) (fun hb6 => ?_)
      · replace h := bif_t h hb6
        refine .skip ?_
        refine .then ?_
        refine .seq ?_
        refine .block ?_
        refine .region [] mixed (by kernel_rfl) ?_
        refine .cons (.move .none (.s rfl)) rfl ?_
        refine .cons (.move .none (.s rfl)) rfl ?_
        refine .cons (.move .none (.s rfl)) rfl ?_
        obtain ⟨hn7, h⟩ := need_some h
        refine .cons (.indexAddr .none sl32 ty3 (.s rfl) (.s rfl) (fun _ => hn7)) rfl ?_
        refine .cons (.load .none ty3 (.s rfl)) rfl ?_
        refine .cons (.min2 .none (.s rfl) (.s rfl)) rfl ?_
        obtain ⟨m2, hv8, h⟩ := bnd_some h
        refine .cons (.re hv8 (.assign .none (.s rfl))) rfl ?_
        refine .nil ?_
        refine .blkNormal ?_
        refine .then ?_
        refine .region [] mixed (by kernel_rfl) ?_
        refine .cons (.move .none (.s rfl)) rfl ?_
        refine .cons (.addW .none (.s rfl) (.int (by decide))) rfl ?_
        obtain ⟨i1, hv9, h⟩ := bnd_some h
        refine .cons (.re hv9 (.assign .none (.s rfl))) rfl ?_
        refine .nil ?_
        exact Ends.againL (some_eq h) (.cons (t := 3) rfl (.cons (t := 4) rfl (.cons (t := 0) rfl Sub.nil))) SubB.nil
      · replace h := bif_f h hb6
        refine .exit ?_
        refine .thenExit ?_
        refine .thenExit ?_
        refine .blkExit ?_
        replace h := hD5 _ (some_eq h)
        exact Ends.join _ (some_eq h) (.cons (t := 3) rfl Sub.nil) SubB.nil
    · subst hj4; have h := hK4; clear hK4
      refine .seq ?_
      refine .region [] mixed (by kernel_rfl) ?_
      refine .cons (.move .none (.s rfl)) rfl ?_
      refine .cons (.assign .none (.s rfl)) rfl ?_
      refine .nil ?_
      refine .then ?_
      refine .ret ?_
      obtain rfl := some_eq h
      exact Ends.ret1 (.inl rfl) Try.results34 (ResOK.tmp rfl trivial Imp.refl)

theorem ref_AreRanks_1_ok {x1 : Link} {c0_1 : (List Int)} {r : Bool}  (h : ref_AreRanks_1 x1 c0_1 = some r) : FSpec Try.prog 75 [rep x1, ref c0_1] (rep r) := by
  unfold ref_AreRanks_1 at h
  refine FSpec.intro (n := 15) fnok75 Try.func75 rfl Try.ntmps75 rfl (fun F => ?_)
  refine .seq ?_
  refine .region [] mixed (by kernel_rfl) ?_
  refine .cons (.box .none (.s rfl)) rfl ?_
  refine .cons (.assign .none .bool) rfl ?_
  refine .nil ?_
  refine .then ?_
  refine .seq ?_
  refine .region [] mixed (by kernel_rfl) ?_
  refine .cons (.load .none ty32 (.s rfl)) rfl ?_
  refine .cons (.fieldAddr .none fd79_1 hfd79_1 (.s rfl)) rfl ?_
  refine .cons (.load .none ty3 (.s rfl)) rfl ?_
  obtain ⟨hn1, h⟩ := need_some h
  refine .cons (.indexAddr .none sl32 ty3 (.s rfl) (.s rfl) (fun _ => hn1)) rfl ?_
  refine .cons (.load .none ty3 (.s rfl)) rfl ?_
  refine .cons (.load .none ty32 (.s rfl)) rfl ?_
  refine .cons (.fieldAddr .none fd79_0 hfd79_0 (.s rfl)) rfl ?_
  refine .cons (.load .none ty3 (.s rfl)) rfl ?_
  obtain ⟨hn2, h⟩ := need_some h
  refine .cons (.indexAddr .none sl32 ty3 (.s rfl) (.s rfl) (fun _ => hn2)) rfl ?_
  refine .cons (.load .none ty3 (.s rfl)) rfl ?_
  refine .cons (.le .none (.s rfl) (.s rfl)) rfl ?_
  refine .cons (.assign .none (.s rfl)) rfl ?_
  refine .nil ?_
  refine .then ?_
  refine .ret ?_
  obtain rfl := some_eq h
  exact Ends.ret1 (.inl rfl) Try.results75 (ResOK.tmp rfl trivial Imp.refl)

theorem slices_IndexFunc_Link_ok {s1 : (List Link)} {f1 : (Link → Option Bool)} {r : Int}  (h : slices_IndexFunc_Link s1 f1 = some r) : FSpec Try.prog 112 [rep s1, fn1 Try.prog (rep (α := Bool)) f1] (rep r) := by
  unfold slices_IndexFunc_Link at h
  refine FSpec.intro (n := 19) fnok112 Try.func112 rfl Try.ntmps112 rfl (fun F => ?_)
  refine .seq ?_
  refine .region [] mixed (by kernel_rfl) ?_
  refine .cons (.assign .none (.int (by decide))) rfl ?_
  refine .nil ?_
  refine .then ?_
  refine .seq ?_
  refine .seq ?_
  refine .region [] mixed (by kernel_rfl) ?_
  refine .cons (.move .none (.s rfl)) rfl ?_
  refine .cons (.len .none sl23 (.s rfl)) rfl ?_
  refine .cons (.move .none (.int (by decide))) rfl ?_
  refine .nil ?_
  refine .then ?_
  obtain ⟨o_1, h, hK1⟩ := bindR_some h
  refine .thenJ (ι := Unit) (fun j_1 => []) (fun j_1 => []) (fun s => o_1 = Res.nx s) Sub.nil SubB.nil ?_ (fun j_1 hj1 => ?_)
  · skip
    refine .block ?_
    refine .rforEL h (fun p2_ => [(8, ⟨True, rep p2_.1⟩)]) (fun p2_ => []) (.cons (t := 8) rfl Sub.nil) SubB.nil (.cons (t := 0) rfl (.cons (t := 1) rfl (.cons (t := 7) rfl Sub.nil))) SubB.nil (fun p2_ o_2 h hD2 => ?_)
    refine .seq ?_
    refine .region [] mixed (by kernel_rfl) ?_
    refine .cons (.lt .none (.s rfl) (.s rfl)) rfl ?_
    refine .nil ?_
    refine .then ?_
    refine .seq ?_
    refine .cond (t := 9) rfl trivial (fun hb3 => ?_) (fun hb3 => ?_)
    · replace h := bif_t h hb3
      refine .skip ?_
      refine .then ?_
      refine .seq ?_
      obtain ⟨o_4, h, hK4⟩ := bindD_some h
      unfold slices_IndexFunc_Link_L1 at h
      refine .thenJ (ι := Unit) (fun j_4 => []) (fun j_4 => []) (fun s => o_4 = Res.nx s) (.cons (t := 0) rfl (.cons (t := 1) rfl (.cons (t := 7) rfl (.cons (t := 8) rfl Sub.nil)))) SubB.nil ?_ (fun j_4 hj4 => ?_)
      · skip
        refine .block ?_
        refine .seq ?_
        refine .region [] mixed (by kernel_rfl) ?_
        refine .cons (.move .none (.s rfl)) rfl ?_
        refine .cons (.assign .none (.s rfl)) rfl ?_
        refine .nil ?_
        refine .then ?_
        refine .seq ?_
        refine .region [] mixed (by kernel_rfl) ?_
        refine .cons (.move .none (.s rfl)) rfl ?_
        refine .cons (.move .none (.s rfl)) rfl ?_
        refine .cons (.move .none (.s rfl)) rfl ?_
        obtain ⟨hn5, h⟩ := need_some h
        refine .cons (.indexAddr .none sl23 ty79 (.s rfl) (.s rfl) (fun _ => hn5)) rfl ?_
        refine .cons (.load .none ty79 (.s rfl)) rfl ?_
        obtain ⟨r1, hv6, h⟩ := bind_some h
        refine .cons (.callV (gx s1 p2_.1, r1) .none (.s rfl) (fun _ => hv6) (.cons (.s rfl) .nil)) rfl ?_
        refine .nil ?_
        refine .then ?_
        refine .cond (t := 16) rfl trivial (fun hb7 => ?_) (fun hb7 => ?_)
        · replace h := bif_t h hb7
          refine .seq ?_
          refine .region [] mixed (by kernel_rfl) ?_
          refine .cons (.move .none (.s rfl)) rfl ?_
          refine .cons (.assign .none (.s rfl)) rfl ?_
          refine .nil ?_
          refine .then ?_
          refine .ret ?_
          refine .blkRet ?_
          refine .thenRet ?_
          refine .thenRet ?_
          refine .blkRet ?_
          refine .thenRet ?_
          replace h := resd_ab hK4 (some_eq h)
          replace h := hD2 _ (some_eq h)
          replace h := resb_ab hK1 (some_eq h)
          obtain rfl := some_eq h
          exact Ends.ret1 (.inl rfl) Try.results112 (ResOK.tmp rfl trivial Imp.refl)
        · replace h := bif_f h hb7
          refine .skip ?_
          refine .blkNormal ?_
          exact Ends.join _ (some_eq h) (.cons (t := 0) rfl (.cons (t := 1) rfl (.cons (t := 7) rfl (.cons (t := 8) rfl Sub.nil)))) SubB.nil
      · have h := resd_nx hK4 hj4
        refine .region [] mixed (by kernel_rfl) ?_
        refine .cons (.addW .none (.s rfl) (.int (by decide))) rfl ?_
        refine .cons (.move .none (.s rfl)) rfl ?_
        refine .nil ?_
        exact Ends.againL (some_eq h) (.cons (t := 8) rfl (.cons (t := 0) rfl (.cons (t := 1) rfl (.cons (t := 7) rfl Sub.nil)))) SubB.nil
    · replace h := bif_f h hb3
      refine .exit ?_
      refine .thenExit ?_
      refine .thenExit ?_
      refine .blkExit ?_
      replace h := hD2 _ (some_eq h)
      exact Ends.join _ (some_eq h) Sub.nil SubB.nil
  · have h := resb_nx hK1 hj1
    refine .seq ?_
    refine .region [] mixed (by kernel_rfl) ?_
    refine .cons (.assign .none (.int (by decide))) rfl ?_
    refine .nil ?_
    refine .then ?_
    refine .ret ?_
    obtain rfl := some_eq h
    exact Ends.ret1 (.inl rfl) Try.results112 (ResOK.tmp rfl trivial Imp.refl)

theorem slices_ContainsFunc_Link_ok {s1 : (List Link)} {f1 : (Link → Option Bool)} {r : Bool}  (h : slices_ContainsFunc_Link s1 f1 = some r) : FSpec Try.prog 74 [rep s1, fn1 Try.prog (rep (α := Bool)) f1] (rep r) := by
  unfold slices_ContainsFunc_Link at h
  refine FSpec.intro (n := 9) fnok74 Try.func74 rfl Try.ntmps74 rfl (fun F => ?_)
  refine .seq ?_
  refine .region [] mixed (by kernel_rfl) ?_
  refine .cons (.assign .none .bool) rfl ?_
  refine .nil ?_
  refine .then ?_
  refine .seq ?_
  refine .region [] mixed (by kernel_rfl) ?_
  refine .cons (.move .none (.s rfl)) rfl ?_
  refine .cons (.move .none (.s rfl)) rfl ?_
  obtain ⟨r1, hv1, h⟩ := bind_some h
  refine .cons (.call .none (slices_IndexFunc_Link_ok hv1) (.cons (.s rfl) (.cons (.s rfl) .nil))) rfl ?_
  refine .cons (.ge .none (.s rfl) (.int (by decide))) rfl ?_
  refine .cons (.assign .none (.s rfl)) rfl ?_
  refine .nil ?_
  refine .then ?_
  refine .ret ?_
  obtain rfl := some_eq h
  exact Ends.ret1 (.inl rfl) Try.results74 (ResOK.tmp rfl trivial Imp.refl)


end Go.Proofs.Ytbahnfkccdlpnaa
