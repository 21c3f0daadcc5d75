/-
  The walks: what a function computes is what its plain function says (printed by a program of one's own).
-/
import Derived.Test.YthopjimlhjgoiaaDoorTTxWa1
set_option maxRecDepth 100000
set_option linter.unusedSimpArgs false
set_option linter.unusedVariables false
namespace Go.Proofs.YthopjimlhjgoiaaDoor
open Go Go.DB Go.RowKit

theorem geom_CheckBox_ok {b1 : Box} {r : Int}  (h : geom_CheckBox b1 = some r) : FSpec Tryd.prog 57 [rep b1] (rep r) := by
  unfold geom_CheckBox at h
  refine FSpec.intro (n := 31) fnok57 Tryd.func57 rfl Tryd.ntmps57 rfl (fun F => ?_)
  refine Cod.seq ?_
  refine Cod.region [] mixed (by kernel_rfl) ?_
  refine Chain.cons (StepOK.box .none (.tmp rfl (fun _ => trivial))) rfl ?_
  refine Chain.cons (StepOK.assign .none (.int (by decide))) rfl ?_
  refine Chain.nil ?_
  refine Ends.then ?_
  refine Cod.seq ?_
  refine Cod.seq ?_
  refine Cod.region [] mixed (by kernel_rfl) ?_
  refine Chain.cons (StepOK.fieldAddr .none fd48_0 hfd48_0 (.tmp rfl (fun _ => trivial))) rfl ?_
  refine Chain.cons (StepOK.load .none ty3 (.tmp rfl (fun _ => trivial))) rfl ?_
  obtain ⟨r1, hv1, h⟩ := bind_some h
  refine Chain.cons (StepOK.call .none (geom_out_ok hv1) (.cons (.tmp rfl (fun _ => trivial)) .nil)) rfl ?_
  refine Chain.cons (StepOK.move .none (.tmp rfl (fun _ => trivial))) rfl ?_
  refine Chain.cons (StepOK.fieldAddr (.at rfl rfl) fd48_1 hfd48_1 (.tmp rfl (fun _ => trivial))) rfl ?_
  refine Chain.cons (StepOK.load (.at rfl rfl) ty3 (.tmp rfl id)) rfl ?_
  obtain ⟨r2, hv2, h⟩ := bind_some h
  refine Chain.cons (StepOK.callIf (.at rfl rfl) fnok82 (fun hg => geom_out_ok ((fun hg => gd_some hv2 ((notT hg.2))) hg)) (.cons (.tmp rfl id) .nil) (fun h => h)) rfl ?_
  refine Chain.cons (StepOK.pickOr .none (.tmp rfl (fun _ => trivial)) (.tmp rfl id)) rfl ?_
  refine Chain.cons (StepOK.move .none (.tmp rfl (fun _ => trivial))) rfl ?_
  refine Chain.cons (StepOK.fieldAddr (.at rfl rfl) fd48_2 hfd48_2 (.tmp rfl (fun _ => trivial))) rfl ?_
  refine Chain.cons (StepOK.load (.at rfl rfl) ty3 (.tmp rfl id)) rfl ?_
  refine Chain.cons (StepOK.lt (.at rfl rfl) (.tmp rfl id) (.int (by decide))) rfl ?_
  refine Chain.cons (StepOK.pickOr .none (.tmp rfl (fun _ => trivial)) (.tmp rfl id)) rfl ?_
  refine Chain.cons (StepOK.move .none (.tmp rfl (fun _ => trivial))) rfl ?_
  refine Chain.cons (StepOK.fieldAddr (.at rfl rfl) fd48_2 hfd48_2 (.tmp rfl (fun _ => trivial))) rfl ?_
  refine Chain.cons (StepOK.load (.at rfl rfl) ty3 (.tmp rfl id)) rfl ?_
  refine Chain.cons (StepOK.gt (.at rfl rfl) (.tmp rfl id) (.int (by decide))) rfl ?_
  refine Chain.cons (StepOK.pickOr .none (.tmp rfl (fun _ => trivial)) (.tmp rfl id)) rfl ?_
  refine Chain.cons (StepOK.move .none (.tmp rfl (fun _ => trivial))) rfl ?_
  refine Chain.cons (StepOK.fieldAddr (.at rfl rfl) fd48_3 hfd48_3 (.tmp rfl (fun _ => trivial))) rfl ?_
  refine Chain.cons (StepOK.load (.at rfl rfl) ty3 (.tmp rfl id)) rfl ?_
  refine Chain.cons (StepOK.lt (.at rfl rfl) (.tmp rfl id) (.int (by decide))) rfl ?_
  refine Chain.cons (StepOK.pickOr .none (.tmp rfl (fun _ => trivial)) (.tmp rfl id)) rfl ?_
  refine Chain.cons (StepOK.move .none (.tmp rfl (fun _ => trivial))) rfl ?_
  refine Chain.cons (StepOK.fieldAddr (.at rfl rfl) fd48_3 hfd48_3 (.tmp rfl (fun _ => trivial))) rfl ?_
  refine Chain.cons (StepOK.load (.at rfl rfl) ty3 (.tmp rfl id)) rfl ?_
  refine Chain.cons (StepOK.gt (.at rfl rfl) (.tmp rfl id) (.int (by decide))) rfl ?_
  refine Chain.cons (StepOK.pickOr .none (.tmp rfl (fun _ => trivial)) (.tmp rfl id)) rfl ?_
  refine Chain.nil ?_
  refine Ends.then ?_
  refine Cod.cond (t := 30) rfl trivial (fun hb3 => ?_) (fun hb3 => ?_)
  · replace h := bif_t h hb3
    refine Cod.seq ?_
    refine Cod.region [] mixed (by kernel_rfl) ?_
    refine Chain.cons (StepOK.assign .none (.int (by decide))) rfl ?_
    refine Chain.nil ?_
    refine Ends.then ?_
    refine Cod.ret ?_
    refine Ends.thenRet ?_
    obtain rfl := some_eq h
    exact Ends.ret1 (.inl rfl) Tryd.results57 (ResOK.tmp rfl trivial Imp.refl)
  · replace h := bif_f h hb3
    refine Cod.skip ?_
    refine Ends.then ?_
    refine Cod.seq ?_
    refine Cod.region [] mixed (by kernel_rfl) ?_
    refine Chain.cons (StepOK.assign .none (.int (by decide))) rfl ?_
    refine Chain.nil ?_
    refine Ends.then ?_
    refine Cod.ret ?_
    obtain rfl := some_eq h
    exact Ends.ret1 (.inl rfl) Tryd.results57 (ResOK.tmp rfl trivial Imp.refl)

theorem shape_Inner_ok {kind1 : Int} {b1 : Box} {pad1 : Int} {r : (Box × Int)}  (h : shape_Inner kind1 b1 pad1 = some r) : FSpec Tryd.prog 27 [rep kind1, rep b1, rep pad1] (tup [rep r.1, rep r.2]) := by
  unfold shape_Inner at h
  refine FSpec.intro (n := 56) fnok27 Tryd.func27 rfl Tryd.ntmps27 rfl (fun F => ?_)
  refine Cod.seq ?_
  refine Cod.region [([], []), ([], [6]), ([], [])] mixed (by kernel_rfl) ?_
  refine Chain.consA (StepOK.box .none (.tmp rfl (fun _ => trivial))) rfl ?_
  refine Chain.consW (StepOK.alloc zo48 rfl) rfl rfl ?_
  refine Chain.consA (StepOK.assign .none (.int (by decide))) rfl ?_
  refine Chain.nil ?_
  refine Ends.then ?_
  obtain ⟨v1, hv1, h⟩ := bnd_some h
  refine Cod.reB (t := 6) rfl (congrArg (cont 48) hv1) ?_
  refine Cod.nameBox (t := 6) (g := 5001) rfl rfl (fun m5001 => ?_)
  refine Cod.seq ?_
  refine Cod.seq ?_
  refine Cod.region [] mixed (by kernel_rfl) ?_
  refine Chain.cons (StepOK.move .none (.tmp rfl (fun _ => trivial))) rfl ?_
  obtain ⟨r1, hv2, h⟩ := bind_some h
  refine Chain.cons (StepOK.call .none (shape_isKind_ok hv2) (.cons (.tmp rfl (fun _ => trivial)) .nil)) rfl ?_
  refine Chain.cons (StepOK.not .none (.tmp rfl (fun _ => trivial))) rfl ?_
  refine Chain.nil ?_
  refine Ends.then ?_
  refine Cod.cond (t := 12) rfl trivial (fun hb3 => ?_) (fun hb3 => ?_)
  · replace h := bif_t h hb3
    refine Cod.seq ?_
    refine Cod.region [([], []), ([5001], [5001]), ([], [])] mixed (by kernel_rfl) ?_
    obtain ⟨v2, hv4, h⟩ := bnd_some h
    refine Chain.consA (StepOK.re hv4 (StepOK.buildF (y := (⟨(0 : Int), (0 : Int), (0 : Int), (0 : Int)⟩ : Box)) .none bu48 zc48 rfl .nil .nil)) rfl ?_
    refine Chain.consN (StepOK.storeAt0 (g := 5001) ty48 rfl (.tmp rfl (fun _ => trivial)) (.tmp rfl (fun _ => trivial))) rfl ?_
    refine Chain.consA (StepOK.assign .none (.int (by decide))) rfl ?_
    refine Chain.nil ?_
    refine Ends.then ?_
    refine Cod.freezeBox (g := 5001) (ts := [6]) rfl (.cons (t := 6) rfl trivial .nil) SubB.nil rfl ?_
    refine Cod.ret ?_
    refine Ends.thenRet ?_
    obtain rfl := some_eq h
    exact Ends.ret2 (.inl rfl) Tryd.results27 (ResOK.cellR ty48 rfl trivial Imp.refl) (ResOK.tmp rfl trivial Imp.refl)
  · replace h := bif_f h hb3
    refine Cod.skip ?_
    refine Ends.then ?_
    refine Cod.seq ?_
    refine Cod.seq ?_
    refine Cod.region [] mixed (by kernel_rfl) ?_
    refine Chain.cons (StepOK.load .none ty48 (.tmp rfl (fun _ => trivial))) rfl ?_
    obtain ⟨e1, hv5, h⟩ := bind_some h
    refine Chain.cons (StepOK.call .none (geom_CheckBox_ok hv5) (.cons (.tmp rfl (fun _ => trivial)) .nil)) rfl ?_
    refine Chain.cons (StepOK.assign .none (.tmp rfl (fun _ => trivial))) rfl ?_
    refine Chain.nil ?_
    refine Ends.then ?_
    refine Cod.seq ?_
    refine Cod.region [] mixed (by kernel_rfl) ?_
    refine Chain.cons (StepOK.move .none (.tmp rfl (fun _ => trivial))) rfl ?_
    refine Chain.cons (StepOK.neI .none (.tmp rfl (fun _ => trivial)) (.int (by decide))) rfl ?_
    refine Chain.nil ?_
    refine Ends.then ?_
    refine Cod.cond (t := 17) rfl trivial (fun hb6 => ?_) (fun hb6 => ?_)
    · replace h := bif_t h hb6
      refine Cod.seq ?_
      refine Cod.region [([], []), ([], []), ([5001], [5001]), ([], [])] mixed (by kernel_rfl) ?_
      obtain ⟨v3, hv7, h⟩ := bnd_some h
      refine Chain.consA (StepOK.re hv7 (StepOK.buildF (y := (⟨(0 : Int), (0 : Int), (0 : Int), (0 : Int)⟩ : Box)) .none bu48 zc48 rfl .nil .nil)) rfl ?_
      refine Chain.consA (StepOK.move .none (.tmp rfl (fun _ => trivial))) rfl ?_
      refine Chain.consN (StepOK.storeAt0 (g := 5001) ty48 rfl (.tmp rfl (fun _ => trivial)) (.tmp rfl (fun _ => trivial))) rfl ?_
      refine Chain.consA (StepOK.assign .none (.tmp rfl (fun _ => trivial))) rfl ?_
      refine Chain.nil ?_
      refine Ends.then ?_
      refine Cod.freezeBox (g := 5001) (ts := [6]) rfl (.cons (t := 6) rfl trivial .nil) SubB.nil rfl ?_
      refine Cod.ret ?_
      refine Ends.thenRet ?_
      obtain rfl := some_eq h
      exact Ends.ret2 (.inl rfl) Tryd.results27 (ResOK.cellR ty48 rfl trivial Imp.refl) (ResOK.tmp rfl trivial Imp.refl)
    · replace h := bif_f h hb6
      refine Cod.skip ?_
      refine Ends.then ?_
      refine Cod.seq ?_
      refine Cod.seq ?_
      refine Cod.region [] mixed (by kernel_rfl) ?_
      refine Chain.cons (StepOK.move .none (.tmp rfl (fun _ => trivial))) rfl ?_
      refine Chain.cons (StepOK.lt .none (.tmp rfl (fun _ => trivial)) (.int (by decide))) rfl ?_
      refine Chain.cons (StepOK.move .none (.tmp rfl (fun _ => trivial))) rfl ?_
      refine Chain.cons (StepOK.move (.at rfl rfl) (.tmp rfl (fun _ => trivial))) rfl ?_
      refine Chain.cons (StepOK.gt (.at rfl rfl) (.tmp rfl id) (.int (by decide))) rfl ?_
      refine Chain.cons (StepOK.pickOr .none (.tmp rfl (fun _ => trivial)) (.tmp rfl id)) rfl ?_
      refine Chain.nil ?_
      refine Ends.then ?_
      refine Cod.cond (t := 25) rfl trivial (fun hb8 => ?_) (fun hb8 => ?_)
      · replace h := bif_t h hb8
        refine Cod.seq ?_
        refine Cod.region [([], []), ([5001], [5001]), ([], [])] mixed (by kernel_rfl) ?_
        obtain ⟨v4, hv9, h⟩ := bnd_some h
        refine Chain.consA (StepOK.re hv9 (StepOK.buildF (y := (⟨(0 : Int), (0 : Int), (0 : Int), (0 : Int)⟩ : Box)) .none bu48 zc48 rfl .nil .nil)) rfl ?_
        refine Chain.consN (StepOK.storeAt0 (g := 5001) ty48 rfl (.tmp rfl (fun _ => trivial)) (.tmp rfl (fun _ => trivial))) rfl ?_
        refine Chain.consA (StepOK.assign .none (.int (by decide))) rfl ?_
        refine Chain.nil ?_
        refine Ends.then ?_
        refine Cod.freezeBox (g := 5001) (ts := [6]) rfl (.cons (t := 6) rfl trivial .nil) SubB.nil rfl ?_
        refine Cod.ret ?_
        refine Ends.thenRet ?_
        obtain rfl := some_eq h
        exact Ends.ret2 (.inl rfl) Tryd.results27 (ResOK.cellR ty48 rfl trivial Imp.refl) (ResOK.tmp rfl trivial Imp.refl)
      · replace h := bif_f h hb8
        refine Cod.skip ?_
        refine Ends.then ?_
        refine Cod.seq ?_
        refine Cod.region [([], []), ([], []), ([], []), ([], []), ([], []), ([], []), ([], []), ([], [9]), ([9], [9])] mixed (by kernel_rfl) ?_
        refine Chain.consA (StepOK.move .none (.tmp rfl (fun _ => trivial))) rfl ?_
        refine Chain.consA (StepOK.fieldAddr .none fd48_2 hfd48_2 (.tmp rfl (fun _ => trivial))) rfl ?_
        refine Chain.consA (StepOK.load .none ty3 (.tmp rfl (fun _ => trivial))) rfl ?_
        refine Chain.consA (StepOK.fieldAddr .none fd48_3 hfd48_3 (.tmp rfl (fun _ => trivial))) rfl ?_
        refine Chain.consA (StepOK.load .none ty3 (.tmp rfl (fun _ => trivial))) rfl ?_
        refine Chain.consA (StepOK.move .none (.tmp rfl (fun _ => trivial))) rfl ?_
        obtain ⟨r2, hv10, h⟩ := bind_some h
        refine Chain.consA (StepOK.call .none (shape_inner_ok hv10) (.cons (.tmp rfl (fun _ => trivial)) (.cons (.tmp rfl (fun _ => trivial)) (.cons (.tmp rfl (fun _ => trivial)) (.cons (.tmp rfl (fun _ => trivial)) .nil))))) rfl ?_
        refine Chain.consW (StepOK.alloc zo48 rfl) rfl rfl ?_
        refine Chain.consN (StepOK.store ty48 rfl rfl (.tmp rfl (fun _ => trivial))) rfl ?_
        refine Chain.nil ?_
        refine Ends.then ?_
        refine Cod.nameBox (t := 9) (g := 5002) rfl rfl (fun m5002 => ?_)
        refine Cod.seq ?_
        refine Cod.seq ?_
        refine Cod.region [([], []), ([5002], []), ([], []), ([], []), ([], []), ([5002], []), ([], []), ([], [])] mixed (by kernel_rfl) ?_
        refine Chain.consA (StepOK.fieldPtr .none fd48_2 (.tmp rfl (fun _ => trivial))) rfl ?_
        refine Chain.consA (StepOK.loadAt (k := 5002) .none ty3 rfl (.tmp rfl (fun _ => trivial)) hfd48_2) rfl ?_
        refine Chain.consA (StepOK.lt .none (.tmp rfl (fun _ => trivial)) (.int (by decide))) rfl ?_
        refine Chain.consA (StepOK.move .none (.tmp rfl (fun _ => trivial))) rfl ?_
        refine Chain.consA (StepOK.fieldPtr (.at rfl rfl) fd48_3 (.tmp rfl (fun _ => trivial))) rfl ?_
        refine Chain.consA (StepOK.loadAt (k := 5002) (.at rfl rfl) ty3 rfl (.tmp rfl id) hfd48_3) rfl ?_
        refine Chain.consA (StepOK.lt (.at rfl rfl) (.tmp rfl id) (.int (by decide))) rfl ?_
        refine Chain.consA (StepOK.pickOr .none (.tmp rfl (fun _ => trivial)) (.tmp rfl id)) rfl ?_
        refine Chain.nil ?_
        refine Ends.then ?_
        refine Cod.cond (t := 41) rfl trivial (fun hb11 => ?_) (fun hb11 => ?_)
        · replace h := bif_t h hb11
          refine Cod.seq ?_
          refine Cod.region [([], []), ([5001], [5001]), ([], [])] mixed (by kernel_rfl) ?_
          obtain ⟨v5, hv12, h⟩ := bnd_some h
          refine Chain.consA (StepOK.re hv12 (StepOK.buildF (y := (⟨(0 : Int), (0 : Int), (0 : Int), (0 : Int)⟩ : Box)) .none bu48 zc48 rfl .nil .nil)) rfl ?_
          refine Chain.consN (StepOK.storeAt0 (g := 5001) ty48 rfl (.tmp rfl (fun _ => trivial)) (.tmp rfl (fun _ => trivial))) rfl ?_
          refine Chain.consA (StepOK.assign .none (.int (by decide))) rfl ?_
          refine Chain.nil ?_
          refine Ends.then ?_
          refine Cod.freezeBox (g := 5001) (ts := [6]) rfl (.cons (t := 6) rfl trivial .nil) SubB.nil rfl ?_
          refine Cod.ret ?_
          refine Ends.thenRet ?_
          obtain rfl := some_eq h
          exact Ends.ret2 (.inl rfl) Tryd.results27 (ResOK.cellR ty48 rfl trivial Imp.refl) (ResOK.tmp rfl trivial Imp.refl)
        · replace h := bif_f h hb11
          refine Cod.skip ?_
          refine Ends.then ?_
          refine Cod.seq ?_
          refine Cod.region [([], []), ([5002], []), ([], []), ([], []), ([], []), ([], []), ([5002], []), ([], []), ([], []), ([], []), ([], []), ([5002], [5002]), ([], []), ([5002], [5002])] mixed (by kernel_rfl) ?_
          refine Chain.consA (StepOK.fieldPtr .none fd48_0 (.tmp rfl (fun _ => trivial))) rfl ?_
          refine Chain.consA (StepOK.loadAt (k := 5002) .none ty3 rfl (.tmp rfl (fun _ => trivial)) hfd48_0) rfl ?_
          refine Chain.consA (StepOK.fieldAddr .none fd48_0 hfd48_0 (.tmp rfl (fun _ => trivial))) rfl ?_
          refine Chain.consA (StepOK.load .none ty3 (.tmp rfl (fun _ => trivial))) rfl ?_
          obtain ⟨v6, hv13, h⟩ := bnd_some h
          refine Chain.consA (StepOK.re hv13 (StepOK.addW .none (.tmp rfl (fun _ => trivial)) (.tmp rfl (fun _ => trivial)))) rfl ?_
          refine Chain.consA (StepOK.fieldPtr .none fd48_1 (.tmp rfl (fun _ => trivial))) rfl ?_
          refine Chain.consA (StepOK.loadAt (k := 5002) .none ty3 rfl (.tmp rfl (fun _ => trivial)) hfd48_1) rfl ?_
          refine Chain.consA (StepOK.fieldAddr .none fd48_1 hfd48_1 (.tmp rfl (fun _ => trivial))) rfl ?_
          refine Chain.consA (StepOK.load .none ty3 (.tmp rfl (fun _ => trivial))) rfl ?_
          obtain ⟨v7, hv14, h⟩ := bnd_some h
          refine Chain.consA (StepOK.re hv14 (StepOK.addW .none (.tmp rfl (fun _ => trivial)) (.tmp rfl (fun _ => trivial)))) rfl ?_
          refine Chain.consA (StepOK.fieldPtr .none fd48_0 (.tmp rfl (fun _ => trivial))) rfl ?_
          refine Chain.consN (StepOK.storeAt (g := 5002) ty3 rfl (.tmp rfl (fun _ => trivial)) sf48_0 (.tmp rfl (fun _ => trivial))) rfl ?_
          refine Chain.consA (StepOK.fieldPtr .none fd48_1 (.tmp rfl (fun _ => trivial))) rfl ?_
          refine Chain.consN (StepOK.storeAt (g := 5002) ty3 rfl (.tmp rfl (fun _ => trivial)) sf48_1 (.tmp rfl (fun _ => trivial))) rfl ?_
          refine Chain.nil ?_
          refine Ends.then ?_
          refine Cod.freezeBox (g := 5002) (ts := [9]) rfl (.cons (t := 9) rfl trivial .nil) (.cons (t := 5001) rfl SubB.nil) rfl ?_
          refine Cod.seq ?_
          refine Cod.region [([], []), ([5001], [5001]), ([], [])] mixed (by kernel_rfl) ?_
          obtain ⟨v8, hv15, h⟩ := bnd_some h
          refine Chain.consA (StepOK.re hv15 (StepOK.load .none ty48 (.tmp rfl (fun _ => trivial)))) rfl ?_
          refine Chain.consN (StepOK.storeAt0 (g := 5001) ty48 rfl (.tmp rfl (fun _ => trivial)) (.tmp rfl (fun _ => trivial))) rfl ?_
          refine Chain.consA (StepOK.assign .none (.int (by decide))) rfl ?_
          refine Chain.nil ?_
          refine Ends.then ?_
          refine Cod.freezeBox (g := 5001) (ts := [6]) rfl (.cons (t := 6) rfl trivial .nil) SubB.nil rfl ?_
          refine Cod.ret ?_
          obtain rfl := some_eq h
          exact Ends.ret2 (.inl rfl) Tryd.results27 (ResOK.cellR ty48 rfl trivial Imp.refl) (ResOK.tmp rfl trivial Imp.refl)

theorem shape_rest_ok {space1 : Int} {way1 : Int} {r : Int}  (h : shape_rest space1 way1 = some r) : FSpec Tryd.prog 56 [rep space1, rep way1] (rep r) := by
  unfold shape_rest at h
  refine FSpec.intro (n := 15) fnok56 Tryd.func56 rfl Tryd.ntmps56 rfl (fun F => ?_)
  refine Cod.seq ?_
  refine Cod.region [] mixed (by kernel_rfl) ?_
  refine Chain.cons (StepOK.assign .none (.int (by decide))) rfl ?_
  refine Chain.nil ?_
  refine Ends.then ?_
  refine Cod.seq ?_
  refine Cod.seq ?_
  refine Cod.region [] mixed (by kernel_rfl) ?_
  refine Chain.cons (StepOK.move .none (.tmp rfl (fun _ => trivial))) rfl ?_
  refine Chain.nil ?_
  refine Ends.then ?_
  refine Cod.block ?_
  refine Cod.seq ?_
  refine Cod.seq ?_
  refine Cod.region [] mixed (by kernel_rfl) ?_
  refine Chain.cons (StepOK.eqI .none (.tmp rfl (fun _ => trivial)) (.int (by decide))) rfl ?_
  obtain ⟨v1, hv1, h⟩ := bnd_some h
  refine Chain.cons (StepOK.re hv1 (StepOK.assign .none (.tmp rfl (fun _ => trivial)))) rfl ?_
  refine Chain.nil ?_
  refine Ends.then ?_
  obtain ⟨j_2, h, hK2⟩ := bind_some h
  refine Cod.thenJ (ι := Bool) (fun j_2 => [(6, ⟨True, rep j_2⟩)]) (fun j_2 => []) (fun s => j_2 = s) (.cons (t := 0) rfl (.cons (t := 5) rfl Sub.nil)) SubB.nil ?_ (fun j_2' hj2 => ?_)
  · skip
    refine Cod.cond (t := 6) rfl trivial (fun hb3 => ?_) (fun hb3 => ?_)
    · replace h := bif_t h hb3
      refine Cod.skip ?_
      exact Ends.join _ (some_eq h) (.cons (t := 6) rfl (.cons (t := 0) rfl (.cons (t := 5) rfl Sub.nil))) SubB.nil
    · replace h := bif_f h hb3
      refine Cod.region [] mixed (by kernel_rfl) ?_
      refine Chain.cons (StepOK.eqI .none (.tmp rfl (fun _ => trivial)) (.int (by decide))) rfl ?_
      obtain ⟨v2, hv4, h⟩ := bnd_some h
      refine Chain.cons (StepOK.re hv4 (StepOK.assign .none (.tmp rfl (fun _ => trivial)))) rfl ?_
      refine Chain.nil ?_
      exact Ends.join _ (some_eq h) (.cons (t := 6) rfl (.cons (t := 0) rfl (.cons (t := 5) rfl Sub.nil))) SubB.nil
  · subst hj2; have h := hK2; clear hK2
    refine Cod.cond (t := 6) rfl trivial (fun hb5 => ?_) (fun hb5 => ?_)
    · replace h := bif_t h hb5
      refine Cod.seq ?_
      refine Cod.region [] mixed (by kernel_rfl) ?_
      refine Chain.cons (StepOK.move .none (.tmp rfl (fun _ => trivial))) rfl ?_
      refine Chain.cons (StepOK.quo .none (.tmp rfl (fun _ => trivial)) (.int (by decide)) (fun _ => by decide)) rfl ?_
      refine Chain.cons (StepOK.assign .none (.tmp rfl (fun _ => trivial))) rfl ?_
      refine Chain.nil ?_
      refine Ends.then ?_
      refine Cod.ret ?_
      refine Ends.blkRet ?_
      refine Ends.thenRet ?_
      obtain rfl := some_eq h
      exact Ends.ret1 (.inl rfl) Tryd.results56 (ResOK.tmp rfl trivial Imp.refl)
    · replace h := bif_f h hb5
      refine Cod.seq ?_
      refine Cod.seq ?_
      refine Cod.region [] mixed (by kernel_rfl) ?_
      refine Chain.cons (StepOK.eqI .none (.tmp rfl (fun _ => trivial)) (.int (by decide))) rfl ?_
      obtain ⟨v3, hv6, h⟩ := bnd_some h
      refine Chain.cons (StepOK.re hv6 (StepOK.assign .none (.tmp rfl (fun _ => trivial)))) rfl ?_
      refine Chain.nil ?_
      refine Ends.then ?_
      obtain ⟨j_7, h, hK7⟩ := bind_some h
      refine Cod.thenJ (ι := Bool) (fun j_7 => [(11, ⟨True, rep j_7⟩)]) (fun j_7 => []) (fun s => j_7 = s) (.cons (t := 0) rfl Sub.nil) SubB.nil ?_ (fun j_7' hj7 => ?_)
      · skip
        refine Cod.cond (t := 11) rfl trivial (fun hb8 => ?_) (fun hb8 => ?_)
        · replace h := bif_t h hb8
          refine Cod.skip ?_
          exact Ends.join _ (some_eq h) (.cons (t := 11) rfl (.cons (t := 0) rfl Sub.nil)) SubB.nil
        · replace h := bif_f h hb8
          refine Cod.region [] mixed (by kernel_rfl) ?_
          refine Chain.cons (StepOK.eqI .none (.tmp rfl (fun _ => trivial)) (.int (by decide))) rfl ?_
          obtain ⟨v4, hv9, h⟩ := bnd_some h
          refine Chain.cons (StepOK.re hv9 (StepOK.assign .none (.tmp rfl (fun _ => trivial)))) rfl ?_
          refine Chain.nil ?_
          exact Ends.join _ (some_eq h) (.cons (t := 11) rfl (.cons (t := 0) rfl Sub.nil)) SubB.nil
      · subst hj7; have h := hK7; clear hK7
        refine Cod.cond (t := 11) rfl trivial (fun hb10 => ?_) (fun hb10 => ?_)
        · replace h := bif_t h hb10
          refine Cod.seq ?_
          refine Cod.region [] mixed (by kernel_rfl) ?_
          refine Chain.cons (StepOK.move .none (.tmp rfl (fun _ => trivial))) rfl ?_
          refine Chain.cons (StepOK.assign .none (.tmp rfl (fun _ => trivial))) rfl ?_
          refine Chain.nil ?_
          refine Ends.then ?_
          refine Cod.ret ?_
          refine Ends.blkRet ?_
          refine Ends.thenRet ?_
          obtain rfl := some_eq h
          exact Ends.ret1 (.inl rfl) Tryd.results56 (ResOK.tmp rfl trivial Imp.refl)
        · replace h := bif_f h hb10
          refine Cod.skip ?_
          refine Ends.blkNormal ?_
          refine Ends.then ?_
          refine Cod.seq ?_
          refine Cod.region [] mixed (by kernel_rfl) ?_
          refine Chain.cons (StepOK.assign .none (.int (by decide))) rfl ?_
          refine Chain.nil ?_
          refine Ends.then ?_
          refine Cod.ret ?_
          obtain rfl := some_eq h
          exact Ends.ret1 (.inl rfl) Tryd.results56 (ResOK.tmp rfl trivial Imp.refl)

theorem shape_Lay_ok {f1 : Font} {text1 : Str} {kind1 : Int} {b1 : Box} {pad1 : Int} {across1 : Int} {down1 : Int} {r : ((List Placed) × Int)}  (h : shape_Lay f1 text1 kind1 b1 pad1 across1 down1 = some r) : FSpec Tryd.prog 26 [rep f1, rep text1, rep kind1, rep b1, rep pad1, rep across1, rep down1] (tup [rep r.1, rep r.2]) := by
  unfold shape_Lay at h
  refine FSpec.intro (n := 123) fnok26 Tryd.func26 rfl Tryd.ntmps26 rfl (fun F => ?_)
  refine Cod.seq ?_
  refine Cod.region [] mixed (by kernel_rfl) ?_
  refine Chain.cons (StepOK.box .none (.tmp rfl (fun _ => trivial))) rfl ?_
  refine Chain.cons (StepOK.box .none (.tmp rfl (fun _ => trivial))) rfl ?_
  refine Chain.cons (StepOK.assign .none (.const (x := ([] : (List Placed))) (fun M w => ⟨_, ⟨none, 0, rfl, Nat.le_refl _, by decide, rfl⟩, rfl⟩))) rfl ?_
  refine Chain.cons (StepOK.assign .none (.int (by decide))) rfl ?_
  refine Chain.nil ?_
  refine Ends.then ?_
  refine Cod.seq ?_
  refine Cod.seq ?_
  refine Cod.region [] mixed (by kernel_rfl) ?_
  refine Chain.cons (StepOK.move .none (.tmp rfl (fun _ => trivial))) rfl ?_
  obtain ⟨r1, hv1, h⟩ := bind_some h
  refine Chain.cons (StepOK.call .none (shape_isKind_ok hv1) (.cons (.tmp rfl (fun _ => trivial)) .nil)) rfl ?_
  refine Chain.cons (StepOK.not .none (.tmp rfl (fun _ => trivial))) rfl ?_
  refine Chain.nil ?_
  refine Ends.then ?_
  refine Cod.cond (t := 27) rfl trivial (fun hb2 => ?_) (fun hb2 => ?_)
  · replace h := bif_t h hb2
    refine Cod.seq ?_
    refine Cod.region [] mixed (by kernel_rfl) ?_
    refine Chain.cons (StepOK.assign .none (.const (x := ([] : (List Placed))) (fun M w => ⟨_, ⟨none, 0, rfl, Nat.le_refl _, by decide, rfl⟩, rfl⟩))) rfl ?_
    refine Chain.cons (StepOK.assign .none (.int (by decide))) rfl ?_
    refine Chain.nil ?_
    refine Ends.then ?_
    refine Cod.ret ?_
    refine Ends.thenRet ?_
    obtain rfl := some_eq h
    exact Ends.ret2 (.inl rfl) Tryd.results26 (ResOK.tmp rfl trivial Imp.refl) (ResOK.tmp rfl trivial Imp.refl)
  · replace h := bif_f h hb2
    refine Cod.skip ?_
    refine Ends.then ?_
    refine Cod.seq ?_
    refine Cod.seq ?_
    refine Cod.region [] mixed (by kernel_rfl) ?_
    refine Chain.cons (StepOK.load .none ty23 (.tmp rfl (fun _ => trivial))) rfl ?_
    refine Chain.cons (StepOK.move .none (.tmp rfl (fun _ => trivial))) rfl ?_
    obtain ⟨e1, hv3, h⟩ := bind_some h
    refine Chain.cons (StepOK.call .none (shape_checkBoth_ok hv3) (.cons (.tmp rfl (fun _ => trivial)) (.cons (.tmp rfl (fun _ => trivial)) .nil))) rfl ?_
    refine Chain.cons (StepOK.assign .none (.tmp rfl (fun _ => trivial))) rfl ?_
    refine Chain.nil ?_
    refine Ends.then ?_
    refine Cod.seq ?_
    refine Cod.region [] mixed (by kernel_rfl) ?_
    refine Chain.cons (StepOK.move .none (.tmp rfl (fun _ => trivial))) rfl ?_
    refine Chain.cons (StepOK.neI .none (.tmp rfl (fun _ => trivial)) (.int (by decide))) rfl ?_
    refine Chain.nil ?_
    refine Ends.then ?_
    refine Cod.cond (t := 32) rfl trivial (fun hb4 => ?_) (fun hb4 => ?_)
    · replace h := bif_t h hb4
      refine Cod.seq ?_
      refine Cod.region [] mixed (by kernel_rfl) ?_
      refine Chain.cons (StepOK.move .none (.tmp rfl (fun _ => trivial))) rfl ?_
      refine Chain.cons (StepOK.assign .none (.const (x := ([] : (List Placed))) (fun M w => ⟨_, ⟨none, 0, rfl, Nat.le_refl _, by decide, rfl⟩, rfl⟩))) rfl ?_
      refine Chain.cons (StepOK.assign .none (.tmp rfl (fun _ => trivial))) rfl ?_
      refine Chain.nil ?_
      refine Ends.then ?_
      refine Cod.ret ?_
      refine Ends.thenRet ?_
      obtain rfl := some_eq h
      exact Ends.ret2 (.inl rfl) Tryd.results26 (ResOK.tmp rfl trivial Imp.refl) (ResOK.tmp rfl trivial Imp.refl)
    · replace h := bif_f h hb4
      refine Cod.skip ?_
      refine Ends.then ?_
      refine Cod.seq ?_
      refine Cod.region [([], []), ([], []), ([], []), ([], []), ([], []), ([], []), ([], []), ([], [17]), ([17], [17]), ([], [])] mixed (by kernel_rfl) ?_
      refine Chain.consA (StepOK.move .none (.tmp rfl (fun _ => trivial))) rfl ?_
      refine Chain.consA (StepOK.load .none ty48 (.tmp rfl (fun _ => trivial))) rfl ?_
      refine Chain.consA (StepOK.move .none (.tmp rfl (fun _ => trivial))) rfl ?_
      obtain ⟨r2, hv5, h⟩ := bind_some h
      refine Chain.consA (StepOK.call .none (shape_Inner_ok hv5) (.cons (.tmp rfl (fun _ => trivial)) (.cons (.tmp rfl (fun _ => trivial)) (.cons (.tmp rfl (fun _ => trivial)) .nil)))) rfl ?_
      refine Chain.consA (StepOK.move .none (.tmp rfl (fun _ => trivial))) rfl ?_
      refine Chain.consA (StepOK.extract .none (.tmp rfl (fun _ => trivial)) rfl) rfl ?_
      refine Chain.consA (StepOK.extract .none (.tmp rfl (fun _ => trivial)) rfl) rfl ?_
      refine Chain.consW (StepOK.alloc zo48 rfl) rfl rfl ?_
      refine Chain.consN (StepOK.store ty48 rfl rfl (.tmp rfl (fun _ => trivial))) rfl ?_
      refine Chain.consA (StepOK.assign .none (.tmp rfl (fun _ => trivial))) rfl ?_
      refine Chain.nil ?_
      refine Ends.then ?_
      refine Cod.freeze (t := 17) rfl rfl SubB.nil rfl ?_
      refine Cod.seq ?_
      refine Cod.seq ?_
      refine Cod.region [] mixed (by kernel_rfl) ?_
      refine Chain.cons (StepOK.move .none (.tmp rfl (fun _ => trivial))) rfl ?_
      refine Chain.cons (StepOK.neI .none (.tmp rfl (fun _ => trivial)) (.int (by decide))) rfl ?_
      refine Chain.nil ?_
      refine Ends.then ?_
      refine Cod.cond (t := 42) rfl trivial (fun hb6 => ?_) (fun hb6 => ?_)
      · replace h := bif_t h hb6
        refine Cod.seq ?_
        refine Cod.region [] mixed (by kernel_rfl) ?_
        refine Chain.cons (StepOK.move .none (.tmp rfl (fun _ => trivial))) rfl ?_
        refine Chain.cons (StepOK.assign .none (.const (x := ([] : (List Placed))) (fun M w => ⟨_, ⟨none, 0, rfl, Nat.le_refl _, by decide, rfl⟩, rfl⟩))) rfl ?_
        refine Chain.cons (StepOK.assign .none (.tmp rfl (fun _ => trivial))) rfl ?_
        refine Chain.nil ?_
        refine Ends.then ?_
        refine Cod.ret ?_
        refine Ends.thenRet ?_
        obtain rfl := some_eq h
        exact Ends.ret2 (.inl rfl) Tryd.results26 (ResOK.tmp rfl trivial Imp.refl) (ResOK.tmp rfl trivial Imp.refl)
      · replace h := bif_f h hb6
        refine Cod.skip ?_
        refine Ends.then ?_
        refine Cod.seq ?_
        refine Cod.seq ?_
        refine Cod.region [] mixed (by kernel_rfl) ?_
        refine Chain.cons (StepOK.move .none (.tmp rfl (fun _ => trivial))) rfl ?_
        refine Chain.cons (StepOK.lt .none (.tmp rfl (fun _ => trivial)) (.int (by decide))) rfl ?_
        refine Chain.cons (StepOK.move .none (.tmp rfl (fun _ => trivial))) rfl ?_
        refine Chain.cons (StepOK.move (.at rfl rfl) (.tmp rfl (fun _ => trivial))) rfl ?_
        refine Chain.cons (StepOK.gt (.at rfl rfl) (.tmp rfl id) (.int (by decide))) rfl ?_
        refine Chain.cons (StepOK.pickOr .none (.tmp rfl (fun _ => trivial)) (.tmp rfl id)) rfl ?_
        refine Chain.cons (StepOK.move .none (.tmp rfl (fun _ => trivial))) rfl ?_
        refine Chain.cons (StepOK.move (.at rfl rfl) (.tmp rfl (fun _ => trivial))) rfl ?_
        refine Chain.cons (StepOK.lt (.at rfl rfl) (.tmp rfl id) (.int (by decide))) rfl ?_
        refine Chain.cons (StepOK.pickOr .none (.tmp rfl (fun _ => trivial)) (.tmp rfl id)) rfl ?_
        refine Chain.cons (StepOK.move .none (.tmp rfl (fun _ => trivial))) rfl ?_
        refine Chain.cons (StepOK.move (.at rfl rfl) (.tmp rfl (fun _ => trivial))) rfl ?_
        refine Chain.cons (StepOK.gt (.at rfl rfl) (.tmp rfl id) (.int (by decide))) rfl ?_
        refine Chain.cons (StepOK.pickOr .none (.tmp rfl (fun _ => trivial)) (.tmp rfl id)) rfl ?_
        refine Chain.nil ?_
        refine Ends.then ?_
        refine Cod.cond (t := 57) rfl trivial (fun hb7 => ?_) (fun hb7 => ?_)
        · replace h := bif_t h hb7
          refine Cod.seq ?_
          refine Cod.region [] mixed (by kernel_rfl) ?_
          refine Chain.cons (StepOK.assign .none (.const (x := ([] : (List Placed))) (fun M w => ⟨_, ⟨none, 0, rfl, Nat.le_refl _, by decide, rfl⟩, rfl⟩))) rfl ?_
          refine Chain.cons (StepOK.assign .none (.int (by decide))) rfl ?_
          refine Chain.nil ?_
          refine Ends.then ?_
          refine Cod.ret ?_
          refine Ends.thenRet ?_
          obtain rfl := some_eq h
          exact Ends.ret2 (.inl rfl) Tryd.results26 (ResOK.tmp rfl trivial Imp.refl) (ResOK.tmp rfl trivial Imp.refl)
        · replace h := bif_f h hb7
          refine Cod.skip ?_
          refine Ends.then ?_
          refine Cod.seq ?_
          refine Cod.region [] mixed (by kernel_rfl) ?_
          refine Chain.cons (StepOK.load .none ty23 (.tmp rfl (fun _ => trivial))) rfl ?_
          refine Chain.cons (StepOK.move .none (.tmp rfl (fun _ => trivial))) rfl ?_
          refine Chain.cons (StepOK.fieldAddr .none fd48_2 hfd48_2 (.tmp rfl (fun _ => trivial))) rfl ?_
          refine Chain.cons (StepOK.load .none ty3 (.tmp rfl (fun _ => trivial))) rfl ?_
          obtain ⟨lines1, hv8, h⟩ := bind_some h
          refine Chain.cons (StepOK.call .none (shape_wrap_ok hv8) (.cons (.tmp rfl (fun _ => trivial)) (.cons (.tmp rfl (fun _ => trivial)) (.cons (.tmp rfl (fun _ => trivial)) .nil)))) rfl ?_
          refine Chain.cons (StepOK.assign .none (.tmp rfl (fun _ => trivial))) rfl ?_
          refine Chain.nil ?_
          refine Ends.then ?_
          refine Cod.seq ?_
          refine Cod.region [] mixed (by kernel_rfl) ?_
          refine Chain.cons (StepOK.fieldAddr .none fd48_3 hfd48_3 (.tmp rfl (fun _ => trivial))) rfl ?_
          refine Chain.cons (StepOK.load .none ty3 (.tmp rfl (fun _ => trivial))) rfl ?_
          refine Chain.cons (StepOK.move .none (.tmp rfl (fun _ => trivial))) rfl ?_
          refine Chain.cons (StepOK.len .none sl30 (.tmp rfl (fun _ => trivial))) rfl ?_
          refine Chain.cons (StepOK.fieldAddr .none fd23_0 hfd23_0 (.tmp rfl (fun _ => trivial))) rfl ?_
          refine Chain.cons (StepOK.load .none ty3 (.tmp rfl (fun _ => trivial))) rfl ?_
          refine Chain.cons (StepOK.mulW .none (.tmp rfl (fun _ => trivial)) (.tmp rfl (fun _ => trivial))) rfl ?_
          refine Chain.cons (StepOK.subW .none (.tmp rfl (fun _ => trivial)) (.tmp rfl (fun _ => trivial))) rfl ?_
          obtain ⟨free1, hv9, h⟩ := bnd_some h
          refine Chain.cons (StepOK.re hv9 (StepOK.assign .none (.tmp rfl (fun _ => trivial)))) rfl ?_
          refine Chain.nil ?_
          refine Ends.then ?_
          refine Cod.seq ?_
          refine Cod.seq ?_
          refine Cod.region [] mixed (by kernel_rfl) ?_
          refine Chain.cons (StepOK.move .none (.tmp rfl (fun _ => trivial))) rfl ?_
          refine Chain.cons (StepOK.lt .none (.tmp rfl (fun _ => trivial)) (.int (by decide))) rfl ?_
          refine Chain.cons (StepOK.move .none (.tmp rfl (fun _ => trivial))) rfl ?_
          refine Chain.cons (StepOK.load (.at rfl rfl) ty23 (.tmp rfl (fun _ => trivial))) rfl ?_
          refine Chain.cons (StepOK.move (.at rfl rfl) (.tmp rfl (fun _ => trivial))) rfl ?_
          obtain ⟨r3, hv10, h⟩ := bind_some h
          refine Chain.cons (StepOK.callIf (.at rfl rfl) fnok52 (fun hg => shape_widest_ok ((fun hg => gd_some hv10 ((notT hg.2))) hg)) (.cons (.tmp rfl id) (.cons (.tmp rfl id) .nil)) (fun h => h)) rfl ?_
          refine Chain.cons (StepOK.fieldAddr (.at rfl rfl) fd48_2 hfd48_2 (.tmp rfl (fun _ => trivial))) rfl ?_
          refine Chain.cons (StepOK.load (.at rfl rfl) ty3 (.tmp rfl id)) rfl ?_
          refine Chain.cons (StepOK.gt (.at rfl rfl) (.tmp rfl id) (.tmp rfl id)) rfl ?_
          refine Chain.cons (StepOK.pickOr .none (.tmp rfl (fun _ => trivial)) (.tmp rfl id)) rfl ?_
          refine Chain.nil ?_
          refine Ends.then ?_
          refine Cod.cond (t := 80) rfl trivial (fun hb11 => ?_) (fun hb11 => ?_)
          · replace h := bif_t h hb11
            refine Cod.seq ?_
            refine Cod.region [] mixed (by kernel_rfl) ?_
            refine Chain.cons (StepOK.assign .none (.const (x := ([] : (List Placed))) (fun M w => ⟨_, ⟨none, 0, rfl, Nat.le_refl _, by decide, rfl⟩, rfl⟩))) rfl ?_
            refine Chain.cons (StepOK.assign .none (.int (by decide))) rfl ?_
            refine Chain.nil ?_
            refine Ends.then ?_
            refine Cod.ret ?_
            refine Ends.thenRet ?_
            obtain rfl := some_eq h
            exact Ends.ret2 (.inl rfl) Tryd.results26 (ResOK.tmp rfl trivial Imp.refl) (ResOK.tmp rfl trivial Imp.refl)
          · replace h := bif_f h hb11
            refine Cod.skip ?_
            refine Ends.then ?_
            refine Cod.seq ?_
            refine Cod.region [([], [21])] mixed (by kernel_rfl) ?_
            refine Chain.consW (StepOK.nilRow (T := 55) (α := Placed) rfl) rfl rfl ?_
            refine Chain.nil ?_
            refine Ends.then ?_
            refine Cod.nameRow (t := 21) (g := 5001) rfl rfl rfl (fun s5001 => ?_)
            refine Cod.seq ?_
            refine Cod.seq ?_
            refine Cod.region [] mixed (by kernel_rfl) ?_
            refine Chain.cons (StepOK.move .none (.tmp rfl (fun _ => trivial))) rfl ?_
            refine Chain.cons (StepOK.len .none sl30 (.tmp rfl (fun _ => trivial))) rfl ?_
            refine Chain.cons (StepOK.move .none (.int (by decide))) rfl ?_
            refine Chain.nil ?_
            refine Ends.then ?_
            obtain ⟨j_12, h, hK12⟩ := bind_some h
            refine Cod.thenJ (ι := (List Placed)) (fun j_12 => []) (fun j_12 => [(21, some (rowV 55 j_12))]) (fun s => j_12 = s) Sub.nil SubB.nil ?_ (fun j_12' hj12 => ?_)
            · skip
              refine Cod.block ?_
              refine Cod.anon (t := 21) (g := 5001) rfl rfl trivial rfl ?_
              refine Cod.rforL h (fun p13_ => [(83, ⟨True, rep p13_.1⟩)]) (fun p13_ => [(21, some (rowV 55 p13_.2))]) (.cons (t := 83) rfl Sub.nil) (.cons (t := 21) rfl SubB.nil) (.cons (t := 5) rfl (.cons (t := 6) rfl (.cons (t := 7) rfl (.cons (t := 17) rfl (.cons (t := 20) rfl (.cons (t := 81) rfl (.cons (t := 82) rfl Sub.nil))))))) SubB.nil (fun p13_ o_13 h hD13 => ?_)
              refine Cod.nameRow (t := 21) (g := 5002) rfl rfl rfl (fun s5002 => ?_)
              refine Cod.seq ?_
              refine Cod.region [] mixed (by kernel_rfl) ?_
              refine Chain.cons (StepOK.lt .none (.tmp rfl (fun _ => trivial)) (.tmp rfl (fun _ => trivial))) rfl ?_
              refine Chain.nil ?_
              refine Ends.then ?_
              refine Cod.seq ?_
              refine Cod.cond (t := 84) rfl trivial (fun hb14 => ?_) (fun hb14 => ?_)
              · replace h := bif_t h hb14
                refine Cod.skip ?_
                refine Ends.then ?_
                refine Cod.seq ?_
                obtain ⟨j_15, h, hK15⟩ := bind_some h
                unfold shape_Lay_L1 at h
                refine Cod.thenJ (ι := (List Placed)) (fun j_15 => []) (fun j_15 => [(21, some (rowV 55 j_15))]) (fun s => j_15 = s) (.cons (t := 5) rfl (.cons (t := 6) rfl (.cons (t := 7) rfl (.cons (t := 17) rfl (.cons (t := 20) rfl (.cons (t := 81) rfl (.cons (t := 82) rfl (.cons (t := 83) rfl Sub.nil)))))))) SubB.nil ?_ (fun j_15' hj15 => ?_)
                · skip
                  refine Cod.block ?_
                  refine Cod.seq ?_
                  refine Cod.region [] mixed (by kernel_rfl) ?_
                  refine Chain.cons (StepOK.move .none (.tmp rfl (fun _ => trivial))) rfl ?_
                  obtain ⟨hn16, h⟩ := need_some h
                  refine Chain.cons (StepOK.indexAddr .none sl30 ty9 (.tmp rfl (fun _ => trivial)) (.tmp rfl (fun _ => trivial)) (fun _ => hn16)) rfl ?_
                  refine Chain.cons (StepOK.load .none ty9 (.tmp rfl (fun _ => trivial))) rfl ?_
                  refine Chain.cons (StepOK.assign .none (.tmp rfl (fun _ => trivial))) rfl ?_
                  obtain ⟨l1, hv17, h⟩ := bnd_some h
                  refine Chain.cons (StepOK.re hv17 (StepOK.assign .none (.tmp rfl (fun _ => trivial)))) rfl ?_
                  refine Chain.nil ?_
                  refine Ends.then ?_
                  refine Cod.seq ?_
                  refine Cod.region [] mixed (by kernel_rfl) ?_
                  refine Chain.cons (StepOK.load .none ty23 (.tmp rfl (fun _ => trivial))) rfl ?_
                  refine Chain.cons (StepOK.move .none (.tmp rfl (fun _ => trivial))) rfl ?_
                  obtain ⟨r4, hv18, h⟩ := bind_some h
                  refine Chain.cons (StepOK.call .none (shape_measure_ok hv18) (.cons (.tmp rfl (fun _ => trivial)) (.cons (.tmp rfl (fun _ => trivial)) .nil))) rfl ?_
                  refine Chain.cons (StepOK.max2 .none (.tmp rfl (fun _ => trivial)) (.int (by decide))) rfl ?_
                  obtain ⟨wide1, hv19, h⟩ := bnd_some h
                  refine Chain.cons (StepOK.re hv19 (StepOK.assign .none (.tmp rfl (fun _ => trivial)))) rfl ?_
                  refine Chain.nil ?_
                  refine Ends.then ?_
                  refine Cod.region [([], []), ([], []), ([], []), ([], []), ([], []), ([], []), ([], []), ([], []), ([], []), ([], []), ([], []), ([], []), ([], []), ([], []), ([], []), ([], []), ([], []), ([], []), ([], []), ([], []), ([], []), ([], []), ([], []), ([], []), ([], []), ([], []), ([], []), ([], []), ([5002], [120, 5002]), ([120], [21, 120])] mixed (by kernel_rfl) ?_
                  refine Chain.consA (StepOK.move .none (.tmp rfl (fun _ => trivial))) rfl ?_
                  refine Chain.consA (StepOK.move .none (.tmp rfl (fun _ => trivial))) rfl ?_
                  refine Chain.consA (StepOK.fieldAddr .none fd48_0 hfd48_0 (.tmp rfl (fun _ => trivial))) rfl ?_
                  refine Chain.consA (StepOK.load .none ty3 (.tmp rfl (fun _ => trivial))) rfl ?_
                  refine Chain.consA (StepOK.fieldAddr .none fd48_2 hfd48_2 (.tmp rfl (fun _ => trivial))) rfl ?_
                  refine Chain.consA (StepOK.load .none ty3 (.tmp rfl (fun _ => trivial))) rfl ?_
                  refine Chain.consA (StepOK.move .none (.tmp rfl (fun _ => trivial))) rfl ?_
                  refine Chain.consA (StepOK.subW .none (.tmp rfl (fun _ => trivial)) (.tmp rfl (fun _ => trivial))) rfl ?_
                  refine Chain.consA (StepOK.move .none (.tmp rfl (fun _ => trivial))) rfl ?_
                  obtain ⟨r5, hv20, h⟩ := bind_some h
                  refine Chain.consA (StepOK.call .none (shape_rest_ok hv20) (.cons (.tmp rfl (fun _ => trivial)) (.cons (.tmp rfl (fun _ => trivial)) .nil))) rfl ?_
                  refine Chain.consA (StepOK.addW .none (.tmp rfl (fun _ => trivial)) (.tmp rfl (fun _ => trivial))) rfl ?_
                  refine Chain.consA (StepOK.fieldAddr .none fd48_1 hfd48_1 (.tmp rfl (fun _ => trivial))) rfl ?_
                  refine Chain.consA (StepOK.load .none ty3 (.tmp rfl (fun _ => trivial))) rfl ?_
                  refine Chain.consA (StepOK.move .none (.tmp rfl (fun _ => trivial))) rfl ?_
                  refine Chain.consA (StepOK.move .none (.tmp rfl (fun _ => trivial))) rfl ?_
                  obtain ⟨r6, hv21, h⟩ := bind_some h
                  refine Chain.consA (StepOK.call .none (shape_rest_ok hv21) (.cons (.tmp rfl (fun _ => trivial)) (.cons (.tmp rfl (fun _ => trivial)) .nil))) rfl ?_
                  refine Chain.consA (StepOK.addW .none (.tmp rfl (fun _ => trivial)) (.tmp rfl (fun _ => trivial))) rfl ?_
                  refine Chain.consA (StepOK.move .none (.tmp rfl (fun _ => trivial))) rfl ?_
                  refine Chain.consA (StepOK.fieldAddr .none fd23_0 hfd23_0 (.tmp rfl (fun _ => trivial))) rfl ?_
                  refine Chain.consA (StepOK.load .none ty3 (.tmp rfl (fun _ => trivial))) rfl ?_
                  refine Chain.consA (StepOK.mulW .none (.tmp rfl (fun _ => trivial)) (.tmp rfl (fun _ => trivial))) rfl ?_
                  refine Chain.consA (StepOK.addW .none (.tmp rfl (fun _ => trivial)) (.tmp rfl (fun _ => trivial))) rfl ?_
                  refine Chain.consA (StepOK.move .none (.tmp rfl (fun _ => trivial))) rfl ?_
                  refine Chain.consA (StepOK.fieldAddr .none fd23_0 hfd23_0 (.tmp rfl (fun _ => trivial))) rfl ?_
                  refine Chain.consA (StepOK.load .none ty3 (.tmp rfl (fun _ => trivial))) rfl ?_
                  refine Chain.consA (StepOK.buildF (y := (⟨W (r2.1.X + r5), W ((W (r2.1.Y + r6)) + (W (p13_.1 * f1.Line))), wide1, f1.Line⟩ : Box)) .none bu48 zc48 rfl (.cons (.tmp rfl (fun _ => trivial)) (.cons (.tmp rfl (fun _ => trivial)) (.cons (.tmp rfl (fun _ => trivial)) (.cons (.tmp rfl (fun _ => trivial)) .nil)))) (.cons rfl sf48_0 (.cons rfl sf48_1 (.cons rfl sf48_2 (.cons rfl sf48_3 .nil))))) rfl ?_
                  refine Chain.consA (StepOK.buildF (y := (⟨l1, (⟨W (r2.1.X + r5), W ((W (r2.1.Y + r6)) + (W (p13_.1 * f1.Line))), wide1, f1.Line⟩ : Box)⟩ : Placed)) .none bu55 zc55 rfl (.cons (.tmp rfl (fun _ => trivial)) (.cons (.tmp rfl (fun _ => trivial)) .nil)) (.cons rfl sf55_0 (.cons rfl sf55_1 .nil))) rfl ?_
                  refine Chain.consA (StepOK.buildSlice (xs := [_]) .none sl49 ty55 hz55 (.cons (.tmp rfl (fun _ => trivial)) .nil) rfl (by decide)) rfl ?_
                  obtain ⟨hn22, h⟩ := need_some h
                  refine Chain.consW (StepOK.append (k := 5002) rk49 rfl (.told (.tmp rfl (fun _ => trivial)) rfl) (.tmp rfl (fun _ => trivial)) hn22) rfl rfl ?_
                  refine Chain.consWD (StepOK.passRow rfl (.tmp rfl)) rfl rfl ?_
                  refine Chain.nil ?_
                  refine Ends.blkNormal ?_
                  exact Ends.join _ (some_eq h) (.cons (t := 5) rfl (.cons (t := 6) rfl (.cons (t := 7) rfl (.cons (t := 17) rfl (.cons (t := 20) rfl (.cons (t := 81) rfl (.cons (t := 82) rfl (.cons (t := 83) rfl Sub.nil)))))))) (.cons (t := 21) rfl SubB.nil)
                · subst hj15; have h := hK15; clear hK15
                  refine Cod.nameRow (t := 21) (g := 5003) rfl rfl rfl (fun s5003 => ?_)
                  refine Cod.region [] mixed (by kernel_rfl) ?_
                  refine Chain.cons (StepOK.addW .none (.tmp rfl (fun _ => trivial)) (.int (by decide))) rfl ?_
                  refine Chain.cons (StepOK.move .none (.tmp rfl (fun _ => trivial))) rfl ?_
                  refine Chain.nil ?_
                  refine Ends.anon (t := 21) (g := 5003) rfl rfl trivial rfl ?_
                  exact Ends.againL (some_eq h) (.cons (t := 83) rfl (.cons (t := 5) rfl (.cons (t := 6) rfl (.cons (t := 7) rfl (.cons (t := 17) rfl (.cons (t := 20) rfl (.cons (t := 81) rfl (.cons (t := 82) rfl Sub.nil)))))))) (.cons (t := 21) rfl SubB.nil)
              · replace h := bif_f h hb14
                refine Cod.exit ?_
                refine Ends.thenExit ?_
                refine Ends.thenExit ?_
                refine Ends.blkExit ?_
                refine Ends.anon (t := 21) (g := 5002) rfl rfl trivial rfl ?_
                replace h := hD13 _ (some_eq h)
                exact Ends.join _ (some_eq h) Sub.nil (.cons (t := 21) rfl SubB.nil)
            · subst hj12; have h := hK12; clear hK12
              refine Cod.freezeRowA (t := 21) rfl rfl SubB.nil rfl ?_
              refine Cod.seq ?_
              refine Cod.region [] mixed (by kernel_rfl) ?_
              refine Chain.cons (StepOK.move .none (.tmp rfl (fun _ => trivial))) rfl ?_
              refine Chain.cons (StepOK.assign .none (.tmp rfl (fun _ => trivial))) rfl ?_
              refine Chain.cons (StepOK.assign .none (.int (by decide))) rfl ?_
              refine Chain.nil ?_
              refine Ends.then ?_
              refine Cod.ret ?_
              obtain rfl := some_eq h
              exact Ends.ret2 (.inl rfl) Tryd.results26 (ResOK.tmp rfl trivial Imp.refl) (ResOK.tmp rfl trivial Imp.refl)

theorem top_TopTexts_ok {f1 : Font} {text1 : Str} {kind1 : Int} {pad1 : Int} {most1 : Int} {r : Bool}  (h : top_TopTexts f1 text1 kind1 pad1 most1 = some r) : FSpec Tryd.prog 4 [rep f1, rep text1, rep kind1, rep pad1, rep most1] (rep r) := by
  unfold top_TopTexts at h
  refine FSpec.intro (n := 163) fnok4 Tryd.func4 rfl Tryd.ntmps4 rfl (fun F => ?_)
  refine Cod.seq ?_
  refine Cod.region [] mixed (by kernel_rfl) ?_
  refine Chain.cons (StepOK.box .none (.tmp rfl (fun _ => trivial))) rfl ?_
  refine Chain.cons (StepOK.assign .none .bool) rfl ?_
  refine Chain.nil ?_
  refine Ends.then ?_
  refine Cod.seq ?_
  refine Cod.region [] mixed (by kernel_rfl) ?_
  refine Chain.cons (StepOK.load .none ty23 (.tmp rfl (fun _ => trivial))) rfl ?_
  refine Chain.cons (StepOK.move .none (.tmp rfl (fun _ => trivial))) rfl ?_
  refine Chain.cons (StepOK.move .none (.tmp rfl (fun _ => trivial))) rfl ?_
  refine Chain.cons (StepOK.move .none (.tmp rfl (fun _ => trivial))) rfl ?_
  refine Chain.cons (StepOK.move .none (.tmp rfl (fun _ => trivial))) rfl ?_
  obtain ⟨r1, hv1, h⟩ := bind_some h
  refine Chain.cons (StepOK.call .none (shape_Fit_ok hv1) (.cons (.tmp rfl (fun _ => trivial)) (.cons (.tmp rfl (fun _ => trivial)) (.cons (.tmp rfl (fun _ => trivial)) (.cons (.tmp rfl (fun _ => trivial)) (.cons (.tmp rfl (fun _ => trivial)) .nil)))))) rfl ?_
  refine Chain.cons (StepOK.move .none (.tmp rfl (fun _ => trivial))) rfl ?_
  refine Chain.cons (StepOK.extract .none (.tmp rfl (fun _ => trivial)) rfl) rfl ?_
  refine Chain.cons (StepOK.extract .none (.tmp rfl (fun _ => trivial)) rfl) rfl ?_
  refine Chain.cons (StepOK.extract .none (.tmp rfl (fun _ => trivial)) rfl) rfl ?_
  refine Chain.cons (StepOK.assign .none (.tmp rfl (fun _ => trivial))) rfl ?_
  refine Chain.cons (StepOK.assign .none (.tmp rfl (fun _ => trivial))) rfl ?_
  refine Chain.cons (StepOK.assign .none (.tmp rfl (fun _ => trivial))) rfl ?_
  refine Chain.nil ?_
  refine Ends.then ?_
  refine Cod.seq ?_
  refine Cod.seq ?_
  refine Cod.region [] mixed (by kernel_rfl) ?_
  refine Chain.cons (StepOK.move .none (.tmp rfl (fun _ => trivial))) rfl ?_
  refine Chain.cons (StepOK.neI .none (.tmp rfl (fun _ => trivial)) (.int (by decide))) rfl ?_
  refine Chain.nil ?_
  refine Ends.then ?_
  refine Cod.cond (t := 33) rfl trivial (fun hb2 => ?_) (fun hb2 => ?_)
  · replace h := bif_t h hb2
    refine Cod.seq ?_
    refine Cod.region [] mixed (by kernel_rfl) ?_
    refine Chain.cons (StepOK.move .none (.tmp rfl (fun _ => trivial))) rfl ?_
    refine Chain.cons (StepOK.eqI .none (.tmp rfl (fun _ => trivial)) (.int (by decide))) rfl ?_
    refine Chain.cons (StepOK.move .none (.tmp rfl (fun _ => trivial))) rfl ?_
    refine Chain.cons (StepOK.move (.at rfl rfl) (.tmp rfl (fun _ => trivial))) rfl ?_
    refine Chain.cons (StepOK.eqI (.at rfl rfl) (.tmp rfl id) (.int (by decide))) rfl ?_
    refine Chain.cons (StepOK.pickAnd .none (.tmp rfl (fun _ => trivial)) (.tmp rfl id)) rfl ?_
    refine Chain.cons (StepOK.assign .none (.tmp rfl (fun _ => trivial))) rfl ?_
    refine Chain.nil ?_
    refine Ends.then ?_
    refine Cod.ret ?_
    refine Ends.thenRet ?_
    obtain rfl := some_eq h
    exact Ends.ret1 (.inl rfl) Tryd.results4 (ResOK.tmp rfl trivial Imp.refl)
  · replace h := bif_f h hb2
    refine Cod.skip ?_
    refine Ends.then ?_
    refine Cod.seq ?_
    refine Cod.region [([], []), ([], []), ([], []), ([], [14]), ([14], [14])] mixed (by kernel_rfl) ?_
    refine Chain.consA (StepOK.move .none (.tmp rfl (fun _ => trivial))) rfl ?_
    refine Chain.consA (StepOK.move .none (.tmp rfl (fun _ => trivial))) rfl ?_
    obtain ⟨v1, hv3, h⟩ := bnd_some h
    refine Chain.consA (StepOK.re hv3 (StepOK.buildF (y := (⟨(0 : Int), (0 : Int), r1.1, r1.2.1⟩ : Box)) .none bu48 zc48 rfl (.cons (.tmp rfl (fun _ => trivial)) (.cons (.tmp rfl (fun _ => trivial)) .nil)) (.cons rfl sf48_2 (.cons rfl sf48_3 .nil)))) rfl ?_
    refine Chain.consW (StepOK.alloc zo48 rfl) rfl rfl ?_
    refine Chain.consN (StepOK.store ty48 rfl rfl (.tmp rfl (fun _ => trivial))) rfl ?_
    refine Chain.nil ?_
    refine Ends.then ?_
    refine Cod.freeze (t := 14) rfl rfl SubB.nil rfl ?_
    refine Cod.seq ?_
    refine Cod.region [] mixed (by kernel_rfl) ?_
    refine Chain.cons (StepOK.load .none ty23 (.tmp rfl (fun _ => trivial))) rfl ?_
    refine Chain.cons (StepOK.move .none (.tmp rfl (fun _ => trivial))) rfl ?_
    refine Chain.cons (StepOK.move .none (.tmp rfl (fun _ => trivial))) rfl ?_
    refine Chain.cons (StepOK.load .none ty48 (.tmp rfl (fun _ => trivial))) rfl ?_
    refine Chain.cons (StepOK.move .none (.tmp rfl (fun _ => trivial))) rfl ?_
    obtain ⟨r2, hv4, h⟩ := bind_some h
    refine Chain.cons (StepOK.call .none (shape_Lay_ok hv4) (.cons (.tmp rfl (fun _ => trivial)) (.cons (.tmp rfl (fun _ => trivial)) (.cons (.tmp rfl (fun _ => trivial)) (.cons (.tmp rfl (fun _ => trivial)) (.cons (.tmp rfl (fun _ => trivial)) (.cons (.int (by decide)) (.cons (.int (by decide)) .nil)))))))) rfl ?_
    refine Chain.cons (StepOK.move .none (.tmp rfl (fun _ => trivial))) rfl ?_
    refine Chain.cons (StepOK.extract .none (.tmp rfl (fun _ => trivial)) rfl) rfl ?_
    refine Chain.cons (StepOK.extract .none (.tmp rfl (fun _ => trivial)) rfl) rfl ?_
    refine Chain.cons (StepOK.assign .none (.tmp rfl (fun _ => trivial))) rfl ?_
    refine Chain.cons (StepOK.assign .none (.tmp rfl (fun _ => trivial))) rfl ?_
    refine Chain.nil ?_
    refine Ends.then ?_
    refine Cod.seq ?_
    refine Cod.region [([], []), ([], []), ([], []), ([], []), ([], []), ([], []), ([], []), ([], [16]), ([16], [16]), ([], [])] mixed (by kernel_rfl) ?_
    refine Chain.consA (StepOK.move .none (.tmp rfl (fun _ => trivial))) rfl ?_
    refine Chain.consA (StepOK.load .none ty48 (.tmp rfl (fun _ => trivial))) rfl ?_
    refine Chain.consA (StepOK.move .none (.tmp rfl (fun _ => trivial))) rfl ?_
    obtain ⟨r3, hv5, h⟩ := bind_some h
    refine Chain.consA (StepOK.call .none (shape_Inner_ok hv5) (.cons (.tmp rfl (fun _ => trivial)) (.cons (.tmp rfl (fun _ => trivial)) (.cons (.tmp rfl (fun _ => trivial)) .nil)))) rfl ?_
    refine Chain.consA (StepOK.move .none (.tmp rfl (fun _ => trivial))) rfl ?_
    refine Chain.consA (StepOK.extract .none (.tmp rfl (fun _ => trivial)) rfl) rfl ?_
    refine Chain.consA (StepOK.extract .none (.tmp rfl (fun _ => trivial)) rfl) rfl ?_
    refine Chain.consW (StepOK.alloc zo48 rfl) rfl rfl ?_
    refine Chain.consN (StepOK.store ty48 rfl rfl (.tmp rfl (fun _ => trivial))) rfl ?_
    refine Chain.consA (StepOK.assign .none (.tmp rfl (fun _ => trivial))) rfl ?_
    refine Chain.nil ?_
    refine Ends.then ?_
    refine Cod.freeze (t := 16) rfl rfl SubB.nil rfl ?_
    refine Cod.seq ?_
    refine Cod.seq ?_
    refine Cod.region [] mixed (by kernel_rfl) ?_
    refine Chain.cons (StepOK.move .none (.tmp rfl (fun _ => trivial))) rfl ?_
    refine Chain.cons (StepOK.neI .none (.tmp rfl (fun _ => trivial)) (.int (by decide))) rfl ?_
    refine Chain.cons (StepOK.move .none (.tmp rfl (fun _ => trivial))) rfl ?_
    refine Chain.cons (StepOK.move (.at rfl rfl) (.tmp rfl (fun _ => trivial))) rfl ?_
    refine Chain.cons (StepOK.neI (.at rfl rfl) (.tmp rfl id) (.int (by decide))) rfl ?_
    refine Chain.cons (StepOK.pickOr .none (.tmp rfl (fun _ => trivial)) (.tmp rfl id)) rfl ?_
    refine Chain.cons (StepOK.move .none (.tmp rfl (fun _ => trivial))) rfl ?_
    refine Chain.cons (StepOK.move (.at rfl rfl) (.tmp rfl (fun _ => trivial))) rfl ?_
    refine Chain.cons (StepOK.len (.at rfl rfl) sl49 (.tmp rfl id)) rfl ?_
    refine Chain.cons (StepOK.eqI (.at rfl rfl) (.tmp rfl id) (.int (by decide))) rfl ?_
    refine Chain.cons (StepOK.pickOr .none (.tmp rfl (fun _ => trivial)) (.tmp rfl id)) rfl ?_
    refine Chain.nil ?_
    refine Ends.then ?_
    refine Cod.cond (t := 69) rfl trivial (fun hb6 => ?_) (fun hb6 => ?_)
    · replace h := bif_t h hb6
      refine Cod.seq ?_
      refine Cod.region [] mixed (by kernel_rfl) ?_
      refine Chain.cons (StepOK.assign .none .bool) rfl ?_
      refine Chain.nil ?_
      refine Ends.then ?_
      refine Cod.ret ?_
      refine Ends.thenRet ?_
      obtain rfl := some_eq h
      exact Ends.ret1 (.inl rfl) Tryd.results4 (ResOK.tmp rfl trivial Imp.refl)
    · replace h := bif_f h hb6
      refine Cod.skip ?_
      refine Ends.then ?_
      refine Cod.seq ?_
      refine Cod.region [] mixed (by kernel_rfl) ?_
      refine Chain.cons (StepOK.assign .none (.int (by decide))) rfl ?_
      refine Chain.nil ?_
      refine Ends.then ?_
      refine Cod.seq ?_
      refine Cod.seq ?_
      refine Cod.region [] mixed (by kernel_rfl) ?_
      refine Chain.cons (StepOK.move .none (.tmp rfl (fun _ => trivial))) rfl ?_
      refine Chain.cons (StepOK.len .none sl49 (.tmp rfl (fun _ => trivial))) rfl ?_
      refine Chain.cons (StepOK.move .none (.int (by decide))) rfl ?_
      refine Chain.nil ?_
      refine Ends.then ?_
      obtain ⟨o_7, h, hK7⟩ := bindR_some h
      refine Cod.thenJ (ι := Int) (fun j_7 => [(18, ⟨True, rep j_7⟩)]) (fun j_7 => []) (fun s => o_7 = Res.nx s) (.cons (t := 2) rfl (.cons (t := 3) rfl (.cons (t := 5) rfl (.cons (t := 11) rfl (.cons (t := 12) rfl (.cons (t := 15) rfl (.cons (t := 16) rfl Sub.nil))))))) SubB.nil ?_ (fun j_7 hj7 => ?_)
      · skip
        refine Cod.block ?_
        refine Cod.rforEL h (fun p8_ => [(72, ⟨True, rep p8_.1⟩), (18, ⟨True, rep p8_.2⟩)]) (fun p8_ => []) (.cons (t := 72) rfl (.cons (t := 18) rfl Sub.nil)) SubB.nil (.cons (t := 2) rfl (.cons (t := 3) rfl (.cons (t := 5) rfl (.cons (t := 11) rfl (.cons (t := 12) rfl (.cons (t := 15) rfl (.cons (t := 16) rfl (.cons (t := 70) rfl (.cons (t := 71) rfl Sub.nil))))))))) SubB.nil (fun p8_ o_8 h hD8 => ?_)
        refine Cod.seq ?_
        refine Cod.region [] mixed (by kernel_rfl) ?_
        refine Chain.cons (StepOK.lt .none (.tmp rfl (fun _ => trivial)) (.tmp rfl (fun _ => trivial))) rfl ?_
        refine Chain.nil ?_
        refine Ends.then ?_
        refine Cod.seq ?_
        refine Cod.cond (t := 73) rfl trivial (fun hb9 => ?_) (fun hb9 => ?_)
        · replace h := bif_t h hb9
          refine Cod.skip ?_
          refine Ends.then ?_
          refine Cod.seq ?_
          obtain ⟨o_10, h, hK10⟩ := bindD_some h
          unfold top_TopTexts_L1 at h
          refine Cod.thenJ (ι := Int) (fun j_10 => [(18, ⟨True, rep j_10⟩)]) (fun j_10 => []) (fun s => o_10 = Res.nx s) (.cons (t := 2) rfl (.cons (t := 3) rfl (.cons (t := 5) rfl (.cons (t := 11) rfl (.cons (t := 12) rfl (.cons (t := 15) rfl (.cons (t := 16) rfl (.cons (t := 70) rfl (.cons (t := 71) rfl (.cons (t := 72) rfl Sub.nil)))))))))) SubB.nil ?_ (fun j_10 hj10 => ?_)
          · skip
            refine Cod.block ?_
            refine Cod.seq ?_
            refine Cod.region [([], []), ([], []), ([], [20]), ([20], [20])] mixed (by kernel_rfl) ?_
            obtain ⟨hn11, h⟩ := need_some h
            refine Chain.consA (StepOK.indexAddr .none sl49 ty55 (.tmp rfl (fun _ => trivial)) (.tmp rfl (fun _ => trivial)) (fun _ => hn11)) rfl ?_
            obtain ⟨v2, hv12, h⟩ := bnd_some h
            refine Chain.consA (StepOK.re hv12 (StepOK.load .none ty55 (.tmp rfl (fun _ => trivial)))) rfl ?_
            refine Chain.consW (StepOK.alloc zo55 rfl) rfl rfl ?_
            refine Chain.consN (StepOK.store ty55 rfl rfl (.tmp rfl (fun _ => trivial))) rfl ?_
            refine Chain.nil ?_
            refine Ends.then ?_
            refine Cod.freeze (t := 20) rfl rfl SubB.nil rfl ?_
            refine Cod.seq ?_
            refine Cod.seq ?_
            refine Cod.region [] mixed (by kernel_rfl) ?_
            refine Chain.cons (StepOK.fieldAddr .none fd55_1 hfd55_1 (.tmp rfl (fun _ => trivial))) rfl ?_
            refine Chain.cons (StepOK.fieldAddr .none fd48_0 hfd48_0 (.tmp rfl (fun _ => trivial))) rfl ?_
            refine Chain.cons (StepOK.load .none ty3 (.tmp rfl (fun _ => trivial))) rfl ?_
            refine Chain.cons (StepOK.fieldAddr .none fd48_0 hfd48_0 (.tmp rfl (fun _ => trivial))) rfl ?_
            refine Chain.cons (StepOK.load .none ty3 (.tmp rfl (fun _ => trivial))) rfl ?_
            refine Chain.cons (StepOK.lt .none (.tmp rfl (fun _ => trivial)) (.tmp rfl (fun _ => trivial))) rfl ?_
            refine Chain.cons (StepOK.move .none (.tmp rfl (fun _ => trivial))) rfl ?_
            refine Chain.cons (StepOK.fieldAddr (.at rfl rfl) fd55_1 hfd55_1 (.tmp rfl (fun _ => trivial))) rfl ?_
            refine Chain.cons (StepOK.fieldAddr (.at rfl rfl) fd48_1 hfd48_1 (.tmp rfl id)) rfl ?_
            refine Chain.cons (StepOK.load (.at rfl rfl) ty3 (.tmp rfl id)) rfl ?_
            refine Chain.cons (StepOK.fieldAddr (.at rfl rfl) fd48_1 hfd48_1 (.tmp rfl (fun _ => trivial))) rfl ?_
            refine Chain.cons (StepOK.load (.at rfl rfl) ty3 (.tmp rfl id)) rfl ?_
            refine Chain.cons (StepOK.lt (.at rfl rfl) (.tmp rfl id) (.tmp rfl id)) rfl ?_
            refine Chain.cons (StepOK.pickOr .none (.tmp rfl (fun _ => trivial)) (.tmp rfl id)) rfl ?_
            refine Chain.cons (StepOK.move .none (.tmp rfl (fun _ => trivial))) rfl ?_
            refine Chain.cons (StepOK.fieldAddr (.at rfl rfl) fd55_1 hfd55_1 (.tmp rfl (fun _ => trivial))) rfl ?_
            refine Chain.cons (StepOK.fieldAddr (.at rfl rfl) fd48_0 hfd48_0 (.tmp rfl id)) rfl ?_
            refine Chain.cons (StepOK.load (.at rfl rfl) ty3 (.tmp rfl id)) rfl ?_
            refine Chain.cons (StepOK.fieldAddr (.at rfl rfl) fd55_1 hfd55_1 (.tmp rfl (fun _ => trivial))) rfl ?_
            refine Chain.cons (StepOK.fieldAddr (.at rfl rfl) fd48_2 hfd48_2 (.tmp rfl id)) rfl ?_
            refine Chain.cons (StepOK.load (.at rfl rfl) ty3 (.tmp rfl id)) rfl ?_
            refine Chain.cons (StepOK.addW (.at rfl rfl) (.tmp rfl id) (.tmp rfl id)) rfl ?_
            refine Chain.cons (StepOK.fieldAddr (.at rfl rfl) fd48_0 hfd48_0 (.tmp rfl (fun _ => trivial))) rfl ?_
            refine Chain.cons (StepOK.load (.at rfl rfl) ty3 (.tmp rfl id)) rfl ?_
            refine Chain.cons (StepOK.fieldAddr (.at rfl rfl) fd48_2 hfd48_2 (.tmp rfl (fun _ => trivial))) rfl ?_
            refine Chain.cons (StepOK.load (.at rfl rfl) ty3 (.tmp rfl id)) rfl ?_
            refine Chain.cons (StepOK.addW (.at rfl rfl) (.tmp rfl id) (.tmp rfl id)) rfl ?_
            refine Chain.cons (StepOK.gt (.at rfl rfl) (.tmp rfl id) (.tmp rfl id)) rfl ?_
            refine Chain.cons (StepOK.pickOr .none (.tmp rfl (fun _ => trivial)) (.tmp rfl id)) rfl ?_
            refine Chain.cons (StepOK.move .none (.tmp rfl (fun _ => trivial))) rfl ?_
            refine Chain.cons (StepOK.fieldAddr (.at rfl rfl) fd55_1 hfd55_1 (.tmp rfl (fun _ => trivial))) rfl ?_
            refine Chain.cons (StepOK.fieldAddr (.at rfl rfl) fd48_1 hfd48_1 (.tmp rfl id)) rfl ?_
            refine Chain.cons (StepOK.load (.at rfl rfl) ty3 (.tmp rfl id)) rfl ?_
            refine Chain.cons (StepOK.fieldAddr (.at rfl rfl) fd55_1 hfd55_1 (.tmp rfl (fun _ => trivial))) rfl ?_
            refine Chain.cons (StepOK.fieldAddr (.at rfl rfl) fd48_3 hfd48_3 (.tmp rfl id)) rfl ?_
            refine Chain.cons (StepOK.load (.at rfl rfl) ty3 (.tmp rfl id)) rfl ?_
            refine Chain.cons (StepOK.addW (.at rfl rfl) (.tmp rfl id) (.tmp rfl id)) rfl ?_
            refine Chain.cons (StepOK.fieldAddr (.at rfl rfl) fd48_1 hfd48_1 (.tmp rfl (fun _ => trivial))) rfl ?_
            refine Chain.cons (StepOK.load (.at rfl rfl) ty3 (.tmp rfl id)) rfl ?_
            refine Chain.cons (StepOK.fieldAddr (.at rfl rfl) fd48_3 hfd48_3 (.tmp rfl (fun _ => trivial))) rfl ?_
            refine Chain.cons (StepOK.load (.at rfl rfl) ty3 (.tmp rfl id)) rfl ?_
            refine Chain.cons (StepOK.addW (.at rfl rfl) (.tmp rfl id) (.tmp rfl id)) rfl ?_
            refine Chain.cons (StepOK.gt (.at rfl rfl) (.tmp rfl id) (.tmp rfl id)) rfl ?_
            refine Chain.cons (StepOK.pickOr .none (.tmp rfl (fun _ => trivial)) (.tmp rfl id)) rfl ?_
            refine Chain.nil ?_
            refine Ends.then ?_
            refine Cod.cond (t := 119) rfl trivial (fun hb13 => ?_) (fun hb13 => ?_)
            · replace h := bif_t h hb13
              refine Cod.seq ?_
              refine Cod.region [] mixed (by kernel_rfl) ?_
              refine Chain.cons (StepOK.assign .none .bool) rfl ?_
              refine Chain.nil ?_
              refine Ends.then ?_
              refine Cod.ret ?_
              refine Ends.thenRet ?_
              refine Ends.blkRet ?_
              refine Ends.thenRet ?_
              refine Ends.thenRet ?_
              refine Ends.blkRet ?_
              refine Ends.thenRet ?_
              replace h := resd_ab hK10 (some_eq h)
              replace h := hD8 _ (some_eq h)
              replace h := resb_ab hK7 (some_eq h)
              obtain rfl := some_eq h
              exact Ends.ret1 (.inl rfl) Tryd.results4 (ResOK.tmp rfl trivial Imp.refl)
            · replace h := bif_f h hb13
              refine Cod.skip ?_
              refine Ends.then ?_
              refine Cod.region [] mixed (by kernel_rfl) ?_
              refine Chain.cons (StepOK.move .none (.tmp rfl (fun _ => trivial))) rfl ?_
              refine Chain.cons (StepOK.fieldAddr .none fd55_1 hfd55_1 (.tmp rfl (fun _ => trivial))) rfl ?_
              refine Chain.cons (StepOK.fieldAddr .none fd48_2 hfd48_2 (.tmp rfl (fun _ => trivial))) rfl ?_
              refine Chain.cons (StepOK.load .none ty3 (.tmp rfl (fun _ => trivial))) rfl ?_
              refine Chain.cons (StepOK.max2 .none (.tmp rfl (fun _ => trivial)) (.tmp rfl (fun _ => trivial))) rfl ?_
              obtain ⟨wide1, hv14, h⟩ := bnd_some h
              refine Chain.cons (StepOK.re hv14 (StepOK.assign .none (.tmp rfl (fun _ => trivial)))) rfl ?_
              refine Chain.nil ?_
              refine Ends.blkNormal ?_
              exact Ends.join _ (some_eq h) (.cons (t := 18) rfl (.cons (t := 2) rfl (.cons (t := 3) rfl (.cons (t := 5) rfl (.cons (t := 11) rfl (.cons (t := 12) rfl (.cons (t := 15) rfl (.cons (t := 16) rfl (.cons (t := 70) rfl (.cons (t := 71) rfl (.cons (t := 72) rfl Sub.nil))))))))))) SubB.nil
          · have h := resd_nx hK10 hj10
            refine Cod.region [] mixed (by kernel_rfl) ?_
            refine Chain.cons (StepOK.addW .none (.tmp rfl (fun _ => trivial)) (.int (by decide))) rfl ?_
            refine Chain.cons (StepOK.move .none (.tmp rfl (fun _ => trivial))) rfl ?_
            refine Chain.nil ?_
            exact Ends.againL (some_eq h) (.cons (t := 72) rfl (.cons (t := 18) rfl (.cons (t := 2) rfl (.cons (t := 3) rfl (.cons (t := 5) rfl (.cons (t := 11) rfl (.cons (t := 12) rfl (.cons (t := 15) rfl (.cons (t := 16) rfl (.cons (t := 70) rfl (.cons (t := 71) rfl Sub.nil))))))))))) SubB.nil
        · replace h := bif_f h hb9
          refine Cod.exit ?_
          refine Ends.thenExit ?_
          refine Ends.thenExit ?_
          refine Ends.blkExit ?_
          replace h := hD8 _ (some_eq h)
          exact Ends.join _ (some_eq h) (.cons (t := 18) rfl (.cons (t := 2) rfl (.cons (t := 3) rfl (.cons (t := 5) rfl (.cons (t := 11) rfl (.cons (t := 12) rfl (.cons (t := 15) rfl (.cons (t := 16) rfl Sub.nil)))))))) SubB.nil
      · have h := resb_nx hK7 hj7
        refine Cod.seq ?_
        refine Cod.region [([], []), ([], []), ([], []), ([], []), ([], []), ([], []), ([], []), ([], []), ([], []), ([], []), ([], []), ([], [21]), ([21], [21]), ([], [])] mixed (by kernel_rfl) ?_
        refine Chain.consA (StepOK.move .none (.tmp rfl (fun _ => trivial))) rfl ?_
        refine Chain.consA (StepOK.move .none (.tmp rfl (fun _ => trivial))) rfl ?_
        refine Chain.consA (StepOK.subW .none (.tmp rfl (fun _ => trivial)) (.int (by decide))) rfl ?_
        refine Chain.consA (StepOK.max2 .none (.tmp rfl (fun _ => trivial)) (.int (by decide))) rfl ?_
        refine Chain.consA (StepOK.move .none (.tmp rfl (fun _ => trivial))) rfl ?_
        refine Chain.consA (StepOK.buildF (y := (⟨(0 : Int), (0 : Int), max (W (r1.1 - 1)) 1, r1.2.1⟩ : Box)) .none bu48 zc48 rfl (.cons (.tmp rfl (fun _ => trivial)) (.cons (.tmp rfl (fun _ => trivial)) .nil)) (.cons rfl sf48_2 (.cons rfl sf48_3 .nil))) rfl ?_
        refine Chain.consA (StepOK.move .none (.tmp rfl (fun _ => trivial))) rfl ?_
        obtain ⟨r4, hv15, h⟩ := bind_some h
        refine Chain.consA (StepOK.call .none (shape_Inner_ok hv15) (.cons (.tmp rfl (fun _ => trivial)) (.cons (.tmp rfl (fun _ => trivial)) (.cons (.tmp rfl (fun _ => trivial)) .nil)))) rfl ?_
        refine Chain.consA (StepOK.move .none (.tmp rfl (fun _ => trivial))) rfl ?_
        refine Chain.consA (StepOK.extract .none (.tmp rfl (fun _ => trivial)) rfl) rfl ?_
        refine Chain.consA (StepOK.extract .none (.tmp rfl (fun _ => trivial)) rfl) rfl ?_
        refine Chain.consW (StepOK.alloc zo48 rfl) rfl rfl ?_
        refine Chain.consN (StepOK.store ty48 rfl rfl (.tmp rfl (fun _ => trivial))) rfl ?_
        refine Chain.consA (StepOK.assign .none (.tmp rfl (fun _ => trivial))) rfl ?_
        refine Chain.nil ?_
        refine Ends.then ?_
        refine Cod.freeze (t := 21) rfl rfl SubB.nil rfl ?_
        refine Cod.seq ?_
        refine Cod.seq ?_
        refine Cod.region [] mixed (by kernel_rfl) ?_
        refine Chain.cons (StepOK.move .none (.tmp rfl (fun _ => trivial))) rfl ?_
        refine Chain.cons (StepOK.gt .none (.tmp rfl (fun _ => trivial)) (.int (by decide))) rfl ?_
        refine Chain.cons (StepOK.move .none (.tmp rfl (fun _ => trivial))) rfl ?_
        refine Chain.cons (StepOK.move (.at rfl rfl) (.tmp rfl (fun _ => trivial))) rfl ?_
        refine Chain.cons (StepOK.eqI (.at rfl rfl) (.tmp rfl id) (.int (by decide))) rfl ?_
        refine Chain.cons (StepOK.pickAnd .none (.tmp rfl (fun _ => trivial)) (.tmp rfl id)) rfl ?_
        refine Chain.cons (StepOK.move .none (.tmp rfl (fun _ => trivial))) rfl ?_
        refine Chain.cons (StepOK.fieldAddr (.at rfl rfl) fd48_2 hfd48_2 (.tmp rfl (fun _ => trivial))) rfl ?_
        refine Chain.cons (StepOK.load (.at rfl rfl) ty3 (.tmp rfl id)) rfl ?_
        refine Chain.cons (StepOK.move (.at rfl rfl) (.tmp rfl (fun _ => trivial))) rfl ?_
        refine Chain.cons (StepOK.ge (.at rfl rfl) (.tmp rfl id) (.tmp rfl id)) rfl ?_
        refine Chain.cons (StepOK.pickAnd .none (.tmp rfl (fun _ => trivial)) (.tmp rfl id)) rfl ?_
        refine Chain.cons (StepOK.move .none (.tmp rfl (fun _ => trivial))) rfl ?_
        refine Chain.cons (StepOK.fieldAddr (.at rfl rfl) fd48_2 hfd48_2 (.tmp rfl (fun _ => trivial))) rfl ?_
        refine Chain.cons (StepOK.load (.at rfl rfl) ty3 (.tmp rfl id)) rfl ?_
        refine Chain.cons (StepOK.move (.at rfl rfl) (.tmp rfl (fun _ => trivial))) rfl ?_
        refine Chain.cons (StepOK.eqI (.at rfl rfl) (.tmp rfl id) (.tmp rfl id)) rfl ?_
        refine Chain.cons (StepOK.pickAnd .none (.tmp rfl (fun _ => trivial)) (.tmp rfl id)) rfl ?_
        refine Chain.nil ?_
        refine Ends.then ?_
        refine Cod.cond (t := 154) rfl trivial (fun hb16 => ?_) (fun hb16 => ?_)
        · replace h := bif_t h hb16
          refine Cod.seq ?_
          refine Cod.region [] mixed (by kernel_rfl) ?_
          refine Chain.cons (StepOK.assign .none .bool) rfl ?_
          refine Chain.nil ?_
          refine Ends.then ?_
          refine Cod.ret ?_
          refine Ends.thenRet ?_
          obtain rfl := some_eq h
          exact Ends.ret1 (.inl rfl) Tryd.results4 (ResOK.tmp rfl trivial Imp.refl)
        · replace h := bif_f h hb16
          refine Cod.skip ?_
          refine Ends.then ?_
          refine Cod.seq ?_
          refine Cod.region [] mixed (by kernel_rfl) ?_
          refine Chain.cons (StepOK.move .none (.tmp rfl (fun _ => trivial))) rfl ?_
          refine Chain.cons (StepOK.len .none sl49 (.tmp rfl (fun _ => trivial))) rfl ?_
          refine Chain.cons (StepOK.fieldAddr .none fd23_0 hfd23_0 (.tmp rfl (fun _ => trivial))) rfl ?_
          refine Chain.cons (StepOK.load .none ty3 (.tmp rfl (fun _ => trivial))) rfl ?_
          refine Chain.cons (StepOK.mulW .none (.tmp rfl (fun _ => trivial)) (.tmp rfl (fun _ => trivial))) rfl ?_
          refine Chain.cons (StepOK.fieldAddr .none fd48_3 hfd48_3 (.tmp rfl (fun _ => trivial))) rfl ?_
          refine Chain.cons (StepOK.load .none ty3 (.tmp rfl (fun _ => trivial))) rfl ?_
          refine Chain.cons (StepOK.le .none (.tmp rfl (fun _ => trivial)) (.tmp rfl (fun _ => trivial))) rfl ?_
          refine Chain.cons (StepOK.assign .none (.tmp rfl (fun _ => trivial))) rfl ?_
          refine Chain.nil ?_
          refine Ends.then ?_
          refine Cod.ret ?_
          obtain rfl := some_eq h
          exact Ends.ret1 (.inl rfl) Tryd.results4 (ResOK.tmp rfl trivial Imp.refl)


end Go.Proofs.YthopjimlhjgoiaaDoor
