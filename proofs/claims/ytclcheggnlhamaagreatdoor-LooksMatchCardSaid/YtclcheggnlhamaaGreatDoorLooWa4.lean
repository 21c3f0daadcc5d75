/-
  The walks: what a function computes is what its plain function says (printed by a program of one's own).
-/
import Derived.Test.YtclcheggnlhamaaGreatDoorLooWa3
set_option maxRecDepth 100000
set_option linter.unusedSimpArgs false
set_option linter.unusedVariables false
namespace Go.Proofs.YtclcheggnlhamaaGreatDoor
open Go Go.DB Go.RowKit

theorem law_LooksMatch_5_ok {c0_1 : Doc} {c1_1 : Box} {c2_1 : Bool} {r : (List Str)}  (h : law_LooksMatch_5 c0_1 c1_1 c2_1 = some r) : FSpec Tryz.prog 31 [ref c0_1, ref c1_1, ref c2_1] (rep r) := by
  unfold law_LooksMatch_5 at h
  refine FSpec.intro (n := 8) fnok31 Tryz.func31 rfl Tryz.ntmps31 rfl (fun F => ?_)
  refine .seq ?_
  refine .region [] mixed (by kernel_rfl) ?_
  refine .cons (.assign .none (.const (x := ([] : (List Str))) (fun M w => ⟨_, ⟨none, 0, rfl, Nat.le_refl _, by decide, rfl⟩, rfl⟩))) rfl ?_
  refine .nil ?_
  refine .then ?_
  refine .seq ?_
  refine .region [] mixed (by kernel_rfl) ?_
  refine .cons (.load .none ty25 (.s rfl)) rfl ?_
  refine .cons (.load .none ty29 (.s rfl)) rfl ?_
  refine .cons (.load .none ty4 (.s rfl)) rfl ?_
  obtain ⟨r1, hv1, h⟩ := bind_some h
  refine .cons (.call .none (ref_InBox_ok hv1) (.cons (.s rfl) (.cons (.s rfl) (.cons (.s rfl) .nil)))) rfl ?_
  refine .cons (.assign .none (.s rfl)) rfl ?_
  refine .nil ?_
  refine .then ?_
  refine .ret ?_
  obtain rfl := some_eq h
  exact Ends.ret1 (.inl rfl) Tryz.results31 (ResOK.tmp rfl trivial Imp.refl)

theorem ref_EdgeAt_1_ok {x1 : DEdge} {c0_1 : Str} {r : Bool}  (h : ref_EdgeAt_1 x1 c0_1 = some r) : FSpec Tryz.prog 92 [rep x1, ref c0_1] (rep r) := by
  unfold ref_EdgeAt_1 at h
  refine FSpec.intro (n := 8) fnok92 Tryz.func92 rfl Tryz.ntmps92 rfl (fun F => ?_)
  refine .seq ?_
  refine .region [] mixed (by kernel_rfl) ?_
  refine .cons (.box .none (.s rfl)) rfl ?_
  refine .cons (.assign .none .bool) rfl ?_
  refine .nil ?_
  refine .then ?_
  refine .seq ?_
  refine .region [] mixed (by kernel_rfl) ?_
  refine .cons (.fieldAddr .none fd67_0 hfd67_0 (.s rfl)) rfl ?_
  refine .cons (.load .none ty9 (.s rfl)) rfl ?_
  refine .cons (.load .none ty9 (.s rfl)) rfl ?_
  refine .cons (.eqS .none (eqAt_str Tryz.underlying9) (.s rfl) (.s rfl)) rfl ?_
  refine .cons (.assign .none (.s rfl)) rfl ?_
  refine .nil ?_
  refine .then ?_
  refine .ret ?_
  obtain rfl := some_eq h
  exact Ends.ret1 (.inl rfl) Tryz.results92 (ResOK.tmp rfl trivial Imp.refl)

theorem ref_EdgeAt_ok {d1 : Doc} {id1 : Str} {r : Int}  (h : ref_EdgeAt d1 id1 = some r) : FSpec Tryz.prog 33 [rep d1, rep id1] (rep r) := by
  unfold ref_EdgeAt at h
  refine FSpec.intro (n := 9) fnok33 Tryz.func33 rfl Tryz.ntmps33 rfl (fun F => ?_)
  refine .seq ?_
  refine .region [] mixed (by kernel_rfl) ?_
  refine .cons (.box .none (.s rfl)) rfl ?_
  refine .cons (.box .none (.s rfl)) rfl ?_
  refine .cons (.assign .none (.int (by decide))) rfl ?_
  refine .nil ?_
  refine .then ?_
  refine .seq ?_
  refine .region [] mixed (by kernel_rfl) ?_
  refine .cons (.fieldAddr .none fd25_1 hfd25_1 (.s rfl)) rfl ?_
  refine .cons (.load .none ty23 (.s rfl)) rfl ?_
  refine .cons (.makeFunc (ι := DEdge × Bool) (pre := fun i => (fun x0 => ref_EdgeAt_1 x0 id1) i.1 = some i.2) (Ss := fun i => [rep i.1]) (S := fun i => rep i.2) .none fnok92 (fun i h => ref_EdgeAt_1_ok h) (.cons (.s rfl) .nil)) rfl ?_
  obtain ⟨r1, hv1, h⟩ := bind_some h
  refine .cons (.call .none (slices_IndexFunc_Edge_ok hv1) (.cons (.s rfl) (.cons (.s rfl) .nil))) rfl ?_
  refine .cons (.assign .none (.s rfl)) rfl ?_
  refine .nil ?_
  refine .then ?_
  refine .ret ?_
  obtain rfl := some_eq h
  exact Ends.ret1 (.inl rfl) Tryz.results33 (ResOK.tmp rfl trivial Imp.refl)

theorem page_Line_1_ok {x1 : DEdge} {c0_1 : Str} {r : Bool}  (h : page_Line_1 x1 c0_1 = some r) : FSpec Tryz.prog 93 [rep x1, ref c0_1] (rep r) := by
  unfold page_Line_1 at h
  refine FSpec.intro (n := 8) fnok93 Tryz.func93 rfl Tryz.ntmps93 rfl (fun F => ?_)
  refine .seq ?_
  refine .region [] mixed (by kernel_rfl) ?_
  refine .cons (.box .none (.s rfl)) rfl ?_
  refine .cons (.assign .none .bool) rfl ?_
  refine .nil ?_
  refine .then ?_
  refine .seq ?_
  refine .region [] mixed (by kernel_rfl) ?_
  refine .cons (.fieldAddr .none fd67_0 hfd67_0 (.s rfl)) rfl ?_
  refine .cons (.load .none ty9 (.s rfl)) rfl ?_
  refine .cons (.load .none ty9 (.s rfl)) rfl ?_
  refine .cons (.eqS .none (eqAt_str Tryz.underlying9) (.s rfl) (.s rfl)) rfl ?_
  refine .cons (.assign .none (.s rfl)) rfl ?_
  refine .nil ?_
  refine .then ?_
  refine .ret ?_
  obtain rfl := some_eq h
  exact Ends.ret1 (.inl rfl) Tryz.results93 (ResOK.tmp rfl trivial Imp.refl)

theorem shape_Port_1_ok {p1 : Point} {c0_1 : Int} {c1_1 : Box} {r : Bool}  (h : shape_Port_1 p1 c0_1 c1_1 = some r) : FSpec Tryz.prog 187 [rep p1, ref c0_1, ref c1_1] (rep r) := by
  unfold shape_Port_1 at h
  refine FSpec.intro (n := 10) fnok187 Tryz.func187 rfl Tryz.ntmps187 rfl (fun F => ?_)
  refine .seq ?_
  refine .region [] mixed (by kernel_rfl) ?_
  refine .cons (.box .none (.s rfl)) rfl ?_
  refine .cons (.assign .none .bool) rfl ?_
  refine .nil ?_
  refine .then ?_
  refine .seq ?_
  refine .region [] mixed (by kernel_rfl) ?_
  refine .cons (.load .none ty3 (.s rfl)) rfl ?_
  refine .cons (.load .none ty29 (.s rfl)) rfl ?_
  refine .cons (.load .none ty27 (.s rfl)) rfl ?_
  obtain ⟨r1, hv1, h⟩ := bind_some h
  refine .cons (.call .none (shape_has_ok hv1) (.cons (.s rfl) (.cons (.s rfl) (.cons (.s rfl) .nil)))) rfl ?_
  refine .cons (.ge .none (.s rfl) (.int (by decide))) rfl ?_
  refine .cons (.assign .none (.s rfl)) rfl ?_
  refine .nil ?_
  refine .then ?_
  refine .ret ?_
  obtain rfl := some_eq h
  exact Ends.ret1 (.inl rfl) Tryz.results187 (ResOK.tmp rfl trivial Imp.refl)

theorem shape_Port_2_ok {n1 : Int} {c0_1 : (Point → Option Bool)} {c1_1 : Point} {r : Bool}  (h : shape_Port_2 n1 c0_1 c1_1 = some r) : FSpec Tryz.prog 189 [rep n1, refS (fn1 Tryz.prog (rep (α := Bool)) c0_1), ref c1_1] (rep r) := by
  unfold shape_Port_2 at h
  refine FSpec.intro (n := 11) fnok189 Tryz.func189 rfl Tryz.ntmps189 rfl (fun F => ?_)
  refine .seq ?_
  refine .region [] mixed (by kernel_rfl) ?_
  refine .cons (.assign .none .bool) rfl ?_
  refine .nil ?_
  refine .then ?_
  refine .seq ?_
  refine .region [] mixed (by kernel_rfl) ?_
  refine .cons (.loadF .none tr214 (.s rfl)) rfl ?_
  refine .cons (.fieldAddr .none fd27_0 hfd27_0 (.s rfl)) rfl ?_
  refine .cons (.load .none ty3 (.s rfl)) rfl ?_
  refine .cons (.move .none (.s rfl)) rfl ?_
  refine .cons (.buildF (y := (⟨c1_1.X, n1⟩ : Point)) .none bu27 zc27 rfl (.cons (.s rfl) (.cons (.s rfl) .nil)) (.cons rfl sf27_0 (.cons rfl sf27_1 .nil))) rfl ?_
  obtain ⟨r1, hv1, h⟩ := bind_some h
  refine .cons (.callV ((⟨c1_1.X, n1⟩ : Point), r1) .none (.s rfl) (fun _ => hv1) (.cons (.s rfl) .nil)) rfl ?_
  refine .cons (.assign .none (.s rfl)) rfl ?_
  refine .nil ?_
  refine .then ?_
  refine .ret ?_
  obtain rfl := some_eq h
  exact Ends.ret1 (.inl rfl) Tryz.results189 (ResOK.tmp rfl trivial Imp.refl)

theorem shape_edge_ok {from1 : Int} {to1 : Int} {holds1 : (Int → Option Bool)} {r : (Int × Bool)}  (h : shape_edge from1 to1 holds1 = some r) : FSpec Tryz.prog 188 [rep from1, rep to1, fn1 Tryz.prog (rep (α := Bool)) holds1] (tup [rep r.1, rep r.2]) := by
  unfold shape_edge at h
  refine FSpec.intro (n := 24) fnok188 Tryz.func188 rfl Tryz.ntmps188 rfl (fun F => ?_)
  refine .seq ?_
  refine .region [] mixed (by kernel_rfl) ?_
  refine .cons (.assign .none (.int (by decide))) rfl ?_
  refine .cons (.assign .none .bool) rfl ?_
  refine .nil ?_
  refine .then ?_
  refine .seq ?_
  refine .region [] mixed (by kernel_rfl) ?_
  refine .cons (.assign .none (.int (by decide))) rfl ?_
  refine .nil ?_
  refine .then ?_
  refine .seq ?_
  refine .seq ?_
  refine .region [] mixed (by kernel_rfl) ?_
  refine .cons (.move .none (.s rfl)) rfl ?_
  refine .cons (.move .none (.s rfl)) rfl ?_
  refine .cons (.lt .none (.s rfl) (.s rfl)) rfl ?_
  refine .nil ?_
  refine .then ?_
  obtain ⟨j_1, h, hK1⟩ := bind_some h
  refine .thenJ (ι := Int) (fun j_1 => [(8, ⟨True, rep j_1⟩)]) (fun j_1 => []) (fun s => j_1 = s) (.cons (t := 0) rfl (.cons (t := 1) rfl (.cons (t := 2) rfl Sub.nil))) SubB.nil ?_ (fun j_1' hj1 => ?_)
  · skip
    refine .cond (t := 12) rfl trivial (fun hb2 => ?_) (fun hb2 => ?_)
    · replace h := bif_t h hb2
      refine .region [] mixed (by kernel_rfl) ?_
      refine .cons (.assign .none (.int (by decide))) rfl ?_
      refine .nil ?_
      exact Ends.join _ (some_eq h) (.cons (t := 8) rfl (.cons (t := 0) rfl (.cons (t := 1) rfl (.cons (t := 2) rfl Sub.nil)))) SubB.nil
    · replace h := bif_f h hb2
      refine .skip ?_
      exact Ends.join _ (some_eq h) (.cons (t := 8) rfl (.cons (t := 0) rfl (.cons (t := 1) rfl (.cons (t := 2) rfl Sub.nil)))) SubB.nil
  · subst hj1; have h := hK1; clear hK1
    refine .seq ?_
    refine .region [] mixed (by kernel_rfl) ?_
    refine .cons (.move .none (.s rfl)) rfl ?_
    refine .cons (.assign .none (.s rfl)) rfl ?_
    refine .nil ?_
    refine .then ?_
    refine .block ?_
    refine .loopL h (fun s3_ => [(9, ⟨True, rep s3_⟩)]) (fun s3_ => []) (.cons (t := 9) rfl Sub.nil) SubB.nil (.cons (t := 1) rfl (.cons (t := 2) rfl (.cons (t := 8) rfl Sub.nil))) SubB.nil (fun s3_ o_3 h hD3 => ?_)
    unfold shape_edge_L1 at h
    refine .seq ?_
    refine .block ?_
    refine .seq ?_
    refine .seq ?_
    refine .region [] mixed (by kernel_rfl) ?_
    refine .cons (.move .none (.s rfl)) rfl ?_
    refine .cons (.move .none (.s rfl)) rfl ?_
    obtain ⟨r1, hv4, h⟩ := bind_some h
    refine .cons (.callV (s3_, r1) .none (.s rfl) (fun _ => hv4) (.cons (.s rfl) .nil)) rfl ?_
    refine .nil ?_
    refine .then ?_
    refine .cond (t := 19) rfl trivial (fun hb5 => ?_) (fun hb5 => ?_)
    · replace h := bif_t h hb5
      refine .seq ?_
      refine .region [] mixed (by kernel_rfl) ?_
      refine .cons (.move .none (.s rfl)) rfl ?_
      refine .cons (.assign .none (.s rfl)) rfl ?_
      refine .cons (.assign .none .bool) rfl ?_
      refine .nil ?_
      refine .then ?_
      refine .ret ?_
      refine .thenRet ?_
      refine .blkRet ?_
      refine .thenRet ?_
      refine .thenRet ?_
      refine .blkRet ?_
      replace h := hD3 _ (some_eq h)
      obtain rfl := some_eq h
      exact Ends.ret2 (.inl rfl) Tryz.results188 (ResOK.tmp rfl trivial Imp.refl) (ResOK.tmp rfl trivial Imp.refl)
    · replace h := bif_f h hb5
      refine .skip ?_
      refine .then ?_
      refine .seq ?_
      refine .region [] mixed (by kernel_rfl) ?_
      refine .cons (.move .none (.s rfl)) rfl ?_
      refine .cons (.move .none (.s rfl)) rfl ?_
      refine .cons (.eqI .none (.s rfl) (.s rfl)) rfl ?_
      refine .nil ?_
      refine .then ?_
      refine .cond (t := 23) rfl trivial (fun hb6 => ?_) (fun hb6 => ?_)
      · replace h := bif_t h hb6
        refine .seq ?_
        refine .region [] mixed (by kernel_rfl) ?_
        refine .cons (.assign .none (.int (by decide))) rfl ?_
        refine .cons (.assign .none .bool) rfl ?_
        refine .nil ?_
        refine .then ?_
        refine .ret ?_
        refine .blkRet ?_
        refine .thenRet ?_
        refine .thenRet ?_
        refine .blkRet ?_
        replace h := hD3 _ (some_eq h)
        obtain rfl := some_eq h
        exact Ends.ret2 (.inl rfl) Tryz.results188 (ResOK.tmp rfl trivial Imp.refl) (ResOK.tmp rfl trivial Imp.refl)
      · replace h := bif_f h hb6
        refine .skip ?_
        refine .blkNormal ?_
        refine .then ?_
        refine .region [] mixed (by kernel_rfl) ?_
        refine .cons (.move .none (.s rfl)) rfl ?_
        refine .cons (.move .none (.s rfl)) rfl ?_
        refine .cons (.addW .none (.s rfl) (.s rfl)) rfl ?_
        obtain ⟨n1, hv7, h⟩ := bnd_some h
        refine .cons (.re hv7 (.assign .none (.s rfl))) rfl ?_
        refine .nil ?_
        exact Ends.againL (some_eq h) (.cons (t := 9) rfl (.cons (t := 1) rfl (.cons (t := 2) rfl (.cons (t := 8) rfl Sub.nil)))) SubB.nil

theorem shape_Port_3_ok {n1 : Int} {c0_1 : (Point → Option Bool)} {c1_1 : Point} {r : Bool}  (h : shape_Port_3 n1 c0_1 c1_1 = some r) : FSpec Tryz.prog 190 [rep n1, refS (fn1 Tryz.prog (rep (α := Bool)) c0_1), ref c1_1] (rep r) := by
  unfold shape_Port_3 at h
  refine FSpec.intro (n := 11) fnok190 Tryz.func190 rfl Tryz.ntmps190 rfl (fun F => ?_)
  refine .seq ?_
  refine .region [] mixed (by kernel_rfl) ?_
  refine .cons (.assign .none .bool) rfl ?_
  refine .nil ?_
  refine .then ?_
  refine .seq ?_
  refine .region [] mixed (by kernel_rfl) ?_
  refine .cons (.loadF .none tr214 (.s rfl)) rfl ?_
  refine .cons (.move .none (.s rfl)) rfl ?_
  refine .cons (.fieldAddr .none fd27_1 hfd27_1 (.s rfl)) rfl ?_
  refine .cons (.load .none ty3 (.s rfl)) rfl ?_
  refine .cons (.buildF (y := (⟨n1, c1_1.Y⟩ : Point)) .none bu27 zc27 rfl (.cons (.s rfl) (.cons (.s rfl) .nil)) (.cons rfl sf27_0 (.cons rfl sf27_1 .nil))) rfl ?_
  obtain ⟨r1, hv1, h⟩ := bind_some h
  refine .cons (.callV ((⟨n1, c1_1.Y⟩ : Point), r1) .none (.s rfl) (fun _ => hv1) (.cons (.s rfl) .nil)) rfl ?_
  refine .cons (.assign .none (.s rfl)) rfl ?_
  refine .nil ?_
  refine .then ?_
  refine .ret ?_
  obtain rfl := some_eq h
  exact Ends.ret1 (.inl rfl) Tryz.results190 (ResOK.tmp rfl trivial Imp.refl)

theorem shape_Port_ok {kind1 : Int} {b1 : Box} {side1 : Int} {at1 : Int} {r : (Point × Int)}  (h : shape_Port kind1 b1 side1 at1 = some r) : FSpec Tryz.prog 165 [rep kind1, rep b1, rep side1, rep at1] (tup [rep r.1, rep r.2]) := by
  unfold shape_Port at h
  refine FSpec.intro (n := 130) fnok165 Tryz.func165 rfl Tryz.ntmps165 rfl (fun F => ?_)
  refine .seq ?_
  refine .region [([], []), ([], []), ([], [8]), ([], [])] mixed (by kernel_rfl) ?_
  refine .consA (.box .none (.s rfl)) rfl ?_
  refine .consA (.box .none (.s rfl)) rfl ?_
  refine .consW (.alloc zo27 rfl) rfl rfl ?_
  refine .consA (.assign .none (.int (by decide))) rfl ?_
  refine .nil ?_
  refine .then ?_
  obtain ⟨v1, hv1, h⟩ := bnd_some h
  refine .reB (t := 8) rfl (congrArg (cont 27) hv1) ?_
  refine .nameBox (t := 8) (g := 5001) rfl rfl (fun m5001 => ?_)
  refine .seq ?_
  refine .seq ?_
  refine .region [] mixed (by kernel_rfl) ?_
  refine .cons (.load .none ty3 (.s rfl)) rfl ?_
  obtain ⟨r1, hv2, h⟩ := bind_some h
  refine .cons (.call .none (shape_isKind_ok hv2) (.cons (.s rfl) .nil)) rfl ?_
  refine .cons (.not .none (.s rfl)) rfl ?_
  refine .nil ?_
  refine .then ?_
  refine .cond (t := 23) rfl trivial (fun hb3 => ?_) (fun hb3 => ?_)
  · replace h := bif_t h hb3
    refine .seq ?_
    refine .region [([], []), ([5001], [5001]), ([], [])] mixed (by kernel_rfl) ?_
    obtain ⟨v2, hv4, h⟩ := bnd_some h
    refine .consA (.re hv4 (.buildF (y := (⟨(0 : Int), (0 : Int)⟩ : Point)) .none bu27 zc27 rfl .nil .nil)) rfl ?_
    refine .consN (.storeAt0 (g := 5001) ty27 rfl (.s rfl) (.s rfl)) rfl ?_
    refine .consA (.assign .none (.int (by decide))) rfl ?_
    refine .nil ?_
    refine .then ?_
    refine .freezeBox (g := 5001) (ts := [8]) rfl (.cons (t := 8) rfl trivial .nil) SubB.nil rfl ?_
    refine .ret ?_
    refine .thenRet ?_
    obtain rfl := some_eq h
    exact Ends.ret2 (.inl rfl) Tryz.results165 (ResOK.cellR ty27 rfl trivial Imp.refl) (ResOK.tmp rfl trivial Imp.refl)
  · replace h := bif_f h hb3
    refine .skip ?_
    refine .then ?_
    refine .seq ?_
    refine .seq ?_
    refine .region [] mixed (by kernel_rfl) ?_
    refine .cons (.load .none ty29 (.s rfl)) rfl ?_
    obtain ⟨e1, hv5, h⟩ := bind_some h
    refine .cons (.call .none (geom_CheckBox_ok hv5) (.cons (.s rfl) .nil)) rfl ?_
    refine .cons (.assign .none (.s rfl)) rfl ?_
    refine .nil ?_
    refine .then ?_
    refine .seq ?_
    refine .region [] mixed (by kernel_rfl) ?_
    refine .cons (.move .none (.s rfl)) rfl ?_
    refine .cons (.neI .none (.s rfl) (.int (by decide))) rfl ?_
    refine .nil ?_
    refine .then ?_
    refine .cond (t := 28) rfl trivial (fun hb6 => ?_) (fun hb6 => ?_)
    · replace h := bif_t h hb6
      refine .seq ?_
      refine .region [([], []), ([], []), ([5001], [5001]), ([], [])] mixed (by kernel_rfl) ?_
      obtain ⟨v3, hv7, h⟩ := bnd_some h
      refine .consA (.re hv7 (.buildF (y := (⟨(0 : Int), (0 : Int)⟩ : Point)) .none bu27 zc27 rfl .nil .nil)) rfl ?_
      refine .consA (.move .none (.s rfl)) rfl ?_
      refine .consN (.storeAt0 (g := 5001) ty27 rfl (.s rfl) (.s rfl)) rfl ?_
      refine .consA (.assign .none (.s rfl)) rfl ?_
      refine .nil ?_
      refine .then ?_
      refine .freezeBox (g := 5001) (ts := [8]) rfl (.cons (t := 8) rfl trivial .nil) SubB.nil rfl ?_
      refine .ret ?_
      refine .thenRet ?_
      obtain rfl := some_eq h
      exact Ends.ret2 (.inl rfl) Tryz.results165 (ResOK.cellR ty27 rfl trivial Imp.refl) (ResOK.tmp rfl trivial Imp.refl)
    · replace h := bif_f h hb6
      refine .skip ?_
      refine .then ?_
      refine .seq ?_
      refine .seq ?_
      refine .region [] mixed (by kernel_rfl) ?_
      refine .cons (.move .none (.s rfl)) rfl ?_
      refine .cons (.lt .none (.s rfl) (.int (by decide))) rfl ?_
      refine .cons (.move .none (.s rfl)) rfl ?_
      refine .cons (.move (.at rfl rfl) (.s rfl)) rfl ?_
      refine .cons (.gt (.at rfl rfl) (.tmp rfl id) (.int (by decide))) rfl ?_
      refine .cons (.pickOr .none (.s rfl) (.tmp rfl id)) rfl ?_
      refine .cons (.move .none (.s rfl)) rfl ?_
      refine .cons (.move (.at rfl rfl) (.s rfl)) rfl ?_
      refine .cons (.lt (.at rfl rfl) (.tmp rfl id) (.int (by decide))) rfl ?_
      refine .cons (.pickOr .none (.s rfl) (.tmp rfl id)) rfl ?_
      refine .cons (.move .none (.s rfl)) rfl ?_
      refine .cons (.move (.at rfl rfl) (.s rfl)) rfl ?_
      refine .cons (.gt (.at rfl rfl) (.tmp rfl id) (.int (by decide))) rfl ?_
      refine .cons (.pickOr .none (.s rfl) (.tmp rfl id)) rfl ?_
      refine .nil ?_
      refine .then ?_
      refine .cond (t := 44) rfl trivial (fun hb8 => ?_) (fun hb8 => ?_)
      · replace h := bif_t h hb8
        refine .seq ?_
        refine .region [([], []), ([5001], [5001]), ([], [])] mixed (by kernel_rfl) ?_
        obtain ⟨v4, hv9, h⟩ := bnd_some h
        refine .consA (.re hv9 (.buildF (y := (⟨(0 : Int), (0 : Int)⟩ : Point)) .none bu27 zc27 rfl .nil .nil)) rfl ?_
        refine .consN (.storeAt0 (g := 5001) ty27 rfl (.s rfl) (.s rfl)) rfl ?_
        refine .consA (.assign .none (.int (by decide))) rfl ?_
        refine .nil ?_
        refine .then ?_
        refine .freezeBox (g := 5001) (ts := [8]) rfl (.cons (t := 8) rfl trivial .nil) SubB.nil rfl ?_
        refine .ret ?_
        refine .thenRet ?_
        obtain rfl := some_eq h
        exact Ends.ret2 (.inl rfl) Tryz.results165 (ResOK.cellR ty27 rfl trivial Imp.refl) (ResOK.tmp rfl trivial Imp.refl)
      · replace h := bif_f h hb8
        refine .skip ?_
        refine .then ?_
        refine .seq ?_
        refine .region [([], []), ([], []), ([], []), ([], []), ([], []), ([], []), ([], []), ([], []), ([], []), ([], []), ([], []), ([], []), ([], []), ([], []), ([], []), ([], []), ([], []), ([], [11]), ([11], [11])] mixed (by kernel_rfl) ?_
        refine .consA (.fieldAddr .none fd29_0 hfd29_0 (.s rfl)) rfl ?_
        refine .consA (.load .none ty3 (.s rfl)) rfl ?_
        refine .consA (.fieldAddr .none fd29_2 hfd29_2 (.s rfl)) rfl ?_
        refine .consA (.load .none ty3 (.s rfl)) rfl ?_
        refine .consA (.move .none (.s rfl)) rfl ?_
        refine .consA (.mulW .none (.s rfl) (.s rfl)) rfl ?_
        refine .consA (.quo .none (.s rfl) (.int (by decide)) (fun _ => by decide)) rfl ?_
        refine .consA (.addW .none (.s rfl) (.s rfl)) rfl ?_
        refine .consA (.fieldAddr .none fd29_1 hfd29_1 (.s rfl)) rfl ?_
        refine .consA (.load .none ty3 (.s rfl)) rfl ?_
        refine .consA (.fieldAddr .none fd29_3 hfd29_3 (.s rfl)) rfl ?_
        refine .consA (.load .none ty3 (.s rfl)) rfl ?_
        refine .consA (.move .none (.s rfl)) rfl ?_
        refine .consA (.mulW .none (.s rfl) (.s rfl)) rfl ?_
        refine .consA (.quo .none (.s rfl) (.int (by decide)) (fun _ => by decide)) rfl ?_
        refine .consA (.addW .none (.s rfl) (.s rfl)) rfl ?_
        obtain ⟨v5, hv10, h⟩ := bnd_some h
        refine .consA (.re hv10 (.buildF (y := (⟨W (b1.X + ((W (b1.W_ * at1)).tdiv 1000)), W (b1.Y + ((W (b1.H * at1)).tdiv 1000))⟩ : Point)) .none bu27 zc27 rfl (.cons (.s rfl) (.cons (.s rfl) .nil)) (.cons rfl sf27_0 (.cons rfl sf27_1 .nil)))) rfl ?_
        refine .consW (.alloc zo27 rfl) rfl rfl ?_
        refine .consN (.store ty27 rfl rfl (.s rfl)) rfl ?_
        refine .nil ?_
        refine .then ?_
        refine .freeze (t := 11) rfl rfl (.cons (t := 5001) rfl SubB.nil) rfl ?_
        refine .seq ?_
        refine .region [([], []), ([], [12]), ([12], [12])] mixed (by kernel_rfl) ?_
        refine .consA (.makeFunc (ι := Point × Bool) (pre := fun i => (fun x0 => shape_Port_1 x0 kind1 b1) i.1 = some i.2) (Ss := fun i => [rep i.1]) (S := fun i => rep i.2) .none fnok187 (fun i h => shape_Port_1_ok h) (.cons (.s rfl) (.cons (.s rfl) .nil))) rfl ?_
        refine .consW (.alloc zr214 rfl) rfl rfl ?_
        refine .consN (.storeS0 (S := fn1 Tryz.prog (rep (α := Bool)) (fun x0 => shape_Port_1 x0 kind1 b1)) tr214 rfl rfl (.s rfl) fnv_one) rfl ?_
        refine .nil ?_
        refine .then ?_
        refine .freezeKey (t := 12) (S := refS (fn1 Tryz.prog (rep (α := Bool)) (fun x0 => shape_Port_1 x0 kind1 b1))) rfl rfl (.cons (t := 5001) rfl SubB.nil) rfl (fun M D w s h hms => contS_ref fnv_one h hms) ?_
        refine .seq ?_
        refine .seq ?_
        refine .region [] mixed (by kernel_rfl) ?_
        refine .cons (.move .none (.s rfl)) rfl ?_
        refine .cons (.eqI .none (.s rfl) (.int (by decide))) rfl ?_
        refine .cons (.move .none (.s rfl)) rfl ?_
        refine .cons (.move (.at rfl rfl) (.s rfl)) rfl ?_
        refine .cons (.eqI (.at rfl rfl) (.tmp rfl id) (.int (by decide))) rfl ?_
        refine .cons (.pickOr .none (.s rfl) (.tmp rfl id)) rfl ?_
        refine .nil ?_
        refine .then ?_
        refine .cond (t := 69) rfl trivial (fun hb11 => ?_) (fun hb11 => ?_)
        · replace h := bif_t h hb11
          refine .seq ?_
          refine .region [] mixed (by kernel_rfl) ?_
          refine .cons (.fieldAddr .none fd29_1 hfd29_1 (.s rfl)) rfl ?_
          refine .cons (.load .none ty3 (.s rfl)) rfl ?_
          refine .cons (.fieldAddr .none fd29_1 hfd29_1 (.s rfl)) rfl ?_
          refine .cons (.load .none ty3 (.s rfl)) rfl ?_
          refine .cons (.fieldAddr .none fd29_3 hfd29_3 (.s rfl)) rfl ?_
          refine .cons (.load .none ty3 (.s rfl)) rfl ?_
          refine .cons (.addW .none (.s rfl) (.s rfl)) rfl ?_
          refine .cons (.assign .none (.s rfl)) rfl ?_
          obtain ⟨to1, hv12, h⟩ := bnd_some h
          refine .cons (.re hv12 (.assign .none (.s rfl))) rfl ?_
          refine .nil ?_
          refine .then ?_
          refine .seq ?_
          refine .seq ?_
          refine .region [] mixed (by kernel_rfl) ?_
          refine .cons (.move .none (.s rfl)) rfl ?_
          refine .cons (.eqI .none (.s rfl) (.int (by decide))) rfl ?_
          refine .nil ?_
          refine .then ?_
          obtain ⟨j_13, h, hK13⟩ := bind_some h
          refine .thenJ (ι := (Int × Int)) (fun j_13 => [(13, ⟨True, rep j_13.1⟩), (14, ⟨True, rep j_13.2⟩)]) (fun j_13 => []) (fun s => j_13 = s) (.cons (t := 5) rfl (.cons (t := 8) rfl (.cons (t := 11) rfl (.cons (t := 12) rfl Sub.nil)))) (.cons (t := 5001) rfl SubB.nil) ?_ (fun j_13' hj13 => ?_)
          · skip
            refine .cond (t := 78) rfl trivial (fun hb14 => ?_) (fun hb14 => ?_)
            · replace h := bif_t h hb14
              refine .region [] mixed (by kernel_rfl) ?_
              refine .cons (.move .none (.s rfl)) rfl ?_
              refine .cons (.move .none (.s rfl)) rfl ?_
              refine .cons (.assign .none (.s rfl)) rfl ?_
              refine .cons (.assign .none (.s rfl)) rfl ?_
              refine .nil ?_
              exact Ends.join _ (some_eq h) (.cons (t := 13) rfl (.cons (t := 14) rfl (.cons (t := 5) rfl (.cons (t := 8) rfl (.cons (t := 11) rfl (.cons (t := 12) rfl Sub.nil)))))) (.cons (t := 5001) rfl SubB.nil)
            · replace h := bif_f h hb14
              refine .skip ?_
              exact Ends.join _ (some_eq h) (.cons (t := 13) rfl (.cons (t := 14) rfl (.cons (t := 5) rfl (.cons (t := 8) rfl (.cons (t := 11) rfl (.cons (t := 12) rfl Sub.nil)))))) (.cons (t := 5001) rfl SubB.nil)
          · subst hj13; have h := hK13; clear hK13
            refine .seq ?_
            refine .region [] mixed (by kernel_rfl) ?_
            refine .cons (.move .none (.s rfl)) rfl ?_
            refine .cons (.move .none (.s rfl)) rfl ?_
            refine .cons (.makeFunc (ι := Int × Bool) (pre := fun i => (fun x0 => shape_Port_2 x0 (fun x0 => shape_Port_1 x0 kind1 b1) v5) i.1 = some i.2) (Ss := fun i => [rep i.1]) (S := fun i => rep i.2) .none fnok189 (fun i h => shape_Port_2_ok h) (.cons (.s rfl) (.cons (.s rfl) .nil))) rfl ?_
            obtain ⟨r2, hv15, h⟩ := bind_some h
            refine .cons (.call .none (shape_edge_ok hv15) (.cons (.s rfl) (.cons (.s rfl) (.cons (.s rfl) .nil)))) rfl ?_
            refine .cons (.move .none (.s rfl)) rfl ?_
            refine .cons (.extract .none (.s rfl) rfl) rfl ?_
            refine .cons (.extract .none (.s rfl) rfl) rfl ?_
            refine .cons (.assign .none (.s rfl)) rfl ?_
            refine .cons (.assign .none (.s rfl)) rfl ?_
            refine .nil ?_
            refine .then ?_
            refine .seq ?_
            refine .seq ?_
            refine .region [] mixed (by kernel_rfl) ?_
            refine .cons (.move .none (.s rfl)) rfl ?_
            refine .cons (.not .none (.s rfl)) rfl ?_
            refine .nil ?_
            refine .then ?_
            obtain ⟨j_16, h, hK16⟩ := bind_some h
            refine .thenJ (ι := Int) (fun j_16 => [(15, ⟨True, rep j_16⟩)]) (fun j_16 => []) (fun s => j_16 = s) (.cons (t := 8) rfl (.cons (t := 11) rfl Sub.nil)) (.cons (t := 5001) rfl SubB.nil) ?_ (fun j_16' hj16 => ?_)
            · skip
              refine .cond (t := 89) rfl trivial (fun hb17 => ?_) (fun hb17 => ?_)
              · replace h := bif_t h hb17
                refine .region [] mixed (by kernel_rfl) ?_
                refine .cons (.fieldAddr .none fd29_1 hfd29_1 (.s rfl)) rfl ?_
                refine .cons (.load .none ty3 (.s rfl)) rfl ?_
                refine .cons (.fieldAddr .none fd29_3 hfd29_3 (.s rfl)) rfl ?_
                refine .cons (.load .none ty3 (.s rfl)) rfl ?_
                refine .cons (.quo .none (.s rfl) (.int (by decide)) (fun _ => by decide)) rfl ?_
                refine .cons (.addW .none (.s rfl) (.s rfl)) rfl ?_
                refine .cons (.assign .none (.s rfl)) rfl ?_
                refine .nil ?_
                exact Ends.join _ (some_eq h) (.cons (t := 15) rfl (.cons (t := 8) rfl (.cons (t := 11) rfl Sub.nil))) (.cons (t := 5001) rfl SubB.nil)
              · replace h := bif_f h hb17
                refine .skip ?_
                exact Ends.join _ (some_eq h) (.cons (t := 15) rfl (.cons (t := 8) rfl (.cons (t := 11) rfl Sub.nil))) (.cons (t := 5001) rfl SubB.nil)
            · subst hj16; have h := hK16; clear hK16
              refine .seq ?_
              refine .region [([], []), ([], []), ([], []), ([], []), ([5001], [5001]), ([], [])] mixed (by kernel_rfl) ?_
              refine .consA (.fieldAddr .none fd27_0 hfd27_0 (.s rfl)) rfl ?_
              refine .consA (.load .none ty3 (.s rfl)) rfl ?_
              refine .consA (.move .none (.s rfl)) rfl ?_
              obtain ⟨v6, hv18, h⟩ := bnd_some h
              refine .consA (.re hv18 (.buildF (y := (⟨v5.X, j_16⟩ : Point)) .none bu27 zc27 rfl (.cons (.s rfl) (.cons (.s rfl) .nil)) (.cons rfl sf27_0 (.cons rfl sf27_1 .nil)))) rfl ?_
              refine .consN (.storeAt0 (g := 5001) ty27 rfl (.s rfl) (.s rfl)) rfl ?_
              refine .consA (.assign .none (.int (by decide))) rfl ?_
              refine .nil ?_
              refine .then ?_
              refine .freezeBox (g := 5001) (ts := [8]) rfl (.cons (t := 8) rfl trivial .nil) SubB.nil rfl ?_
              refine .ret ?_
              refine .thenRet ?_
              obtain rfl := some_eq h
              exact Ends.ret2 (.inl rfl) Tryz.results165 (ResOK.cellR ty27 rfl trivial Imp.refl) (ResOK.tmp rfl trivial Imp.refl)
        · replace h := bif_f h hb11
          refine .skip ?_
          refine .then ?_
          refine .seq ?_
          refine .region [] mixed (by kernel_rfl) ?_
          refine .cons (.fieldAddr .none fd29_0 hfd29_0 (.s rfl)) rfl ?_
          refine .cons (.load .none ty3 (.s rfl)) rfl ?_
          refine .cons (.fieldAddr .none fd29_0 hfd29_0 (.s rfl)) rfl ?_
          refine .cons (.load .none ty3 (.s rfl)) rfl ?_
          refine .cons (.fieldAddr .none fd29_2 hfd29_2 (.s rfl)) rfl ?_
          refine .cons (.load .none ty3 (.s rfl)) rfl ?_
          refine .cons (.addW .none (.s rfl) (.s rfl)) rfl ?_
          refine .cons (.assign .none (.s rfl)) rfl ?_
          obtain ⟨to2, hv19, h⟩ := bnd_some h
          refine .cons (.re hv19 (.assign .none (.s rfl))) rfl ?_
          refine .nil ?_
          refine .then ?_
          refine .seq ?_
          refine .seq ?_
          refine .region [] mixed (by kernel_rfl) ?_
          refine .cons (.move .none (.s rfl)) rfl ?_
          refine .cons (.eqI .none (.s rfl) (.int (by decide))) rfl ?_
          refine .nil ?_
          refine .then ?_
          obtain ⟨j_20, h, hK20⟩ := bind_some h
          refine .thenJ (ι := (Int × Int)) (fun j_20 => [(17, ⟨True, rep j_20.1⟩), (18, ⟨True, rep j_20.2⟩)]) (fun j_20 => []) (fun s => j_20 = s) (.cons (t := 5) rfl (.cons (t := 8) rfl (.cons (t := 11) rfl (.cons (t := 12) rfl Sub.nil)))) (.cons (t := 5001) rfl SubB.nil) ?_ (fun j_20' hj20 => ?_)
          · skip
            refine .cond (t := 108) rfl trivial (fun hb21 => ?_) (fun hb21 => ?_)
            · replace h := bif_t h hb21
              refine .region [] mixed (by kernel_rfl) ?_
              refine .cons (.move .none (.s rfl)) rfl ?_
              refine .cons (.move .none (.s rfl)) rfl ?_
              refine .cons (.assign .none (.s rfl)) rfl ?_
              refine .cons (.assign .none (.s rfl)) rfl ?_
              refine .nil ?_
              exact Ends.join _ (some_eq h) (.cons (t := 17) rfl (.cons (t := 18) rfl (.cons (t := 5) rfl (.cons (t := 8) rfl (.cons (t := 11) rfl (.cons (t := 12) rfl Sub.nil)))))) (.cons (t := 5001) rfl SubB.nil)
            · replace h := bif_f h hb21
              refine .skip ?_
              exact Ends.join _ (some_eq h) (.cons (t := 17) rfl (.cons (t := 18) rfl (.cons (t := 5) rfl (.cons (t := 8) rfl (.cons (t := 11) rfl (.cons (t := 12) rfl Sub.nil)))))) (.cons (t := 5001) rfl SubB.nil)
          · subst hj20; have h := hK20; clear hK20
            refine .seq ?_
            refine .region [] mixed (by kernel_rfl) ?_
            refine .cons (.move .none (.s rfl)) rfl ?_
            refine .cons (.move .none (.s rfl)) rfl ?_
            refine .cons (.makeFunc (ι := Int × Bool) (pre := fun i => (fun x0 => shape_Port_3 x0 (fun x0 => shape_Port_1 x0 kind1 b1) v5) i.1 = some i.2) (Ss := fun i => [rep i.1]) (S := fun i => rep i.2) .none fnok190 (fun i h => shape_Port_3_ok h) (.cons (.s rfl) (.cons (.s rfl) .nil))) rfl ?_
            obtain ⟨r3, hv22, h⟩ := bind_some h
            refine .cons (.call .none (shape_edge_ok hv22) (.cons (.s rfl) (.cons (.s rfl) (.cons (.s rfl) .nil)))) rfl ?_
            refine .cons (.move .none (.s rfl)) rfl ?_
            refine .cons (.extract .none (.s rfl) rfl) rfl ?_
            refine .cons (.extract .none (.s rfl) rfl) rfl ?_
            refine .cons (.assign .none (.s rfl)) rfl ?_
            refine .cons (.assign .none (.s rfl)) rfl ?_
            refine .nil ?_
            refine .then ?_
            refine .seq ?_
            refine .seq ?_
            refine .region [] mixed (by kernel_rfl) ?_
            refine .cons (.move .none (.s rfl)) rfl ?_
            refine .cons (.not .none (.s rfl)) rfl ?_
            refine .nil ?_
            refine .then ?_
            obtain ⟨j_23, h, hK23⟩ := bind_some h
            refine .thenJ (ι := Int) (fun j_23 => [(19, ⟨True, rep j_23⟩)]) (fun j_23 => []) (fun s => j_23 = s) (.cons (t := 8) rfl (.cons (t := 11) rfl Sub.nil)) (.cons (t := 5001) rfl SubB.nil) ?_ (fun j_23' hj23 => ?_)
            · skip
              refine .cond (t := 119) rfl trivial (fun hb24 => ?_) (fun hb24 => ?_)
              · replace h := bif_t h hb24
                refine .region [] mixed (by kernel_rfl) ?_
                refine .cons (.fieldAddr .none fd29_0 hfd29_0 (.s rfl)) rfl ?_
                refine .cons (.load .none ty3 (.s rfl)) rfl ?_
                refine .cons (.fieldAddr .none fd29_2 hfd29_2 (.s rfl)) rfl ?_
                refine .cons (.load .none ty3 (.s rfl)) rfl ?_
                refine .cons (.quo .none (.s rfl) (.int (by decide)) (fun _ => by decide)) rfl ?_
                refine .cons (.addW .none (.s rfl) (.s rfl)) rfl ?_
                refine .cons (.assign .none (.s rfl)) rfl ?_
                refine .nil ?_
                exact Ends.join _ (some_eq h) (.cons (t := 19) rfl (.cons (t := 8) rfl (.cons (t := 11) rfl Sub.nil))) (.cons (t := 5001) rfl SubB.nil)
              · replace h := bif_f h hb24
                refine .skip ?_
                exact Ends.join _ (some_eq h) (.cons (t := 19) rfl (.cons (t := 8) rfl (.cons (t := 11) rfl Sub.nil))) (.cons (t := 5001) rfl SubB.nil)
            · subst hj23; have h := hK23; clear hK23
              refine .seq ?_
              refine .region [([], []), ([], []), ([], []), ([], []), ([5001], [5001]), ([], [])] mixed (by kernel_rfl) ?_
              refine .consA (.move .none (.s rfl)) rfl ?_
              refine .consA (.fieldAddr .none fd27_1 hfd27_1 (.s rfl)) rfl ?_
              refine .consA (.load .none ty3 (.s rfl)) rfl ?_
              obtain ⟨v7, hv25, h⟩ := bnd_some h
              refine .consA (.re hv25 (.buildF (y := (⟨j_23, v5.Y⟩ : Point)) .none bu27 zc27 rfl (.cons (.s rfl) (.cons (.s rfl) .nil)) (.cons rfl sf27_0 (.cons rfl sf27_1 .nil)))) rfl ?_
              refine .consN (.storeAt0 (g := 5001) ty27 rfl (.s rfl) (.s rfl)) rfl ?_
              refine .consA (.assign .none (.int (by decide))) rfl ?_
              refine .nil ?_
              refine .then ?_
              refine .freezeBox (g := 5001) (ts := [8]) rfl (.cons (t := 8) rfl trivial .nil) SubB.nil rfl ?_
              refine .ret ?_
              obtain rfl := some_eq h
              exact Ends.ret2 (.inl rfl) Tryz.results165 (ResOK.cellR ty27 rfl trivial Imp.refl) (ResOK.tmp rfl trivial Imp.refl)

theorem page_view_port_ok {v1 : Page_view} {x1 : DEnd} {r : Point}  (h : page_view_port v1 x1 = some r) : FSpec Tryz.prog 95 [ref v1, rep x1] (rep r) := by
  unfold page_view_port at h
  refine FSpec.intro (n := 25) fnok95 Tryz.func95 rfl Tryz.ntmps95 rfl (fun F => ?_)
  refine .seq ?_
  refine .region [([], []), ([], [4])] mixed (by kernel_rfl) ?_
  refine .consA (.box .none (.s rfl)) rfl ?_
  refine .consW (.alloc zo27 rfl) rfl rfl ?_
  refine .nil ?_
  refine .then ?_
  obtain ⟨v2, hv1, h⟩ := bnd_some h
  refine .reB (t := 4) rfl (congrArg (cont 27) hv1) ?_
  refine .nameBox (t := 4) (g := 5001) rfl rfl (fun m5001 => ?_)
  refine .seq ?_
  refine .region [([], []), ([], []), ([], []), ([], []), ([], [5]), ([5], [5])] mixed (by kernel_rfl) ?_
  refine .consA (.move .none (.s rfl)) rfl ?_
  refine .consA (.fieldAddr .none fd65_0 hfd65_0 (.s rfl)) rfl ?_
  refine .consA (.load .none ty9 (.s rfl)) rfl ?_
  obtain ⟨r1, hv2, h⟩ := bind_some h
  refine .consA (.call .none (page_view_node_ok hv2) (.cons (.s rfl) (.cons (.s rfl) .nil))) rfl ?_
  refine .consW (.alloc zo44 rfl) rfl rfl ?_
  refine .consN (.store ty44 rfl rfl (.s rfl)) rfl ?_
  refine .nil ?_
  refine .then ?_
  refine .freeze (t := 5) rfl rfl (.cons (t := 5001) rfl SubB.nil) rfl ?_
  refine .seq ?_
  refine .region [([], []), ([], []), ([], []), ([], []), ([], []), ([], []), ([], []), ([], []), ([], []), ([], []), ([], []), ([], []), ([], [6]), ([6], [6]), ([], [])] mixed (by kernel_rfl) ?_
  refine .consA (.fieldAddr .none fd44_1 hfd44_1 (.s rfl)) rfl ?_
  refine .consA (.load .none ty3 (.s rfl)) rfl ?_
  refine .consA (.fieldAddr .none fd44_2 hfd44_2 (.s rfl)) rfl ?_
  refine .consA (.load .none ty29 (.s rfl)) rfl ?_
  refine .consA (.fieldAddr .none fd65_1 hfd65_1 (.s rfl)) rfl ?_
  refine .consA (.load .none ty3 (.s rfl)) rfl ?_
  refine .consA (.fieldAddr .none fd65_2 hfd65_2 (.s rfl)) rfl ?_
  refine .consA (.load .none ty3 (.s rfl)) rfl ?_
  obtain ⟨r2, hv3, h⟩ := bind_some h
  refine .consA (.call .none (shape_Port_ok hv3) (.cons (.s rfl) (.cons (.s rfl) (.cons (.s rfl) (.cons (.s rfl) .nil))))) rfl ?_
  refine .consA (.move .none (.s rfl)) rfl ?_
  refine .consA (.extract .none (.s rfl) rfl) rfl ?_
  refine .consA (.extract .none (.s rfl) rfl) rfl ?_
  refine .consW (.alloc zo27 rfl) rfl rfl ?_
  refine .consN (.store ty27 rfl rfl (.s rfl)) rfl ?_
  refine .consA (.assign .none (.s rfl)) rfl ?_
  refine .nil ?_
  refine .then ?_
  refine .freeze (t := 6) rfl rfl (.cons (t := 5001) rfl SubB.nil) rfl ?_
  refine .seq ?_
  refine .region [([], []), ([5001], [5001])] mixed (by kernel_rfl) ?_
  refine .consA (.load .none ty27 (.s rfl)) rfl ?_
  refine .consN (.storeAt0 (g := 5001) ty27 rfl (.s rfl) (.s rfl)) rfl ?_
  refine .nil ?_
  refine .then ?_
  refine .freezeBox (g := 5001) (ts := [4]) rfl (.cons (t := 4) rfl trivial .nil) SubB.nil rfl ?_
  refine .ret ?_
  obtain rfl := some_eq h
  exact Ends.ret1 (.inl rfl) Tryz.results95 (ResOK.cellR ty27 rfl trivial Imp.refl)

theorem slices_Concat_Point_ok {slices1 : (List (List Point))} {r : (List Point)}  (h : slices_Concat_Point slices1 = some r) : FSpecO Tryz.prog 94 [rep slices1] [] (anyV) [some (rowV 27 r)] := by
  unfold slices_Concat_Point at h
  refine FSpecO.intro (n := 36) fnok94 Tryz.func94 rfl Tryz.ntmps94 rfl (fun F => ?_)
  refine .seq ?_
  refine .region [] mixed (by kernel_rfl) ?_
  refine .cons (.assign .none (.const (x := ([] : (List Point))) (fun M w => ⟨_, ⟨none, 0, rfl, Nat.le_refl _, by decide, rfl⟩, rfl⟩))) rfl ?_
  refine .nil ?_
  refine .then ?_
  refine .seq ?_
  refine .region [] mixed (by kernel_rfl) ?_
  refine .cons (.assign .none (.int (by decide))) rfl ?_
  refine .nil ?_
  refine .then ?_
  refine .seq ?_
  refine .seq ?_
  refine .region [] mixed (by kernel_rfl) ?_
  refine .cons (.move .none (.s rfl)) rfl ?_
  refine .cons (.len .none sl192 (.s rfl)) rfl ?_
  refine .cons (.move .none (.int (by decide))) rfl ?_
  refine .nil ?_
  refine .then ?_
  obtain ⟨j_1, h, hK1⟩ := bind_some h
  refine .thenJ (ι := Int) (fun j_1 => [(3, ⟨True, rep j_1⟩)]) (fun j_1 => []) (fun s => j_1 = s) (.cons (t := 0) rfl Sub.nil) SubB.nil ?_ (fun j_1' hj1 => ?_)
  · skip
    refine .block ?_
    refine .rforL h (fun p2_ => [(11, ⟨True, rep p2_.1⟩), (3, ⟨True, rep p2_.2⟩)]) (fun p2_ => []) (.cons (t := 11) rfl (.cons (t := 3) rfl Sub.nil)) SubB.nil (.cons (t := 0) rfl (.cons (t := 9) rfl (.cons (t := 10) rfl Sub.nil))) SubB.nil (fun p2_ o_2 h hD2 => ?_)
    refine .seq ?_
    refine .region [] mixed (by kernel_rfl) ?_
    refine .cons (.lt .none (.s rfl) (.s rfl)) rfl ?_
    refine .nil ?_
    refine .then ?_
    refine .seq ?_
    refine .cond (t := 12) rfl trivial (fun hb3 => ?_) (fun hb3 => ?_)
    · replace h := bif_t h hb3
      refine .skip ?_
      refine .then ?_
      refine .seq ?_
      obtain ⟨j_4, h, hK4⟩ := bind_some h
      unfold slices_Concat_Point_L1 at h
      refine .thenJ (ι := Int) (fun j_4 => [(3, ⟨True, rep j_4⟩)]) (fun j_4 => []) (fun s => j_4 = s) (.cons (t := 0) rfl (.cons (t := 9) rfl (.cons (t := 10) rfl (.cons (t := 11) rfl Sub.nil)))) SubB.nil ?_ (fun j_4' hj4 => ?_)
      · skip
        refine .block ?_
        refine .seq ?_
        refine .region [] mixed (by kernel_rfl) ?_
        obtain ⟨hn5, h⟩ := need_some h
        refine .cons (.indexAddr .none sl192 ty59 (.s rfl) (.s rfl) (fun _ => hn5)) rfl ?_
        refine .cons (.load .none ty59 (.s rfl)) rfl ?_
        refine .cons (.assign .none (.s rfl)) rfl ?_
        refine .nil ?_
        refine .then ?_
        refine .seq ?_
        refine .region [] mixed (by kernel_rfl) ?_
        refine .cons (.move .none (.s rfl)) rfl ?_
        refine .cons (.move .none (.s rfl)) rfl ?_
        refine .cons (.len .none sl59 (.s rfl)) rfl ?_
        refine .cons (.addW .none (.s rfl) (.s rfl)) rfl ?_
        obtain ⟨size1, hv6, h⟩ := bnd_some h
        refine .cons (.re hv6 (.assign .none (.s rfl))) rfl ?_
        refine .nil ?_
        refine .then ?_
        refine .seq ?_
        refine .region [] mixed (by kernel_rfl) ?_
        refine .cons (.move .none (.s rfl)) rfl ?_
        refine .cons (.lt .none (.s rfl) (.int (by decide))) rfl ?_
        refine .nil ?_
        refine .then ?_
        refine .cond (t := 20) rfl trivial (fun hb7 => ?_) (fun hb7 => ?_)
        · replace h := bif_t h hb7
          cases h
        · replace h := bif_f h hb7
          refine .skip ?_
          refine .blkNormal ?_
          exact Ends.join _ (some_eq h) (.cons (t := 3) rfl (.cons (t := 0) rfl (.cons (t := 9) rfl (.cons (t := 10) rfl (.cons (t := 11) rfl Sub.nil))))) SubB.nil
      · subst hj4; have h := hK4; clear hK4
        refine .region [] mixed (by kernel_rfl) ?_
        refine .cons (.addW .none (.s rfl) (.int (by decide))) rfl ?_
        refine .cons (.move .none (.s rfl)) rfl ?_
        refine .nil ?_
        exact Ends.againL (some_eq h) (.cons (t := 11) rfl (.cons (t := 3) rfl (.cons (t := 0) rfl (.cons (t := 9) rfl (.cons (t := 10) rfl Sub.nil))))) SubB.nil
    · replace h := bif_f h hb3
      refine .exit ?_
      refine .thenExit ?_
      refine .thenExit ?_
      refine .blkExit ?_
      replace h := hD2 _ (some_eq h)
      exact Ends.join _ (some_eq h) (.cons (t := 3) rfl (.cons (t := 0) rfl Sub.nil)) SubB.nil
  · subst hj1; have h := hK1; clear hK1
    refine .seq ?_
    refine .region [([], []), ([], [24]), ([24], [6, 24])] mixed (by kernel_rfl) ?_
    refine .consA (.move .none (.s rfl)) rfl ?_
    obtain ⟨newslice1, hv8, h⟩ := bind_some h
    refine .consW (.callO [] (slices_Grow_Point_ok hv8) (.cons (.const (fun _ _ => rep_raw.2 ⟨rfl, rfl, rfl⟩)) (.cons (.s rfl) .nil)) .nil rfl (by decide) (by decide) (by intro d h; cases h; decide)) rfl rfl ?_
    refine .consW (.passRow rfl (.tmp rfl)) rfl rfl ?_
    refine .nil ?_
    refine .then ?_
    refine .nameRow (t := 6) (g := 5001) rfl rfl rfl (fun s5001 => ?_)
    refine .seq ?_
    refine .seq ?_
    refine .region [] mixed (by kernel_rfl) ?_
    refine .cons (.move .none (.s rfl)) rfl ?_
    refine .cons (.len .none sl192 (.s rfl)) rfl ?_
    refine .cons (.move .none (.int (by decide))) rfl ?_
    refine .nil ?_
    refine .then ?_
    obtain ⟨j_9, h, hK9⟩ := bind_some h
    refine .thenJ (ι := (List Point)) (fun j_9 => []) (fun j_9 => [(6, some (rowV 27 j_9))]) (fun s => j_9 = s) Sub.nil SubB.nil ?_ (fun j_9' hj9 => ?_)
    · skip
      refine .block ?_
      refine .anon (t := 6) (g := 5001) rfl rfl trivial rfl ?_
      refine .rforL h (fun p10_ => [(27, ⟨True, rep p10_.1⟩)]) (fun p10_ => [(6, some (rowV 27 p10_.2))]) (.cons (t := 27) rfl Sub.nil) (.cons (t := 6) rfl SubB.nil) (.cons (t := 25) rfl (.cons (t := 26) rfl Sub.nil)) SubB.nil (fun p10_ o_10 h hD10 => ?_)
      refine .nameRow (t := 6) (g := 5002) rfl rfl rfl (fun s5002 => ?_)
      refine .seq ?_
      refine .region [] mixed (by kernel_rfl) ?_
      refine .cons (.lt .none (.s rfl) (.s rfl)) rfl ?_
      refine .nil ?_
      refine .then ?_
      refine .seq ?_
      refine .cond (t := 28) rfl trivial (fun hb11 => ?_) (fun hb11 => ?_)
      · replace h := bif_t h hb11
        refine .skip ?_
        refine .then ?_
        refine .seq ?_
        obtain ⟨j_12, h, hK12⟩ := bind_some h
        unfold slices_Concat_Point_L2 at h
        refine .thenJ (ι := (List Point)) (fun j_12 => []) (fun j_12 => [(6, some (rowV 27 j_12))]) (fun s => j_12 = s) (.cons (t := 25) rfl (.cons (t := 26) rfl (.cons (t := 27) rfl Sub.nil))) SubB.nil ?_ (fun j_12' hj12 => ?_)
        · skip
          refine .block ?_
          refine .seq ?_
          refine .region [] mixed (by kernel_rfl) ?_
          obtain ⟨hn13, h⟩ := need_some h
          refine .cons (.indexAddr .none sl192 ty59 (.s rfl) (.s rfl) (fun _ => hn13)) rfl ?_
          refine .cons (.load .none ty59 (.s rfl)) rfl ?_
          refine .cons (.assign .none (.s rfl)) rfl ?_
          refine .nil ?_
          refine .then ?_
          refine .region [([], []), ([], []), ([5002], [33, 5002]), ([33], [6, 33])] mixed (by kernel_rfl) ?_
          refine .consA (.move .none (.s rfl)) rfl ?_
          refine .consA (.move .none (.s rfl)) rfl ?_
          obtain ⟨hn14, h⟩ := need_some h
          refine .consW (.append (k := 5002) rk59 rfl (.told (.s rfl) rfl) (.s rfl) hn14) rfl rfl ?_
          refine .consWD (.passRow rfl (.tmp rfl)) rfl rfl ?_
          refine .nil ?_
          refine .blkNormal ?_
          exact Ends.join _ (some_eq h) (.cons (t := 25) rfl (.cons (t := 26) rfl (.cons (t := 27) rfl Sub.nil))) (.cons (t := 6) rfl SubB.nil)
        · subst hj12; have h := hK12; clear hK12
          refine .nameRow (t := 6) (g := 5003) rfl rfl rfl (fun s5003 => ?_)
          refine .region [] mixed (by kernel_rfl) ?_
          refine .cons (.addW .none (.s rfl) (.int (by decide))) rfl ?_
          refine .cons (.move .none (.s rfl)) rfl ?_
          refine .nil ?_
          refine .anon (t := 6) (g := 5003) rfl rfl trivial rfl ?_
          exact Ends.againL (some_eq h) (.cons (t := 27) rfl (.cons (t := 25) rfl (.cons (t := 26) rfl Sub.nil))) (.cons (t := 6) rfl SubB.nil)
      · replace h := bif_f h hb11
        refine .exit ?_
        refine .thenExit ?_
        refine .thenExit ?_
        refine .blkExit ?_
        refine .anon (t := 6) (g := 5002) rfl rfl trivial rfl ?_
        replace h := hD10 _ (some_eq h)
        exact Ends.join _ (some_eq h) Sub.nil (.cons (t := 6) rfl SubB.nil)
    · subst hj9; have h := hK9; clear hK9
      refine .nameRow (t := 6) (g := 5004) rfl rfl rfl (fun s5004 => ?_)
      refine .seq ?_
      refine .region [] mixed (by kernel_rfl) ?_
      refine .cons (.move .none (.s rfl)) rfl ?_
      refine .cons (.assign .none (.s rfl)) rfl ?_
      refine .nil ?_
      refine .then ?_
      refine .ret ?_
      refine .anon (t := 2) (g := 5004) rfl rfl trivial rfl ?_
      obtain rfl := some_eq h
      exact Ends.ret1O (.inl rfl) [2] Tryz.results94 (by decide) (.res rfl rfl) (ResOK.tmp rfl trivial (fun _ _ _ _ => trivial))

theorem page_Line_ok {d1 : Doc} {id1 : Str} {r : ((List Point) × Int)}  (h : page_Line d1 id1 = some r) : FSpec Tryz.prog 34 [rep d1, rep id1] (tup [rep r.1, rep r.2]) := by
  unfold page_Line at h
  refine FSpec.intro (n := 43) fnok34 Tryz.func34 rfl Tryz.ntmps34 rfl (fun F => ?_)
  refine .seq ?_
  refine .region [] mixed (by kernel_rfl) ?_
  refine .cons (.box .none (.s rfl)) rfl ?_
  refine .cons (.box .none (.s rfl)) rfl ?_
  refine .cons (.assign .none (.const (x := ([] : (List Point))) (fun M w => ⟨_, ⟨none, 0, rfl, Nat.le_refl _, by decide, rfl⟩, rfl⟩))) rfl ?_
  refine .cons (.assign .none (.int (by decide))) rfl ?_
  refine .nil ?_
  refine .then ?_
  refine .seq ?_
  refine .region [] mixed (by kernel_rfl) ?_
  refine .cons (.load .none ty25 (.s rfl)) rfl ?_
  obtain ⟨r1, hv1, h⟩ := bind_some h
  refine .cons (.call .none (page_look_ok hv1) (.cons (.s rfl) .nil)) rfl ?_
  refine .cons (.move .none (.s rfl)) rfl ?_
  refine .cons (.extract .none (.s rfl) rfl) rfl ?_
  refine .cons (.extract .none (.s rfl) rfl) rfl ?_
  refine .cons (.assign .none (.s rfl)) rfl ?_
  refine .cons (.assign .none (.s rfl)) rfl ?_
  refine .nil ?_
  refine .then ?_
  refine .seq ?_
  refine .seq ?_
  refine .region [] mixed (by kernel_rfl) ?_
  refine .cons (.move .none (.s rfl)) rfl ?_
  refine .cons (.neI .none (.s rfl) (.int (by decide))) rfl ?_
  refine .nil ?_
  refine .then ?_
  refine .cond (t := 16) rfl trivial (fun hb2 => ?_) (fun hb2 => ?_)
  · replace h := bif_t h hb2
    refine .seq ?_
    refine .region [] mixed (by kernel_rfl) ?_
    refine .cons (.move .none (.s rfl)) rfl ?_
    refine .cons (.assign .none (.const (x := ([] : (List Point))) (fun M w => ⟨_, ⟨none, 0, rfl, Nat.le_refl _, by decide, rfl⟩, rfl⟩))) rfl ?_
    refine .cons (.assign .none (.s rfl)) rfl ?_
    refine .nil ?_
    refine .then ?_
    refine .ret ?_
    refine .thenRet ?_
    obtain rfl := some_eq h
    exact Ends.ret2 (.inl rfl) Tryz.results34 (ResOK.tmp rfl trivial Imp.refl) (ResOK.tmp rfl trivial Imp.refl)
  · replace h := bif_f h hb2
    refine .skip ?_
    refine .then ?_
    refine .seq ?_
    refine .region [] mixed (by kernel_rfl) ?_
    refine .cons (.fieldAddr .none fd25_1 hfd25_1 (.s rfl)) rfl ?_
    refine .cons (.load .none ty23 (.s rfl)) rfl ?_
    refine .cons (.makeFunc (ι := DEdge × Bool) (pre := fun i => (fun x0 => page_Line_1 x0 id1) i.1 = some i.2) (Ss := fun i => [rep i.1]) (S := fun i => rep i.2) .none fnok93 (fun i h => page_Line_1_ok h) (.cons (.s rfl) .nil)) rfl ?_
    obtain ⟨k1, hv3, h⟩ := bind_some h
    refine .cons (.call .none (slices_IndexFunc_Edge_ok hv3) (.cons (.s rfl) (.cons (.s rfl) .nil))) rfl ?_
    refine .cons (.assign .none (.s rfl)) rfl ?_
    refine .nil ?_
    refine .then ?_
    refine .seq ?_
    refine .seq ?_
    refine .region [] mixed (by kernel_rfl) ?_
    refine .cons (.move .none (.s rfl)) rfl ?_
    refine .cons (.lt .none (.s rfl) (.int (by decide))) rfl ?_
    refine .nil ?_
    refine .then ?_
    refine .cond (t := 23) rfl trivial (fun hb4 => ?_) (fun hb4 => ?_)
    · replace h := bif_t h hb4
      refine .seq ?_
      refine .region [] mixed (by kernel_rfl) ?_
      refine .cons (.assign .none (.const (x := ([] : (List Point))) (fun M w => ⟨_, ⟨none, 0, rfl, Nat.le_refl _, by decide, rfl⟩, rfl⟩))) rfl ?_
      refine .cons (.assign .none (.int (by decide))) rfl ?_
      refine .nil ?_
      refine .then ?_
      refine .ret ?_
      refine .thenRet ?_
      obtain rfl := some_eq h
      exact Ends.ret2 (.inl rfl) Tryz.results34 (ResOK.tmp rfl trivial Imp.refl) (ResOK.tmp rfl trivial Imp.refl)
    · replace h := bif_f h hb4
      refine .skip ?_
      refine .then ?_
      refine .seq ?_
      refine .region [([], []), ([], []), ([], []), ([], []), ([], []), ([], [9]), ([9], [9])] mixed (by kernel_rfl) ?_
      refine .consA (.fieldAddr .none fd25_1 hfd25_1 (.s rfl)) rfl ?_
      refine .consA (.load .none ty23 (.s rfl)) rfl ?_
      refine .consA (.move .none (.s rfl)) rfl ?_
      obtain ⟨hn5, h⟩ := need_some h
      refine .consA (.indexAddr .none sl23 ty67 (.s rfl) (.s rfl) (fun _ => hn5)) rfl ?_
      obtain ⟨v1, hv6, h⟩ := bnd_some h
      refine .consA (.re hv6 (.load .none ty67 (.s rfl))) rfl ?_
      refine .consW (.alloc zo67 rfl) rfl rfl ?_
      refine .consN (.store ty67 rfl rfl (.s rfl)) rfl ?_
      refine .nil ?_
      refine .then ?_
      refine .freeze (t := 9) rfl rfl SubB.nil rfl ?_
      refine .seq ?_
      obtain ⟨v2, hv7, h⟩ := bind_some h
      refine .isRef (t := 6) hv7 rfl trivial ?_
      refine .region [] mixed (by kernel_rfl) ?_
      refine .cons (.move .none (.s rfl)) rfl ?_
      refine .cons (.fieldAddr .none fd67_1 hfd67_1 (.s rfl)) rfl ?_
      refine .cons (.load .none ty65 (.s rfl)) rfl ?_
      obtain ⟨r2, hv8, h⟩ := bind_some h
      refine .cons (.call .none (page_view_port_ok hv8) (.cons (.s rfl) (.cons (.s rfl) .nil))) rfl ?_
      refine .cons (.buildSlice (xs := [_]) .none sl59 ty27 hz27 (.cons (.s rfl) .nil) rfl (by decide)) rfl ?_
      refine .cons (.fieldAddr .none fd67_3 hfd67_3 (.s rfl)) rfl ?_
      refine .cons (.load .none ty59 (.s rfl)) rfl ?_
      refine .cons (.move .none (.s rfl)) rfl ?_
      refine .cons (.fieldAddr .none fd67_2 hfd67_2 (.s rfl)) rfl ?_
      refine .cons (.load .none ty65 (.s rfl)) rfl ?_
      obtain ⟨r3, hv9, h⟩ := bind_some h
      refine .cons (.call .none (page_view_port_ok hv9) (.cons (.s rfl) (.cons (.s rfl) .nil))) rfl ?_
      refine .cons (.buildSlice (xs := [_]) .none sl59 ty27 hz27 (.cons (.s rfl) .nil) rfl (by decide)) rfl ?_
      refine .cons (.buildSlice (xs := [_, _, _]) .none sl192 ty59 hz59 (.cons (.s rfl) (.cons (.s rfl) (.cons (.s rfl) .nil))) rfl (by decide)) rfl ?_
      obtain ⟨r4, hv10, h⟩ := bind_some h
      refine .cons (.call .none (slices_Concat_Point_ok hv10).frz (.cons (.s rfl) .nil)) rfl ?_
      refine .cons (.assign .none (.s rfl)) rfl ?_
      refine .cons (.assign .none (.int (by decide))) rfl ?_
      refine .nil ?_
      refine .then ?_
      refine .ret ?_
      obtain rfl := some_eq h
      exact Ends.ret2 (.inl rfl) Tryz.results34 (ResOK.tmp rfl trivial Imp.refl) (ResOK.tmp rfl trivial Imp.refl)

theorem ref_Down_ok {a1 : Int} {b1 : Int} {r : Int}  (h : ref_Down a1 b1 = some r) : FSpec Tryz.prog 134 [rep a1, rep b1] (rep r) := by
  unfold ref_Down at h
  refine FSpec.intro (n := 17) fnok134 Tryz.func134 rfl Tryz.ntmps134 rfl (fun F => ?_)
  refine .seq ?_
  refine .region [] mixed (by kernel_rfl) ?_
  refine .cons (.assign .none (.int (by decide))) rfl ?_
  refine .nil ?_
  refine .then ?_
  refine .seq ?_
  refine .region [] mixed (by kernel_rfl) ?_
  refine .cons (.move .none (.s rfl)) rfl ?_
  refine .cons (.move .none (.s rfl)) rfl ?_
  obtain ⟨hn1, h⟩ := need_some h
  refine .cons (.quo .none (.s rfl) (.s rfl) (fun _ => hn1)) rfl ?_
  obtain ⟨q1, hv2, h⟩ := bnd_some h
  refine .cons (.re hv2 (.assign .none (.s rfl))) rfl ?_
  refine .nil ?_
  refine .then ?_
  refine .seq ?_
  refine .seq ?_
  refine .region [] mixed (by kernel_rfl) ?_
  refine .cons (.move .none (.s rfl)) rfl ?_
  refine .cons (.move .none (.s rfl)) rfl ?_
  refine .cons (.mulW .none (.s rfl) (.s rfl)) rfl ?_
  refine .cons (.move .none (.s rfl)) rfl ?_
  refine .cons (.gt .none (.s rfl) (.s rfl)) rfl ?_
  refine .nil ?_
  refine .then ?_
  obtain ⟨j_3, h, hK3⟩ := bind_some h
  refine .thenJ (ι := Int) (fun j_3 => [(5, ⟨True, rep j_3⟩)]) (fun j_3 => []) (fun s => j_3 = s) Sub.nil SubB.nil ?_ (fun j_3' hj3 => ?_)
  · skip
    refine .cond (t := 13) rfl trivial (fun hb4 => ?_) (fun hb4 => ?_)
    · replace h := bif_t h hb4
      refine .region [] mixed (by kernel_rfl) ?_
      refine .cons (.move .none (.s rfl)) rfl ?_
      refine .cons (.subW .none (.s rfl) (.int (by decide))) rfl ?_
      obtain ⟨q2, hv5, h⟩ := bnd_some h
      refine .cons (.re hv5 (.assign .none (.s rfl))) rfl ?_
      refine .nil ?_
      exact Ends.join _ (some_eq h) (.cons (t := 5) rfl Sub.nil) SubB.nil
    · replace h := bif_f h hb4
      refine .skip ?_
      exact Ends.join _ (some_eq h) (.cons (t := 5) rfl Sub.nil) SubB.nil
  · subst hj3; have h := hK3; clear hK3
    refine .seq ?_
    refine .region [] mixed (by kernel_rfl) ?_
    refine .cons (.move .none (.s rfl)) rfl ?_
    refine .cons (.assign .none (.s rfl)) rfl ?_
    refine .nil ?_
    refine .then ?_
    refine .ret ?_
    obtain rfl := some_eq h
    exact Ends.ret1 (.inl rfl) Tryz.results134 (ResOK.tmp rfl trivial Imp.refl)

theorem ref_PortOf_ok {kind1 : Int} {b1 : Box} {side1 : Int} {at1 : Int} {r : Point}  (h : ref_PortOf kind1 b1 side1 at1 = some r) : FSpec Tryz.prog 166 [rep kind1, rep b1, rep side1, rep at1] (rep r) := by
  unfold ref_PortOf at h
  refine FSpec.intro (n := 144) fnok166 Tryz.func166 rfl Tryz.ntmps166 rfl (fun F => ?_)
  refine .seq ?_
  refine .region [([], []), ([], [8])] mixed (by kernel_rfl) ?_
  refine .consA (.box .none (.s rfl)) rfl ?_
  refine .consW (.alloc zo27 rfl) rfl rfl ?_
  refine .nil ?_
  refine .then ?_
  obtain ⟨v1, hv1, h⟩ := bnd_some h
  refine .reB (t := 8) rfl (congrArg (cont 27) hv1) ?_
  refine .nameBox (t := 8) (g := 5001) rfl rfl (fun m5001 => ?_)
  refine .seq ?_
  refine .region [] mixed (by kernel_rfl) ?_
  refine .cons (.fieldAddr .none fd29_0 hfd29_0 (.s rfl)) rfl ?_
  refine .cons (.load .none ty3 (.s rfl)) rfl ?_
  refine .cons (.fieldAddr .none fd29_2 hfd29_2 (.s rfl)) rfl ?_
  refine .cons (.load .none ty3 (.s rfl)) rfl ?_
  refine .cons (.move .none (.s rfl)) rfl ?_
  refine .cons (.mulW .none (.s rfl) (.s rfl)) rfl ?_
  obtain ⟨r1, hv2, h⟩ := bind_some h
  refine .cons (.call .none (ref_Down_ok hv2) (.cons (.s rfl) (.cons (.int (by decide)) .nil))) rfl ?_
  refine .cons (.addW .none (.s rfl) (.s rfl)) rfl ?_
  refine .cons (.fieldAddr .none fd29_1 hfd29_1 (.s rfl)) rfl ?_
  refine .cons (.load .none ty3 (.s rfl)) rfl ?_
  refine .cons (.fieldAddr .none fd29_3 hfd29_3 (.s rfl)) rfl ?_
  refine .cons (.load .none ty3 (.s rfl)) rfl ?_
  refine .cons (.move .none (.s rfl)) rfl ?_
  refine .cons (.mulW .none (.s rfl) (.s rfl)) rfl ?_
  obtain ⟨r2, hv3, h⟩ := bind_some h
  refine .cons (.call .none (ref_Down_ok hv3) (.cons (.s rfl) (.cons (.int (by decide)) .nil))) rfl ?_
  refine .cons (.addW .none (.s rfl) (.s rfl)) rfl ?_
  obtain ⟨x1, hv4, h⟩ := bnd_some h
  refine .cons (.re hv4 (.assign .none (.s rfl))) rfl ?_
  obtain ⟨y1, hv5, h⟩ := bnd_some h
  refine .cons (.re hv5 (.assign .none (.s rfl))) rfl ?_
  refine .nil ?_
  refine .then ?_
  refine .seq ?_
  refine .seq ?_
  refine .region [] mixed (by kernel_rfl) ?_
  refine .cons (.move .none (.s rfl)) rfl ?_
  refine .nil ?_
  refine .then ?_
  obtain ⟨o_6, h, hK6⟩ := bindR_some h
  refine .thenJ (ι := Unit) (fun j_6 => []) (fun j_6 => []) (fun s => o_6 = Res.nx s) (.cons (t := 2) rfl (.cons (t := 5) rfl (.cons (t := 8) rfl (.cons (t := 9) rfl (.cons (t := 10) rfl Sub.nil))))) (.cons (t := 5001) rfl SubB.nil) ?_ (fun j_6 hj6 => ?_)
  · skip
    refine .block ?_
    refine .seq ?_
    refine .region [] mixed (by kernel_rfl) ?_
    refine .cons (.eqI .none (.s rfl) (.int (by decide))) rfl ?_
    refine .cons (.assign .none (.s rfl)) rfl ?_
    refine .nil ?_
    refine .then ?_
    refine .cond (t := 56) rfl trivial (fun hb7 => ?_) (fun hb7 => ?_)
    · replace h := bif_t h hb7
      refine .seq ?_
      refine .region [] mixed (by kernel_rfl) ?_
      refine .cons (.fieldAddr .none fd29_1 hfd29_1 (.s rfl)) rfl ?_
      refine .cons (.load .none ty3 (.s rfl)) rfl ?_
      refine .cons (.assign .none (.s rfl)) rfl ?_
      refine .nil ?_
      refine .then ?_
      refine .block ?_
      refine .loopL h (fun s8_ => [(11, ⟨True, rep s8_⟩)]) (fun s8_ => []) (.cons (t := 11) rfl Sub.nil) SubB.nil (.cons (t := 0) rfl (.cons (t := 2) rfl (.cons (t := 5) rfl (.cons (t := 8) rfl (.cons (t := 9) rfl (.cons (t := 10) rfl Sub.nil)))))) (.cons (t := 5001) rfl SubB.nil) (fun s8_ o_8 h hD8 => ?_)
      unfold ref_PortOf_L1 at h
      refine .seq ?_
      refine .seq ?_
      refine .region [] mixed (by kernel_rfl) ?_
      refine .cons (.move .none (.s rfl)) rfl ?_
      refine .cons (.fieldAddr .none fd29_1 hfd29_1 (.s rfl)) rfl ?_
      refine .cons (.load .none ty3 (.s rfl)) rfl ?_
      refine .cons (.fieldAddr .none fd29_3 hfd29_3 (.s rfl)) rfl ?_
      refine .cons (.load .none ty3 (.s rfl)) rfl ?_
      refine .cons (.addW .none (.s rfl) (.s rfl)) rfl ?_
      refine .cons (.le .none (.s rfl) (.s rfl)) rfl ?_
      refine .nil ?_
      refine .then ?_
      refine .cond (t := 66) rfl trivial (fun hb9 => ?_) (fun hb9 => ?_)
      · replace h := bif_t h hb9
        refine .skip ?_
        refine .then ?_
        refine .seq ?_
        refine .block ?_
        refine .seq ?_
        refine .region [([], []), ([], []), ([], []), ([], [12]), ([12], [12])] mixed (by kernel_rfl) ?_
        refine .consA (.move .none (.s rfl)) rfl ?_
        refine .consA (.move .none (.s rfl)) rfl ?_
        obtain ⟨v2, hv10, h⟩ := bnd_some h
        refine .consA (.re hv10 (.buildF (y := (⟨x1, s8_⟩ : Point)) .none bu27 zc27 rfl (.cons (.s rfl) (.cons (.s rfl) .nil)) (.cons rfl sf27_0 (.cons rfl sf27_1 .nil)))) rfl ?_
        refine .consW (.alloc zo27 rfl) rfl rfl ?_
        refine .consN (.store ty27 rfl rfl (.s rfl)) rfl ?_
        refine .nil ?_
        refine .then ?_
        refine .freeze (t := 12) rfl rfl (.cons (t := 5001) rfl SubB.nil) rfl ?_
        refine .seq ?_
        refine .region [] mixed (by kernel_rfl) ?_
        refine .cons (.move .none (.s rfl)) rfl ?_
        refine .cons (.load .none ty29 (.s rfl)) rfl ?_
        refine .cons (.load .none ty27 (.s rfl)) rfl ?_
        obtain ⟨r3, hv11, h⟩ := bind_some h
        refine .cons (.call .none (ref_HasOf_ok hv11) (.cons (.s rfl) (.cons (.s rfl) (.cons (.s rfl) .nil)))) rfl ?_
        refine .cons (.ge .none (.s rfl) (.int (by decide))) rfl ?_
        refine .nil ?_
        refine .then ?_
        refine .cond (t := 76) rfl trivial (fun hb12 => ?_) (fun hb12 => ?_)
        · replace h := bif_t h hb12
          refine .seq ?_
          refine .region [([], []), ([5001], [5001])] mixed (by kernel_rfl) ?_
          refine .consA (.load .none ty27 (.s rfl)) rfl ?_
          refine .consN (.storeAt0 (g := 5001) ty27 rfl (.s rfl) (.s rfl)) rfl ?_
          refine .nil ?_
          refine .then ?_
          refine .freezeBox (g := 5001) (ts := [8]) rfl (.cons (t := 8) rfl trivial .nil) SubB.nil rfl ?_
          refine .ret ?_
          refine .blkRet ?_
          refine .thenRet ?_
          refine .thenRet ?_
          refine .blkRet ?_
          refine .blkRet ?_
          refine .thenRet ?_
          replace h := hD8 _ (some_eq h)
          replace h := resb_ab hK6 (some_eq h)
          obtain rfl := some_eq h
          exact Ends.ret1 (.inl rfl) Tryz.results166 (ResOK.cellR ty27 rfl trivial Imp.refl)
        · replace h := bif_f h hb12
          refine .skip ?_
          refine .blkNormal ?_
          refine .then ?_
          refine .region [] mixed (by kernel_rfl) ?_
          refine .cons (.move .none (.s rfl)) rfl ?_
          refine .cons (.addW .none (.s rfl) (.int (by decide))) rfl ?_
          obtain ⟨k1, hv13, h⟩ := bnd_some h
          refine .cons (.re hv13 (.assign .none (.s rfl))) rfl ?_
          refine .nil ?_
          exact Ends.againL (some_eq h) (.cons (t := 11) rfl (.cons (t := 0) rfl (.cons (t := 2) rfl (.cons (t := 5) rfl (.cons (t := 8) rfl (.cons (t := 9) rfl (.cons (t := 10) rfl Sub.nil))))))) (.cons (t := 5001) rfl SubB.nil)
      · replace h := bif_f h hb9
        refine .exit ?_
        refine .thenExit ?_
        refine .thenExit ?_
        refine .blkExit ?_
        refine .blkNormal ?_
        replace h := hD8 _ (some_eq h)
        exact Ends.join _ (some_eq h) (.cons (t := 2) rfl (.cons (t := 5) rfl (.cons (t := 8) rfl (.cons (t := 9) rfl (.cons (t := 10) rfl Sub.nil))))) (.cons (t := 5001) rfl SubB.nil)
    · replace h := bif_f h hb7
      refine .seq ?_
      refine .region [] mixed (by kernel_rfl) ?_
      refine .cons (.eqI .none (.s rfl) (.int (by decide))) rfl ?_
      refine .cons (.assign .none (.s rfl)) rfl ?_
      refine .nil ?_
      refine .then ?_
      refine .cond (t := 78) rfl trivial (fun hb14 => ?_) (fun hb14 => ?_)
      · replace h := bif_t h hb14
        refine .seq ?_
        refine .region [] mixed (by kernel_rfl) ?_
        refine .cons (.fieldAddr .none fd29_1 hfd29_1 (.s rfl)) rfl ?_
        refine .cons (.load .none ty3 (.s rfl)) rfl ?_
        refine .cons (.fieldAddr .none fd29_3 hfd29_3 (.s rfl)) rfl ?_
        refine .cons (.load .none ty3 (.s rfl)) rfl ?_
        refine .cons (.addW .none (.s rfl) (.s rfl)) rfl ?_
        obtain ⟨k2, hv15, h⟩ := bnd_some h
        refine .cons (.re hv15 (.assign .none (.s rfl))) rfl ?_
        refine .nil ?_
        refine .then ?_
        refine .block ?_
        refine .loopL h (fun s16_ => [(13, ⟨True, rep s16_⟩)]) (fun s16_ => []) (.cons (t := 13) rfl Sub.nil) SubB.nil (.cons (t := 0) rfl (.cons (t := 2) rfl (.cons (t := 5) rfl (.cons (t := 8) rfl (.cons (t := 9) rfl (.cons (t := 10) rfl Sub.nil)))))) (.cons (t := 5001) rfl SubB.nil) (fun s16_ o_16 h hD16 => ?_)
        unfold ref_PortOf_L2 at h
        refine .seq ?_
        refine .seq ?_
        refine .region [] mixed (by kernel_rfl) ?_
        refine .cons (.move .none (.s rfl)) rfl ?_
        refine .cons (.fieldAddr .none fd29_1 hfd29_1 (.s rfl)) rfl ?_
        refine .cons (.load .none ty3 (.s rfl)) rfl ?_
        refine .cons (.ge .none (.s rfl) (.s rfl)) rfl ?_
        refine .nil ?_
        refine .then ?_
        refine .cond (t := 88) rfl trivial (fun hb17 => ?_) (fun hb17 => ?_)
        · replace h := bif_t h hb17
          refine .skip ?_
          refine .then ?_
          refine .seq ?_
          refine .block ?_
          refine .seq ?_
          refine .region [([], []), ([], []), ([], []), ([], [14]), ([14], [14])] mixed (by kernel_rfl) ?_
          refine .consA (.move .none (.s rfl)) rfl ?_
          refine .consA (.move .none (.s rfl)) rfl ?_
          obtain ⟨v3, hv18, h⟩ := bnd_some h
          refine .consA (.re hv18 (.buildF (y := (⟨x1, s16_⟩ : Point)) .none bu27 zc27 rfl (.cons (.s rfl) (.cons (.s rfl) .nil)) (.cons rfl sf27_0 (.cons rfl sf27_1 .nil)))) rfl ?_
          refine .consW (.alloc zo27 rfl) rfl rfl ?_
          refine .consN (.store ty27 rfl rfl (.s rfl)) rfl ?_
          refine .nil ?_
          refine .then ?_
          refine .freeze (t := 14) rfl rfl (.cons (t := 5001) rfl SubB.nil) rfl ?_
          refine .seq ?_
          refine .region [] mixed (by kernel_rfl) ?_
          refine .cons (.move .none (.s rfl)) rfl ?_
          refine .cons (.load .none ty29 (.s rfl)) rfl ?_
          refine .cons (.load .none ty27 (.s rfl)) rfl ?_
          obtain ⟨r4, hv19, h⟩ := bind_some h
          refine .cons (.call .none (ref_HasOf_ok hv19) (.cons (.s rfl) (.cons (.s rfl) (.cons (.s rfl) .nil)))) rfl ?_
          refine .cons (.ge .none (.s rfl) (.int (by decide))) rfl ?_
          refine .nil ?_
          refine .then ?_
          refine .cond (t := 98) rfl trivial (fun hb20 => ?_) (fun hb20 => ?_)
          · replace h := bif_t h hb20
            refine .seq ?_
            refine .region [([], []), ([5001], [5001])] mixed (by kernel_rfl) ?_
            refine .consA (.load .none ty27 (.s rfl)) rfl ?_
            refine .consN (.storeAt0 (g := 5001) ty27 rfl (.s rfl) (.s rfl)) rfl ?_
            refine .nil ?_
            refine .then ?_
            refine .freezeBox (g := 5001) (ts := [8]) rfl (.cons (t := 8) rfl trivial .nil) SubB.nil rfl ?_
            refine .ret ?_
            refine .blkRet ?_
            refine .thenRet ?_
            refine .thenRet ?_
            refine .blkRet ?_
            refine .blkRet ?_
            refine .thenRet ?_
            replace h := hD16 _ (some_eq h)
            replace h := resb_ab hK6 (some_eq h)
            obtain rfl := some_eq h
            exact Ends.ret1 (.inl rfl) Tryz.results166 (ResOK.cellR ty27 rfl trivial Imp.refl)
          · replace h := bif_f h hb20
            refine .skip ?_
            refine .blkNormal ?_
            refine .then ?_
            refine .region [] mixed (by kernel_rfl) ?_
            refine .cons (.move .none (.s rfl)) rfl ?_
            refine .cons (.subW .none (.s rfl) (.int (by decide))) rfl ?_
            obtain ⟨k3, hv21, h⟩ := bnd_some h
            refine .cons (.re hv21 (.assign .none (.s rfl))) rfl ?_
            refine .nil ?_
            exact Ends.againL (some_eq h) (.cons (t := 13) rfl (.cons (t := 0) rfl (.cons (t := 2) rfl (.cons (t := 5) rfl (.cons (t := 8) rfl (.cons (t := 9) rfl (.cons (t := 10) rfl Sub.nil))))))) (.cons (t := 5001) rfl SubB.nil)
        · replace h := bif_f h hb17
          refine .exit ?_
          refine .thenExit ?_
          refine .thenExit ?_
          refine .blkExit ?_
          refine .blkNormal ?_
          replace h := hD16 _ (some_eq h)
          exact Ends.join _ (some_eq h) (.cons (t := 2) rfl (.cons (t := 5) rfl (.cons (t := 8) rfl (.cons (t := 9) rfl (.cons (t := 10) rfl Sub.nil))))) (.cons (t := 5001) rfl SubB.nil)
      · replace h := bif_f h hb14
        refine .seq ?_
        refine .region [] mixed (by kernel_rfl) ?_
        refine .cons (.eqI .none (.s rfl) (.int (by decide))) rfl ?_
        refine .cons (.assign .none (.s rfl)) rfl ?_
        refine .nil ?_
        refine .then ?_
        refine .cond (t := 100) rfl trivial (fun hb22 => ?_) (fun hb22 => ?_)
        · replace h := bif_t h hb22
          refine .seq ?_
          refine .region [] mixed (by kernel_rfl) ?_
          refine .cons (.fieldAddr .none fd29_0 hfd29_0 (.s rfl)) rfl ?_
          refine .cons (.load .none ty3 (.s rfl)) rfl ?_
          refine .cons (.assign .none (.s rfl)) rfl ?_
          refine .nil ?_
          refine .then ?_
          refine .block ?_
          refine .loopL h (fun s23_ => [(15, ⟨True, rep s23_⟩)]) (fun s23_ => []) (.cons (t := 15) rfl Sub.nil) SubB.nil (.cons (t := 0) rfl (.cons (t := 2) rfl (.cons (t := 5) rfl (.cons (t := 8) rfl (.cons (t := 9) rfl (.cons (t := 10) rfl Sub.nil)))))) (.cons (t := 5001) rfl SubB.nil) (fun s23_ o_23 h hD23 => ?_)
          unfold ref_PortOf_L3 at h
          refine .seq ?_
          refine .seq ?_
          refine .region [] mixed (by kernel_rfl) ?_
          refine .cons (.move .none (.s rfl)) rfl ?_
          refine .cons (.fieldAddr .none fd29_0 hfd29_0 (.s rfl)) rfl ?_
          refine .cons (.load .none ty3 (.s rfl)) rfl ?_
          refine .cons (.fieldAddr .none fd29_2 hfd29_2 (.s rfl)) rfl ?_
          refine .cons (.load .none ty3 (.s rfl)) rfl ?_
          refine .cons (.addW .none (.s rfl) (.s rfl)) rfl ?_
          refine .cons (.le .none (.s rfl) (.s rfl)) rfl ?_
          refine .nil ?_
          refine .then ?_
          refine .cond (t := 110) rfl trivial (fun hb24 => ?_) (fun hb24 => ?_)
          · replace h := bif_t h hb24
            refine .skip ?_
            refine .then ?_
            refine .seq ?_
            refine .block ?_
            refine .seq ?_
            refine .region [([], []), ([], []), ([], []), ([], [16]), ([16], [16])] mixed (by kernel_rfl) ?_
            refine .consA (.move .none (.s rfl)) rfl ?_
            refine .consA (.move .none (.s rfl)) rfl ?_
            obtain ⟨v4, hv25, h⟩ := bnd_some h
            refine .consA (.re hv25 (.buildF (y := (⟨s23_, y1⟩ : Point)) .none bu27 zc27 rfl (.cons (.s rfl) (.cons (.s rfl) .nil)) (.cons rfl sf27_0 (.cons rfl sf27_1 .nil)))) rfl ?_
            refine .consW (.alloc zo27 rfl) rfl rfl ?_
            refine .consN (.store ty27 rfl rfl (.s rfl)) rfl ?_
            refine .nil ?_
            refine .then ?_
            refine .freeze (t := 16) rfl rfl (.cons (t := 5001) rfl SubB.nil) rfl ?_
            refine .seq ?_
            refine .region [] mixed (by kernel_rfl) ?_
            refine .cons (.move .none (.s rfl)) rfl ?_
            refine .cons (.load .none ty29 (.s rfl)) rfl ?_
            refine .cons (.load .none ty27 (.s rfl)) rfl ?_
            obtain ⟨r5, hv26, h⟩ := bind_some h
            refine .cons (.call .none (ref_HasOf_ok hv26) (.cons (.s rfl) (.cons (.s rfl) (.cons (.s rfl) .nil)))) rfl ?_
            refine .cons (.ge .none (.s rfl) (.int (by decide))) rfl ?_
            refine .nil ?_
            refine .then ?_
            refine .cond (t := 120) rfl trivial (fun hb27 => ?_) (fun hb27 => ?_)
            · replace h := bif_t h hb27
              refine .seq ?_
              refine .region [([], []), ([5001], [5001])] mixed (by kernel_rfl) ?_
              refine .consA (.load .none ty27 (.s rfl)) rfl ?_
              refine .consN (.storeAt0 (g := 5001) ty27 rfl (.s rfl) (.s rfl)) rfl ?_
              refine .nil ?_
              refine .then ?_
              refine .freezeBox (g := 5001) (ts := [8]) rfl (.cons (t := 8) rfl trivial .nil) SubB.nil rfl ?_
              refine .ret ?_
              refine .blkRet ?_
              refine .thenRet ?_
              refine .thenRet ?_
              refine .blkRet ?_
              refine .blkRet ?_
              refine .thenRet ?_
              replace h := hD23 _ (some_eq h)
              replace h := resb_ab hK6 (some_eq h)
              obtain rfl := some_eq h
              exact Ends.ret1 (.inl rfl) Tryz.results166 (ResOK.cellR ty27 rfl trivial Imp.refl)
            · replace h := bif_f h hb27
              refine .skip ?_
              refine .blkNormal ?_
              refine .then ?_
              refine .region [] mixed (by kernel_rfl) ?_
              refine .cons (.move .none (.s rfl)) rfl ?_
              refine .cons (.addW .none (.s rfl) (.int (by decide))) rfl ?_
              obtain ⟨k4, hv28, h⟩ := bnd_some h
              refine .cons (.re hv28 (.assign .none (.s rfl))) rfl ?_
              refine .nil ?_
              exact Ends.againL (some_eq h) (.cons (t := 15) rfl (.cons (t := 0) rfl (.cons (t := 2) rfl (.cons (t := 5) rfl (.cons (t := 8) rfl (.cons (t := 9) rfl (.cons (t := 10) rfl Sub.nil))))))) (.cons (t := 5001) rfl SubB.nil)
          · replace h := bif_f h hb24
            refine .exit ?_
            refine .thenExit ?_
            refine .thenExit ?_
            refine .blkExit ?_
            refine .blkNormal ?_
            replace h := hD23 _ (some_eq h)
            exact Ends.join _ (some_eq h) (.cons (t := 2) rfl (.cons (t := 5) rfl (.cons (t := 8) rfl (.cons (t := 9) rfl (.cons (t := 10) rfl Sub.nil))))) (.cons (t := 5001) rfl SubB.nil)
        · replace h := bif_f h hb22
          refine .seq ?_
          refine .region [] mixed (by kernel_rfl) ?_
          refine .cons (.fieldAddr .none fd29_0 hfd29_0 (.s rfl)) rfl ?_
          refine .cons (.load .none ty3 (.s rfl)) rfl ?_
          refine .cons (.fieldAddr .none fd29_2 hfd29_2 (.s rfl)) rfl ?_
          refine .cons (.load .none ty3 (.s rfl)) rfl ?_
          refine .cons (.addW .none (.s rfl) (.s rfl)) rfl ?_
          obtain ⟨k5, hv29, h⟩ := bnd_some h
          refine .cons (.re hv29 (.assign .none (.s rfl))) rfl ?_
          refine .nil ?_
          refine .then ?_
          refine .block ?_
          refine .loopL h (fun s30_ => [(17, ⟨True, rep s30_⟩)]) (fun s30_ => []) (.cons (t := 17) rfl Sub.nil) SubB.nil (.cons (t := 0) rfl (.cons (t := 2) rfl (.cons (t := 5) rfl (.cons (t := 8) rfl (.cons (t := 9) rfl (.cons (t := 10) rfl Sub.nil)))))) (.cons (t := 5001) rfl SubB.nil) (fun s30_ o_30 h hD30 => ?_)
          unfold ref_PortOf_L4 at h
          refine .seq ?_
          refine .seq ?_
          refine .region [] mixed (by kernel_rfl) ?_
          refine .cons (.move .none (.s rfl)) rfl ?_
          refine .cons (.fieldAddr .none fd29_0 hfd29_0 (.s rfl)) rfl ?_
          refine .cons (.load .none ty3 (.s rfl)) rfl ?_
          refine .cons (.ge .none (.s rfl) (.s rfl)) rfl ?_
          refine .nil ?_
          refine .then ?_
          refine .cond (t := 44) rfl trivial (fun hb31 => ?_) (fun hb31 => ?_)
          · replace h := bif_t h hb31
            refine .skip ?_
            refine .then ?_
            refine .seq ?_
            refine .block ?_
            refine .seq ?_
            refine .region [([], []), ([], []), ([], []), ([], [18]), ([18], [18])] mixed (by kernel_rfl) ?_
            refine .consA (.move .none (.s rfl)) rfl ?_
            refine .consA (.move .none (.s rfl)) rfl ?_
            obtain ⟨v5, hv32, h⟩ := bnd_some h
            refine .consA (.re hv32 (.buildF (y := (⟨s30_, y1⟩ : Point)) .none bu27 zc27 rfl (.cons (.s rfl) (.cons (.s rfl) .nil)) (.cons rfl sf27_0 (.cons rfl sf27_1 .nil)))) rfl ?_
            refine .consW (.alloc zo27 rfl) rfl rfl ?_
            refine .consN (.store ty27 rfl rfl (.s rfl)) rfl ?_
            refine .nil ?_
            refine .then ?_
            refine .freeze (t := 18) rfl rfl (.cons (t := 5001) rfl SubB.nil) rfl ?_
            refine .seq ?_
            refine .region [] mixed (by kernel_rfl) ?_
            refine .cons (.move .none (.s rfl)) rfl ?_
            refine .cons (.load .none ty29 (.s rfl)) rfl ?_
            refine .cons (.load .none ty27 (.s rfl)) rfl ?_
            obtain ⟨r6, hv33, h⟩ := bind_some h
            refine .cons (.call .none (ref_HasOf_ok hv33) (.cons (.s rfl) (.cons (.s rfl) (.cons (.s rfl) .nil)))) rfl ?_
            refine .cons (.ge .none (.s rfl) (.int (by decide))) rfl ?_
            refine .nil ?_
            refine .then ?_
            refine .cond (t := 54) rfl trivial (fun hb34 => ?_) (fun hb34 => ?_)
            · replace h := bif_t h hb34
              refine .seq ?_
              refine .region [([], []), ([5001], [5001])] mixed (by kernel_rfl) ?_
              refine .consA (.load .none ty27 (.s rfl)) rfl ?_
              refine .consN (.storeAt0 (g := 5001) ty27 rfl (.s rfl) (.s rfl)) rfl ?_
              refine .nil ?_
              refine .then ?_
              refine .freezeBox (g := 5001) (ts := [8]) rfl (.cons (t := 8) rfl trivial .nil) SubB.nil rfl ?_
              refine .ret ?_
              refine .blkRet ?_
              refine .thenRet ?_
              refine .thenRet ?_
              refine .blkRet ?_
              refine .blkRet ?_
              refine .thenRet ?_
              replace h := hD30 _ (some_eq h)
              replace h := resb_ab hK6 (some_eq h)
              obtain rfl := some_eq h
              exact Ends.ret1 (.inl rfl) Tryz.results166 (ResOK.cellR ty27 rfl trivial Imp.refl)
            · replace h := bif_f h hb34
              refine .skip ?_
              refine .blkNormal ?_
              refine .then ?_
              refine .region [] mixed (by kernel_rfl) ?_
              refine .cons (.move .none (.s rfl)) rfl ?_
              refine .cons (.subW .none (.s rfl) (.int (by decide))) rfl ?_
              obtain ⟨k6, hv35, h⟩ := bnd_some h
              refine .cons (.re hv35 (.assign .none (.s rfl))) rfl ?_
              refine .nil ?_
              exact Ends.againL (some_eq h) (.cons (t := 17) rfl (.cons (t := 0) rfl (.cons (t := 2) rfl (.cons (t := 5) rfl (.cons (t := 8) rfl (.cons (t := 9) rfl (.cons (t := 10) rfl Sub.nil))))))) (.cons (t := 5001) rfl SubB.nil)
          · replace h := bif_f h hb31
            refine .exit ?_
            refine .thenExit ?_
            refine .thenExit ?_
            refine .blkExit ?_
            refine .blkNormal ?_
            replace h := hD30 _ (some_eq h)
            exact Ends.join _ (some_eq h) (.cons (t := 2) rfl (.cons (t := 5) rfl (.cons (t := 8) rfl (.cons (t := 9) rfl (.cons (t := 10) rfl Sub.nil))))) (.cons (t := 5001) rfl SubB.nil)
  · have h := resb_nx hK6 hj6
    refine .seq ?_
    refine .seq ?_
    refine .region [] mixed (by kernel_rfl) ?_
    refine .cons (.move .none (.s rfl)) rfl ?_
    refine .cons (.eqI .none (.s rfl) (.int (by decide))) rfl ?_
    refine .cons (.move .none (.s rfl)) rfl ?_
    refine .cons (.move (.at rfl rfl) (.s rfl)) rfl ?_
    refine .cons (.eqI (.at rfl rfl) (.tmp rfl id) (.int (by decide))) rfl ?_
    refine .cons (.pickOr .none (.s rfl) (.tmp rfl id)) rfl ?_
    refine .nil ?_
    refine .then ?_
    refine .cond (t := 127) rfl trivial (fun hb36 => ?_) (fun hb36 => ?_)
    · replace h := bif_t h hb36
      refine .seq ?_
      refine .region [([], []), ([], []), ([], []), ([], []), ([], []), ([], []), ([], []), ([], []), ([5001], [5001])] mixed (by kernel_rfl) ?_
      refine .consA (.move .none (.s rfl)) rfl ?_
      refine .consA (.fieldAddr .none fd29_1 hfd29_1 (.s rfl)) rfl ?_
      refine .consA (.load .none ty3 (.s rfl)) rfl ?_
      refine .consA (.fieldAddr .none fd29_3 hfd29_3 (.s rfl)) rfl ?_
      refine .consA (.load .none ty3 (.s rfl)) rfl ?_
      obtain ⟨r7, hv37, h⟩ := bind_some h
      refine .consA (.call .none (ref_Down_ok hv37) (.cons (.s rfl) (.cons (.int (by decide)) .nil))) rfl ?_
      refine .consA (.addW .none (.s rfl) (.s rfl)) rfl ?_
      obtain ⟨v6, hv38, h⟩ := bnd_some h
      refine .consA (.re hv38 (.buildF (y := (⟨x1, W (b1.Y + r7)⟩ : Point)) .none bu27 zc27 rfl (.cons (.s rfl) (.cons (.s rfl) .nil)) (.cons rfl sf27_0 (.cons rfl sf27_1 .nil)))) rfl ?_
      refine .consN (.storeAt0 (g := 5001) ty27 rfl (.s rfl) (.s rfl)) rfl ?_
      refine .nil ?_
      refine .then ?_
      refine .freezeBox (g := 5001) (ts := [8]) rfl (.cons (t := 8) rfl trivial .nil) SubB.nil rfl ?_
      refine .ret ?_
      refine .thenRet ?_
      obtain rfl := some_eq h
      exact Ends.ret1 (.inl rfl) Tryz.results166 (ResOK.cellR ty27 rfl trivial Imp.refl)
    · replace h := bif_f h hb36
      refine .skip ?_
      refine .then ?_
      refine .seq ?_
      refine .region [([], []), ([], []), ([], []), ([], []), ([], []), ([], []), ([], []), ([], []), ([5001], [5001])] mixed (by kernel_rfl) ?_
      refine .consA (.fieldAddr .none fd29_0 hfd29_0 (.s rfl)) rfl ?_
      refine .consA (.load .none ty3 (.s rfl)) rfl ?_
      refine .consA (.fieldAddr .none fd29_2 hfd29_2 (.s rfl)) rfl ?_
      refine .consA (.load .none ty3 (.s rfl)) rfl ?_
      obtain ⟨r8, hv39, h⟩ := bind_some h
      refine .consA (.call .none (ref_Down_ok hv39) (.cons (.s rfl) (.cons (.int (by decide)) .nil))) rfl ?_
      refine .consA (.addW .none (.s rfl) (.s rfl)) rfl ?_
      refine .consA (.move .none (.s rfl)) rfl ?_
      obtain ⟨v7, hv40, h⟩ := bnd_some h
      refine .consA (.re hv40 (.buildF (y := (⟨W (b1.X + r8), y1⟩ : Point)) .none bu27 zc27 rfl (.cons (.s rfl) (.cons (.s rfl) .nil)) (.cons rfl sf27_0 (.cons rfl sf27_1 .nil)))) rfl ?_
      refine .consN (.storeAt0 (g := 5001) ty27 rfl (.s rfl) (.s rfl)) rfl ?_
      refine .nil ?_
      refine .then ?_
      refine .freezeBox (g := 5001) (ts := [8]) rfl (.cons (t := 8) rfl trivial .nil) SubB.nil rfl ?_
      refine .ret ?_
      obtain rfl := some_eq h
      exact Ends.ret1 (.inl rfl) Tryz.results166 (ResOK.cellR ty27 rfl trivial Imp.refl)

theorem ref_PortPoint_ok {d1 : Doc} {x1 : DEnd} {r : Point}  (h : ref_PortPoint d1 x1 = some r) : FSpec Tryz.prog 97 [rep d1, rep x1] (rep r) := by
  unfold ref_PortPoint at h
  refine FSpec.intro (n := 23) fnok97 Tryz.func97 rfl Tryz.ntmps97 rfl (fun F => ?_)
  refine .seq ?_
  refine .region [([], []), ([], []), ([], [4])] mixed (by kernel_rfl) ?_
  refine .consA (.box .none (.s rfl)) rfl ?_
  refine .consA (.box .none (.s rfl)) rfl ?_
  refine .consW (.alloc zo27 rfl) rfl rfl ?_
  refine .nil ?_
  refine .then ?_
  obtain ⟨v1, hv1, h⟩ := bnd_some h
  refine .reB (t := 4) rfl (congrArg (cont 27) hv1) ?_
  refine .nameBox (t := 4) (g := 5001) rfl rfl (fun m5001 => ?_)
  refine .seq ?_
  refine .region [([], []), ([], []), ([], []), ([], []), ([], []), ([], []), ([], []), ([], []), ([], [5]), ([5], [5])] mixed (by kernel_rfl) ?_
  refine .consA (.fieldAddr .none fd25_0 hfd25_0 (.s rfl)) rfl ?_
  refine .consA (.load .none ty22 (.s rfl)) rfl ?_
  refine .consA (.load .none ty25 (.s rfl)) rfl ?_
  refine .consA (.fieldAddr .none fd65_0 hfd65_0 (.s rfl)) rfl ?_
  refine .consA (.load .none ty9 (.s rfl)) rfl ?_
  obtain ⟨r1, hv2, h⟩ := bind_some h
  refine .consA (.call .none (ref_NodeAt_ok hv2) (.cons (.s rfl) (.cons (.s rfl) .nil))) rfl ?_
  obtain ⟨hn3, h⟩ := need_some h
  refine .consA (.indexAddr .none sl22 ty44 (.s rfl) (.s rfl) (fun _ => hn3)) rfl ?_
  obtain ⟨v2, hv4, h⟩ := bnd_some h
  refine .consA (.re hv4 (.load .none ty44 (.s rfl))) rfl ?_
  refine .consW (.alloc zo44 rfl) rfl rfl ?_
  refine .consN (.store ty44 rfl rfl (.s rfl)) rfl ?_
  refine .nil ?_
  refine .then ?_
  refine .freeze (t := 5) rfl rfl (.cons (t := 5001) rfl SubB.nil) rfl ?_
  refine .seq ?_
  refine .region [([], []), ([], []), ([], []), ([], []), ([], []), ([], []), ([], []), ([], []), ([], []), ([5001], [5001])] mixed (by kernel_rfl) ?_
  refine .consA (.fieldAddr .none fd44_1 hfd44_1 (.s rfl)) rfl ?_
  refine .consA (.load .none ty3 (.s rfl)) rfl ?_
  refine .consA (.fieldAddr .none fd44_2 hfd44_2 (.s rfl)) rfl ?_
  refine .consA (.load .none ty29 (.s rfl)) rfl ?_
  refine .consA (.fieldAddr .none fd65_1 hfd65_1 (.s rfl)) rfl ?_
  refine .consA (.load .none ty3 (.s rfl)) rfl ?_
  refine .consA (.fieldAddr .none fd65_2 hfd65_2 (.s rfl)) rfl ?_
  refine .consA (.load .none ty3 (.s rfl)) rfl ?_
  obtain ⟨r2, hv5, h⟩ := bind_some h
  refine .consA (.call .none (ref_PortOf_ok hv5) (.cons (.s rfl) (.cons (.s rfl) (.cons (.s rfl) (.cons (.s rfl) .nil))))) rfl ?_
  refine .consN (.storeAt0 (g := 5001) ty27 rfl (.s rfl) (.s rfl)) rfl ?_
  refine .nil ?_
  refine .then ?_
  refine .freezeBox (g := 5001) (ts := [4]) rfl (.cons (t := 4) rfl trivial .nil) SubB.nil rfl ?_
  refine .ret ?_
  obtain rfl := some_eq h
  exact Ends.ret1 (.inl rfl) Tryz.results97 (ResOK.cellR ty27 rfl trivial Imp.refl)

theorem ref_LineOf_ok {d1 : Doc} {x1 : DEdge} {r : (List Point)}  (h : ref_LineOf d1 x1 = some r) : FSpec Tryz.prog 37 [rep d1, rep x1] (rep r) := by
  unfold ref_LineOf at h
  refine FSpec.intro (n := 21) fnok37 Tryz.func37 rfl Tryz.ntmps37 rfl (fun F => ?_)
  refine .seq ?_
  refine .region [] mixed (by kernel_rfl) ?_
  refine .cons (.box .none (.s rfl)) rfl ?_
  refine .cons (.box .none (.s rfl)) rfl ?_
  refine .cons (.assign .none (.const (x := ([] : (List Point))) (fun M w => ⟨_, ⟨none, 0, rfl, Nat.le_refl _, by decide, rfl⟩, rfl⟩))) rfl ?_
  refine .nil ?_
  refine .then ?_
  refine .seq ?_
  refine .region [([], []), ([], []), ([], []), ([], []), ([], [10]), ([], []), ([], []), ([10], [13, 10]), ([13], [5, 13])] mixed (by kernel_rfl) ?_
  refine .consA (.load .none ty25 (.s rfl)) rfl ?_
  refine .consA (.fieldAddr .none fd67_1 hfd67_1 (.s rfl)) rfl ?_
  refine .consA (.load .none ty65 (.s rfl)) rfl ?_
  obtain ⟨r1, hv1, h⟩ := bind_some h
  refine .consA (.call .none (ref_PortPoint_ok hv1) (.cons (.s rfl) (.cons (.s rfl) .nil))) rfl ?_
  refine .consW (.buildSliceO (xs := [_]) rfl sl59 ty27 hz27 (.cons (.s rfl) .nil) rfl (by decide)) rfl rfl ?_
  refine .consA (.fieldAddr .none fd67_3 hfd67_3 (.s rfl)) rfl ?_
  refine .consA (.load .none ty59 (.s rfl)) rfl ?_
  obtain ⟨hn2, h⟩ := need_some h
  refine .consW (.append (k := 10) rk59 rfl (.tmp rfl) (.s rfl) hn2) rfl rfl ?_
  refine .consW (.passRow rfl (.tmp rfl)) rfl rfl ?_
  refine .nil ?_
  refine .then ?_
  obtain ⟨l1, hv3, h⟩ := bnd_some h
  refine .reB (t := 5) rfl (congrArg (rowV 27) hv3) ?_
  refine .nameRow (t := 5) (g := 5001) rfl rfl rfl (fun s5001 => ?_)
  refine .seq ?_
  refine .region [([], []), ([], []), ([], []), ([], []), ([], []), ([], []), ([5001], [20, 5001]), ([20], [4, 20])] mixed (by kernel_rfl) ?_
  refine .consA (.move .none (.s rfl)) rfl ?_
  refine .consA (.load .none ty25 (.s rfl)) rfl ?_
  refine .consA (.fieldAddr .none fd67_2 hfd67_2 (.s rfl)) rfl ?_
  refine .consA (.load .none ty65 (.s rfl)) rfl ?_
  obtain ⟨r2, hv4, h⟩ := bind_some h
  refine .consA (.call .none (ref_PortPoint_ok hv4) (.cons (.s rfl) (.cons (.s rfl) .nil))) rfl ?_
  refine .consA (.buildSlice (xs := [_]) .none sl59 ty27 hz27 (.cons (.s rfl) .nil) rfl (by decide)) rfl ?_
  obtain ⟨hn5, h⟩ := need_some h
  refine .consW (.append (k := 5001) rk59 rfl (.told (.s rfl) rfl) (.s rfl) hn5) rfl rfl ?_
  refine .consW (.passRow rfl (.tmp rfl)) rfl rfl ?_
  refine .nil ?_
  refine .then ?_
  refine .freezeRowA (t := 4) rfl rfl SubB.nil rfl ?_
  refine .ret ?_
  obtain rfl := some_eq h
  exact Ends.ret1 (.inl rfl) Tryz.results37 (ResOK.tmp rfl trivial Imp.refl)

theorem law_LooksMatch_6_ok {c0_1 : Doc} {c1_1 : Int} {r : (List Point)}  (h : law_LooksMatch_6 c0_1 c1_1 = some r) : FSpec Tryz.prog 36 [ref c0_1, ref c1_1] (rep r) := by
  unfold law_LooksMatch_6 at h
  refine FSpec.intro (n := 10) fnok36 Tryz.func36 rfl Tryz.ntmps36 rfl (fun F => ?_)
  refine .seq ?_
  refine .region [] mixed (by kernel_rfl) ?_
  refine .cons (.assign .none (.const (x := ([] : (List Point))) (fun M w => ⟨_, ⟨none, 0, rfl, Nat.le_refl _, by decide, rfl⟩, rfl⟩))) rfl ?_
  refine .nil ?_
  refine .then ?_
  refine .seq ?_
  refine .region [] mixed (by kernel_rfl) ?_
  refine .cons (.load .none ty25 (.s rfl)) rfl ?_
  refine .cons (.fieldAddr .none fd25_1 hfd25_1 (.s rfl)) rfl ?_
  refine .cons (.load .none ty23 (.s rfl)) rfl ?_
  refine .cons (.load .none ty3 (.s rfl)) rfl ?_
  obtain ⟨hn1, h⟩ := need_some h
  refine .cons (.indexAddr .none sl23 ty67 (.s rfl) (.s rfl) (fun _ => hn1)) rfl ?_
  refine .cons (.load .none ty67 (.s rfl)) rfl ?_
  obtain ⟨r1, hv2, h⟩ := bind_some h
  refine .cons (.call .none (ref_LineOf_ok hv2) (.cons (.s rfl) (.cons (.s rfl) .nil))) rfl ?_
  refine .cons (.assign .none (.s rfl)) rfl ?_
  refine .nil ?_
  refine .then ?_
  refine .ret ?_
  obtain rfl := some_eq h
  exact Ends.ret1 (.inl rfl) Tryz.results36 (ResOK.tmp rfl trivial Imp.refl)

theorem slices_Equal_Point_ok {s1_1 : (List Point)} {s2_1 : (List Point)} {r : Bool}  (h : slices_Equal_Point s1_1 s2_1 = some r) : FSpec Tryz.prog 96 [rep s1_1, rep s2_1] (rep r) := by
  unfold slices_Equal_Point at h
  refine FSpec.intro (n := 26) fnok96 Tryz.func96 rfl Tryz.ntmps96 rfl (fun F => ?_)
  refine .seq ?_
  refine .region [] mixed (by kernel_rfl) ?_
  refine .cons (.assign .none .bool) rfl ?_
  refine .nil ?_
  refine .then ?_
  refine .seq ?_
  refine .seq ?_
  refine .region [] mixed (by kernel_rfl) ?_
  refine .cons (.move .none (.s rfl)) rfl ?_
  refine .cons (.len .none sl59 (.s rfl)) rfl ?_
  refine .cons (.move .none (.s rfl)) rfl ?_
  refine .cons (.len .none sl59 (.s rfl)) rfl ?_
  refine .cons (.neI .none (.s rfl) (.s rfl)) rfl ?_
  refine .nil ?_
  refine .then ?_
  refine .cond (t := 10) rfl trivial (fun hb1 => ?_) (fun hb1 => ?_)
  · replace h := bif_t h hb1
    refine .seq ?_
    refine .region [] mixed (by kernel_rfl) ?_
    refine .cons (.assign .none .bool) rfl ?_
    refine .nil ?_
    refine .then ?_
    refine .ret ?_
    refine .thenRet ?_
    obtain rfl := some_eq h
    exact Ends.ret1 (.inl rfl) Tryz.results96 (ResOK.tmp rfl trivial Imp.refl)
  · replace h := bif_f h hb1
    refine .skip ?_
    refine .then ?_
    refine .seq ?_
    refine .seq ?_
    refine .region [] mixed (by kernel_rfl) ?_
    refine .cons (.move .none (.s rfl)) rfl ?_
    refine .cons (.len .none sl59 (.s rfl)) rfl ?_
    refine .cons (.move .none (.int (by decide))) rfl ?_
    refine .nil ?_
    refine .then ?_
    obtain ⟨o_2, h, hK2⟩ := bindR_some h
    refine .thenJ (ι := Unit) (fun j_2 => []) (fun j_2 => []) (fun s => o_2 = Res.nx s) Sub.nil SubB.nil ?_ (fun j_2 hj2 => ?_)
    · skip
      refine .block ?_
      refine .rforEL h (fun p3_ => [(13, ⟨True, rep p3_.1⟩)]) (fun p3_ => []) (.cons (t := 13) rfl Sub.nil) SubB.nil (.cons (t := 0) rfl (.cons (t := 1) rfl (.cons (t := 12) rfl Sub.nil))) SubB.nil (fun p3_ o_3 h hD3 => ?_)
      refine .seq ?_
      refine .region [] mixed (by kernel_rfl) ?_
      refine .cons (.lt .none (.s rfl) (.s rfl)) rfl ?_
      refine .nil ?_
      refine .then ?_
      refine .seq ?_
      refine .cond (t := 14) rfl trivial (fun hb4 => ?_) (fun hb4 => ?_)
      · replace h := bif_t h hb4
        refine .skip ?_
        refine .then ?_
        refine .seq ?_
        obtain ⟨o_5, h, hK5⟩ := bindD_some h
        unfold slices_Equal_Point_L1 at h
        refine .thenJ (ι := Unit) (fun j_5 => []) (fun j_5 => []) (fun s => o_5 = Res.nx s) (.cons (t := 0) rfl (.cons (t := 1) rfl (.cons (t := 12) rfl (.cons (t := 13) rfl Sub.nil)))) SubB.nil ?_ (fun j_5 hj5 => ?_)
        · skip
          refine .block ?_
          refine .seq ?_
          refine .region [] mixed (by kernel_rfl) ?_
          refine .cons (.move .none (.s rfl)) rfl ?_
          refine .cons (.assign .none (.s rfl)) rfl ?_
          refine .nil ?_
          refine .then ?_
          refine .seq ?_
          refine .region [] mixed (by kernel_rfl) ?_
          refine .cons (.move .none (.s rfl)) rfl ?_
          refine .cons (.move .none (.s rfl)) rfl ?_
          obtain ⟨hn6, h⟩ := need_some h
          refine .cons (.indexAddr .none sl59 ty27 (.s rfl) (.s rfl) (fun _ => hn6)) rfl ?_
          refine .cons (.load .none ty27 (.s rfl)) rfl ?_
          refine .cons (.move .none (.s rfl)) rfl ?_
          refine .cons (.move .none (.s rfl)) rfl ?_
          obtain ⟨hn7, h⟩ := need_some h
          refine .cons (.indexAddr .none sl59 ty27 (.s rfl) (.s rfl) (fun _ => hn7)) rfl ?_
          refine .cons (.load .none ty27 (.s rfl)) rfl ?_
          refine .cons (.neS .none eq27 (.s rfl) (.s rfl)) rfl ?_
          refine .nil ?_
          refine .then ?_
          refine .cond (t := 24) rfl trivial (fun hb8 => ?_) (fun hb8 => ?_)
          · replace h := bif_t h hb8
            refine .seq ?_
            refine .region [] mixed (by kernel_rfl) ?_
            refine .cons (.assign .none .bool) rfl ?_
            refine .nil ?_
            refine .then ?_
            refine .ret ?_
            refine .blkRet ?_
            refine .thenRet ?_
            refine .thenRet ?_
            refine .blkRet ?_
            refine .thenRet ?_
            replace h := resd_ab hK5 (some_eq h)
            replace h := hD3 _ (some_eq h)
            replace h := resb_ab hK2 (some_eq h)
            obtain rfl := some_eq h
            exact Ends.ret1 (.inl rfl) Tryz.results96 (ResOK.tmp rfl trivial Imp.refl)
          · replace h := bif_f h hb8
            refine .skip ?_
            refine .blkNormal ?_
            exact Ends.join _ (some_eq h) (.cons (t := 0) rfl (.cons (t := 1) rfl (.cons (t := 12) rfl (.cons (t := 13) rfl Sub.nil)))) SubB.nil
        · have h := resd_nx hK5 hj5
          refine .region [] mixed (by kernel_rfl) ?_
          refine .cons (.addW .none (.s rfl) (.int (by decide))) rfl ?_
          refine .cons (.move .none (.s rfl)) rfl ?_
          refine .nil ?_
          exact Ends.againL (some_eq h) (.cons (t := 13) rfl (.cons (t := 0) rfl (.cons (t := 1) rfl (.cons (t := 12) rfl Sub.nil)))) SubB.nil
      · replace h := bif_f h hb4
        refine .exit ?_
        refine .thenExit ?_
        refine .thenExit ?_
        refine .blkExit ?_
        replace h := hD3 _ (some_eq h)
        exact Ends.join _ (some_eq h) Sub.nil SubB.nil
    · have h := resb_nx hK2 hj2
      refine .seq ?_
      refine .region [] mixed (by kernel_rfl) ?_
      refine .cons (.assign .none .bool) rfl ?_
      refine .nil ?_
      refine .then ?_
      refine .ret ?_
      obtain rfl := some_eq h
      exact Ends.ret1 (.inl rfl) Tryz.results96 (ResOK.tmp rfl trivial Imp.refl)

theorem law_lists_Point_ok {got1 : (List Point)} {e1 : Int} {want1 : Int} {right1 : (Option (List Point))} {r : Bool}  (h : law_lists_Point got1 e1 want1 right1 = some r) : FSpec Tryz.prog 35 [rep got1, rep e1, rep want1, fn0 Tryz.prog (rep (α := (List Point))) right1] (rep r) := by
  unfold law_lists_Point at h
  refine FSpec.intro (n := 27) fnok35 Tryz.func35 rfl Tryz.ntmps35 rfl (fun F => ?_)
  refine .seq ?_
  refine .region [] mixed (by kernel_rfl) ?_
  refine .cons (.assign .none .bool) rfl ?_
  refine .nil ?_
  refine .then ?_
  refine .seq ?_
  refine .seq ?_
  refine .region [] mixed (by kernel_rfl) ?_
  refine .cons (.move .none (.s rfl)) rfl ?_
  refine .cons (.neI .none (.s rfl) (.int (by decide))) rfl ?_
  refine .nil ?_
  refine .then ?_
  refine .cond (t := 10) rfl trivial (fun hb1 => ?_) (fun hb1 => ?_)
  · replace h := bif_t h hb1
    refine .seq ?_
    refine .region [] mixed (by kernel_rfl) ?_
    refine .cons (.move .none (.s rfl)) rfl ?_
    refine .cons (.len .none sl59 (.s rfl)) rfl ?_
    refine .cons (.eqI .none (.s rfl) (.int (by decide))) rfl ?_
    refine .cons (.move .none (.s rfl)) rfl ?_
    refine .cons (.move (.at rfl rfl) (.s rfl)) rfl ?_
    refine .cons (.move (.at rfl rfl) (.s rfl)) rfl ?_
    refine .cons (.eqI (.at rfl rfl) (.tmp rfl id) (.tmp rfl id)) rfl ?_
    refine .cons (.pickAnd .none (.s rfl) (.tmp rfl id)) rfl ?_
    refine .cons (.assign .none (.s rfl)) rfl ?_
    refine .nil ?_
    refine .then ?_
    refine .ret ?_
    refine .thenRet ?_
    obtain rfl := some_eq h
    exact Ends.ret1 (.inl rfl) Tryz.results35 (ResOK.tmp rfl trivial Imp.refl)
  · replace h := bif_f h hb1
    refine .skip ?_
    refine .then ?_
    refine .seq ?_
    refine .region [] mixed (by kernel_rfl) ?_
    refine .cons (.move .none (.s rfl)) rfl ?_
    refine .cons (.eqI .none (.s rfl) (.int (by decide))) rfl ?_
    refine .cons (.move .none (.s rfl)) rfl ?_
    refine .cons (.move (.at rfl rfl) (.s rfl)) rfl ?_
    refine .cons (.move (.at rfl rfl) (.s rfl)) rfl ?_
    obtain ⟨r1, hv2, h⟩ := bind_some h
    refine .cons (.callV _ (.at rfl rfl) (.tmp rfl id) (fun hg => gd_some hv2 (hg.2)) .nil) rfl ?_
    obtain ⟨r2, hv3, h⟩ := bind_some h
    refine .cons (.callIf (.at rfl rfl) fnok96 (fun hg => slices_Equal_Point_ok ((fun hg => gd_some hv3 (hg.2)) hg)) (.cons (.tmp rfl id) (.cons (.tmp rfl id) .nil)) (fun h => h)) rfl ?_
    refine .cons (.pickAnd .none (.s rfl) (.tmp rfl id)) rfl ?_
    refine .cons (.assign .none (.s rfl)) rfl ?_
    refine .nil ?_
    refine .then ?_
    refine .ret ?_
    obtain rfl := some_eq h
    exact Ends.ret1 (.inl rfl) Tryz.results35 (ResOK.tmp rfl trivial Imp.refl)

theorem law_LooksMatch_ok {d1 : Doc} {id1 : Str} {p1 : Point} {b1 : Box} {whole1 : Bool} {r : Bool}  (h : law_LooksMatch d1 id1 p1 b1 whole1 = some r) : FSpec Tryz.prog 3 [rep d1, rep id1, rep p1, rep b1, rep whole1] (rep r) := by
  unfold law_LooksMatch at h
  refine FSpec.intro (n := 134) fnok3 Tryz.func3 rfl Tryz.ntmps3 rfl (fun F => ?_)
  refine .seq ?_
  refine .region [] mixed (by kernel_rfl) ?_
  refine .cons (.box .none (.s rfl)) rfl ?_
  refine .cons (.box .none (.s rfl)) rfl ?_
  refine .cons (.box .none (.s rfl)) rfl ?_
  refine .cons (.box .none (.s rfl)) rfl ?_
  refine .cons (.box .none (.s rfl)) rfl ?_
  refine .cons (.assign .none .bool) rfl ?_
  refine .nil ?_
  refine .then ?_
  refine .seq ?_
  refine .region [] mixed (by kernel_rfl) ?_
  refine .cons (.load .none ty25 (.s rfl)) rfl ?_
  obtain ⟨own1, hv1, h⟩ := bind_some h
  refine .cons (.call .none (ref_DocError_ok hv1) (.cons (.s rfl) .nil)) rfl ?_
  refine .cons (.assign .none (.s rfl)) rfl ?_
  refine .nil ?_
  refine .then ?_
  refine .seq ?_
  refine .region [] mixed (by kernel_rfl) ?_
  refine .cons (.move .none (.s rfl)) rfl ?_
  refine .cons (.assign .none (.s rfl)) rfl ?_
  refine .nil ?_
  refine .then ?_
  refine .seq ?_
  refine .seq ?_
  refine .region [] mixed (by kernel_rfl) ?_
  refine .cons (.move .none (.s rfl)) rfl ?_
  refine .cons (.eqI .none (.s rfl) (.int (by decide))) rfl ?_
  refine .nil ?_
  refine .then ?_
  obtain ⟨j_2, h, hK2⟩ := bind_some h
  refine .thenJ (ι := Int) (fun j_2 => [(12, ⟨True, rep j_2⟩)]) (fun j_2 => []) (fun s => j_2 = s) (.cons (t := 5) rfl (.cons (t := 6) rfl (.cons (t := 7) rfl (.cons (t := 8) rfl (.cons (t := 9) rfl (.cons (t := 11) rfl Sub.nil)))))) SubB.nil ?_ (fun j_2' hj2 => ?_)
  · skip
    refine .cond (t := 27) rfl trivial (fun hb3 => ?_) (fun hb3 => ?_)
    · replace h := bif_t h hb3
      refine .region [] mixed (by kernel_rfl) ?_
      refine .cons (.load .none ty25 (.s rfl)) rfl ?_
      refine .cons (.load .none ty9 (.s rfl)) rfl ?_
      obtain ⟨r1, hv4, h⟩ := bind_some h
      refine .cons (.call .none (ref_NodeAt_ok hv4) (.cons (.s rfl) (.cons (.s rfl) .nil))) rfl ?_
      refine .cons (.lt .none (.s rfl) (.int (by decide))) rfl ?_
      obtain ⟨none1, hv5, h⟩ := bind_some h
      refine .cons (.call .none (ref_When_ok hv5) (.cons (.s rfl) (.cons (.int (by decide)) .nil))) rfl ?_
      refine .cons (.assign .none (.s rfl)) rfl ?_
      refine .nil ?_
      exact Ends.join _ (some_eq h) (.cons (t := 12) rfl (.cons (t := 5) rfl (.cons (t := 6) rfl (.cons (t := 7) rfl (.cons (t := 8) rfl (.cons (t := 9) rfl (.cons (t := 11) rfl Sub.nil))))))) SubB.nil
    · replace h := bif_f h hb3
      refine .skip ?_
      exact Ends.join _ (some_eq h) (.cons (t := 12) rfl (.cons (t := 5) rfl (.cons (t := 6) rfl (.cons (t := 7) rfl (.cons (t := 8) rfl (.cons (t := 9) rfl (.cons (t := 11) rfl Sub.nil))))))) SubB.nil
  · subst hj2; have h := hK2; clear hK2
    refine .seq ?_
    refine .region [([], []), ([], []), ([], []), ([], []), ([], []), ([], []), ([], [13]), ([13], [13]), ([], [])] mixed (by kernel_rfl) ?_
    refine .consA (.load .none ty25 (.s rfl)) rfl ?_
    refine .consA (.load .none ty9 (.s rfl)) rfl ?_
    obtain ⟨r2, hv6, h⟩ := bind_some h
    refine .consA (.call .none (page_BoxOf_ok hv6) (.cons (.s rfl) (.cons (.s rfl) .nil))) rfl ?_
    refine .consA (.move .none (.s rfl)) rfl ?_
    refine .consA (.extract .none (.s rfl) rfl) rfl ?_
    refine .consA (.extract .none (.s rfl) rfl) rfl ?_
    refine .consW (.alloc zo29 rfl) rfl rfl ?_
    refine .consN (.store ty29 rfl rfl (.s rfl)) rfl ?_
    refine .consA (.assign .none (.s rfl)) rfl ?_
    refine .nil ?_
    refine .then ?_
    refine .freeze (t := 13) rfl rfl SubB.nil rfl ?_
    refine .seq ?_
    refine .seq ?_
    refine .region [] mixed (by kernel_rfl) ?_
    obtain ⟨r3, hv7, h⟩ := bind_some h
    refine .cons (.call .none (law_pages_ok hv7) .nil) rfl ?_
    refine .cons (.not .none (.s rfl)) rfl ?_
    refine .cons (.move .none (.s rfl)) rfl ?_
    refine .cons (.load (.at rfl rfl) ty25 (.s rfl)) rfl ?_
    obtain ⟨r4, hv8, h⟩ := bind_some h
    refine .cons (.callIf (.at rfl rfl) fnok12 (fun hg => page_Check_ok ((fun hg => gd_some hv8 ((notT hg.2))) hg)) (.cons (.tmp rfl id) .nil) (fun h => h)) rfl ?_
    refine .cons (.move (.at rfl rfl) (.s rfl)) rfl ?_
    refine .cons (.neI (.at rfl rfl) (.tmp rfl id) (.tmp rfl id)) rfl ?_
    refine .cons (.pickOr .none (.s rfl) (.tmp rfl id)) rfl ?_
    refine .cons (.move .none (.s rfl)) rfl ?_
    refine .cons (.load (.at rfl rfl) ty29 (.s rfl)) rfl ?_
    refine .cons (.move (.at rfl rfl) (.s rfl)) rfl ?_
    refine .cons (.move (.at rfl rfl) (.s rfl)) rfl ?_
    refine .cons (.makeFunc (ι := Box) (pre := fun i => (law_LooksMatch_1 d1 id1)  = some i) (Ss := fun i => []) (S := fun i => rep i) (.at rfl rfl) fnok14 (fun i h => law_LooksMatch_1_ok h) (.cons (.s rfl) (.cons (.s rfl) .nil))) rfl ?_
    obtain ⟨r5, hv9, h⟩ := bind_some h
    refine .cons (.callIf (.at rfl rfl) fnok13 (fun hg => law_is_Box_ok ((fun hg => gd_some hv9 ((notT hg.2))) hg)) (.cons (.tmp rfl id) (.cons (.tmp rfl id) (.cons (.tmp rfl id) (.cons (.tmp rfl id) .nil)))) (fun h => h)) rfl ?_
    refine .cons (.not (.at rfl rfl) (.tmp rfl id)) rfl ?_
    refine .cons (.pickOr .none (.s rfl) (.tmp rfl id)) rfl ?_
    refine .nil ?_
    refine .then ?_
    refine .cond (t := 54) rfl trivial (fun hb10 => ?_) (fun hb10 => ?_)
    · replace h := bif_t h hb10
      refine .seq ?_
      refine .region [] mixed (by kernel_rfl) ?_
      refine .cons (.assign .none .bool) rfl ?_
      refine .nil ?_
      refine .then ?_
      refine .ret ?_
      refine .thenRet ?_
      obtain rfl := some_eq h
      exact Ends.ret1 (.inl rfl) Tryz.results3 (ResOK.tmp rfl trivial Imp.refl)
    · replace h := bif_f h hb10
      refine .skip ?_
      refine .then ?_
      refine .seq ?_
      refine .region [] mixed (by kernel_rfl) ?_
      refine .cons (.load .none ty25 (.s rfl)) rfl ?_
      refine .cons (.load .none ty9 (.s rfl)) rfl ?_
      obtain ⟨r6, hv11, h⟩ := bind_some h
      refine .cons (.call .none (page_Below_ok hv11) (.cons (.s rfl) (.cons (.s rfl) .nil))) rfl ?_
      refine .cons (.move .none (.s rfl)) rfl ?_
      refine .cons (.extract .none (.s rfl) rfl) rfl ?_
      refine .cons (.extract .none (.s rfl) rfl) rfl ?_
      refine .cons (.assign .none (.s rfl)) rfl ?_
      refine .cons (.assign .none (.s rfl)) rfl ?_
      refine .nil ?_
      refine .then ?_
      refine .seq ?_
      refine .seq ?_
      refine .region [] mixed (by kernel_rfl) ?_
      refine .cons (.move .none (.s rfl)) rfl ?_
      refine .cons (.move .none (.s rfl)) rfl ?_
      refine .cons (.move .none (.s rfl)) rfl ?_
      refine .cons (.makeFunc (ι := (List Str)) (pre := fun i => (law_LooksMatch_2 d1 id1)  = some i) (Ss := fun i => []) (S := fun i => rep i) .none fnok18 (fun i h => law_LooksMatch_2_ok h) (.cons (.s rfl) (.cons (.s rfl) .nil))) rfl ?_
      obtain ⟨r7, hv12, h⟩ := bind_some h
      refine .cons (.call .none (law_lists_string_ok hv12) (.cons (.s rfl) (.cons (.s rfl) (.cons (.s rfl) (.cons (.s rfl) .nil))))) rfl ?_
      refine .cons (.not .none (.s rfl)) rfl ?_
      refine .nil ?_
      refine .then ?_
      refine .cond (t := 66) rfl trivial (fun hb13 => ?_) (fun hb13 => ?_)
      · replace h := bif_t h hb13
        refine .seq ?_
        refine .region [] mixed (by kernel_rfl) ?_
        refine .cons (.assign .none .bool) rfl ?_
        refine .nil ?_
        refine .then ?_
        refine .ret ?_
        refine .thenRet ?_
        obtain rfl := some_eq h
        exact Ends.ret1 (.inl rfl) Tryz.results3 (ResOK.tmp rfl trivial Imp.refl)
      · replace h := bif_f h hb13
        refine .skip ?_
        refine .then ?_
        refine .seq ?_
        refine .region [] mixed (by kernel_rfl) ?_
        refine .cons (.load .none ty25 (.s rfl)) rfl ?_
        obtain ⟨r8, hv14, h⟩ := bind_some h
        refine .cons (.call .none (page_Order_ok hv14) (.cons (.s rfl) .nil)) rfl ?_
        refine .cons (.move .none (.s rfl)) rfl ?_
        refine .cons (.extract .none (.s rfl) rfl) rfl ?_
        refine .cons (.extract .none (.s rfl) rfl) rfl ?_
        refine .cons (.assign .none (.s rfl)) rfl ?_
        refine .cons (.assign .none (.s rfl)) rfl ?_
        refine .nil ?_
        refine .then ?_
        refine .seq ?_
        refine .region [] mixed (by kernel_rfl) ?_
        refine .cons (.load .none ty25 (.s rfl)) rfl ?_
        refine .cons (.load .none ty27 (.s rfl)) rfl ?_
        obtain ⟨r9, hv15, h⟩ := bind_some h
        refine .cons (.call .none (page_Hit_ok hv15) (.cons (.s rfl) (.cons (.s rfl) .nil))) rfl ?_
        refine .cons (.move .none (.s rfl)) rfl ?_
        refine .cons (.extract .none (.s rfl) rfl) rfl ?_
        refine .cons (.extract .none (.s rfl) rfl) rfl ?_
        refine .cons (.assign .none (.s rfl)) rfl ?_
        refine .cons (.assign .none (.s rfl)) rfl ?_
        refine .nil ?_
        refine .then ?_
        refine .seq ?_
        refine .region [] mixed (by kernel_rfl) ?_
        refine .cons (.load .none ty25 (.s rfl)) rfl ?_
        refine .cons (.load .none ty29 (.s rfl)) rfl ?_
        refine .cons (.load .none ty4 (.s rfl)) rfl ?_
        obtain ⟨r10, hv16, h⟩ := bind_some h
        refine .cons (.call .none (page_In_ok hv16) (.cons (.s rfl) (.cons (.s rfl) (.cons (.s rfl) .nil)))) rfl ?_
        refine .cons (.move .none (.s rfl)) rfl ?_
        refine .cons (.extract .none (.s rfl) rfl) rfl ?_
        refine .cons (.extract .none (.s rfl) rfl) rfl ?_
        refine .cons (.assign .none (.s rfl)) rfl ?_
        refine .cons (.assign .none (.s rfl)) rfl ?_
        refine .nil ?_
        refine .then ?_
        refine .seq ?_
        refine .seq ?_
        refine .region [] mixed (by kernel_rfl) ?_
        refine .cons (.move .none (.s rfl)) rfl ?_
        refine .cons (.move .none (.s rfl)) rfl ?_
        refine .cons (.move .none (.s rfl)) rfl ?_
        refine .cons (.makeFunc (ι := (List Str)) (pre := fun i => (law_LooksMatch_3 d1)  = some i) (Ss := fun i => []) (S := fun i => rep i) .none fnok23 (fun i h => law_LooksMatch_3_ok h) (.cons (.s rfl) .nil)) rfl ?_
        obtain ⟨r11, hv17, h⟩ := bind_some h
        refine .cons (.call .none (law_lists_string_ok hv17) (.cons (.s rfl) (.cons (.s rfl) (.cons (.s rfl) (.cons (.s rfl) .nil))))) rfl ?_
        refine .cons (.not .none (.s rfl)) rfl ?_
        refine .cons (.move .none (.s rfl)) rfl ?_
        refine .cons (.move (.at rfl rfl) (.s rfl)) rfl ?_
        refine .cons (.move (.at rfl rfl) (.s rfl)) rfl ?_
        refine .cons (.move (.at rfl rfl) (.s rfl)) rfl ?_
        refine .cons (.load (.at rfl rfl) ty27 (.s rfl)) rfl ?_
        obtain ⟨r12, hv18, h⟩ := bind_some h
        refine .cons (.callIf (.at rfl rfl) fnok27 (fun hg => ref_PointError_ok ((fun hg => gd_some hv18 ((notT hg.2))) hg)) (.cons (.tmp rfl id) .nil) (fun h => h)) rfl ?_
        refine .cons (.buildSlice (xs := [_, _]) (.at rfl rfl) sl125 ty30 hz30 (.cons (.tmp rfl id) (.cons (.tmp rfl id) .nil)) rfl (by decide)) rfl ?_
        obtain ⟨r13, hv19, h⟩ := bind_some h
        refine .cons (.callIf (.at rfl rfl) fnok26 (fun hg => ref_First_ok ((fun hg => gd_some hv19 ((notT hg.2))) hg)) (.cons (.tmp rfl id) .nil) (fun h => h)) rfl ?_
        refine .cons (.makeFunc (ι := Str) (pre := fun i => (law_LooksMatch_4 d1 p1)  = some i) (Ss := fun i => []) (S := fun i => rep i) (.at rfl rfl) fnok28 (fun i h => law_LooksMatch_4_ok h) (.cons (.s rfl) (.cons (.s rfl) .nil))) rfl ?_
        obtain ⟨r14, hv20, h⟩ := bind_some h
        refine .cons (.callIf (.at rfl rfl) fnok25 (fun hg => law_is_string_ok ((fun hg => gd_some hv20 ((notT hg.2))) hg)) (.cons (.tmp rfl id) (.cons (.tmp rfl id) (.cons (.tmp rfl id) (.cons (.tmp rfl id) .nil)))) (fun h => h)) rfl ?_
        refine .cons (.not (.at rfl rfl) (.tmp rfl id)) rfl ?_
        refine .cons (.pickOr .none (.s rfl) (.tmp rfl id)) rfl ?_
        refine .cons (.move .none (.s rfl)) rfl ?_
        refine .cons (.move (.at rfl rfl) (.s rfl)) rfl ?_
        refine .cons (.move (.at rfl rfl) (.s rfl)) rfl ?_
        refine .cons (.move (.at rfl rfl) (.s rfl)) rfl ?_
        refine .cons (.load (.at rfl rfl) ty29 (.s rfl)) rfl ?_
        obtain ⟨r15, hv21, h⟩ := bind_some h
        refine .cons (.callIf (.at rfl rfl) fnok30 (fun hg => ref_BoxError_ok ((fun hg => gd_some hv21 ((notT hg.2))) hg)) (.cons (.tmp rfl id) .nil) (fun h => h)) rfl ?_
        refine .cons (.buildSlice (xs := [_, _]) (.at rfl rfl) sl125 ty30 hz30 (.cons (.tmp rfl id) (.cons (.tmp rfl id) .nil)) rfl (by decide)) rfl ?_
        obtain ⟨r16, hv22, h⟩ := bind_some h
        refine .cons (.callIf (.at rfl rfl) fnok26 (fun hg => ref_First_ok ((fun hg => gd_some hv22 ((notT hg.2))) hg)) (.cons (.tmp rfl id) .nil) (fun h => h)) rfl ?_
        refine .cons (.makeFunc (ι := (List Str)) (pre := fun i => (law_LooksMatch_5 d1 b1 whole1)  = some i) (Ss := fun i => []) (S := fun i => rep i) (.at rfl rfl) fnok31 (fun i h => law_LooksMatch_5_ok h) (.cons (.s rfl) (.cons (.s rfl) (.cons (.s rfl) .nil)))) rfl ?_
        obtain ⟨r17, hv23, h⟩ := bind_some h
        refine .cons (.callIf (.at rfl rfl) fnok17 (fun hg => law_lists_string_ok ((fun hg => gd_some hv23 ((notT hg.2))) hg)) (.cons (.tmp rfl id) (.cons (.tmp rfl id) (.cons (.tmp rfl id) (.cons (.tmp rfl id) .nil)))) (fun h => h)) rfl ?_
        refine .cons (.not (.at rfl rfl) (.tmp rfl id)) rfl ?_
        refine .cons (.pickOr .none (.s rfl) (.tmp rfl id)) rfl ?_
        refine .nil ?_
        refine .then ?_
        refine .cond (t := 114) rfl trivial (fun hb24 => ?_) (fun hb24 => ?_)
        · replace h := bif_t h hb24
          refine .seq ?_
          refine .region [] mixed (by kernel_rfl) ?_
          refine .cons (.assign .none .bool) rfl ?_
          refine .nil ?_
          refine .then ?_
          refine .ret ?_
          refine .thenRet ?_
          obtain rfl := some_eq h
          exact Ends.ret1 (.inl rfl) Tryz.results3 (ResOK.tmp rfl trivial Imp.refl)
        · replace h := bif_f h hb24
          refine .skip ?_
          refine .then ?_
          refine .seq ?_
          refine .region [([], []), ([], []), ([], []), ([], [21]), ([21], [21])] mixed (by kernel_rfl) ?_
          refine .consA (.load .none ty25 (.s rfl)) rfl ?_
          refine .consA (.load .none ty9 (.s rfl)) rfl ?_
          obtain ⟨r18, hv25, h⟩ := bind_some h
          refine .consA (.call .none (ref_EdgeAt_ok hv25) (.cons (.s rfl) (.cons (.s rfl) .nil))) rfl ?_
          refine .consW (.alloc zo3 rfl) rfl rfl ?_
          refine .consN (.store ty3 rfl rfl (.s rfl)) rfl ?_
          refine .nil ?_
          refine .then ?_
          refine .freeze (t := 21) rfl rfl SubB.nil rfl ?_
          refine .seq ?_
          refine .region [] mixed (by kernel_rfl) ?_
          refine .cons (.load .none ty25 (.s rfl)) rfl ?_
          refine .cons (.load .none ty9 (.s rfl)) rfl ?_
          obtain ⟨r19, hv26, h⟩ := bind_some h
          refine .cons (.call .none (page_Line_ok hv26) (.cons (.s rfl) (.cons (.s rfl) .nil))) rfl ?_
          refine .cons (.move .none (.s rfl)) rfl ?_
          refine .cons (.extract .none (.s rfl) rfl) rfl ?_
          refine .cons (.extract .none (.s rfl) rfl) rfl ?_
          refine .cons (.assign .none (.s rfl)) rfl ?_
          refine .cons (.assign .none (.s rfl)) rfl ?_
          refine .nil ?_
          refine .then ?_
          refine .seq ?_
          refine .region [] mixed (by kernel_rfl) ?_
          refine .cons (.move .none (.s rfl)) rfl ?_
          refine .cons (.move .none (.s rfl)) rfl ?_
          refine .cons (.move .none (.s rfl)) rfl ?_
          refine .cons (.load .none ty3 (.s rfl)) rfl ?_
          refine .cons (.lt .none (.s rfl) (.int (by decide))) rfl ?_
          obtain ⟨r20, hv27, h⟩ := bind_some h
          refine .cons (.call .none (ref_When_ok hv27) (.cons (.s rfl) (.cons (.int (by decide)) .nil))) rfl ?_
          refine .cons (.buildSlice (xs := [_, _]) .none sl125 ty30 hz30 (.cons (.s rfl) (.cons (.s rfl) .nil)) rfl (by decide)) rfl ?_
          obtain ⟨r21, hv28, h⟩ := bind_some h
          refine .cons (.call .none (ref_First_ok hv28) (.cons (.s rfl) .nil)) rfl ?_
          refine .cons (.makeFunc (ι := (List Point)) (pre := fun i => (law_LooksMatch_6 d1 r18)  = some i) (Ss := fun i => []) (S := fun i => rep i) .none fnok36 (fun i h => law_LooksMatch_6_ok h) (.cons (.s rfl) (.cons (.s rfl) .nil))) rfl ?_
          obtain ⟨r22, hv29, h⟩ := bind_some h
          refine .cons (.call .none (law_lists_Point_ok hv29) (.cons (.s rfl) (.cons (.s rfl) (.cons (.s rfl) (.cons (.s rfl) .nil))))) rfl ?_
          refine .cons (.assign .none (.s rfl)) rfl ?_
          refine .nil ?_
          refine .then ?_
          refine .ret ?_
          obtain rfl := some_eq h
          exact Ends.ret1 (.inl rfl) Tryz.results3 (ResOK.tmp rfl trivial Imp.refl)


end Go.Proofs.YtclcheggnlhamaaGreatDoor
