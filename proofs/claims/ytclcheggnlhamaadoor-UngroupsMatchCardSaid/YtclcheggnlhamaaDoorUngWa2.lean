/-
  The walks: what a function computes is what its plain function says (printed by a program of one's own).
-/
import Derived.Test.YtclcheggnlhamaaDoorUngWa1
set_option maxRecDepth 100000
set_option linter.unusedSimpArgs false
set_option linter.unusedVariables false
namespace Go.Proofs.YtclcheggnlhamaaDoor
open Go Go.DB Go.RowKit

theorem slices_Delete_Node_ok {s1 : (List DNode)} {i1 : Int} {j1 : Int} {r : (List DNode)} {s33 : Value} (h : slices_Delete_Node s1 i1 j1 = some r) : FSpecO Tryd.prog 26 [isV s33, rep i1, rep j1] [(s33, rowV 43 s1)] (anyV) [none, some (rowV 43 r)] := by
  unfold slices_Delete_Node at h
  refine FSpecO.intro (n := 33) fnok26 Tryd.func26 rfl Tryd.ntmps26 rfl (fun F => ?_)
  refine .seq ?_
  refine .region [] mixed (by kernel_rfl) ?_
  refine .cons (.assign .none (.const (x := ([] : (List DNode))) (fun M w => ⟨_, ⟨none, 0, rfl, Nat.le_refl _, by decide, rfl⟩, rfl⟩))) rfl ?_
  refine .nil ?_
  refine .then ?_
  refine .seq ?_
  refine .region [([], []), ([], []), ([], []), ([], []), ([33], []), ([33], [])] mixed (by kernel_rfl) ?_
  refine .consA (.move .none (.s rfl)) rfl ?_
  refine .consA (.move .none (.s rfl)) rfl ?_
  refine .consA (.move .none (.s rfl)) rfl ?_
  refine .consA (.move .none (.s rfl)) rfl ?_
  refine .consA (.lenO (k := 33) sl22 (.told (.s rfl) rfl)) rfl ?_
  obtain ⟨hn1, h⟩ := need_some h
  refine .consA (.slice3 (k := 33) sl22 ty43 (.s rfl) rfl (.s rfl) (.s rfl) (.s rfl) hn1) rfl ?_
  refine .nil ?_
  refine .then ?_
  refine .seq ?_
  refine .seq ?_
  refine .region [] mixed (by kernel_rfl) ?_
  refine .cons (.move .none (.s rfl)) rfl ?_
  refine .cons (.move .none (.s rfl)) rfl ?_
  refine .cons (.eqI .none (.s rfl) (.s rfl)) rfl ?_
  refine .nil ?_
  refine .then ?_
  refine .cond (t := 16) rfl trivial (fun hb2 => ?_) (fun hb2 => ?_)
  · replace h := bif_t h hb2
    refine .seq ?_
    refine .region [] mixed (by kernel_rfl) ?_
    refine .cons (.move .none (.s rfl)) rfl ?_
    refine .cons (.assign .none (.s rfl)) rfl ?_
    refine .nil ?_
    refine .then ?_
    refine .ret ?_
    refine .thenRet ?_
    refine .anon (t := 6) (g := 33) rfl rfl trivial rfl ?_
    obtain rfl := some_eq h
    exact Ends.ret1O (.inl rfl) [33, 6] Tryd.results26 (by decide) (.skip (.res rfl rfl)) (ResOK.tmp rfl trivial (fun _ _ _ _ => trivial))
  · replace h := bif_f h hb2
    refine .skip ?_
    refine .then ?_
    refine .seq ?_
    refine .region [([], []), ([33], []), ([], [])] mixed (by kernel_rfl) ?_
    refine .consA (.move .none (.s rfl)) rfl ?_
    refine .consA (.lenO (k := 33) sl22 (.told (.s rfl) rfl)) rfl ?_
    refine .consA (.assign .none (.s rfl)) rfl ?_
    refine .nil ?_
    refine .then ?_
    refine .seq ?_
    refine .region [([], []), ([], []), ([33], []), ([], []), ([], []), ([33], []), ([33], [33]), ([], [])] mixed (by kernel_rfl) ?_
    refine .consA (.move .none (.s rfl)) rfl ?_
    refine .consA (.move .none (.s rfl)) rfl ?_
    obtain ⟨hn3, h⟩ := need_some h
    refine .consA (.sliceLend (k := 33) sl22 ty43 (.s rfl) rfl rfl (.s rfl) hn3) rfl ?_
    refine .consA (.move .none (.s rfl)) rfl ?_
    refine .consA (.move .none (.s rfl)) rfl ?_
    obtain ⟨hn4, h⟩ := need_some h
    refine .consA (.sliceLend (k := 33) sl22 ty43 (.s rfl) rfl (.s rfl) rfl hn4) rfl ?_
    obtain ⟨hn5, h⟩ := need_some h
    refine .consW (.appendSelf (k := 33) rk22 (.s rfl) (.s rfl) rfl hn3 hn4 hn5) rfl rfl ?_
    refine .consA (.assign .none (.s rfl)) rfl ?_
    refine .nil ?_
    refine .then ?_
    obtain ⟨s2, hv6, h⟩ := bnd_some h
    refine .reB (t := 33) rfl (congrArg (fun y => CPred.at s33 (rowV 43 y)) hv6) ?_
    refine .seq ?_
    refine .region [([], []), ([], []), ([33], []), ([], []), ([33], []), ([33], [33])] mixed (by kernel_rfl) ?_
    refine .consA (.move .none (.s rfl)) rfl ?_
    refine .consA (.move .none (.s rfl)) rfl ?_
    obtain ⟨hn7, h⟩ := need_some h
    refine .consA (.lenPart (k := 33) sl22 (.s rfl) rfl hn7) rfl ?_
    refine .consA (.move .none (.s rfl)) rfl ?_
    obtain ⟨hn8, h⟩ := need_some h
    obtain ⟨hn9, h⟩ := need_some h
    refine .consA (.slicePart (k := 33) sl22 ty43 (.s rfl) rfl (.s rfl) (.s rfl) hn8 hn9) rfl ?_
    obtain ⟨hn10, h⟩ := need_some h
    refine .consN (.clearPart2 (k := 33) sl22 zo43 (.s rfl) rfl hn9 hn10) rfl ?_
    refine .nil ?_
    refine .then ?_
    obtain ⟨s3, hv11, h⟩ := bnd_some h
    refine .reB (t := 33) rfl (congrArg (fun y => CPred.at s33 (rowV 43 y)) hv11) ?_
    refine .seq ?_
    refine .region [] mixed (by kernel_rfl) ?_
    refine .cons (.move .none (.s rfl)) rfl ?_
    refine .cons (.assign .none (.s rfl)) rfl ?_
    refine .nil ?_
    refine .then ?_
    refine .ret ?_
    obtain ⟨hn12, h⟩ := need_some h
    refine .head (t := 6) (k := 33) rfl rfl trivial rfl hn12 ?_
    obtain rfl := some_eq h
    exact Ends.ret1O (.inl rfl) [33, 6] Tryd.results26 (by decide) (.skip (.res rfl rfl)) (ResOK.tmp rfl trivial (fun _ _ _ _ => trivial))

theorem page_Ungroup_ok {d1 : Doc} {id1 : Str} {r : (Doc × Int)}  (h : page_Ungroup d1 id1 = some r) : FSpec Tryd.prog 6 [rep d1, rep id1] (tup [rep r.1, rep r.2]) := by
  unfold page_Ungroup at h
  refine FSpec.intro (n := 63) fnok6 Tryd.func6 rfl Tryd.ntmps6 rfl (fun F => ?_)
  refine .seq ?_
  refine .region [([], [2]), ([], [4]), ([], [])] mixed (by kernel_rfl) ?_
  refine .consW (.boxO rfl (.s rfl)) rfl rfl ?_
  refine .consW (.alloc zo25 rfl) rfl rfl ?_
  refine .consA (.assign .none (.int (by decide))) rfl ?_
  refine .nil ?_
  refine .then ?_
  obtain ⟨v1, hv1, h⟩ := bnd_some h
  refine .reB (t := 4) rfl (congrArg (cont 25) hv1) ?_
  refine .nameBox (t := 2) (g := 5001) rfl rfl (fun m5001 => ?_)
  refine .nameBox (t := 4) (g := 5002) rfl rfl (fun m5002 => ?_)
  refine .seq ?_
  refine .region [([5001], []), ([], []), ([], []), ([], []), ([], []), ([], []), ([], []), ([], []), ([], []), ([], [])] mixed (by kernel_rfl) ?_
  refine .consA (.loadAt0 (k := 5001) .none ty25 rfl (.s rfl)) rfl ?_
  refine .consA (.move .none (.s rfl)) rfl ?_
  obtain ⟨r1, hv2, h⟩ := bind_some h
  refine .consA (.call .none (page_find_ok hv2) (.cons (.s rfl) (.cons (.s rfl) .nil))) rfl ?_
  refine .consA (.move .none (.s rfl)) rfl ?_
  refine .consA (.extract .none (.s rfl) rfl) rfl ?_
  refine .consA (.extract .none (.s rfl) rfl) rfl ?_
  refine .consA (.extract .none (.s rfl) rfl) rfl ?_
  refine .consA (.assign .none (.s rfl)) rfl ?_
  refine .consA (.assign .none (.s rfl)) rfl ?_
  refine .consA (.assign .none (.s rfl)) rfl ?_
  refine .nil ?_
  refine .then ?_
  refine .seq ?_
  refine .seq ?_
  refine .region [] mixed (by kernel_rfl) ?_
  refine .cons (.move .none (.s rfl)) rfl ?_
  refine .cons (.neI .none (.s rfl) (.int (by decide))) rfl ?_
  refine .nil ?_
  refine .then ?_
  refine .cond (t := 19) rfl trivial (fun hb3 => ?_) (fun hb3 => ?_)
  · replace h := bif_t h hb3
    refine .seq ?_
    refine .region [([], []), ([], []), ([5002], [5002]), ([], [])] mixed (by kernel_rfl) ?_
    obtain ⟨v2, hv4, h⟩ := bnd_some h
    refine .consA (.re hv4 (.buildF (y := (⟨([] : (List DNode)), ([] : (List DEdge))⟩ : Doc)) .none bu25 zc25 rfl .nil .nil)) rfl ?_
    refine .consA (.move .none (.s rfl)) rfl ?_
    refine .consN (.storeAt0 (g := 5002) ty25 rfl (.s rfl) (.s rfl)) rfl ?_
    refine .consA (.assign .none (.s rfl)) rfl ?_
    refine .nil ?_
    refine .then ?_
    refine .freezeBox (g := 5002) (ts := [4]) rfl (.cons (t := 4) rfl trivial .nil) SubB.nil rfl ?_
    refine .ret ?_
    refine .thenRet ?_
    obtain rfl := some_eq h
    exact Ends.ret2 (.inl rfl) Tryd.results6 (ResOK.cellR ty25 rfl trivial Imp.refl) (ResOK.tmp rfl trivial Imp.refl)
  · replace h := bif_f h hb3
    refine .skip ?_
    refine .then ?_
    refine .seq ?_
    refine .seq ?_
    refine .region [([], []), ([5001], []), ([], []), ([], []), ([], []), ([], []), ([], [])] mixed (by kernel_rfl) ?_
    refine .consA (.fieldPtr .none fd25_0 (.s rfl)) rfl ?_
    refine .consA (.loadAt (k := 5001) .none ty22 rfl (.s rfl) hfd25_0) rfl ?_
    refine .consA (.move .none (.s rfl)) rfl ?_
    obtain ⟨hn5, h⟩ := need_some h
    refine .consA (.indexAddr .none sl22 ty43 (.s rfl) (.s rfl) (fun _ => hn5)) rfl ?_
    refine .consA (.fieldAddr .none fd43_1 hfd43_1 (.s rfl)) rfl ?_
    refine .consA (.load .none ty3 (.s rfl)) rfl ?_
    refine .consA (.neI .none (.s rfl) (.int (by decide))) rfl ?_
    refine .nil ?_
    refine .then ?_
    refine .cond (t := 28) rfl trivial (fun hb6 => ?_) (fun hb6 => ?_)
    · replace h := bif_t h hb6
      refine .seq ?_
      refine .region [([], []), ([5002], [5002]), ([], [])] mixed (by kernel_rfl) ?_
      obtain ⟨v3, hv7, h⟩ := bnd_some h
      refine .consA (.re hv7 (.buildF (y := (⟨([] : (List DNode)), ([] : (List DEdge))⟩ : Doc)) .none bu25 zc25 rfl .nil .nil)) rfl ?_
      refine .consN (.storeAt0 (g := 5002) ty25 rfl (.s rfl) (.s rfl)) rfl ?_
      refine .consA (.assign .none (.int (by decide))) rfl ?_
      refine .nil ?_
      refine .then ?_
      refine .freezeBox (g := 5002) (ts := [4]) rfl (.cons (t := 4) rfl trivial .nil) SubB.nil rfl ?_
      refine .ret ?_
      refine .thenRet ?_
      obtain rfl := some_eq h
      exact Ends.ret2 (.inl rfl) Tryd.results6 (ResOK.cellR ty25 rfl trivial Imp.refl) (ResOK.tmp rfl trivial Imp.refl)
    · replace h := bif_f h hb6
      refine .skip ?_
      refine .then ?_
      refine .seq ?_
      refine .region [([5001], []), ([], [31]), ([5001, 31], [5001, 31])] mixed (by kernel_rfl) ?_
      refine .consA (.loadAt0 (k := 5001) .none ty25 rfl (.s rfl)) rfl ?_
      obtain ⟨r2, hv8, h⟩ := bind_some h
      refine .consW (.callO [] (page_cloned_ok hv8) (.cons (.s rfl) .nil) .nil rfl (by decide) (by decide) (by intro d h; cases h; decide)) rfl rfl ?_
      refine .consN (.storeG2N (t := 31) (k := 5001) (mk := (fun z1 z2 => (⟨⟨z1⟩, ⟨z2⟩⟩ : Doc_o01))) ty25 rfl rfl (by rfl) rfl (.s rfl) rfl rfl) rfl ?_
      refine .nil ?_
      refine .then ?_
      refine .open (k := 5001) (g := 5003) rfl rfl (fun s5003 => ?_)
      refine .open (k := 5001) (g := 5004) rfl rfl (fun s5004 => ?_)
      refine .seq ?_
      refine .seq ?_
      obtain ⟨v4, hv9, h⟩ := bind_some h
      refine .isRef (t := 6) hv9 rfl trivial ?_
      refine .region [] mixed (by kernel_rfl) ?_
      refine .cons (.move .none (.s rfl)) rfl ?_
      refine .cons (.nilCheckR .none (.s rfl)) rfl ?_
      refine .cons (.fieldAddr .none fd63_2 hfd63_2 (.s rfl)) rfl ?_
      refine .cons (.load .none ty61 (.s rfl)) rfl ?_
      refine .cons (.move .none (.s rfl)) rfl ?_
      obtain ⟨v5, hv10, h⟩ := bnd_some h
      refine .cons (.re hv10 (.lookup .none mo61 zo59 (.s rfl) (.s rfl))) rfl ?_
      refine .cons (.len .none sl59 (.s rfl)) rfl ?_
      refine .cons (.move .none (.int (by decide))) rfl ?_
      refine .nil ?_
      refine .then ?_
      obtain ⟨j_11, h, hK11⟩ := bind_some h
      refine .thenJ (ι := (List DNode)) (fun j_11 => []) (fun j_11 => [(5003, some (CPred.at s5003 (rowV 43 j_11)))]) (fun s => j_11 = s) (.cons (t := 2) rfl (.cons (t := 4) rfl (.cons (t := 7) rfl Sub.nil))) (.cons (t := 5001) rfl (.cons (t := 5002) rfl (.cons (t := 5004) rfl SubB.nil))) ?_ (fun j_11' hj11 => ?_)
      · skip
        refine .block ?_
        refine .rforL h (fun p12_ => [(39, ⟨True, rep p12_.1⟩)]) (fun p12_ => [(5003, some (CPred.at s5003 (rowV 43 p12_.2)))]) (.cons (t := 39) rfl Sub.nil) (.cons (t := 5003) rfl SubB.nil) (.cons (t := 2) rfl (.cons (t := 4) rfl (.cons (t := 7) rfl (.cons (t := 37) rfl (.cons (t := 38) rfl Sub.nil))))) (.cons (t := 5001) rfl (.cons (t := 5002) rfl (.cons (t := 5004) rfl SubB.nil))) (fun p12_ o_12 h hD12 => ?_)
        refine .seq ?_
        refine .region [] mixed (by kernel_rfl) ?_
        refine .cons (.lt .none (.s rfl) (.s rfl)) rfl ?_
        refine .nil ?_
        refine .then ?_
        refine .seq ?_
        refine .cond (t := 40) rfl trivial (fun hb13 => ?_) (fun hb13 => ?_)
        · replace h := bif_t h hb13
          refine .skip ?_
          refine .then ?_
          refine .seq ?_
          obtain ⟨j_14, h, hK14⟩ := bind_some h
          unfold page_Ungroup_L1 at h
          refine .thenJ (ι := (List DNode)) (fun j_14 => []) (fun j_14 => [(5003, some (CPred.at s5003 (rowV 43 j_14)))]) (fun s => j_14 = s) (.cons (t := 2) rfl (.cons (t := 4) rfl (.cons (t := 7) rfl (.cons (t := 37) rfl (.cons (t := 38) rfl (.cons (t := 39) rfl Sub.nil)))))) (.cons (t := 5001) rfl (.cons (t := 5002) rfl (.cons (t := 5004) rfl SubB.nil))) ?_ (fun j_14' hj14 => ?_)
          · skip
            refine .block ?_
            refine .seq ?_
            refine .region [] mixed (by kernel_rfl) ?_
            obtain ⟨hn15, h⟩ := need_some h
            refine .cons (.indexAddr .none sl59 ty3 (.s rfl) (.s rfl) (fun _ => hn15)) rfl ?_
            refine .cons (.load .none ty3 (.s rfl)) rfl ?_
            refine .cons (.assign .none (.s rfl)) rfl ?_
            refine .nil ?_
            refine .then ?_
            refine .region [([], []), ([5001], []), ([], []), ([], []), ([5001], []), ([], []), ([5003], []), ([5003], []), ([5003], []), ([5003], []), ([5003], []), ([5003], [5003])] mixed (by kernel_rfl) ?_
            refine .consA (.fieldPtr .none fd25_0 (.s rfl)) rfl ?_
            refine .consA (.loadAt (k := 5001) .none tr22 rfl (.s rfl) hv_Doc_o01_0) rfl ?_
            refine .consA (.move .none (.s rfl)) rfl ?_
            refine .consA (.fieldPtr .none fd25_0 (.s rfl)) rfl ?_
            refine .consA (.loadAt (k := 5001) .none tr22 rfl (.s rfl) hv_Doc_o01_0) rfl ?_
            refine .consA (.move .none (.s rfl)) rfl ?_
            obtain ⟨hn16, h⟩ := need_some h
            refine .consA (.indexAddrO (k := 5003) .none sl22 ty43 (.s rfl) rfl (.s rfl) (fun _ => hn16)) rfl ?_
            refine .consA (.fieldElem (k := 5003) .none fd43_5 (.s rfl) rfl (fun _ => hn16)) rfl ?_
            obtain ⟨v6, hv17, h⟩ := bnd_some h
            refine .consA (.re hv17 (.loadElem (k := 5003) .none ty9 (.s rfl) rfl hfd43_5 (fun _ => hn16))) rfl ?_
            obtain ⟨hn18, h⟩ := need_some h
            refine .consA (.indexAddrO (k := 5003) .none sl22 ty43 (.s rfl) rfl (.s rfl) (fun _ => hn18)) rfl ?_
            refine .consA (.fieldElem (k := 5003) .none fd43_5 (.s rfl) rfl (fun _ => hn18)) rfl ?_
            refine .consN (.storeElem (k := 5003) ty9 (.s rfl) rfl sf43_5 (.s rfl) hn18) rfl ?_
            refine .nil ?_
            refine .blkNormal ?_
            exact Ends.join _ (some_eq h) (.cons (t := 2) rfl (.cons (t := 4) rfl (.cons (t := 7) rfl (.cons (t := 37) rfl (.cons (t := 38) rfl (.cons (t := 39) rfl Sub.nil)))))) (.cons (t := 5003) rfl (.cons (t := 5001) rfl (.cons (t := 5002) rfl (.cons (t := 5004) rfl SubB.nil))))
          · subst hj14; have h := hK14; clear hK14
            refine .region [] mixed (by kernel_rfl) ?_
            refine .cons (.addW .none (.s rfl) (.int (by decide))) rfl ?_
            refine .cons (.move .none (.s rfl)) rfl ?_
            refine .nil ?_
            exact Ends.againL (some_eq h) (.cons (t := 39) rfl (.cons (t := 2) rfl (.cons (t := 4) rfl (.cons (t := 7) rfl (.cons (t := 37) rfl (.cons (t := 38) rfl Sub.nil)))))) (.cons (t := 5003) rfl (.cons (t := 5001) rfl (.cons (t := 5002) rfl (.cons (t := 5004) rfl SubB.nil))))
        · replace h := bif_f h hb13
          refine .exit ?_
          refine .thenExit ?_
          refine .thenExit ?_
          refine .blkExit ?_
          replace h := hD12 _ (some_eq h)
          exact Ends.join _ (some_eq h) (.cons (t := 2) rfl (.cons (t := 4) rfl (.cons (t := 7) rfl Sub.nil))) (.cons (t := 5003) rfl (.cons (t := 5001) rfl (.cons (t := 5002) rfl (.cons (t := 5004) rfl SubB.nil))))
      · subst hj11; have h := hK11; clear hK11
        refine .seq ?_
        refine .region [([], []), ([5001], []), ([], []), ([], []), ([], []), ([5003], [5003, 60]), ([], []), ([5001, 60], [5001, 60])] mixed (by kernel_rfl) ?_
        refine .consA (.fieldPtr .none fd25_0 (.s rfl)) rfl ?_
        refine .consA (.loadAt (k := 5001) .none tr22 rfl (.s rfl) hv_Doc_o01_0) rfl ?_
        refine .consA (.move .none (.s rfl)) rfl ?_
        refine .consA (.move .none (.s rfl)) rfl ?_
        refine .consA (.addW .none (.s rfl) (.int (by decide))) rfl ?_
        obtain ⟨r3, hv19, h⟩ := bind_some h
        refine .consW (.callO [5003] (slices_Delete_Node_ok hv19) (.cons (.s rfl) (.cons (.s rfl) (.cons (.s rfl) .nil))) (.cons (k := 5003) rfl .nil) rfl (by decide) (by decide) (by intro d h; cases h; decide)) rfl rfl ?_
        refine .consA (.fieldPtr .none fd25_0 (.s rfl)) rfl ?_
        refine .consN (.storeRow (k := 5001) (t := 60) ty22 rfl (.s rfl) sv_Doc_o01_0 rfl rfl) rfl ?_
        refine .nil ?_
        refine .then ?_
        refine .open (k := 5001) (g := 5005) rfl rfl (fun s5005 => ?_)
        refine .seq ?_
        refine .region [([5001], []), ([5002], [5002]), ([], [])] mixed (by kernel_rfl) ?_
        refine .consA (.loadAt0 (k := 5001) .none tyv_Doc_o01 rfl (.s rfl)) rfl ?_
        refine .consN (.storeAtH (g := 5002) tyv_Doc_o01 (by rfl) rfl (.s rfl) (.s rfl)) rfl ?_
        refine .consA (.assign .none (.int (by decide))) rfl ?_
        refine .nil ?_
        refine .then ?_
        refine .close (k := 5002) (g := 5004) (fun z => cont 25 (⟨⟨s5005⟩, ⟨z⟩⟩ : Doc_o01)) rfl rfl rfl ?_
        refine .close (k := 5002) (g := 5005) (fun z => deep (fun z0 => cont 25 (⟨⟨z⟩, ⟨z0⟩⟩ : Doc_o01)) (rowV 96 r2.Edges)) rfl rfl rfl ?_
        refine .freezeAt (g := 5002) (S := ref ({ r2 with Nodes := r3, Edges := r2.Edges } : Doc)) (ts := [4]) rfl (.cons (t := 4) rfl trivial .nil) SubB.nil rfl (fun M D w h hms => deep_ref2 (mk := (fun s1_ s2_ => (⟨⟨s1_⟩, ⟨s2_⟩⟩ : Doc_o01))) (y := ({ r2 with Nodes := r3, Edges := r2.Edges } : Doc)) frzRow frzRow rfl (fun M s1_ s2_ cs w hc g1 g2 => by obtain ⟨c0, q0, e0, h0, h1⟩ := hc; exact ⟨c0, q0, e0, raw_cells rfl rfl h0 g1, raw_cells rfl rfl h1 g2⟩) M D w h hms) ?_
        refine .ret ?_
        obtain rfl := some_eq h
        exact Ends.ret2 (.inl rfl) Tryd.results6 (ResOK.cellR ty25 rfl trivial Imp.refl) (ResOK.tmp rfl trivial Imp.refl)

theorem ref_nodeError_1_ok {m1 : DNode} {c0_1 : DNode} {r : Bool}  (h : ref_nodeError_1 m1 c0_1 = some r) : FSpec Tryd.prog 68 [rep m1, ref c0_1] (rep r) := by
  unfold ref_nodeError_1 at h
  refine FSpec.intro (n := 9) fnok68 Tryd.func68 rfl Tryd.ntmps68 rfl (fun F => ?_)
  refine .seq ?_
  refine .region [] mixed (by kernel_rfl) ?_
  refine .cons (.box .none (.s rfl)) rfl ?_
  refine .cons (.assign .none .bool) rfl ?_
  refine .nil ?_
  refine .then ?_
  refine .seq ?_
  refine .region [] mixed (by kernel_rfl) ?_
  refine .cons (.fieldAddr .none fd43_0 hfd43_0 (.s rfl)) rfl ?_
  refine .cons (.load .none ty9 (.s rfl)) rfl ?_
  refine .cons (.fieldAddr .none fd43_0 hfd43_0 (.s rfl)) rfl ?_
  refine .cons (.load .none ty9 (.s rfl)) rfl ?_
  refine .cons (.eqS .none (eqAt_str Tryd.underlying9) (.s rfl) (.s rfl)) rfl ?_
  refine .cons (.assign .none (.s rfl)) rfl ?_
  refine .nil ?_
  refine .then ?_
  refine .ret ?_
  obtain rfl := some_eq h
  exact Ends.ret1 (.inl rfl) Tryd.results68 (ResOK.tmp rfl trivial Imp.refl)

theorem slices_IndexFunc_Node_ok {s1 : (List DNode)} {f1 : (DNode → Option Bool)} {r : Int}  (h : slices_IndexFunc_Node s1 f1 = some r) : FSpec Tryd.prog 31 [rep s1, fn1 Tryd.prog (rep (α := Bool)) f1] (rep r) := by
  unfold slices_IndexFunc_Node at h
  refine FSpec.intro (n := 19) fnok31 Tryd.func31 rfl Tryd.ntmps31 rfl (fun F => ?_)
  refine .seq ?_
  refine .region [] mixed (by kernel_rfl) ?_
  refine .cons (.assign .none (.int (by decide))) rfl ?_
  refine .nil ?_
  refine .then ?_
  refine .seq ?_
  refine .seq ?_
  refine .region [] mixed (by kernel_rfl) ?_
  refine .cons (.move .none (.s rfl)) rfl ?_
  refine .cons (.len .none sl22 (.s rfl)) rfl ?_
  refine .cons (.move .none (.int (by decide))) rfl ?_
  refine .nil ?_
  refine .then ?_
  obtain ⟨o_1, h, hK1⟩ := bindR_some h
  refine .thenJ (ι := Unit) (fun j_1 => []) (fun j_1 => []) (fun s => o_1 = Res.nx s) Sub.nil SubB.nil ?_ (fun j_1 hj1 => ?_)
  · skip
    refine .block ?_
    refine .rforEL h (fun p2_ => [(8, ⟨True, rep p2_.1⟩)]) (fun p2_ => []) (.cons (t := 8) rfl Sub.nil) SubB.nil (.cons (t := 0) rfl (.cons (t := 1) rfl (.cons (t := 7) rfl Sub.nil))) SubB.nil (fun p2_ o_2 h hD2 => ?_)
    refine .seq ?_
    refine .region [] mixed (by kernel_rfl) ?_
    refine .cons (.lt .none (.s rfl) (.s rfl)) rfl ?_
    refine .nil ?_
    refine .then ?_
    refine .seq ?_
    refine .cond (t := 9) rfl trivial (fun hb3 => ?_) (fun hb3 => ?_)
    · replace h := bif_t h hb3
      refine .skip ?_
      refine .then ?_
      refine .seq ?_
      obtain ⟨o_4, h, hK4⟩ := bindD_some h
      unfold slices_IndexFunc_Node_L1 at h
      refine .thenJ (ι := Unit) (fun j_4 => []) (fun j_4 => []) (fun s => o_4 = Res.nx s) (.cons (t := 0) rfl (.cons (t := 1) rfl (.cons (t := 7) rfl (.cons (t := 8) rfl Sub.nil)))) SubB.nil ?_ (fun j_4 hj4 => ?_)
      · skip
        refine .block ?_
        refine .seq ?_
        refine .region [] mixed (by kernel_rfl) ?_
        refine .cons (.move .none (.s rfl)) rfl ?_
        refine .cons (.assign .none (.s rfl)) rfl ?_
        refine .nil ?_
        refine .then ?_
        refine .seq ?_
        refine .region [] mixed (by kernel_rfl) ?_
        refine .cons (.move .none (.s rfl)) rfl ?_
        refine .cons (.move .none (.s rfl)) rfl ?_
        refine .cons (.move .none (.s rfl)) rfl ?_
        obtain ⟨hn5, h⟩ := need_some h
        refine .cons (.indexAddr .none sl22 ty43 (.s rfl) (.s rfl) (fun _ => hn5)) rfl ?_
        refine .cons (.load .none ty43 (.s rfl)) rfl ?_
        obtain ⟨r1, hv6, h⟩ := bind_some h
        refine .cons (.callV (gx s1 p2_.1, r1) .none (.s rfl) (fun _ => hv6) (.cons (.s rfl) .nil)) rfl ?_
        refine .nil ?_
        refine .then ?_
        refine .cond (t := 16) rfl trivial (fun hb7 => ?_) (fun hb7 => ?_)
        · replace h := bif_t h hb7
          refine .seq ?_
          refine .region [] mixed (by kernel_rfl) ?_
          refine .cons (.move .none (.s rfl)) rfl ?_
          refine .cons (.assign .none (.s rfl)) rfl ?_
          refine .nil ?_
          refine .then ?_
          refine .ret ?_
          refine .blkRet ?_
          refine .thenRet ?_
          refine .thenRet ?_
          refine .blkRet ?_
          refine .thenRet ?_
          replace h := resd_ab hK4 (some_eq h)
          replace h := hD2 _ (some_eq h)
          replace h := resb_ab hK1 (some_eq h)
          obtain rfl := some_eq h
          exact Ends.ret1 (.inl rfl) Tryd.results31 (ResOK.tmp rfl trivial Imp.refl)
        · replace h := bif_f h hb7
          refine .skip ?_
          refine .blkNormal ?_
          exact Ends.join _ (some_eq h) (.cons (t := 0) rfl (.cons (t := 1) rfl (.cons (t := 7) rfl (.cons (t := 8) rfl Sub.nil)))) SubB.nil
      · have h := resd_nx hK4 hj4
        refine .region [] mixed (by kernel_rfl) ?_
        refine .cons (.addW .none (.s rfl) (.int (by decide))) rfl ?_
        refine .cons (.move .none (.s rfl)) rfl ?_
        refine .nil ?_
        exact Ends.againL (some_eq h) (.cons (t := 8) rfl (.cons (t := 0) rfl (.cons (t := 1) rfl (.cons (t := 7) rfl Sub.nil)))) SubB.nil
    · replace h := bif_f h hb3
      refine .exit ?_
      refine .thenExit ?_
      refine .thenExit ?_
      refine .blkExit ?_
      replace h := hD2 _ (some_eq h)
      exact Ends.join _ (some_eq h) Sub.nil SubB.nil
  · have h := resb_nx hK1 hj1
    refine .seq ?_
    refine .region [] mixed (by kernel_rfl) ?_
    refine .cons (.assign .none (.int (by decide))) rfl ?_
    refine .nil ?_
    refine .then ?_
    refine .ret ?_
    obtain rfl := some_eq h
    exact Ends.ret1 (.inl rfl) Tryd.results31 (ResOK.tmp rfl trivial Imp.refl)

theorem slices_ContainsFunc_Node_ok {s1 : (List DNode)} {f1 : (DNode → Option Bool)} {r : Bool}  (h : slices_ContainsFunc_Node s1 f1 = some r) : FSpec Tryd.prog 67 [rep s1, fn1 Tryd.prog (rep (α := Bool)) f1] (rep r) := by
  unfold slices_ContainsFunc_Node at h
  refine FSpec.intro (n := 9) fnok67 Tryd.func67 rfl Tryd.ntmps67 rfl (fun F => ?_)
  refine .seq ?_
  refine .region [] mixed (by kernel_rfl) ?_
  refine .cons (.assign .none .bool) rfl ?_
  refine .nil ?_
  refine .then ?_
  refine .seq ?_
  refine .region [] mixed (by kernel_rfl) ?_
  refine .cons (.move .none (.s rfl)) rfl ?_
  refine .cons (.move .none (.s rfl)) rfl ?_
  obtain ⟨r1, hv1, h⟩ := bind_some h
  refine .cons (.call .none (slices_IndexFunc_Node_ok hv1) (.cons (.s rfl) (.cons (.s rfl) .nil))) rfl ?_
  refine .cons (.ge .none (.s rfl) (.int (by decide))) rfl ?_
  refine .cons (.assign .none (.s rfl)) rfl ?_
  refine .nil ?_
  refine .then ?_
  refine .ret ?_
  obtain rfl := some_eq h
  exact Ends.ret1 (.inl rfl) Tryd.results67 (ResOK.tmp rfl trivial Imp.refl)

theorem ref_NameOf_ok {s1 : Str} {r : Bool}  (h : ref_NameOf s1 = some r) : FSpec Tryd.prog 69 [rep s1] (rep r) := by
  unfold ref_NameOf at h
  refine FSpec.intro (n := 45) fnok69 Tryd.func69 rfl Tryd.ntmps69 rfl (fun F => ?_)
  refine .seq ?_
  refine .region [] mixed (by kernel_rfl) ?_
  refine .cons (.assign .none .bool) rfl ?_
  refine .nil ?_
  refine .then ?_
  refine .seq ?_
  refine .seq ?_
  refine .region [] mixed (by kernel_rfl) ?_
  refine .cons (.move .none (.s rfl)) rfl ?_
  refine .cons (.lenStr .none Tryd.underlying9 (.s rfl)) rfl ?_
  refine .cons (.move .none (.int (by decide))) rfl ?_
  refine .nil ?_
  refine .then ?_
  obtain ⟨o_1, h, hK1⟩ := bindR_some h
  refine .thenJ (ι := Unit) (fun j_1 => []) (fun j_1 => []) (fun s => o_1 = Res.nx s) (.cons (t := 0) rfl Sub.nil) SubB.nil ?_ (fun j_1 hj1 => ?_)
  · skip
    refine .block ?_
    refine .rforEL h (fun p2_ => [(7, ⟨True, rep p2_.1⟩)]) (fun p2_ => []) (.cons (t := 7) rfl Sub.nil) SubB.nil (.cons (t := 0) rfl (.cons (t := 6) rfl Sub.nil)) SubB.nil (fun p2_ o_2 h hD2 => ?_)
    refine .seq ?_
    refine .region [] mixed (by kernel_rfl) ?_
    refine .cons (.lt .none (.s rfl) (.s rfl)) rfl ?_
    refine .nil ?_
    refine .then ?_
    refine .seq ?_
    refine .cond (t := 8) rfl trivial (fun hb3 => ?_) (fun hb3 => ?_)
    · replace h := bif_t h hb3
      refine .skip ?_
      refine .then ?_
      refine .seq ?_
      obtain ⟨o_4, h, hK4⟩ := bindD_some h
      unfold ref_NameOf_L1 at h
      refine .thenJ (ι := Unit) (fun j_4 => []) (fun j_4 => []) (fun s => o_4 = Res.nx s) (.cons (t := 0) rfl (.cons (t := 6) rfl (.cons (t := 7) rfl Sub.nil))) SubB.nil ?_ (fun j_4 hj4 => ?_)
      · skip
        refine .block ?_
        refine .seq ?_
        refine .region [] mixed (by kernel_rfl) ?_
        refine .cons (.move .none (.s rfl)) rfl ?_
        refine .cons (.assign .none (.s rfl)) rfl ?_
        refine .nil ?_
        refine .then ?_
        refine .seq ?_
        refine .region [] mixed (by kernel_rfl) ?_
        refine .cons (.move .none (.s rfl)) rfl ?_
        refine .cons (.move .none (.s rfl)) rfl ?_
        obtain ⟨hn5, h⟩ := need_some h
        refine .cons (.indexStr .none Tryd.underlying9 (.s rfl) (.s rfl) (fun _ => hn5)) rfl ?_
        obtain ⟨c1, hv6, h⟩ := bnd_some h
        refine .cons (.re hv6 (.assign .none (.s rfl))) rfl ?_
        refine .nil ?_
        refine .then ?_
        refine .seq ?_
        refine .region [] mixed (by kernel_rfl) ?_
        refine .cons (.move .none (.s rfl)) rfl ?_
        refine .cons (.kgeq .none (.s rfl) .ki) rfl ?_
        refine .cons (.move .none (.s rfl)) rfl ?_
        refine .cons (.move (.at rfl rfl) (.s rfl)) rfl ?_
        refine .cons (.kleq (.at rfl rfl) (.tmp rfl id) .ki) rfl ?_
        refine .cons (.pickAnd .none (.s rfl) (.tmp rfl id)) rfl ?_
        refine .cons (.not .none (.s rfl)) rfl ?_
        refine .cons (.move .none (.s rfl)) rfl ?_
        refine .cons (.move (.at rfl rfl) (.s rfl)) rfl ?_
        refine .cons (.eqI (.at rfl rfl) (.tmp rfl id) (.int (by decide))) rfl ?_
        refine .cons (.move (.at rfl rfl) (.tmp rfl id)) rfl ?_
        refine .cons (.move (.at rfl rfl) (.s rfl)) rfl ?_
        refine .cons (.kgeq (.at rfl rfl) (.tmp rfl id) .ki) rfl ?_
        refine .cons (.move (.at rfl rfl) (.tmp rfl id)) rfl ?_
        refine .cons (.move (.at rfl rfl) (.s rfl)) rfl ?_
        refine .cons (.kleq (.at rfl rfl) (.tmp rfl id) .ki) rfl ?_
        refine .cons (.pickAnd (.at rfl rfl) (.tmp rfl id) (.tmp rfl id)) rfl ?_
        refine .cons (.not (.at rfl rfl) (.tmp rfl id)) rfl ?_
        refine .cons (.move (.at rfl rfl) (.tmp rfl id)) rfl ?_
        refine .cons (.move (.at rfl rfl) (.s rfl)) rfl ?_
        refine .cons (.kneq (.at rfl rfl) (.tmp rfl id) .ki) rfl ?_
        refine .cons (.pickAnd (.at rfl rfl) (.tmp rfl id) (.tmp rfl id)) rfl ?_
        refine .cons (.pickOr (.at rfl rfl) (.tmp rfl id) (.tmp rfl id)) rfl ?_
        refine .cons (.pickAnd .none (.s rfl) (.tmp rfl id)) rfl ?_
        refine .nil ?_
        refine .then ?_
        refine .cond (t := 36) rfl trivial (fun hb7 => ?_) (fun hb7 => ?_)
        · replace h := bif_t h hb7
          refine .seq ?_
          refine .region [] mixed (by kernel_rfl) ?_
          refine .cons (.assign .none .bool) rfl ?_
          refine .nil ?_
          refine .then ?_
          refine .ret ?_
          refine .blkRet ?_
          refine .thenRet ?_
          refine .thenRet ?_
          refine .blkRet ?_
          refine .thenRet ?_
          replace h := resd_ab hK4 (some_eq h)
          replace h := hD2 _ (some_eq h)
          replace h := resb_ab hK1 (some_eq h)
          obtain rfl := some_eq h
          exact Ends.ret1 (.inl rfl) Tryd.results69 (ResOK.tmp rfl trivial Imp.refl)
        · replace h := bif_f h hb7
          refine .skip ?_
          refine .blkNormal ?_
          exact Ends.join _ (some_eq h) (.cons (t := 0) rfl (.cons (t := 6) rfl (.cons (t := 7) rfl Sub.nil))) SubB.nil
      · have h := resd_nx hK4 hj4
        refine .region [] mixed (by kernel_rfl) ?_
        refine .cons (.addW .none (.s rfl) (.int (by decide))) rfl ?_
        refine .cons (.move .none (.s rfl)) rfl ?_
        refine .nil ?_
        exact Ends.againL (some_eq h) (.cons (t := 7) rfl (.cons (t := 0) rfl (.cons (t := 6) rfl Sub.nil))) SubB.nil
    · replace h := bif_f h hb3
      refine .exit ?_
      refine .thenExit ?_
      refine .thenExit ?_
      refine .blkExit ?_
      replace h := hD2 _ (some_eq h)
      exact Ends.join _ (some_eq h) (.cons (t := 0) rfl Sub.nil) SubB.nil
  · have h := resb_nx hK1 hj1
    refine .seq ?_
    refine .region [] mixed (by kernel_rfl) ?_
    refine .cons (.move .none (.s rfl)) rfl ?_
    refine .cons (.neS .none (eqAt_str Tryd.underlying9) (.s rfl) (.str (l := []) (by decide))) rfl ?_
    refine .cons (.move .none (.s rfl)) rfl ?_
    refine .cons (.move (.at rfl rfl) (.s rfl)) rfl ?_
    refine .cons (.lenStr (.at rfl rfl) Tryd.underlying9 (.tmp rfl id)) rfl ?_
    refine .cons (.le (.at rfl rfl) (.tmp rfl id) (.int (by decide))) rfl ?_
    refine .cons (.pickAnd .none (.s rfl) (.tmp rfl id)) rfl ?_
    refine .cons (.assign .none (.s rfl)) rfl ?_
    refine .nil ?_
    refine .then ?_
    refine .ret ?_
    obtain rfl := some_eq h
    exact Ends.ret1 (.inl rfl) Tryd.results69 (ResOK.tmp rfl trivial Imp.refl)

theorem ref_When_ok {is1 : Bool} {e1 : Int} {r : Int}  (h : ref_When is1 e1 = some r) : FSpec Tryd.prog 8 [rep is1, rep e1] (rep r) := by
  unfold ref_When at h
  refine FSpec.intro (n := 7) fnok8 Tryd.func8 rfl Tryd.ntmps8 rfl (fun F => ?_)
  refine .seq ?_
  refine .region [] mixed (by kernel_rfl) ?_
  refine .cons (.assign .none (.int (by decide))) rfl ?_
  refine .nil ?_
  refine .then ?_
  refine .seq ?_
  refine .seq ?_
  refine .region [] mixed (by kernel_rfl) ?_
  refine .cons (.move .none (.s rfl)) rfl ?_
  refine .nil ?_
  refine .then ?_
  refine .cond (t := 5) rfl trivial (fun hb1 => ?_) (fun hb1 => ?_)
  · replace h := bif_t h hb1
    refine .seq ?_
    refine .region [] mixed (by kernel_rfl) ?_
    refine .cons (.move .none (.s rfl)) rfl ?_
    refine .cons (.assign .none (.s rfl)) rfl ?_
    refine .nil ?_
    refine .then ?_
    refine .ret ?_
    refine .thenRet ?_
    obtain rfl := some_eq h
    exact Ends.ret1 (.inl rfl) Tryd.results8 (ResOK.tmp rfl trivial Imp.refl)
  · replace h := bif_f h hb1
    refine .skip ?_
    refine .then ?_
    refine .seq ?_
    refine .region [] mixed (by kernel_rfl) ?_
    refine .cons (.assign .none (.int (by decide))) rfl ?_
    refine .nil ?_
    refine .then ?_
    refine .ret ?_
    obtain rfl := some_eq h
    exact Ends.ret1 (.inl rfl) Tryd.results8 (ResOK.tmp rfl trivial Imp.refl)

theorem ref_In_ok {n1 : Int} {low1 : Int} {high1 : Int} {r : Bool}  (h : ref_In n1 low1 high1 = some r) : FSpec Tryd.prog 45 [rep n1, rep low1, rep high1] (rep r) := by
  unfold ref_In at h
  refine FSpec.intro (n := 15) fnok45 Tryd.func45 rfl Tryd.ntmps45 rfl (fun F => ?_)
  refine .seq ?_
  refine .region [] mixed (by kernel_rfl) ?_
  refine .cons (.assign .none .bool) rfl ?_
  refine .nil ?_
  refine .then ?_
  refine .seq ?_
  refine .region [] mixed (by kernel_rfl) ?_
  refine .cons (.move .none (.s rfl)) rfl ?_
  refine .cons (.move .none (.s rfl)) rfl ?_
  refine .cons (.ge .none (.s rfl) (.s rfl)) rfl ?_
  refine .cons (.move .none (.s rfl)) rfl ?_
  refine .cons (.move (.at rfl rfl) (.s rfl)) rfl ?_
  refine .cons (.move (.at rfl rfl) (.s rfl)) rfl ?_
  refine .cons (.le (.at rfl rfl) (.tmp rfl id) (.tmp rfl id)) rfl ?_
  refine .cons (.pickAnd .none (.s rfl) (.tmp rfl id)) rfl ?_
  refine .cons (.assign .none (.s rfl)) rfl ?_
  refine .nil ?_
  refine .then ?_
  refine .ret ?_
  obtain rfl := some_eq h
  exact Ends.ret1 (.inl rfl) Tryd.results45 (ResOK.tmp rfl trivial Imp.refl)

theorem ref_First_ok {l1 : (List Int)} {r : Int}  (h : ref_First l1 = some r) : FSpec Tryd.prog 43 [rep l1] (rep r) := by
  unfold ref_First at h
  refine FSpec.intro (n := 15) fnok43 Tryd.func43 rfl Tryd.ntmps43 rfl (fun F => ?_)
  refine .seq ?_
  refine .region [] mixed (by kernel_rfl) ?_
  refine .cons (.assign .none (.int (by decide))) rfl ?_
  refine .nil ?_
  refine .then ?_
  refine .seq ?_
  refine .seq ?_
  refine .region [] mixed (by kernel_rfl) ?_
  refine .cons (.move .none (.s rfl)) rfl ?_
  refine .cons (.len .none sl136 (.s rfl)) rfl ?_
  refine .cons (.move .none (.int (by decide))) rfl ?_
  refine .nil ?_
  refine .then ?_
  obtain ⟨o_1, h, hK1⟩ := bindR_some h
  refine .thenJ (ι := Unit) (fun j_1 => []) (fun j_1 => []) (fun s => o_1 = Res.nx s) Sub.nil SubB.nil ?_ (fun j_1 hj1 => ?_)
  · skip
    refine .block ?_
    refine .rforEL h (fun p2_ => [(7, ⟨True, rep p2_.1⟩)]) (fun p2_ => []) (.cons (t := 7) rfl Sub.nil) SubB.nil (.cons (t := 5) rfl (.cons (t := 6) rfl Sub.nil)) SubB.nil (fun p2_ o_2 h hD2 => ?_)
    refine .seq ?_
    refine .region [] mixed (by kernel_rfl) ?_
    refine .cons (.lt .none (.s rfl) (.s rfl)) rfl ?_
    refine .nil ?_
    refine .then ?_
    refine .seq ?_
    refine .cond (t := 8) rfl trivial (fun hb3 => ?_) (fun hb3 => ?_)
    · replace h := bif_t h hb3
      refine .skip ?_
      refine .then ?_
      refine .seq ?_
      obtain ⟨o_4, h, hK4⟩ := bindD_some h
      unfold ref_First_L1 at h
      refine .thenJ (ι := Unit) (fun j_4 => []) (fun j_4 => []) (fun s => o_4 = Res.nx s) (.cons (t := 5) rfl (.cons (t := 6) rfl (.cons (t := 7) rfl Sub.nil))) SubB.nil ?_ (fun j_4 hj4 => ?_)
      · skip
        refine .block ?_
        refine .seq ?_
        refine .region [] mixed (by kernel_rfl) ?_
        obtain ⟨hn5, h⟩ := need_some h
        refine .cons (.indexAddr .none sl136 ty26 (.s rfl) (.s rfl) (fun _ => hn5)) rfl ?_
        refine .cons (.load .none ty26 (.s rfl)) rfl ?_
        obtain ⟨e1, hv6, h⟩ := bnd_some h
        refine .cons (.re hv6 (.assign .none (.s rfl))) rfl ?_
        refine .nil ?_
        refine .then ?_
        refine .seq ?_
        refine .region [] mixed (by kernel_rfl) ?_
        refine .cons (.move .none (.s rfl)) rfl ?_
        refine .cons (.neI .none (.s rfl) (.int (by decide))) rfl ?_
        refine .nil ?_
        refine .then ?_
        refine .cond (t := 12) rfl trivial (fun hb7 => ?_) (fun hb7 => ?_)
        · replace h := bif_t h hb7
          refine .seq ?_
          refine .region [] mixed (by kernel_rfl) ?_
          refine .cons (.move .none (.s rfl)) rfl ?_
          refine .cons (.assign .none (.s rfl)) rfl ?_
          refine .nil ?_
          refine .then ?_
          refine .ret ?_
          refine .blkRet ?_
          refine .thenRet ?_
          refine .thenRet ?_
          refine .blkRet ?_
          refine .thenRet ?_
          replace h := resd_ab hK4 (some_eq h)
          replace h := hD2 _ (some_eq h)
          replace h := resb_ab hK1 (some_eq h)
          obtain rfl := some_eq h
          exact Ends.ret1 (.inl rfl) Tryd.results43 (ResOK.tmp rfl trivial Imp.refl)
        · replace h := bif_f h hb7
          refine .skip ?_
          refine .blkNormal ?_
          exact Ends.join _ (some_eq h) (.cons (t := 5) rfl (.cons (t := 6) rfl (.cons (t := 7) rfl Sub.nil))) SubB.nil
      · have h := resd_nx hK4 hj4
        refine .region [] mixed (by kernel_rfl) ?_
        refine .cons (.addW .none (.s rfl) (.int (by decide))) rfl ?_
        refine .cons (.move .none (.s rfl)) rfl ?_
        refine .nil ?_
        exact Ends.againL (some_eq h) (.cons (t := 7) rfl (.cons (t := 5) rfl (.cons (t := 6) rfl Sub.nil))) SubB.nil
    · replace h := bif_f h hb3
      refine .exit ?_
      refine .thenExit ?_
      refine .thenExit ?_
      refine .blkExit ?_
      replace h := hD2 _ (some_eq h)
      exact Ends.join _ (some_eq h) Sub.nil SubB.nil
  · have h := resb_nx hK1 hj1
    refine .seq ?_
    refine .region [] mixed (by kernel_rfl) ?_
    refine .cons (.assign .none (.int (by decide))) rfl ?_
    refine .nil ?_
    refine .then ?_
    refine .ret ?_
    obtain rfl := some_eq h
    exact Ends.ret1 (.inl rfl) Tryd.results43 (ResOK.tmp rfl trivial Imp.refl)

theorem ref_PointError_ok {p1 : Point} {r : Int}  (h : ref_PointError p1 = some r) : FSpec Tryd.prog 105 [rep p1] (rep r) := by
  unfold ref_PointError at h
  refine FSpec.intro (n := 14) fnok105 Tryd.func105 rfl Tryd.ntmps105 rfl (fun F => ?_)
  refine .seq ?_
  refine .region [] mixed (by kernel_rfl) ?_
  refine .cons (.box .none (.s rfl)) rfl ?_
  refine .cons (.assign .none (.int (by decide))) rfl ?_
  refine .nil ?_
  refine .then ?_
  refine .seq ?_
  refine .region [] mixed (by kernel_rfl) ?_
  refine .cons (.fieldAddr .none fd118_0 hfd118_0 (.s rfl)) rfl ?_
  refine .cons (.load .none ty3 (.s rfl)) rfl ?_
  obtain ⟨r1, hv1, h⟩ := bind_some h
  refine .cons (.call .none (ref_In_ok hv1) (.cons (.s rfl) (.cons (.int (by decide)) (.cons (.int (by decide)) .nil)))) rfl ?_
  refine .cons (.not .none (.s rfl)) rfl ?_
  refine .cons (.move .none (.s rfl)) rfl ?_
  refine .cons (.fieldAddr (.at rfl rfl) fd118_1 hfd118_1 (.s rfl)) rfl ?_
  refine .cons (.load (.at rfl rfl) ty3 (.tmp rfl id)) rfl ?_
  obtain ⟨r2, hv2, h⟩ := bind_some h
  refine .cons (.callIf (.at rfl rfl) fnok45 (fun hg => ref_In_ok ((fun hg => gd_some hv2 ((notT hg.2))) hg)) (.cons (.tmp rfl id) (.cons (.int (by decide)) (.cons (.int (by decide)) .nil))) (fun h => h)) rfl ?_
  refine .cons (.not (.at rfl rfl) (.tmp rfl id)) rfl ?_
  refine .cons (.pickOr .none (.s rfl) (.tmp rfl id)) rfl ?_
  obtain ⟨r3, hv3, h⟩ := bind_some h
  refine .cons (.call .none (ref_When_ok hv3) (.cons (.s rfl) (.cons (.int (by decide)) .nil))) rfl ?_
  refine .cons (.assign .none (.s rfl)) rfl ?_
  refine .nil ?_
  refine .then ?_
  refine .ret ?_
  obtain rfl := some_eq h
  exact Ends.ret1 (.inl rfl) Tryd.results105 (ResOK.tmp rfl trivial Imp.refl)

theorem ref_BoxError_ok {b1 : Box} {r : Int}  (h : ref_BoxError b1 = some r) : FSpec Tryd.prog 70 [rep b1] (rep r) := by
  unfold ref_BoxError at h
  refine FSpec.intro (n := 22) fnok70 Tryd.func70 rfl Tryd.ntmps70 rfl (fun F => ?_)
  refine .seq ?_
  refine .region [] mixed (by kernel_rfl) ?_
  refine .cons (.box .none (.s rfl)) rfl ?_
  refine .cons (.assign .none (.int (by decide))) rfl ?_
  refine .nil ?_
  refine .then ?_
  refine .seq ?_
  refine .region [] mixed (by kernel_rfl) ?_
  refine .cons (.fieldAddr .none fd41_0 hfd41_0 (.s rfl)) rfl ?_
  refine .cons (.load .none ty3 (.s rfl)) rfl ?_
  refine .cons (.fieldAddr .none fd41_1 hfd41_1 (.s rfl)) rfl ?_
  refine .cons (.load .none ty3 (.s rfl)) rfl ?_
  refine .cons (.buildF (y := (⟨b1.X, b1.Y⟩ : Point)) .none bu118 zc118 rfl (.cons (.s rfl) (.cons (.s rfl) .nil)) (.cons rfl sf118_0 (.cons rfl sf118_1 .nil))) rfl ?_
  obtain ⟨r1, hv1, h⟩ := bind_some h
  refine .cons (.call .none (ref_PointError_ok hv1) (.cons (.s rfl) .nil)) rfl ?_
  refine .cons (.fieldAddr .none fd41_2 hfd41_2 (.s rfl)) rfl ?_
  refine .cons (.load .none ty3 (.s rfl)) rfl ?_
  obtain ⟨r2, hv2, h⟩ := bind_some h
  refine .cons (.call .none (ref_In_ok hv2) (.cons (.s rfl) (.cons (.int (by decide)) (.cons (.int (by decide)) .nil)))) rfl ?_
  refine .cons (.not .none (.s rfl)) rfl ?_
  refine .cons (.move .none (.s rfl)) rfl ?_
  refine .cons (.fieldAddr (.at rfl rfl) fd41_3 hfd41_3 (.s rfl)) rfl ?_
  refine .cons (.load (.at rfl rfl) ty3 (.tmp rfl id)) rfl ?_
  obtain ⟨r3, hv3, h⟩ := bind_some h
  refine .cons (.callIf (.at rfl rfl) fnok45 (fun hg => ref_In_ok ((fun hg => gd_some hv3 ((notT hg.2))) hg)) (.cons (.tmp rfl id) (.cons (.int (by decide)) (.cons (.int (by decide)) .nil))) (fun h => h)) rfl ?_
  refine .cons (.not (.at rfl rfl) (.tmp rfl id)) rfl ?_
  refine .cons (.pickOr .none (.s rfl) (.tmp rfl id)) rfl ?_
  obtain ⟨r4, hv4, h⟩ := bind_some h
  refine .cons (.call .none (ref_When_ok hv4) (.cons (.s rfl) (.cons (.int (by decide)) .nil))) rfl ?_
  refine .cons (.buildSlice (xs := [_, _]) .none sl136 ty26 hz26 (.cons (.s rfl) (.cons (.s rfl) .nil)) rfl (by decide)) rfl ?_
  obtain ⟨r5, hv5, h⟩ := bind_some h
  refine .cons (.call .none (ref_First_ok hv5) (.cons (.s rfl) .nil)) rfl ?_
  refine .cons (.assign .none (.s rfl)) rfl ?_
  refine .nil ?_
  refine .then ?_
  refine .ret ?_
  obtain rfl := some_eq h
  exact Ends.ret1 (.inl rfl) Tryd.results70 (ResOK.tmp rfl trivial Imp.refl)

theorem ref_TextError_ok {s1 : Str} {r : Int}  (h : ref_TextError s1 = some r) : FSpec Tryd.prog 71 [rep s1] (rep r) := by
  unfold ref_TextError at h
  refine FSpec.intro (n := 41) fnok71 Tryd.func71 rfl Tryd.ntmps71 rfl (fun F => ?_)
  refine .seq ?_
  refine .region [] mixed (by kernel_rfl) ?_
  refine .cons (.assign .none (.int (by decide))) rfl ?_
  refine .nil ?_
  refine .then ?_
  refine .seq ?_
  refine .region [] mixed (by kernel_rfl) ?_
  refine .cons (.move .none (.s rfl)) rfl ?_
  obtain ⟨r1, hv1, h⟩ := bind_some h
  refine .cons (.call .none (utf8_ValidString_ok hv1) (.cons (.s rfl) .nil)) rfl ?_
  refine .cons (.not .none (.s rfl)) rfl ?_
  obtain ⟨bad1, hv2, h⟩ := bnd_some h
  refine .cons (.re hv2 (.assign .none (.s rfl))) rfl ?_
  refine .nil ?_
  refine .then ?_
  refine .seq ?_
  refine .seq ?_
  refine .region [] mixed (by kernel_rfl) ?_
  refine .cons (.move .none (.s rfl)) rfl ?_
  refine .cons (.lenStr .none Tryd.underlying9 (.s rfl)) rfl ?_
  refine .cons (.move .none (.int (by decide))) rfl ?_
  refine .nil ?_
  refine .then ?_
  obtain ⟨j_3, h, hK3⟩ := bind_some h
  refine .thenJ (ι := Bool) (fun j_3 => [(3, ⟨True, rep j_3⟩)]) (fun j_3 => []) (fun s => j_3 = s) (.cons (t := 0) rfl Sub.nil) SubB.nil ?_ (fun j_3' hj3 => ?_)
  · skip
    refine .block ?_
    refine .rforL h (fun p4_ => [(10, ⟨True, rep p4_.1⟩), (3, ⟨True, rep p4_.2⟩)]) (fun p4_ => []) (.cons (t := 10) rfl (.cons (t := 3) rfl Sub.nil)) SubB.nil (.cons (t := 0) rfl (.cons (t := 9) rfl Sub.nil)) SubB.nil (fun p4_ o_4 h hD4 => ?_)
    refine .seq ?_
    refine .region [] mixed (by kernel_rfl) ?_
    refine .cons (.lt .none (.s rfl) (.s rfl)) rfl ?_
    refine .nil ?_
    refine .then ?_
    refine .seq ?_
    refine .cond (t := 11) rfl trivial (fun hb5 => ?_) (fun hb5 => ?_)
    · replace h := bif_t h hb5
      refine .skip ?_
      refine .then ?_
      refine .seq ?_
      obtain ⟨j_6, h, hK6⟩ := bind_some h
      unfold ref_TextError_L1 at h
      refine .thenJ (ι := Bool) (fun j_6 => [(3, ⟨True, rep j_6⟩)]) (fun j_6 => []) (fun s => j_6 = s) (.cons (t := 0) rfl (.cons (t := 9) rfl (.cons (t := 10) rfl Sub.nil))) SubB.nil ?_ (fun j_6' hj6 => ?_)
      · skip
        refine .block ?_
        refine .seq ?_
        refine .region [] mixed (by kernel_rfl) ?_
        refine .cons (.move .none (.s rfl)) rfl ?_
        refine .cons (.assign .none (.s rfl)) rfl ?_
        refine .nil ?_
        refine .then ?_
        refine .region [] mixed (by kernel_rfl) ?_
        refine .cons (.move .none (.s rfl)) rfl ?_
        refine .cons (.move .none (.s rfl)) rfl ?_
        refine .cons (.move (.at rfl rfl) (.s rfl)) rfl ?_
        refine .cons (.move (.at rfl rfl) (.s rfl)) rfl ?_
        obtain ⟨hn7, h⟩ := need_some h
        refine .cons (.indexStr (.at rfl rfl) Tryd.underlying9 (.tmp rfl id) (.tmp rfl id) (fun hg => hn7 hg.2)) rfl ?_
        refine .cons (.klss (.at rfl rfl) (.tmp rfl id) .ki) rfl ?_
        refine .cons (.move (.at rfl rfl) (.tmp rfl id)) rfl ?_
        refine .cons (.move (.at rfl rfl) (.s rfl)) rfl ?_
        refine .cons (.move (.at rfl rfl) (.s rfl)) rfl ?_
        obtain ⟨hn8, h⟩ := need_some h
        refine .cons (.indexStr (.at rfl rfl) Tryd.underlying9 (.tmp rfl id) (.tmp rfl id) (fun hg => hn8 hg.1.2 hg.2)) rfl ?_
        refine .cons (.kneq (.at rfl rfl) (.tmp rfl id) .ki) rfl ?_
        refine .cons (.pickAnd (.at rfl rfl) (.tmp rfl id) (.tmp rfl id)) rfl ?_
        refine .cons (.pickOr .none (.s rfl) (.tmp rfl id)) rfl ?_
        refine .cons (.move .none (.s rfl)) rfl ?_
        refine .cons (.move (.at rfl rfl) (.s rfl)) rfl ?_
        refine .cons (.move (.at rfl rfl) (.s rfl)) rfl ?_
        obtain ⟨hn9, h⟩ := need_some h
        refine .cons (.indexStr (.at rfl rfl) Tryd.underlying9 (.tmp rfl id) (.tmp rfl id) (fun hg => hn9 hg.2)) rfl ?_
        refine .cons (.keql (.at rfl rfl) (.tmp rfl id) .ki) rfl ?_
        refine .cons (.pickOr .none (.s rfl) (.tmp rfl id)) rfl ?_
        obtain ⟨bad2, hv10, h⟩ := bnd_some h
        refine .cons (.re hv10 (.assign .none (.s rfl))) rfl ?_
        refine .nil ?_
        refine .blkNormal ?_
        exact Ends.join _ (some_eq h) (.cons (t := 3) rfl (.cons (t := 0) rfl (.cons (t := 9) rfl (.cons (t := 10) rfl Sub.nil)))) SubB.nil
      · subst hj6; have h := hK6; clear hK6
        refine .region [] mixed (by kernel_rfl) ?_
        refine .cons (.addW .none (.s rfl) (.int (by decide))) rfl ?_
        refine .cons (.move .none (.s rfl)) rfl ?_
        refine .nil ?_
        exact Ends.againL (some_eq h) (.cons (t := 10) rfl (.cons (t := 3) rfl (.cons (t := 0) rfl (.cons (t := 9) rfl Sub.nil)))) SubB.nil
    · replace h := bif_f h hb5
      refine .exit ?_
      refine .thenExit ?_
      refine .thenExit ?_
      refine .blkExit ?_
      replace h := hD4 _ (some_eq h)
      exact Ends.join _ (some_eq h) (.cons (t := 3) rfl (.cons (t := 0) rfl Sub.nil)) SubB.nil
  · subst hj3; have h := hK3; clear hK3
    refine .seq ?_
    refine .region [] mixed (by kernel_rfl) ?_
    refine .cons (.move .none (.s rfl)) rfl ?_
    refine .cons (.lenStr .none Tryd.underlying9 (.s rfl)) rfl ?_
    refine .cons (.gt .none (.s rfl) (.int (by decide))) rfl ?_
    obtain ⟨r2, hv11, h⟩ := bind_some h
    refine .cons (.call .none (ref_When_ok hv11) (.cons (.s rfl) (.cons (.int (by decide)) .nil))) rfl ?_
    refine .cons (.move .none (.s rfl)) rfl ?_
    obtain ⟨r3, hv12, h⟩ := bind_some h
    refine .cons (.call .none (ref_When_ok hv12) (.cons (.s rfl) (.cons (.int (by decide)) .nil))) rfl ?_
    refine .cons (.buildSlice (xs := [_, _]) .none sl136 ty26 hz26 (.cons (.s rfl) (.cons (.s rfl) .nil)) rfl (by decide)) rfl ?_
    obtain ⟨r4, hv13, h⟩ := bind_some h
    refine .cons (.call .none (ref_First_ok hv13) (.cons (.s rfl) .nil)) rfl ?_
    refine .cons (.assign .none (.s rfl)) rfl ?_
    refine .nil ?_
    refine .then ?_
    refine .ret ?_
    obtain rfl := some_eq h
    exact Ends.ret1 (.inl rfl) Tryd.results71 (ResOK.tmp rfl trivial Imp.refl)

theorem ref_classError_ok {s1 : Str} {r : Int}  (h : ref_classError s1 = some r) : FSpec Tryd.prog 72 [rep s1] (rep r) := by
  unfold ref_classError at h
  refine FSpec.intro (n := 11) fnok72 Tryd.func72 rfl Tryd.ntmps72 rfl (fun F => ?_)
  refine .seq ?_
  refine .region [] mixed (by kernel_rfl) ?_
  refine .cons (.assign .none (.int (by decide))) rfl ?_
  refine .nil ?_
  refine .then ?_
  refine .seq ?_
  refine .region [] mixed (by kernel_rfl) ?_
  refine .cons (.move .none (.s rfl)) rfl ?_
  refine .cons (.neS .none (eqAt_str Tryd.underlying9) (.s rfl) (.str (l := []) (by decide))) rfl ?_
  refine .cons (.move .none (.s rfl)) rfl ?_
  refine .cons (.move (.at rfl rfl) (.s rfl)) rfl ?_
  obtain ⟨r1, hv1, h⟩ := bind_some h
  refine .cons (.callIf (.at rfl rfl) fnok69 (fun hg => ref_NameOf_ok ((fun hg => gd_some hv1 (hg.2)) hg)) (.cons (.tmp rfl id) .nil) (fun h => h)) rfl ?_
  refine .cons (.not (.at rfl rfl) (.tmp rfl id)) rfl ?_
  refine .cons (.pickAnd .none (.s rfl) (.tmp rfl id)) rfl ?_
  obtain ⟨r2, hv2, h⟩ := bind_some h
  refine .cons (.call .none (ref_When_ok hv2) (.cons (.s rfl) (.cons (.int (by decide)) .nil))) rfl ?_
  refine .cons (.assign .none (.s rfl)) rfl ?_
  refine .nil ?_
  refine .then ?_
  refine .ret ?_
  obtain rfl := some_eq h
  exact Ends.ret1 (.inl rfl) Tryd.results72 (ResOK.tmp rfl trivial Imp.refl)

theorem ref_nodeError_ok {d1 : Doc} {i1 : Int} {r : Int}  (h : ref_nodeError d1 i1 = some r) : FSpec Tryd.prog 27 [rep d1, rep i1] (rep r) := by
  unfold ref_nodeError at h
  refine FSpec.intro (n := 57) fnok27 Tryd.func27 rfl Tryd.ntmps27 rfl (fun F => ?_)
  refine .seq ?_
  refine .region [] mixed (by kernel_rfl) ?_
  refine .cons (.box .none (.s rfl)) rfl ?_
  refine .cons (.assign .none (.int (by decide))) rfl ?_
  refine .nil ?_
  refine .then ?_
  refine .seq ?_
  refine .region [([], []), ([], []), ([], []), ([], []), ([], []), ([], [5]), ([5], [5])] mixed (by kernel_rfl) ?_
  refine .consA (.fieldAddr .none fd25_0 hfd25_0 (.s rfl)) rfl ?_
  refine .consA (.load .none ty22 (.s rfl)) rfl ?_
  refine .consA (.move .none (.s rfl)) rfl ?_
  obtain ⟨hn1, h⟩ := need_some h
  refine .consA (.indexAddr .none sl22 ty43 (.s rfl) (.s rfl) (fun _ => hn1)) rfl ?_
  obtain ⟨v1, hv2, h⟩ := bnd_some h
  refine .consA (.re hv2 (.load .none ty43 (.s rfl))) rfl ?_
  refine .consW (.alloc zo43 rfl) rfl rfl ?_
  refine .consN (.store ty43 rfl rfl (.s rfl)) rfl ?_
  refine .nil ?_
  refine .then ?_
  refine .freeze (t := 5) rfl rfl SubB.nil rfl ?_
  refine .seq ?_
  refine .region [] mixed (by kernel_rfl) ?_
  refine .cons (.fieldAddr .none fd25_0 hfd25_0 (.s rfl)) rfl ?_
  refine .cons (.load .none ty22 (.s rfl)) rfl ?_
  refine .cons (.move .none (.s rfl)) rfl ?_
  obtain ⟨hn3, h⟩ := need_some h
  refine .cons (.slice .none sl22 ty43 (.s rfl) rfl (.s rfl) (fun _ => hn3)) rfl ?_
  refine .cons (.makeFunc (ι := DNode × Bool) (pre := fun i => (fun x0 => ref_nodeError_1 x0 v1) i.1 = some i.2) (Ss := fun i => [rep i.1]) (S := fun i => rep i.2) .none fnok68 (fun i h => ref_nodeError_1_ok h) (.cons (.s rfl) .nil)) rfl ?_
  obtain ⟨twice1, hv4, h⟩ := bind_some h
  refine .cons (.call .none (slices_ContainsFunc_Node_ok hv4) (.cons (.s rfl) (.cons (.s rfl) .nil))) rfl ?_
  refine .cons (.assign .none (.s rfl)) rfl ?_
  refine .nil ?_
  refine .then ?_
  refine .seq ?_
  refine .seq ?_
  refine .region [] mixed (by kernel_rfl) ?_
  refine .cons (.fieldAddr .none fd43_0 hfd43_0 (.s rfl)) rfl ?_
  refine .cons (.load .none ty9 (.s rfl)) rfl ?_
  obtain ⟨r1, hv5, h⟩ := bind_some h
  refine .cons (.call .none (ref_NameOf_ok hv5) (.cons (.s rfl) .nil)) rfl ?_
  refine .cons (.not .none (.s rfl)) rfl ?_
  obtain ⟨r2, hv6, h⟩ := bind_some h
  refine .cons (.call .none (ref_When_ok hv6) (.cons (.s rfl) (.cons (.int (by decide)) .nil))) rfl ?_
  refine .cons (.move .none (.s rfl)) rfl ?_
  obtain ⟨r3, hv7, h⟩ := bind_some h
  refine .cons (.call .none (ref_When_ok hv7) (.cons (.s rfl) (.cons (.int (by decide)) .nil))) rfl ?_
  refine .cons (.fieldAddr .none fd43_1 hfd43_1 (.s rfl)) rfl ?_
  refine .cons (.load .none ty3 (.s rfl)) rfl ?_
  obtain ⟨r4, hv8, h⟩ := bind_some h
  refine .cons (.call .none (ref_In_ok hv8) (.cons (.s rfl) (.cons (.int (by decide)) (.cons (.int (by decide)) .nil)))) rfl ?_
  refine .cons (.not .none (.s rfl)) rfl ?_
  obtain ⟨r5, hv9, h⟩ := bind_some h
  refine .cons (.call .none (ref_When_ok hv9) (.cons (.s rfl) (.cons (.int (by decide)) .nil))) rfl ?_
  refine .cons (.buildSlice (xs := [_, _, _]) .none sl136 ty26 hz26 (.cons (.s rfl) (.cons (.s rfl) (.cons (.s rfl) .nil))) rfl (by decide)) rfl ?_
  obtain ⟨e1, hv10, h⟩ := bind_some h
  refine .cons (.call .none (ref_First_ok hv10) (.cons (.s rfl) .nil)) rfl ?_
  refine .cons (.assign .none (.s rfl)) rfl ?_
  refine .nil ?_
  refine .then ?_
  refine .seq ?_
  refine .region [] mixed (by kernel_rfl) ?_
  refine .cons (.move .none (.s rfl)) rfl ?_
  refine .cons (.neI .none (.s rfl) (.int (by decide))) rfl ?_
  refine .nil ?_
  refine .then ?_
  refine .cond (t := 35) rfl trivial (fun hb11 => ?_) (fun hb11 => ?_)
  · replace h := bif_t h hb11
    refine .seq ?_
    refine .region [] mixed (by kernel_rfl) ?_
    refine .cons (.move .none (.s rfl)) rfl ?_
    refine .cons (.assign .none (.s rfl)) rfl ?_
    refine .nil ?_
    refine .then ?_
    refine .ret ?_
    refine .thenRet ?_
    obtain rfl := some_eq h
    exact Ends.ret1 (.inl rfl) Tryd.results27 (ResOK.tmp rfl trivial Imp.refl)
  · replace h := bif_f h hb11
    refine .skip ?_
    refine .then ?_
    refine .seq ?_
    refine .region [] mixed (by kernel_rfl) ?_
    refine .cons (.fieldAddr .none fd43_2 hfd43_2 (.s rfl)) rfl ?_
    refine .cons (.load .none ty41 (.s rfl)) rfl ?_
    refine .cons (.buildF (y := (⟨(0 : Int), (0 : Int), (0 : Int), (0 : Int)⟩ : Box)) .none bu41 zc41 rfl .nil .nil) rfl ?_
    refine .cons (.neS .none eq41 (.s rfl) (.s rfl)) rfl ?_
    obtain ⟨box1, hv12, h⟩ := bind_some h
    refine .cons (.call .none (ref_When_ok hv12) (.cons (.s rfl) (.cons (.int (by decide)) .nil))) rfl ?_
    refine .cons (.assign .none (.s rfl)) rfl ?_
    refine .nil ?_
    refine .then ?_
    refine .seq ?_
    refine .seq ?_
    refine .region [] mixed (by kernel_rfl) ?_
    refine .cons (.fieldAddr .none fd43_1 hfd43_1 (.s rfl)) rfl ?_
    refine .cons (.load .none ty3 (.s rfl)) rfl ?_
    refine .cons (.neI .none (.s rfl) (.int (by decide))) rfl ?_
    refine .nil ?_
    refine .then ?_
    obtain ⟨j_13, h, hK13⟩ := bind_some h
    refine .thenJ (ι := Int) (fun j_13 => [(8, ⟨True, rep j_13⟩)]) (fun j_13 => []) (fun s => j_13 = s) (.cons (t := 5) rfl Sub.nil) SubB.nil ?_ (fun j_13' hj13 => ?_)
    · skip
      refine .cond (t := 44) rfl trivial (fun hb14 => ?_) (fun hb14 => ?_)
      · replace h := bif_t h hb14
        refine .region [] mixed (by kernel_rfl) ?_
        refine .cons (.fieldAddr .none fd43_2 hfd43_2 (.s rfl)) rfl ?_
        refine .cons (.load .none ty41 (.s rfl)) rfl ?_
        obtain ⟨box2, hv15, h⟩ := bind_some h
        refine .cons (.call .none (ref_BoxError_ok hv15) (.cons (.s rfl) .nil)) rfl ?_
        refine .cons (.assign .none (.s rfl)) rfl ?_
        refine .nil ?_
        exact Ends.join _ (some_eq h) (.cons (t := 8) rfl (.cons (t := 5) rfl Sub.nil)) SubB.nil
      · replace h := bif_f h hb14
        refine .skip ?_
        exact Ends.join _ (some_eq h) (.cons (t := 8) rfl (.cons (t := 5) rfl Sub.nil)) SubB.nil
    · subst hj13; have h := hK13; clear hK13
      refine .seq ?_
      refine .region [] mixed (by kernel_rfl) ?_
      refine .cons (.move .none (.s rfl)) rfl ?_
      refine .cons (.fieldAddr .none fd43_3 hfd43_3 (.s rfl)) rfl ?_
      refine .cons (.load .none ty9 (.s rfl)) rfl ?_
      obtain ⟨r6, hv16, h⟩ := bind_some h
      refine .cons (.call .none (ref_TextError_ok hv16) (.cons (.s rfl) .nil)) rfl ?_
      refine .cons (.fieldAddr .none fd43_4 hfd43_4 (.s rfl)) rfl ?_
      refine .cons (.load .none ty9 (.s rfl)) rfl ?_
      obtain ⟨r7, hv17, h⟩ := bind_some h
      refine .cons (.call .none (ref_classError_ok hv17) (.cons (.s rfl) .nil)) rfl ?_
      refine .cons (.buildSlice (xs := [_, _, _]) .none sl136 ty26 hz26 (.cons (.s rfl) (.cons (.s rfl) (.cons (.s rfl) .nil))) rfl (by decide)) rfl ?_
      obtain ⟨r8, hv18, h⟩ := bind_some h
      refine .cons (.call .none (ref_First_ok hv18) (.cons (.s rfl) .nil)) rfl ?_
      refine .cons (.assign .none (.s rfl)) rfl ?_
      refine .nil ?_
      refine .then ?_
      refine .ret ?_
      obtain rfl := some_eq h
      exact Ends.ret1 (.inl rfl) Tryd.results27 (ResOK.tmp rfl trivial Imp.refl)

theorem ref_NodeAt_1_ok {n1 : DNode} {c0_1 : Str} {r : Bool}  (h : ref_NodeAt_1 n1 c0_1 = some r) : FSpec Tryd.prog 32 [rep n1, ref c0_1] (rep r) := by
  unfold ref_NodeAt_1 at h
  refine FSpec.intro (n := 8) fnok32 Tryd.func32 rfl Tryd.ntmps32 rfl (fun F => ?_)
  refine .seq ?_
  refine .region [] mixed (by kernel_rfl) ?_
  refine .cons (.box .none (.s rfl)) rfl ?_
  refine .cons (.assign .none .bool) rfl ?_
  refine .nil ?_
  refine .then ?_
  refine .seq ?_
  refine .region [] mixed (by kernel_rfl) ?_
  refine .cons (.fieldAddr .none fd43_0 hfd43_0 (.s rfl)) rfl ?_
  refine .cons (.load .none ty9 (.s rfl)) rfl ?_
  refine .cons (.load .none ty9 (.s rfl)) rfl ?_
  refine .cons (.eqS .none (eqAt_str Tryd.underlying9) (.s rfl) (.s rfl)) rfl ?_
  refine .cons (.assign .none (.s rfl)) rfl ?_
  refine .nil ?_
  refine .then ?_
  refine .ret ?_
  obtain rfl := some_eq h
  exact Ends.ret1 (.inl rfl) Tryd.results32 (ResOK.tmp rfl trivial Imp.refl)

theorem ref_NodeAt_ok {d1 : Doc} {id1 : Str} {r : Int}  (h : ref_NodeAt d1 id1 = some r) : FSpec Tryd.prog 9 [rep d1, rep id1] (rep r) := by
  unfold ref_NodeAt at h
  refine FSpec.intro (n := 9) fnok9 Tryd.func9 rfl Tryd.ntmps9 rfl (fun F => ?_)
  refine .seq ?_
  refine .region [] mixed (by kernel_rfl) ?_
  refine .cons (.box .none (.s rfl)) rfl ?_
  refine .cons (.box .none (.s rfl)) rfl ?_
  refine .cons (.assign .none (.int (by decide))) rfl ?_
  refine .nil ?_
  refine .then ?_
  refine .seq ?_
  refine .region [] mixed (by kernel_rfl) ?_
  refine .cons (.fieldAddr .none fd25_0 hfd25_0 (.s rfl)) rfl ?_
  refine .cons (.load .none ty22 (.s rfl)) rfl ?_
  refine .cons (.makeFunc (ι := DNode × Bool) (pre := fun i => (fun x0 => ref_NodeAt_1 x0 id1) i.1 = some i.2) (Ss := fun i => [rep i.1]) (S := fun i => rep i.2) .none fnok32 (fun i h => ref_NodeAt_1_ok h) (.cons (.s rfl) .nil)) rfl ?_
  obtain ⟨r1, hv1, h⟩ := bind_some h
  refine .cons (.call .none (slices_IndexFunc_Node_ok hv1) (.cons (.s rfl) (.cons (.s rfl) .nil))) rfl ?_
  refine .cons (.assign .none (.s rfl)) rfl ?_
  refine .nil ?_
  refine .then ?_
  refine .ret ?_
  obtain rfl := some_eq h
  exact Ends.ret1 (.inl rfl) Tryd.results9 (ResOK.tmp rfl trivial Imp.refl)

theorem ref_above_ok {d1 : Doc} {n1 : DNode} {r : (Int × Bool)}  (h : ref_above d1 n1 = some r) : FSpec Tryd.prog 73 [rep d1, rep n1] (tup [rep r.1, rep r.2]) := by
  unfold ref_above at h
  refine FSpec.intro (n := 38) fnok73 Tryd.func73 rfl Tryd.ntmps73 rfl (fun F => ?_)
  refine .seq ?_
  refine .region [] mixed (by kernel_rfl) ?_
  refine .cons (.box .none (.s rfl)) rfl ?_
  refine .cons (.box .none (.s rfl)) rfl ?_
  refine .cons (.assign .none (.int (by decide))) rfl ?_
  refine .cons (.assign .none .bool) rfl ?_
  refine .nil ?_
  refine .then ?_
  refine .seq ?_
  refine .region [] mixed (by kernel_rfl) ?_
  refine .cons (.fieldAddr .none fd43_5 hfd43_5 (.s rfl)) rfl ?_
  refine .cons (.load .none ty9 (.s rfl)) rfl ?_
  refine .cons (.assign .none (.s rfl)) rfl ?_
  refine .nil ?_
  refine .then ?_
  refine .seq ?_
  obtain ⟨o_1, h, hK1⟩ := bindR_some h
  refine .thenJ (ι := Int) (fun j_1 => [(4, ⟨True, rep j_1⟩)]) (fun j_1 => []) (fun s => o_1 = Res.nx s) Sub.nil SubB.nil ?_ (fun j_1 hj1 => ?_)
  · skip
    refine .block ?_
    refine .loopL h (fun s2_ => [(4, ⟨True, rep s2_.1⟩), (6, ⟨True, rep s2_.2⟩)]) (fun s2_ => []) (.cons (t := 4) rfl (.cons (t := 6) rfl Sub.nil)) SubB.nil (.cons (t := 2) rfl (.cons (t := 3) rfl Sub.nil)) SubB.nil (fun s2_ o_2 h hD2 => ?_)
    unfold ref_above_L1 at h
    refine .seq ?_
    refine .seq ?_
    refine .region [] mixed (by kernel_rfl) ?_
    refine .cons (.move .none (.s rfl)) rfl ?_
    refine .cons (.neS .none (eqAt_str Tryd.underlying9) (.s rfl) (.str (l := []) (by decide))) rfl ?_
    refine .nil ?_
    refine .then ?_
    refine .cond (t := 10) rfl trivial (fun hb3 => ?_) (fun hb3 => ?_)
    · replace h := bif_t h hb3
      refine .skip ?_
      refine .then ?_
      refine .block ?_
      refine .seq ?_
      refine .seq ?_
      refine .region [] mixed (by kernel_rfl) ?_
      refine .cons (.move .none (.s rfl)) rfl ?_
      refine .cons (.addW .none (.s rfl) (.int (by decide))) rfl ?_
      obtain ⟨many1, hv4, h⟩ := bnd_some h
      refine .cons (.re hv4 (.assign .none (.s rfl))) rfl ?_
      refine .nil ?_
      refine .then ?_
      refine .seq ?_
      refine .region [] mixed (by kernel_rfl) ?_
      refine .cons (.move .none (.s rfl)) rfl ?_
      refine .cons (.fieldAddr .none fd43_0 hfd43_0 (.s rfl)) rfl ?_
      refine .cons (.load .none ty9 (.s rfl)) rfl ?_
      refine .cons (.eqS .none (eqAt_str Tryd.underlying9) (.s rfl) (.s rfl)) rfl ?_
      refine .cons (.move .none (.s rfl)) rfl ?_
      refine .cons (.move (.at rfl rfl) (.s rfl)) rfl ?_
      refine .cons (.fieldAddr (.at rfl rfl) fd25_0 hfd25_0 (.s rfl)) rfl ?_
      refine .cons (.load (.at rfl rfl) ty22 (.tmp rfl id)) rfl ?_
      refine .cons (.len (.at rfl rfl) sl22 (.tmp rfl id)) rfl ?_
      refine .cons (.gt (.at rfl rfl) (.tmp rfl id) (.tmp rfl id)) rfl ?_
      refine .cons (.pickOr .none (.s rfl) (.tmp rfl id)) rfl ?_
      refine .nil ?_
      refine .then ?_
      refine .cond (t := 23) rfl trivial (fun hb5 => ?_) (fun hb5 => ?_)
      · replace h := bif_t h hb5
        refine .seq ?_
        refine .region [] mixed (by kernel_rfl) ?_
        refine .cons (.move .none (.s rfl)) rfl ?_
        refine .cons (.move .none (.s rfl)) rfl ?_
        refine .cons (.fieldAddr .none fd43_0 hfd43_0 (.s rfl)) rfl ?_
        refine .cons (.load .none ty9 (.s rfl)) rfl ?_
        refine .cons (.eqS .none (eqAt_str Tryd.underlying9) (.s rfl) (.s rfl)) rfl ?_
        refine .cons (.assign .none (.s rfl)) rfl ?_
        refine .cons (.assign .none (.s rfl)) rfl ?_
        refine .nil ?_
        refine .then ?_
        refine .ret ?_
        refine .thenRet ?_
        refine .blkRet ?_
        refine .thenRet ?_
        refine .blkRet ?_
        refine .thenRet ?_
        replace h := hD2 _ (some_eq h)
        replace h := resb_ab hK1 (some_eq h)
        obtain rfl := some_eq h
        exact Ends.ret2 (.inl rfl) Tryd.results73 (ResOK.tmp rfl trivial Imp.refl) (ResOK.tmp rfl trivial Imp.refl)
      · replace h := bif_f h hb5
        refine .skip ?_
        refine .then ?_
        refine .region [] mixed (by kernel_rfl) ?_
        refine .cons (.fieldAddr .none fd25_0 hfd25_0 (.s rfl)) rfl ?_
        refine .cons (.load .none ty22 (.s rfl)) rfl ?_
        refine .cons (.load .none ty25 (.s rfl)) rfl ?_
        refine .cons (.move .none (.s rfl)) rfl ?_
        obtain ⟨r1, hv6, h⟩ := bind_some h
        refine .cons (.call .none (ref_NodeAt_ok hv6) (.cons (.s rfl) (.cons (.s rfl) .nil))) rfl ?_
        obtain ⟨hn7, h⟩ := need_some h
        refine .cons (.indexAddr .none sl22 ty43 (.s rfl) (.s rfl) (fun _ => hn7)) rfl ?_
        refine .cons (.fieldAddr .none fd43_5 hfd43_5 (.s rfl)) rfl ?_
        refine .cons (.load .none ty9 (.s rfl)) rfl ?_
        obtain ⟨id1, hv8, h⟩ := bnd_some h
        refine .cons (.re hv8 (.assign .none (.s rfl))) rfl ?_
        refine .nil ?_
        refine .blkNormal ?_
        exact Ends.againL (some_eq h) (.cons (t := 4) rfl (.cons (t := 6) rfl (.cons (t := 2) rfl (.cons (t := 3) rfl Sub.nil)))) SubB.nil
    · replace h := bif_f h hb3
      refine .exit ?_
      refine .thenExit ?_
      refine .thenExit ?_
      refine .blkExit ?_
      replace h := hD2 _ (some_eq h)
      exact Ends.join _ (some_eq h) (.cons (t := 4) rfl Sub.nil) SubB.nil
  · have h := resb_nx hK1 hj1
    refine .seq ?_
    refine .region [] mixed (by kernel_rfl) ?_
    refine .cons (.move .none (.s rfl)) rfl ?_
    refine .cons (.assign .none (.s rfl)) rfl ?_
    refine .cons (.assign .none .bool) rfl ?_
    refine .nil ?_
    refine .then ?_
    refine .ret ?_
    obtain rfl := some_eq h
    exact Ends.ret2 (.inl rfl) Tryd.results73 (ResOK.tmp rfl trivial Imp.refl) (ResOK.tmp rfl trivial Imp.refl)

theorem ref_members_ok {d1 : Doc} {id1 : Str} {r : (List DNode)}  (h : ref_members d1 id1 = some r) : FSpec Tryd.prog 74 [rep d1, rep id1] (rep r) := by
  unfold ref_members at h
  refine FSpec.intro (n := 25) fnok74 Tryd.func74 rfl Tryd.ntmps74 rfl (fun F => ?_)
  refine .seq ?_
  refine .region [] mixed (by kernel_rfl) ?_
  refine .cons (.box .none (.s rfl)) rfl ?_
  refine .cons (.assign .none (.const (x := ([] : (List DNode))) (fun M w => ⟨_, ⟨none, 0, rfl, Nat.le_refl _, by decide, rfl⟩, rfl⟩))) rfl ?_
  refine .nil ?_
  refine .then ?_
  refine .seq ?_
  refine .region [([], [5])] mixed (by kernel_rfl) ?_
  refine .consW (.nilRow (T := 43) (α := DNode) rfl) rfl rfl ?_
  refine .nil ?_
  refine .then ?_
  refine .nameRow (t := 5) (g := 5001) rfl rfl rfl (fun s5001 => ?_)
  refine .seq ?_
  refine .seq ?_
  refine .region [] mixed (by kernel_rfl) ?_
  refine .cons (.fieldAddr .none fd25_0 hfd25_0 (.s rfl)) rfl ?_
  refine .cons (.load .none ty22 (.s rfl)) rfl ?_
  refine .cons (.len .none sl22 (.s rfl)) rfl ?_
  refine .cons (.move .none (.int (by decide))) rfl ?_
  refine .nil ?_
  refine .then ?_
  obtain ⟨j_1, h, hK1⟩ := bind_some h
  refine .thenJ (ι := (List DNode)) (fun j_1 => []) (fun j_1 => [(5, some (rowV 43 j_1))]) (fun s => j_1 = s) Sub.nil SubB.nil ?_ (fun j_1' hj1 => ?_)
  · skip
    refine .block ?_
    refine .anon (t := 5) (g := 5001) rfl rfl trivial rfl ?_
    refine .rforL h (fun p2_ => [(11, ⟨True, rep p2_.1⟩)]) (fun p2_ => [(5, some (rowV 43 p2_.2))]) (.cons (t := 11) rfl Sub.nil) (.cons (t := 5) rfl SubB.nil) (.cons (t := 1) rfl (.cons (t := 9) rfl (.cons (t := 10) rfl Sub.nil))) SubB.nil (fun p2_ o_2 h hD2 => ?_)
    refine .nameRow (t := 5) (g := 5002) rfl rfl rfl (fun s5002 => ?_)
    refine .seq ?_
    refine .region [] mixed (by kernel_rfl) ?_
    refine .cons (.lt .none (.s rfl) (.s rfl)) rfl ?_
    refine .nil ?_
    refine .then ?_
    refine .seq ?_
    refine .cond (t := 12) rfl trivial (fun hb3 => ?_) (fun hb3 => ?_)
    · replace h := bif_t h hb3
      refine .skip ?_
      refine .then ?_
      refine .seq ?_
      obtain ⟨j_4, h, hK4⟩ := bind_some h
      unfold ref_members_L1 at h
      refine .thenJ (ι := (List DNode)) (fun j_4 => []) (fun j_4 => [(5, some (rowV 43 j_4))]) (fun s => j_4 = s) (.cons (t := 1) rfl (.cons (t := 9) rfl (.cons (t := 10) rfl (.cons (t := 11) rfl Sub.nil)))) SubB.nil ?_ (fun j_4' hj4 => ?_)
      · skip
        refine .block ?_
        refine .seq ?_
        refine .region [([], []), ([], []), ([], [7]), ([7], [7])] mixed (by kernel_rfl) ?_
        obtain ⟨hn5, h⟩ := need_some h
        refine .consA (.indexAddr .none sl22 ty43 (.s rfl) (.s rfl) (fun _ => hn5)) rfl ?_
        obtain ⟨v1, hv6, h⟩ := bnd_some h
        refine .consA (.re hv6 (.load .none ty43 (.s rfl))) rfl ?_
        refine .consW (.alloc zo43 rfl) rfl rfl ?_
        refine .consN (.store ty43 rfl rfl (.s rfl)) rfl ?_
        refine .nil ?_
        refine .then ?_
        refine .freeze (t := 7) rfl rfl (.cons (t := 5002) rfl SubB.nil) rfl ?_
        refine .seq ?_
        refine .region [] mixed (by kernel_rfl) ?_
        refine .cons (.fieldAddr .none fd43_5 hfd43_5 (.s rfl)) rfl ?_
        refine .cons (.load .none ty9 (.s rfl)) rfl ?_
        refine .cons (.move .none (.s rfl)) rfl ?_
        refine .cons (.eqS .none (eqAt_str Tryd.underlying9) (.s rfl) (.s rfl)) rfl ?_
        refine .nil ?_
        refine .then ?_
        refine .cond (t := 18) rfl trivial (fun hb7 => ?_) (fun hb7 => ?_)
        · replace h := bif_t h hb7
          refine .region [([], []), ([], []), ([], []), ([5002], [22, 5002]), ([22], [5, 22])] mixed (by kernel_rfl) ?_
          refine .consA (.move .none (.s rfl)) rfl ?_
          refine .consA (.load .none ty43 (.s rfl)) rfl ?_
          refine .consA (.buildSlice (xs := [_]) .none sl22 ty43 hz43 (.cons (.s rfl) .nil) rfl (by decide)) rfl ?_
          obtain ⟨hn8, h⟩ := need_some h
          refine .consW (.append (k := 5002) rk22 rfl (.told (.s rfl) rfl) (.s rfl) hn8) rfl rfl ?_
          refine .consW (.passRow rfl (.tmp rfl)) rfl rfl ?_
          refine .nil ?_
          refine .blkNormal ?_
          exact Ends.join _ (some_eq h) (.cons (t := 1) rfl (.cons (t := 9) rfl (.cons (t := 10) rfl (.cons (t := 11) rfl Sub.nil)))) (.cons (t := 5) rfl SubB.nil)
        · replace h := bif_f h hb7
          refine .skip ?_
          refine .blkNormal ?_
          refine .anon (t := 5) (g := 5002) rfl rfl trivial rfl ?_
          exact Ends.join _ (some_eq h) (.cons (t := 1) rfl (.cons (t := 9) rfl (.cons (t := 10) rfl (.cons (t := 11) rfl Sub.nil)))) (.cons (t := 5) rfl SubB.nil)
      · subst hj4; have h := hK4; clear hK4
        refine .nameRow (t := 5) (g := 5003) rfl rfl rfl (fun s5003 => ?_)
        refine .region [] mixed (by kernel_rfl) ?_
        refine .cons (.addW .none (.s rfl) (.int (by decide))) rfl ?_
        refine .cons (.move .none (.s rfl)) rfl ?_
        refine .nil ?_
        refine .anon (t := 5) (g := 5003) rfl rfl trivial rfl ?_
        exact Ends.againL (some_eq h) (.cons (t := 11) rfl (.cons (t := 1) rfl (.cons (t := 9) rfl (.cons (t := 10) rfl Sub.nil)))) (.cons (t := 5) rfl SubB.nil)
    · replace h := bif_f h hb3
      refine .exit ?_
      refine .thenExit ?_
      refine .thenExit ?_
      refine .blkExit ?_
      refine .anon (t := 5) (g := 5002) rfl rfl trivial rfl ?_
      replace h := hD2 _ (some_eq h)
      exact Ends.join _ (some_eq h) Sub.nil (.cons (t := 5) rfl SubB.nil)
  · subst hj1; have h := hK1; clear hK1
    refine .freezeRowA (t := 5) rfl rfl SubB.nil rfl ?_
    refine .seq ?_
    refine .region [] mixed (by kernel_rfl) ?_
    refine .cons (.move .none (.s rfl)) rfl ?_
    refine .cons (.assign .none (.s rfl)) rfl ?_
    refine .nil ?_
    refine .then ?_
    refine .ret ?_
    obtain rfl := some_eq h
    exact Ends.ret1 (.inl rfl) Tryd.results74 (ResOK.tmp rfl trivial Imp.refl)

theorem ref_treeError_ok {d1 : Doc} {r : Int}  (h : ref_treeError d1 = some r) : FSpec Tryd.prog 28 [rep d1] (rep r) := by
  unfold ref_treeError at h
  refine FSpec.intro (n := 94) fnok28 Tryd.func28 rfl Tryd.ntmps28 rfl (fun F => ?_)
  refine .seq ?_
  refine .region [] mixed (by kernel_rfl) ?_
  refine .cons (.box .none (.s rfl)) rfl ?_
  refine .cons (.assign .none (.int (by decide))) rfl ?_
  refine .nil ?_
  refine .then ?_
  refine .seq ?_
  refine .seq ?_
  refine .region [] mixed (by kernel_rfl) ?_
  refine .cons (.fieldAddr .none fd25_0 hfd25_0 (.s rfl)) rfl ?_
  refine .cons (.load .none ty22 (.s rfl)) rfl ?_
  refine .cons (.len .none sl22 (.s rfl)) rfl ?_
  refine .cons (.move .none (.int (by decide))) rfl ?_
  refine .nil ?_
  refine .then ?_
  obtain ⟨o_1, h, hK1⟩ := bindR_some h
  refine .thenJ (ι := Unit) (fun j_1 => []) (fun j_1 => []) (fun s => o_1 = Res.nx s) (.cons (t := 1) rfl Sub.nil) SubB.nil ?_ (fun j_1 hj1 => ?_)
  · skip
    refine .block ?_
    refine .rforEL h (fun p2_ => [(19, ⟨True, rep p2_.1⟩)]) (fun p2_ => []) (.cons (t := 19) rfl Sub.nil) SubB.nil (.cons (t := 1) rfl (.cons (t := 17) rfl (.cons (t := 18) rfl Sub.nil))) SubB.nil (fun p2_ o_2 h hD2 => ?_)
    refine .seq ?_
    refine .region [] mixed (by kernel_rfl) ?_
    refine .cons (.lt .none (.s rfl) (.s rfl)) rfl ?_
    refine .nil ?_
    refine .then ?_
    refine .seq ?_
    refine .cond (t := 20) rfl trivial (fun hb3 => ?_) (fun hb3 => ?_)
    · replace h := bif_t h hb3
      refine .skip ?_
      refine .then ?_
      refine .seq ?_
      obtain ⟨o_4, h, hK4⟩ := bindD_some h
      unfold ref_treeError_L1 at h
      refine .thenJ (ι := Unit) (fun j_4 => []) (fun j_4 => []) (fun s => o_4 = Res.nx s) (.cons (t := 1) rfl (.cons (t := 17) rfl (.cons (t := 18) rfl (.cons (t := 19) rfl Sub.nil)))) SubB.nil ?_ (fun j_4 hj4 => ?_)
      · skip
        refine .block ?_
        refine .seq ?_
        refine .region [([], []), ([], []), ([], [4]), ([4], [4])] mixed (by kernel_rfl) ?_
        obtain ⟨hn5, h⟩ := need_some h
        refine .consA (.indexAddr .none sl22 ty43 (.s rfl) (.s rfl) (fun _ => hn5)) rfl ?_
        obtain ⟨v1, hv6, h⟩ := bnd_some h
        refine .consA (.re hv6 (.load .none ty43 (.s rfl))) rfl ?_
        refine .consW (.alloc zo43 rfl) rfl rfl ?_
        refine .consN (.store ty43 rfl rfl (.s rfl)) rfl ?_
        refine .nil ?_
        refine .then ?_
        refine .freeze (t := 4) rfl rfl SubB.nil rfl ?_
        refine .seq ?_
        refine .region [] mixed (by kernel_rfl) ?_
        refine .cons (.load .none ty25 (.s rfl)) rfl ?_
        refine .cons (.fieldAddr .none fd43_5 hfd43_5 (.s rfl)) rfl ?_
        refine .cons (.load .none ty9 (.s rfl)) rfl ?_
        obtain ⟨k1, hv7, h⟩ := bind_some h
        refine .cons (.call .none (ref_NodeAt_ok hv7) (.cons (.s rfl) (.cons (.s rfl) .nil))) rfl ?_
        refine .cons (.assign .none (.s rfl)) rfl ?_
        refine .nil ?_
        refine .then ?_
        refine .seq ?_
        refine .region [] mixed (by kernel_rfl) ?_
        refine .cons (.fieldAddr .none fd43_5 hfd43_5 (.s rfl)) rfl ?_
        refine .cons (.load .none ty9 (.s rfl)) rfl ?_
        refine .cons (.neS .none (eqAt_str Tryd.underlying9) (.s rfl) (.str (l := []) (by decide))) rfl ?_
        refine .cons (.move .none (.s rfl)) rfl ?_
        refine .cons (.move (.at rfl rfl) (.s rfl)) rfl ?_
        refine .cons (.lt (.at rfl rfl) (.tmp rfl id) (.int (by decide))) rfl ?_
        refine .cons (.move (.at rfl rfl) (.tmp rfl id)) rfl ?_
        refine .cons (.fieldAddr (.at rfl rfl) fd25_0 hfd25_0 (.s rfl)) rfl ?_
        refine .cons (.load (.at rfl rfl) ty22 (.tmp rfl id)) rfl ?_
        refine .cons (.move (.at rfl rfl) (.s rfl)) rfl ?_
        obtain ⟨hn8, h⟩ := need_some h
        refine .cons (.indexAddr (.at rfl rfl) sl22 ty43 (.tmp rfl id) (.tmp rfl id) (fun hg => hn8 hg.1.2 hg.2)) rfl ?_
        refine .cons (.fieldAddr (.at rfl rfl) fd43_1 hfd43_1 (.tmp rfl id)) rfl ?_
        refine .cons (.load (.at rfl rfl) ty3 (.tmp rfl id)) rfl ?_
        refine .cons (.neI (.at rfl rfl) (.tmp rfl id) (.int (by decide))) rfl ?_
        refine .cons (.pickOr (.at rfl rfl) (.tmp rfl id) (.tmp rfl id)) rfl ?_
        refine .cons (.pickAnd .none (.s rfl) (.tmp rfl id)) rfl ?_
        refine .nil ?_
        refine .then ?_
        refine .cond (t := 42) rfl trivial (fun hb9 => ?_) (fun hb9 => ?_)
        · replace h := bif_t h hb9
          refine .seq ?_
          refine .region [] mixed (by kernel_rfl) ?_
          refine .cons (.assign .none (.int (by decide))) rfl ?_
          refine .nil ?_
          refine .then ?_
          refine .ret ?_
          refine .blkRet ?_
          refine .thenRet ?_
          refine .thenRet ?_
          refine .blkRet ?_
          refine .thenRet ?_
          replace h := resd_ab hK4 (some_eq h)
          replace h := hD2 _ (some_eq h)
          replace h := resb_ab hK1 (some_eq h)
          obtain rfl := some_eq h
          exact Ends.ret1 (.inl rfl) Tryd.results28 (ResOK.tmp rfl trivial Imp.refl)
        · replace h := bif_f h hb9
          refine .skip ?_
          refine .blkNormal ?_
          exact Ends.join _ (some_eq h) (.cons (t := 1) rfl (.cons (t := 17) rfl (.cons (t := 18) rfl (.cons (t := 19) rfl Sub.nil)))) SubB.nil
      · have h := resd_nx hK4 hj4
        refine .region [] mixed (by kernel_rfl) ?_
        refine .cons (.addW .none (.s rfl) (.int (by decide))) rfl ?_
        refine .cons (.move .none (.s rfl)) rfl ?_
        refine .nil ?_
        exact Ends.againL (some_eq h) (.cons (t := 19) rfl (.cons (t := 1) rfl (.cons (t := 17) rfl (.cons (t := 18) rfl Sub.nil)))) SubB.nil
    · replace h := bif_f h hb3
      refine .exit ?_
      refine .thenExit ?_
      refine .thenExit ?_
      refine .blkExit ?_
      replace h := hD2 _ (some_eq h)
      exact Ends.join _ (some_eq h) (.cons (t := 1) rfl Sub.nil) SubB.nil
  · have h := resb_nx hK1 hj1
    refine .seq ?_
    refine .seq ?_
    refine .region [] mixed (by kernel_rfl) ?_
    refine .cons (.fieldAddr .none fd25_0 hfd25_0 (.s rfl)) rfl ?_
    refine .cons (.load .none ty22 (.s rfl)) rfl ?_
    refine .cons (.len .none sl22 (.s rfl)) rfl ?_
    refine .cons (.move .none (.int (by decide))) rfl ?_
    refine .nil ?_
    refine .then ?_
    obtain ⟨o_10, h, hK10⟩ := bindR_some h
    refine .thenJ (ι := Unit) (fun j_10 => []) (fun j_10 => []) (fun s => o_10 = Res.nx s) (.cons (t := 1) rfl Sub.nil) SubB.nil ?_ (fun j_10 hj10 => ?_)
    · skip
      refine .block ?_
      refine .rforEL h (fun p11_ => [(47, ⟨True, rep p11_.1⟩)]) (fun p11_ => []) (.cons (t := 47) rfl Sub.nil) SubB.nil (.cons (t := 1) rfl (.cons (t := 45) rfl (.cons (t := 46) rfl Sub.nil))) SubB.nil (fun p11_ o_11 h hD11 => ?_)
      refine .seq ?_
      refine .region [] mixed (by kernel_rfl) ?_
      refine .cons (.lt .none (.s rfl) (.s rfl)) rfl ?_
      refine .nil ?_
      refine .then ?_
      refine .seq ?_
      refine .cond (t := 48) rfl trivial (fun hb12 => ?_) (fun hb12 => ?_)
      · replace h := bif_t h hb12
        refine .skip ?_
        refine .then ?_
        refine .seq ?_
        obtain ⟨o_13, h, hK13⟩ := bindD_some h
        unfold ref_treeError_L2 at h
        refine .thenJ (ι := Unit) (fun j_13 => []) (fun j_13 => []) (fun s => o_13 = Res.nx s) (.cons (t := 1) rfl (.cons (t := 45) rfl (.cons (t := 46) rfl (.cons (t := 47) rfl Sub.nil)))) SubB.nil ?_ (fun j_13 hj13 => ?_)
        · skip
          refine .block ?_
          refine .seq ?_
          refine .region [([], []), ([], []), ([], [7]), ([7], [7])] mixed (by kernel_rfl) ?_
          obtain ⟨hn14, h⟩ := need_some h
          refine .consA (.indexAddr .none sl22 ty43 (.s rfl) (.s rfl) (fun _ => hn14)) rfl ?_
          obtain ⟨v2, hv15, h⟩ := bnd_some h
          refine .consA (.re hv15 (.load .none ty43 (.s rfl))) rfl ?_
          refine .consW (.alloc zo43 rfl) rfl rfl ?_
          refine .consN (.store ty43 rfl rfl (.s rfl)) rfl ?_
          refine .nil ?_
          refine .then ?_
          refine .freeze (t := 7) rfl rfl SubB.nil rfl ?_
          refine .seq ?_
          refine .region [] mixed (by kernel_rfl) ?_
          refine .cons (.load .none ty25 (.s rfl)) rfl ?_
          refine .cons (.load .none ty43 (.s rfl)) rfl ?_
          obtain ⟨r1, hv16, h⟩ := bind_some h
          refine .cons (.call .none (ref_above_ok hv16) (.cons (.s rfl) (.cons (.s rfl) .nil))) rfl ?_
          refine .cons (.move .none (.s rfl)) rfl ?_
          refine .cons (.extract .none (.s rfl) rfl) rfl ?_
          refine .cons (.extract .none (.s rfl) rfl) rfl ?_
          refine .cons (.assign .none (.s rfl)) rfl ?_
          refine .cons (.assign .none (.s rfl)) rfl ?_
          refine .nil ?_
          refine .then ?_
          refine .seq ?_
          refine .region [] mixed (by kernel_rfl) ?_
          refine .cons (.move .none (.s rfl)) rfl ?_
          refine .nil ?_
          refine .then ?_
          refine .cond (t := 57) rfl trivial (fun hb17 => ?_) (fun hb17 => ?_)
          · replace h := bif_t h hb17
            refine .seq ?_
            refine .region [] mixed (by kernel_rfl) ?_
            refine .cons (.assign .none (.int (by decide))) rfl ?_
            refine .nil ?_
            refine .then ?_
            refine .ret ?_
            refine .blkRet ?_
            refine .thenRet ?_
            refine .thenRet ?_
            refine .blkRet ?_
            refine .thenRet ?_
            replace h := resd_ab hK13 (some_eq h)
            replace h := hD11 _ (some_eq h)
            replace h := resb_ab hK10 (some_eq h)
            obtain rfl := some_eq h
            exact Ends.ret1 (.inl rfl) Tryd.results28 (ResOK.tmp rfl trivial Imp.refl)
          · replace h := bif_f h hb17
            refine .skip ?_
            refine .blkNormal ?_
            exact Ends.join _ (some_eq h) (.cons (t := 1) rfl (.cons (t := 45) rfl (.cons (t := 46) rfl (.cons (t := 47) rfl Sub.nil)))) SubB.nil
        · have h := resd_nx hK13 hj13
          refine .region [] mixed (by kernel_rfl) ?_
          refine .cons (.addW .none (.s rfl) (.int (by decide))) rfl ?_
          refine .cons (.move .none (.s rfl)) rfl ?_
          refine .nil ?_
          exact Ends.againL (some_eq h) (.cons (t := 47) rfl (.cons (t := 1) rfl (.cons (t := 45) rfl (.cons (t := 46) rfl Sub.nil)))) SubB.nil
      · replace h := bif_f h hb12
        refine .exit ?_
        refine .thenExit ?_
        refine .thenExit ?_
        refine .blkExit ?_
        replace h := hD11 _ (some_eq h)
        exact Ends.join _ (some_eq h) (.cons (t := 1) rfl Sub.nil) SubB.nil
    · have h := resb_nx hK10 hj10
      refine .seq ?_
      refine .seq ?_
      refine .region [] mixed (by kernel_rfl) ?_
      refine .cons (.fieldAddr .none fd25_0 hfd25_0 (.s rfl)) rfl ?_
      refine .cons (.load .none ty22 (.s rfl)) rfl ?_
      refine .cons (.len .none sl22 (.s rfl)) rfl ?_
      refine .cons (.move .none (.int (by decide))) rfl ?_
      refine .nil ?_
      refine .then ?_
      obtain ⟨o_18, h, hK18⟩ := bindR_some h
      refine .thenJ (ι := Unit) (fun j_18 => []) (fun j_18 => []) (fun s => o_18 = Res.nx s) (.cons (t := 1) rfl Sub.nil) SubB.nil ?_ (fun j_18 hj18 => ?_)
      · skip
        refine .block ?_
        refine .rforEL h (fun p19_ => [(62, ⟨True, rep p19_.1⟩)]) (fun p19_ => []) (.cons (t := 62) rfl Sub.nil) SubB.nil (.cons (t := 1) rfl (.cons (t := 60) rfl (.cons (t := 61) rfl Sub.nil))) SubB.nil (fun p19_ o_19 h hD19 => ?_)
        refine .seq ?_
        refine .region [] mixed (by kernel_rfl) ?_
        refine .cons (.lt .none (.s rfl) (.s rfl)) rfl ?_
        refine .nil ?_
        refine .then ?_
        refine .seq ?_
        refine .cond (t := 63) rfl trivial (fun hb20 => ?_) (fun hb20 => ?_)
        · replace h := bif_t h hb20
          refine .skip ?_
          refine .then ?_
          refine .seq ?_
          obtain ⟨o_21, h, hK21⟩ := bindD_some h
          unfold ref_treeError_L3 at h
          refine .thenJ (ι := Unit) (fun j_21 => []) (fun j_21 => []) (fun s => o_21 = Res.nx s) (.cons (t := 1) rfl (.cons (t := 60) rfl (.cons (t := 61) rfl (.cons (t := 62) rfl Sub.nil)))) SubB.nil ?_ (fun j_21 hj21 => ?_)
          · skip
            refine .block ?_
            refine .seq ?_
            refine .region [([], []), ([], []), ([], [11]), ([11], [11])] mixed (by kernel_rfl) ?_
            obtain ⟨hn22, h⟩ := need_some h
            refine .consA (.indexAddr .none sl22 ty43 (.s rfl) (.s rfl) (fun _ => hn22)) rfl ?_
            obtain ⟨v3, hv23, h⟩ := bnd_some h
            refine .consA (.re hv23 (.load .none ty43 (.s rfl))) rfl ?_
            refine .consW (.alloc zo43 rfl) rfl rfl ?_
            refine .consN (.store ty43 rfl rfl (.s rfl)) rfl ?_
            refine .nil ?_
            refine .then ?_
            refine .freeze (t := 11) rfl rfl SubB.nil rfl ?_
            refine .seq ?_
            refine .region [] mixed (by kernel_rfl) ?_
            refine .cons (.load .none ty25 (.s rfl)) rfl ?_
            refine .cons (.load .none ty43 (.s rfl)) rfl ?_
            obtain ⟨r2, hv24, h⟩ := bind_some h
            refine .cons (.call .none (ref_above_ok hv24) (.cons (.s rfl) (.cons (.s rfl) .nil))) rfl ?_
            refine .cons (.move .none (.s rfl)) rfl ?_
            refine .cons (.extract .none (.s rfl) rfl) rfl ?_
            refine .cons (.extract .none (.s rfl) rfl) rfl ?_
            refine .cons (.assign .none (.s rfl)) rfl ?_
            refine .cons (.assign .none (.s rfl)) rfl ?_
            refine .nil ?_
            refine .then ?_
            refine .seq ?_
            refine .region [] mixed (by kernel_rfl) ?_
            refine .cons (.move .none (.s rfl)) rfl ?_
            refine .cons (.gt .none (.s rfl) (.int (by decide))) rfl ?_
            refine .nil ?_
            refine .then ?_
            refine .cond (t := 73) rfl trivial (fun hb25 => ?_) (fun hb25 => ?_)
            · replace h := bif_t h hb25
              refine .seq ?_
              refine .region [] mixed (by kernel_rfl) ?_
              refine .cons (.assign .none (.int (by decide))) rfl ?_
              refine .nil ?_
              refine .then ?_
              refine .ret ?_
              refine .blkRet ?_
              refine .thenRet ?_
              refine .thenRet ?_
              refine .blkRet ?_
              refine .thenRet ?_
              replace h := resd_ab hK21 (some_eq h)
              replace h := hD19 _ (some_eq h)
              replace h := resb_ab hK18 (some_eq h)
              obtain rfl := some_eq h
              exact Ends.ret1 (.inl rfl) Tryd.results28 (ResOK.tmp rfl trivial Imp.refl)
            · replace h := bif_f h hb25
              refine .skip ?_
              refine .blkNormal ?_
              exact Ends.join _ (some_eq h) (.cons (t := 1) rfl (.cons (t := 60) rfl (.cons (t := 61) rfl (.cons (t := 62) rfl Sub.nil)))) SubB.nil
          · have h := resd_nx hK21 hj21
            refine .region [] mixed (by kernel_rfl) ?_
            refine .cons (.addW .none (.s rfl) (.int (by decide))) rfl ?_
            refine .cons (.move .none (.s rfl)) rfl ?_
            refine .nil ?_
            exact Ends.againL (some_eq h) (.cons (t := 62) rfl (.cons (t := 1) rfl (.cons (t := 60) rfl (.cons (t := 61) rfl Sub.nil)))) SubB.nil
        · replace h := bif_f h hb20
          refine .exit ?_
          refine .thenExit ?_
          refine .thenExit ?_
          refine .blkExit ?_
          replace h := hD19 _ (some_eq h)
          exact Ends.join _ (some_eq h) (.cons (t := 1) rfl Sub.nil) SubB.nil
      · have h := resb_nx hK18 hj18
        refine .seq ?_
        refine .seq ?_
        refine .region [] mixed (by kernel_rfl) ?_
        refine .cons (.fieldAddr .none fd25_0 hfd25_0 (.s rfl)) rfl ?_
        refine .cons (.load .none ty22 (.s rfl)) rfl ?_
        refine .cons (.len .none sl22 (.s rfl)) rfl ?_
        refine .cons (.move .none (.int (by decide))) rfl ?_
        refine .nil ?_
        refine .then ?_
        obtain ⟨o_26, h, hK26⟩ := bindR_some h
        refine .thenJ (ι := Unit) (fun j_26 => []) (fun j_26 => []) (fun s => o_26 = Res.nx s) Sub.nil SubB.nil ?_ (fun j_26 hj26 => ?_)
        · skip
          refine .block ?_
          refine .rforEL h (fun p27_ => [(78, ⟨True, rep p27_.1⟩)]) (fun p27_ => []) (.cons (t := 78) rfl Sub.nil) SubB.nil (.cons (t := 1) rfl (.cons (t := 76) rfl (.cons (t := 77) rfl Sub.nil))) SubB.nil (fun p27_ o_27 h hD27 => ?_)
          refine .seq ?_
          refine .region [] mixed (by kernel_rfl) ?_
          refine .cons (.lt .none (.s rfl) (.s rfl)) rfl ?_
          refine .nil ?_
          refine .then ?_
          refine .seq ?_
          refine .cond (t := 79) rfl trivial (fun hb28 => ?_) (fun hb28 => ?_)
          · replace h := bif_t h hb28
            refine .skip ?_
            refine .then ?_
            refine .seq ?_
            obtain ⟨o_29, h, hK29⟩ := bindD_some h
            unfold ref_treeError_L4 at h
            refine .thenJ (ι := Unit) (fun j_29 => []) (fun j_29 => []) (fun s => o_29 = Res.nx s) (.cons (t := 1) rfl (.cons (t := 76) rfl (.cons (t := 77) rfl (.cons (t := 78) rfl Sub.nil)))) SubB.nil ?_ (fun j_29 hj29 => ?_)
            · skip
              refine .block ?_
              refine .seq ?_
              refine .region [([], []), ([], []), ([], [15]), ([15], [15])] mixed (by kernel_rfl) ?_
              obtain ⟨hn30, h⟩ := need_some h
              refine .consA (.indexAddr .none sl22 ty43 (.s rfl) (.s rfl) (fun _ => hn30)) rfl ?_
              obtain ⟨v4, hv31, h⟩ := bnd_some h
              refine .consA (.re hv31 (.load .none ty43 (.s rfl))) rfl ?_
              refine .consW (.alloc zo43 rfl) rfl rfl ?_
              refine .consN (.store ty43 rfl rfl (.s rfl)) rfl ?_
              refine .nil ?_
              refine .then ?_
              refine .freeze (t := 15) rfl rfl SubB.nil rfl ?_
              refine .seq ?_
              refine .region [] mixed (by kernel_rfl) ?_
              refine .cons (.fieldAddr .none fd43_1 hfd43_1 (.s rfl)) rfl ?_
              refine .cons (.load .none ty3 (.s rfl)) rfl ?_
              refine .cons (.eqI .none (.s rfl) (.int (by decide))) rfl ?_
              refine .cons (.move .none (.s rfl)) rfl ?_
              refine .cons (.load (.at rfl rfl) ty25 (.s rfl)) rfl ?_
              refine .cons (.fieldAddr (.at rfl rfl) fd43_0 hfd43_0 (.s rfl)) rfl ?_
              refine .cons (.load (.at rfl rfl) ty9 (.tmp rfl id)) rfl ?_
              obtain ⟨r3, hv32, h⟩ := bind_some h
              refine .cons (.callIf (.at rfl rfl) fnok74 (fun hg => ref_members_ok ((fun hg => gd_some hv32 (hg.2)) hg)) (.cons (.tmp rfl id) (.cons (.tmp rfl id) .nil)) (fun h => h)) rfl ?_
              refine .cons (.len (.at rfl rfl) sl22 (.tmp rfl id)) rfl ?_
              refine .cons (.eqI (.at rfl rfl) (.tmp rfl id) (.int (by decide))) rfl ?_
              refine .cons (.pickAnd .none (.s rfl) (.tmp rfl id)) rfl ?_
              refine .nil ?_
              refine .then ?_
              refine .cond (t := 92) rfl trivial (fun hb33 => ?_) (fun hb33 => ?_)
              · replace h := bif_t h hb33
                refine .seq ?_
                refine .region [] mixed (by kernel_rfl) ?_
                refine .cons (.assign .none (.int (by decide))) rfl ?_
                refine .nil ?_
                refine .then ?_
                refine .ret ?_
                refine .blkRet ?_
                refine .thenRet ?_
                refine .thenRet ?_
                refine .blkRet ?_
                refine .thenRet ?_
                replace h := resd_ab hK29 (some_eq h)
                replace h := hD27 _ (some_eq h)
                replace h := resb_ab hK26 (some_eq h)
                obtain rfl := some_eq h
                exact Ends.ret1 (.inl rfl) Tryd.results28 (ResOK.tmp rfl trivial Imp.refl)
              · replace h := bif_f h hb33
                refine .skip ?_
                refine .blkNormal ?_
                exact Ends.join _ (some_eq h) (.cons (t := 1) rfl (.cons (t := 76) rfl (.cons (t := 77) rfl (.cons (t := 78) rfl Sub.nil)))) SubB.nil
            · have h := resd_nx hK29 hj29
              refine .region [] mixed (by kernel_rfl) ?_
              refine .cons (.addW .none (.s rfl) (.int (by decide))) rfl ?_
              refine .cons (.move .none (.s rfl)) rfl ?_
              refine .nil ?_
              exact Ends.againL (some_eq h) (.cons (t := 78) rfl (.cons (t := 1) rfl (.cons (t := 76) rfl (.cons (t := 77) rfl Sub.nil)))) SubB.nil
          · replace h := bif_f h hb28
            refine .exit ?_
            refine .thenExit ?_
            refine .thenExit ?_
            refine .blkExit ?_
            replace h := hD27 _ (some_eq h)
            exact Ends.join _ (some_eq h) Sub.nil SubB.nil
        · have h := resb_nx hK26 hj26
          refine .seq ?_
          refine .region [] mixed (by kernel_rfl) ?_
          refine .cons (.assign .none (.int (by decide))) rfl ?_
          refine .nil ?_
          refine .then ?_
          refine .ret ?_
          obtain rfl := some_eq h
          exact Ends.ret1 (.inl rfl) Tryd.results28 (ResOK.tmp rfl trivial Imp.refl)

theorem ref_edgeError_1_ok {y1 : DEdge} {c0_1 : DEdge} {r : Bool}  (h : ref_edgeError_1 y1 c0_1 = some r) : FSpec Tryd.prog 76 [rep y1, ref c0_1] (rep r) := by
  unfold ref_edgeError_1 at h
  refine FSpec.intro (n := 9) fnok76 Tryd.func76 rfl Tryd.ntmps76 rfl (fun F => ?_)
  refine .seq ?_
  refine .region [] mixed (by kernel_rfl) ?_
  refine .cons (.box .none (.s rfl)) rfl ?_
  refine .cons (.assign .none .bool) rfl ?_
  refine .nil ?_
  refine .then ?_
  refine .seq ?_
  refine .region [] mixed (by kernel_rfl) ?_
  refine .cons (.fieldAddr .none fd96_0 hfd96_0 (.s rfl)) rfl ?_
  refine .cons (.load .none ty9 (.s rfl)) rfl ?_
  refine .cons (.fieldAddr .none fd96_0 hfd96_0 (.s rfl)) rfl ?_
  refine .cons (.load .none ty9 (.s rfl)) rfl ?_
  refine .cons (.eqS .none (eqAt_str Tryd.underlying9) (.s rfl) (.s rfl)) rfl ?_
  refine .cons (.assign .none (.s rfl)) rfl ?_
  refine .nil ?_
  refine .then ?_
  refine .ret ?_
  obtain rfl := some_eq h
  exact Ends.ret1 (.inl rfl) Tryd.results76 (ResOK.tmp rfl trivial Imp.refl)

theorem slices_IndexFunc_Edge_ok {s1 : (List DEdge)} {f1 : (DEdge → Option Bool)} {r : Int}  (h : slices_IndexFunc_Edge s1 f1 = some r) : FSpec Tryd.prog 107 [rep s1, fn1 Tryd.prog (rep (α := Bool)) f1] (rep r) := by
  unfold slices_IndexFunc_Edge at h
  refine FSpec.intro (n := 19) fnok107 Tryd.func107 rfl Tryd.ntmps107 rfl (fun F => ?_)
  refine .seq ?_
  refine .region [] mixed (by kernel_rfl) ?_
  refine .cons (.assign .none (.int (by decide))) rfl ?_
  refine .nil ?_
  refine .then ?_
  refine .seq ?_
  refine .seq ?_
  refine .region [] mixed (by kernel_rfl) ?_
  refine .cons (.move .none (.s rfl)) rfl ?_
  refine .cons (.len .none sl23 (.s rfl)) rfl ?_
  refine .cons (.move .none (.int (by decide))) rfl ?_
  refine .nil ?_
  refine .then ?_
  obtain ⟨o_1, h, hK1⟩ := bindR_some h
  refine .thenJ (ι := Unit) (fun j_1 => []) (fun j_1 => []) (fun s => o_1 = Res.nx s) Sub.nil SubB.nil ?_ (fun j_1 hj1 => ?_)
  · skip
    refine .block ?_
    refine .rforEL h (fun p2_ => [(8, ⟨True, rep p2_.1⟩)]) (fun p2_ => []) (.cons (t := 8) rfl Sub.nil) SubB.nil (.cons (t := 0) rfl (.cons (t := 1) rfl (.cons (t := 7) rfl Sub.nil))) SubB.nil (fun p2_ o_2 h hD2 => ?_)
    refine .seq ?_
    refine .region [] mixed (by kernel_rfl) ?_
    refine .cons (.lt .none (.s rfl) (.s rfl)) rfl ?_
    refine .nil ?_
    refine .then ?_
    refine .seq ?_
    refine .cond (t := 9) rfl trivial (fun hb3 => ?_) (fun hb3 => ?_)
    · replace h := bif_t h hb3
      refine .skip ?_
      refine .then ?_
      refine .seq ?_
      obtain ⟨o_4, h, hK4⟩ := bindD_some h
      unfold slices_IndexFunc_Edge_L1 at h
      refine .thenJ (ι := Unit) (fun j_4 => []) (fun j_4 => []) (fun s => o_4 = Res.nx s) (.cons (t := 0) rfl (.cons (t := 1) rfl (.cons (t := 7) rfl (.cons (t := 8) rfl Sub.nil)))) SubB.nil ?_ (fun j_4 hj4 => ?_)
      · skip
        refine .block ?_
        refine .seq ?_
        refine .region [] mixed (by kernel_rfl) ?_
        refine .cons (.move .none (.s rfl)) rfl ?_
        refine .cons (.assign .none (.s rfl)) rfl ?_
        refine .nil ?_
        refine .then ?_
        refine .seq ?_
        refine .region [] mixed (by kernel_rfl) ?_
        refine .cons (.move .none (.s rfl)) rfl ?_
        refine .cons (.move .none (.s rfl)) rfl ?_
        refine .cons (.move .none (.s rfl)) rfl ?_
        obtain ⟨hn5, h⟩ := need_some h
        refine .cons (.indexAddr .none sl23 ty96 (.s rfl) (.s rfl) (fun _ => hn5)) rfl ?_
        refine .cons (.load .none ty96 (.s rfl)) rfl ?_
        obtain ⟨r1, hv6, h⟩ := bind_some h
        refine .cons (.callV (gx s1 p2_.1, r1) .none (.s rfl) (fun _ => hv6) (.cons (.s rfl) .nil)) rfl ?_
        refine .nil ?_
        refine .then ?_
        refine .cond (t := 16) rfl trivial (fun hb7 => ?_) (fun hb7 => ?_)
        · replace h := bif_t h hb7
          refine .seq ?_
          refine .region [] mixed (by kernel_rfl) ?_
          refine .cons (.move .none (.s rfl)) rfl ?_
          refine .cons (.assign .none (.s rfl)) rfl ?_
          refine .nil ?_
          refine .then ?_
          refine .ret ?_
          refine .blkRet ?_
          refine .thenRet ?_
          refine .thenRet ?_
          refine .blkRet ?_
          refine .thenRet ?_
          replace h := resd_ab hK4 (some_eq h)
          replace h := hD2 _ (some_eq h)
          replace h := resb_ab hK1 (some_eq h)
          obtain rfl := some_eq h
          exact Ends.ret1 (.inl rfl) Tryd.results107 (ResOK.tmp rfl trivial Imp.refl)
        · replace h := bif_f h hb7
          refine .skip ?_
          refine .blkNormal ?_
          exact Ends.join _ (some_eq h) (.cons (t := 0) rfl (.cons (t := 1) rfl (.cons (t := 7) rfl (.cons (t := 8) rfl Sub.nil)))) SubB.nil
      · have h := resd_nx hK4 hj4
        refine .region [] mixed (by kernel_rfl) ?_
        refine .cons (.addW .none (.s rfl) (.int (by decide))) rfl ?_
        refine .cons (.move .none (.s rfl)) rfl ?_
        refine .nil ?_
        exact Ends.againL (some_eq h) (.cons (t := 8) rfl (.cons (t := 0) rfl (.cons (t := 1) rfl (.cons (t := 7) rfl Sub.nil)))) SubB.nil
    · replace h := bif_f h hb3
      refine .exit ?_
      refine .thenExit ?_
      refine .thenExit ?_
      refine .blkExit ?_
      replace h := hD2 _ (some_eq h)
      exact Ends.join _ (some_eq h) Sub.nil SubB.nil
  · have h := resb_nx hK1 hj1
    refine .seq ?_
    refine .region [] mixed (by kernel_rfl) ?_
    refine .cons (.assign .none (.int (by decide))) rfl ?_
    refine .nil ?_
    refine .then ?_
    refine .ret ?_
    obtain rfl := some_eq h
    exact Ends.ret1 (.inl rfl) Tryd.results107 (ResOK.tmp rfl trivial Imp.refl)

theorem slices_ContainsFunc_Edge_ok {s1 : (List DEdge)} {f1 : (DEdge → Option Bool)} {r : Bool}  (h : slices_ContainsFunc_Edge s1 f1 = some r) : FSpec Tryd.prog 75 [rep s1, fn1 Tryd.prog (rep (α := Bool)) f1] (rep r) := by
  unfold slices_ContainsFunc_Edge at h
  refine FSpec.intro (n := 9) fnok75 Tryd.func75 rfl Tryd.ntmps75 rfl (fun F => ?_)
  refine .seq ?_
  refine .region [] mixed (by kernel_rfl) ?_
  refine .cons (.assign .none .bool) rfl ?_
  refine .nil ?_
  refine .then ?_
  refine .seq ?_
  refine .region [] mixed (by kernel_rfl) ?_
  refine .cons (.move .none (.s rfl)) rfl ?_
  refine .cons (.move .none (.s rfl)) rfl ?_
  obtain ⟨r1, hv1, h⟩ := bind_some h
  refine .cons (.call .none (slices_IndexFunc_Edge_ok hv1) (.cons (.s rfl) (.cons (.s rfl) .nil))) rfl ?_
  refine .cons (.ge .none (.s rfl) (.int (by decide))) rfl ?_
  refine .cons (.assign .none (.s rfl)) rfl ?_
  refine .nil ?_
  refine .then ?_
  refine .ret ?_
  obtain rfl := some_eq h
  exact Ends.ret1 (.inl rfl) Tryd.results75 (ResOK.tmp rfl trivial Imp.refl)

theorem ref_PortError_ok {side1 : Int} {at1 : Int} {r : Int}  (h : ref_PortError side1 at1 = some r) : FSpec Tryd.prog 77 [rep side1, rep at1] (rep r) := by
  unfold ref_PortError at h
  refine FSpec.intro (n := 14) fnok77 Tryd.func77 rfl Tryd.ntmps77 rfl (fun F => ?_)
  refine .seq ?_
  refine .region [] mixed (by kernel_rfl) ?_
  refine .cons (.assign .none (.int (by decide))) rfl ?_
  refine .nil ?_
  refine .then ?_
  refine .seq ?_
  refine .region [] mixed (by kernel_rfl) ?_
  refine .cons (.move .none (.s rfl)) rfl ?_
  obtain ⟨r1, hv1, h⟩ := bind_some h
  refine .cons (.call .none (ref_In_ok hv1) (.cons (.s rfl) (.cons (.int (by decide)) (.cons (.int (by decide)) .nil)))) rfl ?_
  refine .cons (.not .none (.s rfl)) rfl ?_
  refine .cons (.move .none (.s rfl)) rfl ?_
  refine .cons (.move (.at rfl rfl) (.s rfl)) rfl ?_
  obtain ⟨r2, hv2, h⟩ := bind_some h
  refine .cons (.callIf (.at rfl rfl) fnok45 (fun hg => ref_In_ok ((fun hg => gd_some hv2 ((notT hg.2))) hg)) (.cons (.tmp rfl id) (.cons (.int (by decide)) (.cons (.int (by decide)) .nil))) (fun h => h)) rfl ?_
  refine .cons (.not (.at rfl rfl) (.tmp rfl id)) rfl ?_
  refine .cons (.pickOr .none (.s rfl) (.tmp rfl id)) rfl ?_
  obtain ⟨r3, hv3, h⟩ := bind_some h
  refine .cons (.call .none (ref_When_ok hv3) (.cons (.s rfl) (.cons (.int (by decide)) .nil))) rfl ?_
  refine .cons (.assign .none (.s rfl)) rfl ?_
  refine .nil ?_
  refine .then ?_
  refine .ret ?_
  obtain rfl := some_eq h
  exact Ends.ret1 (.inl rfl) Tryd.results77 (ResOK.tmp rfl trivial Imp.refl)

theorem ref_PointsError_ok {l1 : (List Point)} {r : Int}  (h : ref_PointsError l1 = some r) : FSpec Tryd.prog 78 [rep l1] (rep r) := by
  unfold ref_PointsError at h
  refine FSpec.intro (n := 21) fnok78 Tryd.func78 rfl Tryd.ntmps78 rfl (fun F => ?_)
  refine .seq ?_
  refine .region [] mixed (by kernel_rfl) ?_
  refine .cons (.assign .none (.int (by decide))) rfl ?_
  refine .nil ?_
  refine .then ?_
  refine .seq ?_
  refine .seq ?_
  refine .region [] mixed (by kernel_rfl) ?_
  refine .cons (.move .none (.s rfl)) rfl ?_
  refine .cons (.len .none sl94 (.s rfl)) rfl ?_
  refine .cons (.gt .none (.s rfl) (.int (by decide))) rfl ?_
  refine .nil ?_
  refine .then ?_
  refine .cond (t := 8) rfl trivial (fun hb1 => ?_) (fun hb1 => ?_)
  · replace h := bif_t h hb1
    refine .seq ?_
    refine .region [] mixed (by kernel_rfl) ?_
    refine .cons (.assign .none (.int (by decide))) rfl ?_
    refine .nil ?_
    refine .then ?_
    refine .ret ?_
    refine .thenRet ?_
    obtain rfl := some_eq h
    exact Ends.ret1 (.inl rfl) Tryd.results78 (ResOK.tmp rfl trivial Imp.refl)
  · replace h := bif_f h hb1
    refine .skip ?_
    refine .then ?_
    refine .seq ?_
    refine .seq ?_
    refine .region [] mixed (by kernel_rfl) ?_
    refine .cons (.move .none (.s rfl)) rfl ?_
    refine .cons (.len .none sl94 (.s rfl)) rfl ?_
    refine .cons (.move .none (.int (by decide))) rfl ?_
    refine .nil ?_
    refine .then ?_
    obtain ⟨o_2, h, hK2⟩ := bindR_some h
    refine .thenJ (ι := Unit) (fun j_2 => []) (fun j_2 => []) (fun s => o_2 = Res.nx s) Sub.nil SubB.nil ?_ (fun j_2 hj2 => ?_)
    · skip
      refine .block ?_
      refine .rforEL h (fun p3_ => [(11, ⟨True, rep p3_.1⟩)]) (fun p3_ => []) (.cons (t := 11) rfl Sub.nil) SubB.nil (.cons (t := 9) rfl (.cons (t := 10) rfl Sub.nil)) SubB.nil (fun p3_ o_3 h hD3 => ?_)
      refine .seq ?_
      refine .region [] mixed (by kernel_rfl) ?_
      refine .cons (.lt .none (.s rfl) (.s rfl)) rfl ?_
      refine .nil ?_
      refine .then ?_
      refine .seq ?_
      refine .cond (t := 12) rfl trivial (fun hb4 => ?_) (fun hb4 => ?_)
      · replace h := bif_t h hb4
        refine .skip ?_
        refine .then ?_
        refine .seq ?_
        obtain ⟨o_5, h, hK5⟩ := bindD_some h
        unfold ref_PointsError_L1 at h
        refine .thenJ (ι := Unit) (fun j_5 => []) (fun j_5 => []) (fun s => o_5 = Res.nx s) (.cons (t := 9) rfl (.cons (t := 10) rfl (.cons (t := 11) rfl Sub.nil))) SubB.nil ?_ (fun j_5 hj5 => ?_)
        · skip
          refine .block ?_
          refine .seq ?_
          refine .region [([], []), ([], []), ([], [4]), ([4], [4])] mixed (by kernel_rfl) ?_
          obtain ⟨hn6, h⟩ := need_some h
          refine .consA (.indexAddr .none sl94 ty118 (.s rfl) (.s rfl) (fun _ => hn6)) rfl ?_
          obtain ⟨v1, hv7, h⟩ := bnd_some h
          refine .consA (.re hv7 (.load .none ty118 (.s rfl))) rfl ?_
          refine .consW (.alloc zo118 rfl) rfl rfl ?_
          refine .consN (.store ty118 rfl rfl (.s rfl)) rfl ?_
          refine .nil ?_
          refine .then ?_
          refine .freeze (t := 4) rfl rfl SubB.nil rfl ?_
          refine .seq ?_
          refine .region [] mixed (by kernel_rfl) ?_
          refine .cons (.load .none ty118 (.s rfl)) rfl ?_
          obtain ⟨e1, hv8, h⟩ := bind_some h
          refine .cons (.call .none (ref_PointError_ok hv8) (.cons (.s rfl) .nil)) rfl ?_
          refine .cons (.assign .none (.s rfl)) rfl ?_
          refine .nil ?_
          refine .then ?_
          refine .seq ?_
          refine .region [] mixed (by kernel_rfl) ?_
          refine .cons (.move .none (.s rfl)) rfl ?_
          refine .cons (.neI .none (.s rfl) (.int (by decide))) rfl ?_
          refine .nil ?_
          refine .then ?_
          refine .cond (t := 18) rfl trivial (fun hb9 => ?_) (fun hb9 => ?_)
          · replace h := bif_t h hb9
            refine .seq ?_
            refine .region [] mixed (by kernel_rfl) ?_
            refine .cons (.move .none (.s rfl)) rfl ?_
            refine .cons (.assign .none (.s rfl)) rfl ?_
            refine .nil ?_
            refine .then ?_
            refine .ret ?_
            refine .blkRet ?_
            refine .thenRet ?_
            refine .thenRet ?_
            refine .blkRet ?_
            refine .thenRet ?_
            replace h := resd_ab hK5 (some_eq h)
            replace h := hD3 _ (some_eq h)
            replace h := resb_ab hK2 (some_eq h)
            obtain rfl := some_eq h
            exact Ends.ret1 (.inl rfl) Tryd.results78 (ResOK.tmp rfl trivial Imp.refl)
          · replace h := bif_f h hb9
            refine .skip ?_
            refine .blkNormal ?_
            exact Ends.join _ (some_eq h) (.cons (t := 9) rfl (.cons (t := 10) rfl (.cons (t := 11) rfl Sub.nil))) SubB.nil
        · have h := resd_nx hK5 hj5
          refine .region [] mixed (by kernel_rfl) ?_
          refine .cons (.addW .none (.s rfl) (.int (by decide))) rfl ?_
          refine .cons (.move .none (.s rfl)) rfl ?_
          refine .nil ?_
          exact Ends.againL (some_eq h) (.cons (t := 11) rfl (.cons (t := 9) rfl (.cons (t := 10) rfl Sub.nil))) SubB.nil
      · replace h := bif_f h hb4
        refine .exit ?_
        refine .thenExit ?_
        refine .thenExit ?_
        refine .blkExit ?_
        replace h := hD3 _ (some_eq h)
        exact Ends.join _ (some_eq h) Sub.nil SubB.nil
    · have h := resb_nx hK2 hj2
      refine .seq ?_
      refine .region [] mixed (by kernel_rfl) ?_
      refine .cons (.assign .none (.int (by decide))) rfl ?_
      refine .nil ?_
      refine .then ?_
      refine .ret ?_
      obtain rfl := some_eq h
      exact Ends.ret1 (.inl rfl) Tryd.results78 (ResOK.tmp rfl trivial Imp.refl)

theorem ref_edgeError_ok {d1 : Doc} {i1 : Int} {r : Int}  (h : ref_edgeError d1 i1 = some r) : FSpec Tryd.prog 29 [rep d1, rep i1] (rep r) := by
  unfold ref_edgeError at h
  refine FSpec.intro (n := 92) fnok29 Tryd.func29 rfl Tryd.ntmps29 rfl (fun F => ?_)
  refine .seq ?_
  refine .region [] mixed (by kernel_rfl) ?_
  refine .cons (.box .none (.s rfl)) rfl ?_
  refine .cons (.assign .none (.int (by decide))) rfl ?_
  refine .nil ?_
  refine .then ?_
  refine .seq ?_
  refine .region [([], []), ([], []), ([], []), ([], []), ([], []), ([], [5]), ([5], [5])] mixed (by kernel_rfl) ?_
  refine .consA (.fieldAddr .none fd25_1 hfd25_1 (.s rfl)) rfl ?_
  refine .consA (.load .none ty23 (.s rfl)) rfl ?_
  refine .consA (.move .none (.s rfl)) rfl ?_
  obtain ⟨hn1, h⟩ := need_some h
  refine .consA (.indexAddr .none sl23 ty96 (.s rfl) (.s rfl) (fun _ => hn1)) rfl ?_
  obtain ⟨v1, hv2, h⟩ := bnd_some h
  refine .consA (.re hv2 (.load .none ty96 (.s rfl))) rfl ?_
  refine .consW (.alloc zo96 rfl) rfl rfl ?_
  refine .consN (.store ty96 rfl rfl (.s rfl)) rfl ?_
  refine .nil ?_
  refine .then ?_
  refine .freeze (t := 5) rfl rfl SubB.nil rfl ?_
  refine .seq ?_
  refine .region [] mixed (by kernel_rfl) ?_
  refine .cons (.load .none ty25 (.s rfl)) rfl ?_
  refine .cons (.fieldAddr .none fd96_0 hfd96_0 (.s rfl)) rfl ?_
  refine .cons (.load .none ty9 (.s rfl)) rfl ?_
  obtain ⟨r1, hv3, h⟩ := bind_some h
  refine .cons (.call .none (ref_NodeAt_ok hv3) (.cons (.s rfl) (.cons (.s rfl) .nil))) rfl ?_
  refine .cons (.ge .none (.s rfl) (.int (by decide))) rfl ?_
  refine .cons (.move .none (.s rfl)) rfl ?_
  refine .cons (.fieldAddr (.at rfl rfl) fd25_1 hfd25_1 (.s rfl)) rfl ?_
  refine .cons (.load (.at rfl rfl) ty23 (.tmp rfl id)) rfl ?_
  refine .cons (.move (.at rfl rfl) (.s rfl)) rfl ?_
  obtain ⟨hn4, h⟩ := need_some h
  refine .cons (.slice (.at rfl rfl) sl23 ty96 (.tmp rfl id) rfl (.tmp rfl id) (fun hg => hn4 hg.2)) rfl ?_
  refine .cons (.makeFunc (ι := DEdge × Bool) (pre := fun i => (fun x0 => ref_edgeError_1 x0 v1) i.1 = some i.2) (Ss := fun i => [rep i.1]) (S := fun i => rep i.2) (.at rfl rfl) fnok76 (fun i h => ref_edgeError_1_ok h) (.cons (.s rfl) .nil)) rfl ?_
  obtain ⟨r2, hv5, h⟩ := bind_some h
  refine .cons (.callIf (.at rfl rfl) fnok75 (fun hg => slices_ContainsFunc_Edge_ok ((fun hg => gd_some hv5 ((notT hg.2))) hg)) (.cons (.tmp rfl id) (.cons (.tmp rfl id) .nil)) (fun h => h)) rfl ?_
  refine .cons (.pickOr .none (.s rfl) (.tmp rfl id)) rfl ?_
  refine .cons (.assign .none (.s rfl)) rfl ?_
  refine .nil ?_
  refine .then ?_
  refine .seq ?_
  refine .seq ?_
  refine .region [] mixed (by kernel_rfl) ?_
  refine .cons (.fieldAddr .none fd96_0 hfd96_0 (.s rfl)) rfl ?_
  refine .cons (.load .none ty9 (.s rfl)) rfl ?_
  obtain ⟨r3, hv6, h⟩ := bind_some h
  refine .cons (.call .none (ref_NameOf_ok hv6) (.cons (.s rfl) .nil)) rfl ?_
  refine .cons (.not .none (.s rfl)) rfl ?_
  obtain ⟨r4, hv7, h⟩ := bind_some h
  refine .cons (.call .none (ref_When_ok hv7) (.cons (.s rfl) (.cons (.int (by decide)) .nil))) rfl ?_
  refine .cons (.move .none (.s rfl)) rfl ?_
  obtain ⟨r5, hv8, h⟩ := bind_some h
  refine .cons (.call .none (ref_When_ok hv8) (.cons (.s rfl) (.cons (.int (by decide)) .nil))) rfl ?_
  refine .cons (.buildSlice (xs := [_, _]) .none sl136 ty26 hz26 (.cons (.s rfl) (.cons (.s rfl) .nil)) rfl (by decide)) rfl ?_
  obtain ⟨e1, hv9, h⟩ := bind_some h
  refine .cons (.call .none (ref_First_ok hv9) (.cons (.s rfl) .nil)) rfl ?_
  refine .cons (.assign .none (.s rfl)) rfl ?_
  refine .nil ?_
  refine .then ?_
  refine .seq ?_
  refine .region [] mixed (by kernel_rfl) ?_
  refine .cons (.move .none (.s rfl)) rfl ?_
  refine .cons (.neI .none (.s rfl) (.int (by decide))) rfl ?_
  refine .nil ?_
  refine .then ?_
  refine .cond (t := 40) rfl trivial (fun hb10 => ?_) (fun hb10 => ?_)
  · replace h := bif_t h hb10
    refine .seq ?_
    refine .region [] mixed (by kernel_rfl) ?_
    refine .cons (.move .none (.s rfl)) rfl ?_
    refine .cons (.assign .none (.s rfl)) rfl ?_
    refine .nil ?_
    refine .then ?_
    refine .ret ?_
    refine .thenRet ?_
    obtain rfl := some_eq h
    exact Ends.ret1 (.inl rfl) Tryd.results29 (ResOK.tmp rfl trivial Imp.refl)
  · replace h := bif_f h hb10
    refine .skip ?_
    refine .then ?_
    refine .seq ?_
    refine .seq ?_
    refine .region [] mixed (by kernel_rfl) ?_
    refine .cons (.fieldAddr .none fd96_1 hfd96_1 (.s rfl)) rfl ?_
    refine .cons (.load .none ty93 (.s rfl)) rfl ?_
    refine .cons (.fieldAddr .none fd96_2 hfd96_2 (.s rfl)) rfl ?_
    refine .cons (.load .none ty93 (.s rfl)) rfl ?_
    obtain ⟨v2, hv11, h⟩ := bnd_some h
    refine .cons (.re hv11 (.buildSlice (xs := [_, _]) .none sl127 ty93 hz93 (.cons (.s rfl) (.cons (.s rfl) .nil)) rfl (by decide))) rfl ?_
    refine .cons (.len .none sl127 (.s rfl)) rfl ?_
    refine .cons (.move .none (.int (by decide))) rfl ?_
    refine .nil ?_
    refine .then ?_
    obtain ⟨o_12, h, hK12⟩ := bindR_some h
    refine .thenJ (ι := Unit) (fun j_12 => []) (fun j_12 => []) (fun s => o_12 = Res.nx s) (.cons (t := 5) rfl Sub.nil) SubB.nil ?_ (fun j_12 hj12 => ?_)
    · skip
      refine .block ?_
      refine .rforEL h (fun p13_ => [(48, ⟨True, rep p13_.1⟩)]) (fun p13_ => []) (.cons (t := 48) rfl Sub.nil) SubB.nil (.cons (t := 2) rfl (.cons (t := 5) rfl (.cons (t := 46) rfl (.cons (t := 47) rfl Sub.nil)))) SubB.nil (fun p13_ o_13 h hD13 => ?_)
      refine .seq ?_
      refine .region [] mixed (by kernel_rfl) ?_
      refine .cons (.lt .none (.s rfl) (.s rfl)) rfl ?_
      refine .nil ?_
      refine .then ?_
      refine .seq ?_
      refine .cond (t := 49) rfl trivial (fun hb14 => ?_) (fun hb14 => ?_)
      · replace h := bif_t h hb14
        refine .skip ?_
        refine .then ?_
        refine .seq ?_
        obtain ⟨o_15, h, hK15⟩ := bindD_some h
        unfold ref_edgeError_L1 at h
        refine .thenJ (ι := Unit) (fun j_15 => []) (fun j_15 => []) (fun s => o_15 = Res.nx s) (.cons (t := 2) rfl (.cons (t := 5) rfl (.cons (t := 46) rfl (.cons (t := 47) rfl (.cons (t := 48) rfl Sub.nil))))) SubB.nil ?_ (fun j_15 hj15 => ?_)
        · skip
          refine .block ?_
          refine .seq ?_
          refine .region [([], []), ([], []), ([], [9]), ([9], [9])] mixed (by kernel_rfl) ?_
          obtain ⟨hn16, h⟩ := need_some h
          refine .consA (.indexAddr .none sl127 ty93 (.s rfl) (.s rfl) (fun _ => hn16)) rfl ?_
          obtain ⟨v3, hv17, h⟩ := bnd_some h
          refine .consA (.re hv17 (.load .none ty93 (.s rfl))) rfl ?_
          refine .consW (.alloc zo93 rfl) rfl rfl ?_
          refine .consN (.store ty93 rfl rfl (.s rfl)) rfl ?_
          refine .nil ?_
          refine .then ?_
          refine .freeze (t := 9) rfl rfl SubB.nil rfl ?_
          refine .seq ?_
          refine .region [] mixed (by kernel_rfl) ?_
          refine .cons (.load .none ty25 (.s rfl)) rfl ?_
          refine .cons (.fieldAddr .none fd93_0 hfd93_0 (.s rfl)) rfl ?_
          refine .cons (.load .none ty9 (.s rfl)) rfl ?_
          obtain ⟨k1, hv18, h⟩ := bind_some h
          refine .cons (.call .none (ref_NodeAt_ok hv18) (.cons (.s rfl) (.cons (.s rfl) .nil))) rfl ?_
          refine .cons (.assign .none (.s rfl)) rfl ?_
          refine .nil ?_
          refine .then ?_
          refine .seq ?_
          refine .seq ?_
          refine .region [] mixed (by kernel_rfl) ?_
          refine .cons (.move .none (.s rfl)) rfl ?_
          refine .cons (.lt .none (.s rfl) (.int (by decide))) rfl ?_
          refine .nil ?_
          refine .then ?_
          refine .cond (t := 57) rfl trivial (fun hb19 => ?_) (fun hb19 => ?_)
          · replace h := bif_t h hb19
            refine .seq ?_
            refine .region [] mixed (by kernel_rfl) ?_
            refine .cons (.assign .none (.int (by decide))) rfl ?_
            refine .nil ?_
            refine .then ?_
            refine .ret ?_
            refine .thenRet ?_
            refine .blkRet ?_
            refine .thenRet ?_
            refine .thenRet ?_
            refine .blkRet ?_
            refine .thenRet ?_
            replace h := resd_ab hK15 (some_eq h)
            replace h := hD13 _ (some_eq h)
            replace h := resb_ab hK12 (some_eq h)
            obtain rfl := some_eq h
            exact Ends.ret1 (.inl rfl) Tryd.results29 (ResOK.tmp rfl trivial Imp.refl)
          · replace h := bif_f h hb19
            refine .skip ?_
            refine .then ?_
            refine .seq ?_
            refine .region [] mixed (by kernel_rfl) ?_
            refine .cons (.fieldAddr .none fd25_0 hfd25_0 (.s rfl)) rfl ?_
            refine .cons (.load .none ty22 (.s rfl)) rfl ?_
            refine .cons (.move .none (.s rfl)) rfl ?_
            obtain ⟨hn20, h⟩ := need_some h
            refine .cons (.indexAddr .none sl22 ty43 (.s rfl) (.s rfl) (fun _ => hn20)) rfl ?_
            refine .cons (.fieldAddr .none fd43_1 hfd43_1 (.s rfl)) rfl ?_
            refine .cons (.load .none ty3 (.s rfl)) rfl ?_
            refine .cons (.eqI .none (.s rfl) (.int (by decide))) rfl ?_
            obtain ⟨r6, hv21, h⟩ := bind_some h
            refine .cons (.call .none (ref_When_ok hv21) (.cons (.s rfl) (.cons (.int (by decide)) .nil))) rfl ?_
            refine .cons (.fieldAddr .none fd93_1 hfd93_1 (.s rfl)) rfl ?_
            refine .cons (.load .none ty3 (.s rfl)) rfl ?_
            refine .cons (.fieldAddr .none fd93_2 hfd93_2 (.s rfl)) rfl ?_
            refine .cons (.load .none ty3 (.s rfl)) rfl ?_
            obtain ⟨r7, hv22, h⟩ := bind_some h
            refine .cons (.call .none (ref_PortError_ok hv22) (.cons (.s rfl) (.cons (.s rfl) .nil))) rfl ?_
            refine .cons (.buildSlice (xs := [_, _]) .none sl136 ty26 hz26 (.cons (.s rfl) (.cons (.s rfl) .nil)) rfl (by decide)) rfl ?_
            obtain ⟨e2, hv23, h⟩ := bind_some h
            refine .cons (.call .none (ref_First_ok hv23) (.cons (.s rfl) .nil)) rfl ?_
            refine .cons (.assign .none (.s rfl)) rfl ?_
            refine .nil ?_
            refine .then ?_
            refine .seq ?_
            refine .region [] mixed (by kernel_rfl) ?_
            refine .cons (.move .none (.s rfl)) rfl ?_
            refine .cons (.neI .none (.s rfl) (.int (by decide))) rfl ?_
            refine .nil ?_
            refine .then ?_
            refine .cond (t := 74) rfl trivial (fun hb24 => ?_) (fun hb24 => ?_)
            · replace h := bif_t h hb24
              refine .seq ?_
              refine .region [] mixed (by kernel_rfl) ?_
              refine .cons (.move .none (.s rfl)) rfl ?_
              refine .cons (.assign .none (.s rfl)) rfl ?_
              refine .nil ?_
              refine .then ?_
              refine .ret ?_
              refine .blkRet ?_
              refine .thenRet ?_
              refine .thenRet ?_
              refine .blkRet ?_
              refine .thenRet ?_
              replace h := resd_ab hK15 (some_eq h)
              replace h := hD13 _ (some_eq h)
              replace h := resb_ab hK12 (some_eq h)
              obtain rfl := some_eq h
              exact Ends.ret1 (.inl rfl) Tryd.results29 (ResOK.tmp rfl trivial Imp.refl)
            · replace h := bif_f h hb24
              refine .skip ?_
              refine .blkNormal ?_
              exact Ends.join _ (some_eq h) (.cons (t := 2) rfl (.cons (t := 5) rfl (.cons (t := 46) rfl (.cons (t := 47) rfl (.cons (t := 48) rfl Sub.nil))))) SubB.nil
        · have h := resd_nx hK15 hj15
          refine .region [] mixed (by kernel_rfl) ?_
          refine .cons (.addW .none (.s rfl) (.int (by decide))) rfl ?_
          refine .cons (.move .none (.s rfl)) rfl ?_
          refine .nil ?_
          exact Ends.againL (some_eq h) (.cons (t := 48) rfl (.cons (t := 2) rfl (.cons (t := 5) rfl (.cons (t := 46) rfl (.cons (t := 47) rfl Sub.nil))))) SubB.nil
      · replace h := bif_f h hb14
        refine .exit ?_
        refine .thenExit ?_
        refine .thenExit ?_
        refine .blkExit ?_
        replace h := hD13 _ (some_eq h)
        exact Ends.join _ (some_eq h) (.cons (t := 5) rfl Sub.nil) SubB.nil
    · have h := resb_nx hK12 hj12
      refine .seq ?_
      refine .seq ?_
      refine .region [] mixed (by kernel_rfl) ?_
      refine .cons (.fieldAddr .none fd96_3 hfd96_3 (.s rfl)) rfl ?_
      refine .cons (.load .none ty94 (.s rfl)) rfl ?_
      refine .cons (.len .none sl94 (.s rfl)) rfl ?_
      refine .cons (.gt .none (.s rfl) (.int (by decide))) rfl ?_
      refine .nil ?_
      refine .then ?_
      refine .cond (t := 80) rfl trivial (fun hb25 => ?_) (fun hb25 => ?_)
      · replace h := bif_t h hb25
        refine .seq ?_
        refine .region [] mixed (by kernel_rfl) ?_
        refine .cons (.assign .none (.int (by decide))) rfl ?_
        refine .nil ?_
        refine .then ?_
        refine .ret ?_
        refine .thenRet ?_
        obtain rfl := some_eq h
        exact Ends.ret1 (.inl rfl) Tryd.results29 (ResOK.tmp rfl trivial Imp.refl)
      · replace h := bif_f h hb25
        refine .skip ?_
        refine .then ?_
        refine .seq ?_
        refine .region [] mixed (by kernel_rfl) ?_
        refine .cons (.fieldAddr .none fd96_3 hfd96_3 (.s rfl)) rfl ?_
        refine .cons (.load .none ty94 (.s rfl)) rfl ?_
        obtain ⟨r8, hv26, h⟩ := bind_some h
        refine .cons (.call .none (ref_PointsError_ok hv26) (.cons (.s rfl) .nil)) rfl ?_
        refine .cons (.fieldAddr .none fd96_4 hfd96_4 (.s rfl)) rfl ?_
        refine .cons (.load .none ty9 (.s rfl)) rfl ?_
        obtain ⟨r9, hv27, h⟩ := bind_some h
        refine .cons (.call .none (ref_TextError_ok hv27) (.cons (.s rfl) .nil)) rfl ?_
        refine .cons (.fieldAddr .none fd96_5 hfd96_5 (.s rfl)) rfl ?_
        refine .cons (.load .none ty9 (.s rfl)) rfl ?_
        obtain ⟨r10, hv28, h⟩ := bind_some h
        refine .cons (.call .none (ref_classError_ok hv28) (.cons (.s rfl) .nil)) rfl ?_
        refine .cons (.buildSlice (xs := [_, _, _]) .none sl136 ty26 hz26 (.cons (.s rfl) (.cons (.s rfl) (.cons (.s rfl) .nil))) rfl (by decide)) rfl ?_
        obtain ⟨r11, hv29, h⟩ := bind_some h
        refine .cons (.call .none (ref_First_ok hv29) (.cons (.s rfl) .nil)) rfl ?_
        refine .cons (.assign .none (.s rfl)) rfl ?_
        refine .nil ?_
        refine .then ?_
        refine .ret ?_
        obtain rfl := some_eq h
        exact Ends.ret1 (.inl rfl) Tryd.results29 (ResOK.tmp rfl trivial Imp.refl)

theorem ref_HullOf_ok {l1 : (List Box)} {r : (Box × Int)}  (h : ref_HullOf l1 = some r) : FSpec Tryd.prog 79 [rep l1] (tup [rep r.1, rep r.2]) := by
  unfold ref_HullOf at h
  refine FSpec.intro (n := 79) fnok79 Tryd.func79 rfl Tryd.ntmps79 rfl (fun F => ?_)
  refine .seq ?_
  refine .region [([], [2]), ([], [])] mixed (by kernel_rfl) ?_
  refine .consW (.alloc zo41 rfl) rfl rfl ?_
  refine .consA (.assign .none (.int (by decide))) rfl ?_
  refine .nil ?_
  refine .then ?_
  obtain ⟨v1, hv1, h⟩ := bnd_some h
  refine .reB (t := 2) rfl (congrArg (cont 41) hv1) ?_
  refine .nameBox (t := 2) (g := 5001) rfl rfl (fun m5001 => ?_)
  refine .seq ?_
  refine .seq ?_
  refine .region [] mixed (by kernel_rfl) ?_
  refine .cons (.move .none (.s rfl)) rfl ?_
  refine .cons (.len .none sl51 (.s rfl)) rfl ?_
  refine .cons (.eqI .none (.s rfl) (.int (by decide))) rfl ?_
  refine .nil ?_
  refine .then ?_
  refine .cond (t := 12) rfl trivial (fun hb2 => ?_) (fun hb2 => ?_)
  · replace h := bif_t h hb2
    refine .seq ?_
    refine .region [([], []), ([5001], [5001]), ([], [])] mixed (by kernel_rfl) ?_
    obtain ⟨v2, hv3, h⟩ := bnd_some h
    refine .consA (.re hv3 (.buildF (y := (⟨(0 : Int), (0 : Int), (0 : Int), (0 : Int)⟩ : Box)) .none bu41 zc41 rfl .nil .nil)) rfl ?_
    refine .consN (.storeAt0 (g := 5001) ty41 rfl (.s rfl) (.s rfl)) rfl ?_
    refine .consA (.assign .none (.int (by decide))) rfl ?_
    refine .nil ?_
    refine .then ?_
    refine .freezeBox (g := 5001) (ts := [2]) rfl (.cons (t := 2) rfl trivial .nil) SubB.nil rfl ?_
    refine .ret ?_
    refine .thenRet ?_
    obtain rfl := some_eq h
    exact Ends.ret2 (.inl rfl) Tryd.results79 (ResOK.cellR ty41 rfl trivial Imp.refl) (ResOK.tmp rfl trivial Imp.refl)
  · replace h := bif_f h hb2
    refine .skip ?_
    refine .then ?_
    refine .seq ?_
    refine .region [] mixed (by kernel_rfl) ?_
    refine .cons (.move .none (.s rfl)) rfl ?_
    obtain ⟨hn4, h⟩ := need_some h
    refine .cons (.indexAddr .none sl51 ty41 (.s rfl) (.int (by decide)) (fun _ => hn4)) rfl ?_
    refine .cons (.fieldAddr .none fd41_0 hfd41_0 (.s rfl)) rfl ?_
    refine .cons (.load .none ty3 (.s rfl)) rfl ?_
    refine .cons (.move .none (.s rfl)) rfl ?_
    obtain ⟨hn5, h⟩ := need_some h
    refine .cons (.indexAddr .none sl51 ty41 (.s rfl) (.int (by decide)) (fun _ => hn5)) rfl ?_
    refine .cons (.fieldAddr .none fd41_1 hfd41_1 (.s rfl)) rfl ?_
    refine .cons (.load .none ty3 (.s rfl)) rfl ?_
    refine .cons (.move .none (.s rfl)) rfl ?_
    obtain ⟨hn6, h⟩ := need_some h
    refine .cons (.indexAddr .none sl51 ty41 (.s rfl) (.int (by decide)) (fun _ => hn6)) rfl ?_
    refine .cons (.fieldAddr .none fd41_0 hfd41_0 (.s rfl)) rfl ?_
    refine .cons (.load .none ty3 (.s rfl)) rfl ?_
    refine .cons (.move .none (.s rfl)) rfl ?_
    obtain ⟨hn7, h⟩ := need_some h
    refine .cons (.indexAddr .none sl51 ty41 (.s rfl) (.int (by decide)) (fun _ => hn7)) rfl ?_
    refine .cons (.fieldAddr .none fd41_1 hfd41_1 (.s rfl)) rfl ?_
    refine .cons (.load .none ty3 (.s rfl)) rfl ?_
    obtain ⟨x1, hv8, h⟩ := bnd_some h
    refine .cons (.re hv8 (.assign .none (.s rfl))) rfl ?_
    obtain ⟨y1, hv9, h⟩ := bnd_some h
    refine .cons (.re hv9 (.assign .none (.s rfl))) rfl ?_
    obtain ⟨r1, hv10, h⟩ := bnd_some h
    refine .cons (.re hv10 (.assign .none (.s rfl))) rfl ?_
    obtain ⟨d1, hv11, h⟩ := bnd_some h
    refine .cons (.re hv11 (.assign .none (.s rfl))) rfl ?_
    refine .nil ?_
    refine .then ?_
    refine .seq ?_
    refine .seq ?_
    refine .region [] mixed (by kernel_rfl) ?_
    refine .cons (.move .none (.s rfl)) rfl ?_
    refine .cons (.len .none sl51 (.s rfl)) rfl ?_
    refine .cons (.move .none (.int (by decide))) rfl ?_
    refine .nil ?_
    refine .then ?_
    obtain ⟨j_12, h, hK12⟩ := bind_some h
    refine .thenJ (ι := (Int × Int × Int × Int)) (fun j_12 => [(4, ⟨True, rep j_12.1⟩), (5, ⟨True, rep j_12.2.1⟩), (6, ⟨True, rep j_12.2.2.1⟩), (7, ⟨True, rep j_12.2.2.2⟩)]) (fun j_12 => []) (fun s => j_12 = s) (.cons (t := 2) rfl Sub.nil) (.cons (t := 5001) rfl SubB.nil) ?_ (fun j_12' hj12 => ?_)
    · skip
      refine .block ?_
      refine .rforL h (fun p13_ => [(32, ⟨True, rep p13_.1⟩), (4, ⟨True, rep p13_.2.1⟩), (5, ⟨True, rep p13_.2.2.1⟩), (6, ⟨True, rep p13_.2.2.2.1⟩), (7, ⟨True, rep p13_.2.2.2.2⟩)]) (fun p13_ => []) (.cons (t := 32) rfl (.cons (t := 4) rfl (.cons (t := 5) rfl (.cons (t := 6) rfl (.cons (t := 7) rfl Sub.nil))))) SubB.nil (.cons (t := 2) rfl (.cons (t := 30) rfl (.cons (t := 31) rfl Sub.nil))) (.cons (t := 5001) rfl SubB.nil) (fun p13_ o_13 h hD13 => ?_)
      refine .seq ?_
      refine .region [] mixed (by kernel_rfl) ?_
      refine .cons (.lt .none (.s rfl) (.s rfl)) rfl ?_
      refine .nil ?_
      refine .then ?_
      refine .seq ?_
      refine .cond (t := 33) rfl trivial (fun hb14 => ?_) (fun hb14 => ?_)
      · replace h := bif_t h hb14
        refine .skip ?_
        refine .then ?_
        refine .seq ?_
        obtain ⟨j_15, h, hK15⟩ := bind_some h
        unfold ref_HullOf_L1 at h
        refine .thenJ (ι := (Int × Int × Int × Int)) (fun j_15 => [(4, ⟨True, rep j_15.1⟩), (5, ⟨True, rep j_15.2.1⟩), (6, ⟨True, rep j_15.2.2.1⟩), (7, ⟨True, rep j_15.2.2.2⟩)]) (fun j_15 => []) (fun s => j_15 = s) (.cons (t := 2) rfl (.cons (t := 30) rfl (.cons (t := 31) rfl (.cons (t := 32) rfl Sub.nil)))) (.cons (t := 5001) rfl SubB.nil) ?_ (fun j_15' hj15 => ?_)
        · skip
          refine .block ?_
          refine .seq ?_
          refine .region [([], []), ([], []), ([], [9]), ([9], [9])] mixed (by kernel_rfl) ?_
          obtain ⟨hn16, h⟩ := need_some h
          refine .consA (.indexAddr .none sl51 ty41 (.s rfl) (.s rfl) (fun _ => hn16)) rfl ?_
          obtain ⟨v3, hv17, h⟩ := bnd_some h
          refine .consA (.re hv17 (.load .none ty41 (.s rfl))) rfl ?_
          refine .consW (.alloc zo41 rfl) rfl rfl ?_
          refine .consN (.store ty41 rfl rfl (.s rfl)) rfl ?_
          refine .nil ?_
          refine .then ?_
          refine .freeze (t := 9) rfl rfl (.cons (t := 5001) rfl SubB.nil) rfl ?_
          refine .region [] mixed (by kernel_rfl) ?_
          refine .cons (.move .none (.s rfl)) rfl ?_
          refine .cons (.fieldAddr .none fd41_0 hfd41_0 (.s rfl)) rfl ?_
          refine .cons (.load .none ty3 (.s rfl)) rfl ?_
          refine .cons (.min2 .none (.s rfl) (.s rfl)) rfl ?_
          refine .cons (.move .none (.s rfl)) rfl ?_
          refine .cons (.fieldAddr .none fd41_1 hfd41_1 (.s rfl)) rfl ?_
          refine .cons (.load .none ty3 (.s rfl)) rfl ?_
          refine .cons (.min2 .none (.s rfl) (.s rfl)) rfl ?_
          refine .cons (.move .none (.s rfl)) rfl ?_
          refine .cons (.fieldAddr .none fd41_0 hfd41_0 (.s rfl)) rfl ?_
          refine .cons (.load .none ty3 (.s rfl)) rfl ?_
          refine .cons (.fieldAddr .none fd41_2 hfd41_2 (.s rfl)) rfl ?_
          refine .cons (.load .none ty3 (.s rfl)) rfl ?_
          refine .cons (.addW .none (.s rfl) (.s rfl)) rfl ?_
          refine .cons (.max2 .none (.s rfl) (.s rfl)) rfl ?_
          refine .cons (.move .none (.s rfl)) rfl ?_
          refine .cons (.fieldAddr .none fd41_1 hfd41_1 (.s rfl)) rfl ?_
          refine .cons (.load .none ty3 (.s rfl)) rfl ?_
          refine .cons (.fieldAddr .none fd41_3 hfd41_3 (.s rfl)) rfl ?_
          refine .cons (.load .none ty3 (.s rfl)) rfl ?_
          refine .cons (.addW .none (.s rfl) (.s rfl)) rfl ?_
          refine .cons (.max2 .none (.s rfl) (.s rfl)) rfl ?_
          obtain ⟨x2, hv18, h⟩ := bnd_some h
          refine .cons (.re hv18 (.assign .none (.s rfl))) rfl ?_
          obtain ⟨y2, hv19, h⟩ := bnd_some h
          refine .cons (.re hv19 (.assign .none (.s rfl))) rfl ?_
          obtain ⟨r2, hv20, h⟩ := bnd_some h
          refine .cons (.re hv20 (.assign .none (.s rfl))) rfl ?_
          obtain ⟨d2, hv21, h⟩ := bnd_some h
          refine .cons (.re hv21 (.assign .none (.s rfl))) rfl ?_
          refine .nil ?_
          refine .blkNormal ?_
          exact Ends.join _ (some_eq h) (.cons (t := 4) rfl (.cons (t := 5) rfl (.cons (t := 6) rfl (.cons (t := 7) rfl (.cons (t := 2) rfl (.cons (t := 30) rfl (.cons (t := 31) rfl (.cons (t := 32) rfl Sub.nil)))))))) (.cons (t := 5001) rfl SubB.nil)
        · subst hj15; have h := hK15; clear hK15
          refine .region [] mixed (by kernel_rfl) ?_
          refine .cons (.addW .none (.s rfl) (.int (by decide))) rfl ?_
          refine .cons (.move .none (.s rfl)) rfl ?_
          refine .nil ?_
          exact Ends.againL (some_eq h) (.cons (t := 32) rfl (.cons (t := 4) rfl (.cons (t := 5) rfl (.cons (t := 6) rfl (.cons (t := 7) rfl (.cons (t := 2) rfl (.cons (t := 30) rfl (.cons (t := 31) rfl Sub.nil)))))))) (.cons (t := 5001) rfl SubB.nil)
      · replace h := bif_f h hb14
        refine .exit ?_
        refine .thenExit ?_
        refine .thenExit ?_
        refine .blkExit ?_
        replace h := hD13 _ (some_eq h)
        exact Ends.join _ (some_eq h) (.cons (t := 4) rfl (.cons (t := 5) rfl (.cons (t := 6) rfl (.cons (t := 7) rfl (.cons (t := 2) rfl Sub.nil))))) (.cons (t := 5001) rfl SubB.nil)
    · subst hj12; have h := hK12; clear hK12
      refine .seq ?_
      refine .seq ?_
      refine .region [] mixed (by kernel_rfl) ?_
      refine .cons (.move .none (.s rfl)) rfl ?_
      refine .cons (.move .none (.s rfl)) rfl ?_
      refine .cons (.subW .none (.s rfl) (.s rfl)) rfl ?_
      refine .cons (.gt .none (.s rfl) (.int (by decide))) rfl ?_
      refine .cons (.move .none (.s rfl)) rfl ?_
      refine .cons (.move (.at rfl rfl) (.s rfl)) rfl ?_
      refine .cons (.move (.at rfl rfl) (.s rfl)) rfl ?_
      refine .cons (.subW (.at rfl rfl) (.tmp rfl id) (.tmp rfl id)) rfl ?_
      refine .cons (.gt (.at rfl rfl) (.tmp rfl id) (.int (by decide))) rfl ?_
      refine .cons (.pickOr .none (.s rfl) (.tmp rfl id)) rfl ?_
      refine .nil ?_
      refine .then ?_
      refine .cond (t := 68) rfl trivial (fun hb22 => ?_) (fun hb22 => ?_)
      · replace h := bif_t h hb22
        refine .seq ?_
        refine .region [([], []), ([5001], [5001]), ([], [])] mixed (by kernel_rfl) ?_
        obtain ⟨v4, hv23, h⟩ := bnd_some h
        refine .consA (.re hv23 (.buildF (y := (⟨(0 : Int), (0 : Int), (0 : Int), (0 : Int)⟩ : Box)) .none bu41 zc41 rfl .nil .nil)) rfl ?_
        refine .consN (.storeAt0 (g := 5001) ty41 rfl (.s rfl) (.s rfl)) rfl ?_
        refine .consA (.assign .none (.int (by decide))) rfl ?_
        refine .nil ?_
        refine .then ?_
        refine .freezeBox (g := 5001) (ts := [2]) rfl (.cons (t := 2) rfl trivial .nil) SubB.nil rfl ?_
        refine .ret ?_
        refine .thenRet ?_
        obtain rfl := some_eq h
        exact Ends.ret2 (.inl rfl) Tryd.results79 (ResOK.cellR ty41 rfl trivial Imp.refl) (ResOK.tmp rfl trivial Imp.refl)
      · replace h := bif_f h hb22
        refine .skip ?_
        refine .then ?_
        refine .seq ?_
        refine .region [([], []), ([], []), ([], []), ([], []), ([], []), ([], []), ([], []), ([], []), ([], []), ([5001], [5001]), ([], [])] mixed (by kernel_rfl) ?_
        refine .consA (.move .none (.s rfl)) rfl ?_
        refine .consA (.move .none (.s rfl)) rfl ?_
        refine .consA (.move .none (.s rfl)) rfl ?_
        refine .consA (.move .none (.s rfl)) rfl ?_
        refine .consA (.subW .none (.s rfl) (.s rfl)) rfl ?_
        refine .consA (.move .none (.s rfl)) rfl ?_
        refine .consA (.move .none (.s rfl)) rfl ?_
        refine .consA (.subW .none (.s rfl) (.s rfl)) rfl ?_
        obtain ⟨v5, hv24, h⟩ := bnd_some h
        refine .consA (.re hv24 (.buildF (y := (⟨j_12.1, j_12.2.1, W (j_12.2.2.1 - j_12.1), W (j_12.2.2.2 - j_12.2.1)⟩ : Box)) .none bu41 zc41 rfl (.cons (.s rfl) (.cons (.s rfl) (.cons (.s rfl) (.cons (.s rfl) .nil)))) (.cons rfl sf41_0 (.cons rfl sf41_1 (.cons rfl sf41_2 (.cons rfl sf41_3 .nil)))))) rfl ?_
        refine .consN (.storeAt0 (g := 5001) ty41 rfl (.s rfl) (.s rfl)) rfl ?_
        refine .consA (.assign .none (.int (by decide))) rfl ?_
        refine .nil ?_
        refine .then ?_
        refine .freezeBox (g := 5001) (ts := [2]) rfl (.cons (t := 2) rfl trivial .nil) SubB.nil rfl ?_
        refine .ret ?_
        obtain rfl := some_eq h
        exact Ends.ret2 (.inl rfl) Tryd.results79 (ResOK.cellR ty41 rfl trivial Imp.refl) (ResOK.tmp rfl trivial Imp.refl)

theorem ref_BoxOfNode_okS {self : (Doc × Str) → Option (Box × Int)} (hself : ∀  (x : (Doc × Str)) (r : (Box × Int)), self x = some r → FSpec Tryd.prog 30 [rep x.1, rep x.2] (tup [rep r.1, rep r.2]))  {x : (Doc × Str)} {r : (Box × Int)} (h : ref_BoxOfNode_body self x = some r) : FSpec Tryd.prog 30 [rep x.1, rep x.2] (tup [rep r.1, rep r.2]) := by
  unfold ref_BoxOfNode_body at h
  refine FSpec.intro (n := 75) fnok30 Tryd.func30 rfl Tryd.ntmps30 rfl (fun F => ?_)
  refine .seq ?_
  refine .region [([], []), ([], [4]), ([], [])] mixed (by kernel_rfl) ?_
  refine .consA (.box .none (.s rfl)) rfl ?_
  refine .consW (.alloc zo41 rfl) rfl rfl ?_
  refine .consA (.assign .none (.int (by decide))) rfl ?_
  refine .nil ?_
  refine .then ?_
  obtain ⟨v1, hv1, h⟩ := bnd_some h
  refine .reB (t := 4) rfl (congrArg (cont 41) hv1) ?_
  refine .nameBox (t := 4) (g := 5001) rfl rfl (fun m5001 => ?_)
  refine .seq ?_
  refine .region [([], []), ([], []), ([], []), ([], []), ([], []), ([], []), ([], []), ([], [6]), ([6], [6])] mixed (by kernel_rfl) ?_
  refine .consA (.fieldAddr .none fd25_0 hfd25_0 (.s rfl)) rfl ?_
  refine .consA (.load .none ty22 (.s rfl)) rfl ?_
  refine .consA (.load .none ty25 (.s rfl)) rfl ?_
  refine .consA (.move .none (.s rfl)) rfl ?_
  obtain ⟨r1, hv2, h⟩ := bind_some h
  refine .consA (.call .none (ref_NodeAt_ok hv2) (.cons (.s rfl) (.cons (.s rfl) .nil))) rfl ?_
  obtain ⟨hn3, h⟩ := need_some h
  refine .consA (.indexAddr .none sl22 ty43 (.s rfl) (.s rfl) (fun _ => hn3)) rfl ?_
  obtain ⟨v2, hv4, h⟩ := bnd_some h
  refine .consA (.re hv4 (.load .none ty43 (.s rfl))) rfl ?_
  refine .consW (.alloc zo43 rfl) rfl rfl ?_
  refine .consN (.store ty43 rfl rfl (.s rfl)) rfl ?_
  refine .nil ?_
  refine .then ?_
  refine .freeze (t := 6) rfl rfl (.cons (t := 5001) rfl SubB.nil) rfl ?_
  refine .seq ?_
  refine .seq ?_
  refine .region [] mixed (by kernel_rfl) ?_
  refine .cons (.fieldAddr .none fd43_1 hfd43_1 (.s rfl)) rfl ?_
  refine .cons (.load .none ty3 (.s rfl)) rfl ?_
  refine .cons (.neI .none (.s rfl) (.int (by decide))) rfl ?_
  refine .nil ?_
  refine .then ?_
  refine .cond (t := 23) rfl trivial (fun hb5 => ?_) (fun hb5 => ?_)
  · replace h := bif_t h hb5
    refine .seq ?_
    refine .region [([], []), ([], []), ([5001], [5001]), ([], [])] mixed (by kernel_rfl) ?_
    refine .consA (.fieldAddr .none fd43_2 hfd43_2 (.s rfl)) rfl ?_
    refine .consA (.load .none ty41 (.s rfl)) rfl ?_
    refine .consN (.storeAt0 (g := 5001) ty41 rfl (.s rfl) (.s rfl)) rfl ?_
    refine .consA (.assign .none (.int (by decide))) rfl ?_
    refine .nil ?_
    refine .then ?_
    refine .freezeBox (g := 5001) (ts := [4]) rfl (.cons (t := 4) rfl trivial .nil) SubB.nil rfl ?_
    refine .ret ?_
    refine .thenRet ?_
    obtain rfl := some_eq h
    exact Ends.ret2 (.inl rfl) Tryd.results30 (ResOK.cellR ty41 rfl trivial Imp.refl) (ResOK.tmp rfl trivial Imp.refl)
  · replace h := bif_f h hb5
    refine .skip ?_
    refine .then ?_
    refine .seq ?_
    refine .region [([], [7])] mixed (by kernel_rfl) ?_
    refine .consW (.nilRow (T := 41) (α := Box) rfl) rfl rfl ?_
    refine .nil ?_
    refine .then ?_
    refine .nameRow (t := 7) (g := 5002) rfl rfl rfl (fun s5002 => ?_)
    refine .seq ?_
    refine .seq ?_
    refine .region [] mixed (by kernel_rfl) ?_
    refine .cons (.load .none ty25 (.s rfl)) rfl ?_
    refine .cons (.move .none (.s rfl)) rfl ?_
    obtain ⟨r2, hv6, h⟩ := bind_some h
    refine .cons (.call .none (ref_members_ok hv6) (.cons (.s rfl) (.cons (.s rfl) .nil))) rfl ?_
    refine .cons (.len .none sl22 (.s rfl)) rfl ?_
    refine .cons (.move .none (.int (by decide))) rfl ?_
    refine .nil ?_
    refine .then ?_
    obtain ⟨o_7, h, hK7⟩ := bindR_some h
    refine .thenJ (ι := (List Box)) (fun j_7 => []) (fun j_7 => [(7, some (rowV 41 j_7))]) (fun s => o_7 = Res.nx s) (.cons (t := 4) rfl Sub.nil) (.cons (t := 5001) rfl SubB.nil) ?_ (fun j_7 hj7 => ?_)
    · skip
      refine .block ?_
      refine .anon (t := 7) (g := 5002) rfl rfl trivial rfl ?_
      refine .rforEL h (fun p8_ => [(30, ⟨True, rep p8_.1⟩)]) (fun p8_ => [(7, some (rowV 41 p8_.2))]) (.cons (t := 30) rfl Sub.nil) (.cons (t := 7) rfl SubB.nil) (.cons (t := 2) rfl (.cons (t := 4) rfl (.cons (t := 28) rfl (.cons (t := 29) rfl Sub.nil)))) (.cons (t := 5001) rfl SubB.nil) (fun p8_ o_8 h hD8 => ?_)
      refine .nameRow (t := 7) (g := 5003) rfl rfl rfl (fun s5003 => ?_)
      refine .seq ?_
      refine .region [] mixed (by kernel_rfl) ?_
      refine .cons (.lt .none (.s rfl) (.s rfl)) rfl ?_
      refine .nil ?_
      refine .then ?_
      refine .seq ?_
      refine .cond (t := 31) rfl trivial (fun hb9 => ?_) (fun hb9 => ?_)
      · replace h := bif_t h hb9
        refine .skip ?_
        refine .then ?_
        refine .seq ?_
        obtain ⟨o_10, h, hK10⟩ := bindD_some h
        unfold ref_BoxOfNode_L1 at h
        refine .thenJ (ι := (List Box)) (fun j_10 => []) (fun j_10 => [(7, some (rowV 41 j_10))]) (fun s => o_10 = Res.nx s) (.cons (t := 2) rfl (.cons (t := 4) rfl (.cons (t := 28) rfl (.cons (t := 29) rfl (.cons (t := 30) rfl Sub.nil))))) (.cons (t := 5001) rfl SubB.nil) ?_ (fun j_10 hj10 => ?_)
        · skip
          refine .block ?_
          refine .seq ?_
          refine .region [([], []), ([], []), ([], [9]), ([9], [9])] mixed (by kernel_rfl) ?_
          obtain ⟨hn11, h⟩ := need_some h
          refine .consA (.indexAddr .none sl22 ty43 (.s rfl) (.s rfl) (fun _ => hn11)) rfl ?_
          obtain ⟨v3, hv12, h⟩ := bnd_some h
          refine .consA (.re hv12 (.load .none ty43 (.s rfl))) rfl ?_
          refine .consW (.alloc zo43 rfl) rfl rfl ?_
          refine .consN (.store ty43 rfl rfl (.s rfl)) rfl ?_
          refine .nil ?_
          refine .then ?_
          refine .freeze (t := 9) rfl rfl (.cons (t := 5001) rfl (.cons (t := 5003) rfl SubB.nil)) rfl ?_
          refine .seq ?_
          refine .region [([], []), ([], []), ([], []), ([], []), ([], []), ([], []), ([], []), ([], [10]), ([10], [10]), ([], [])] mixed (by kernel_rfl) ?_
          refine .consA (.load .none ty25 (.s rfl)) rfl ?_
          refine .consA (.fieldAddr .none fd43_0 hfd43_0 (.s rfl)) rfl ?_
          refine .consA (.load .none ty9 (.s rfl)) rfl ?_
          obtain ⟨r3, hv13, h⟩ := bind_some h
          refine .consA (.call .none (hself _ _ hv13) (.cons (.s rfl) (.cons (.s rfl) .nil))) rfl ?_
          refine .consA (.move .none (.s rfl)) rfl ?_
          refine .consA (.extract .none (.s rfl) rfl) rfl ?_
          refine .consA (.extract .none (.s rfl) rfl) rfl ?_
          refine .consW (.alloc zo41 rfl) rfl rfl ?_
          refine .consN (.store ty41 rfl rfl (.s rfl)) rfl ?_
          refine .consA (.assign .none (.s rfl)) rfl ?_
          refine .nil ?_
          refine .then ?_
          refine .freeze (t := 10) rfl rfl (.cons (t := 5001) rfl (.cons (t := 5003) rfl SubB.nil)) rfl ?_
          refine .seq ?_
          refine .seq ?_
          refine .region [] mixed (by kernel_rfl) ?_
          refine .cons (.move .none (.s rfl)) rfl ?_
          refine .cons (.neI .none (.s rfl) (.int (by decide))) rfl ?_
          refine .nil ?_
          refine .then ?_
          refine .cond (t := 42) rfl trivial (fun hb14 => ?_) (fun hb14 => ?_)
          · replace h := bif_t h hb14
            refine .seq ?_
            refine .region [([], []), ([], []), ([5001], [5001]), ([], [])] mixed (by kernel_rfl) ?_
            obtain ⟨v4, hv15, h⟩ := bnd_some h
            refine .consA (.re hv15 (.buildF (y := (⟨(0 : Int), (0 : Int), (0 : Int), (0 : Int)⟩ : Box)) .none bu41 zc41 rfl .nil .nil)) rfl ?_
            refine .consA (.move .none (.s rfl)) rfl ?_
            refine .consN (.storeAt0 (g := 5001) ty41 rfl (.s rfl) (.s rfl)) rfl ?_
            refine .consA (.assign .none (.s rfl)) rfl ?_
            refine .nil ?_
            refine .then ?_
            refine .freezeBox (g := 5001) (ts := [4]) rfl (.cons (t := 4) rfl trivial .nil) SubB.nil rfl ?_
            refine .ret ?_
            refine .thenRet ?_
            refine .blkRet ?_
            refine .thenRet ?_
            refine .thenRet ?_
            refine .blkRet ?_
            refine .thenRet ?_
            replace h := resd_ab hK10 (some_eq h)
            replace h := hD8 _ (some_eq h)
            replace h := resb_ab hK7 (some_eq h)
            obtain rfl := some_eq h
            exact Ends.ret2 (.inl rfl) Tryd.results30 (ResOK.cellR ty41 rfl trivial Imp.refl) (ResOK.tmp rfl trivial Imp.refl)
          · replace h := bif_f h hb14
            refine .skip ?_
            refine .then ?_
            refine .region [([], []), ([], []), ([], []), ([5003], [48, 5003]), ([48], [7, 48])] mixed (by kernel_rfl) ?_
            refine .consA (.move .none (.s rfl)) rfl ?_
            refine .consA (.load .none ty41 (.s rfl)) rfl ?_
            refine .consA (.buildSlice (xs := [_]) .none sl51 ty41 hz41 (.cons (.s rfl) .nil) rfl (by decide)) rfl ?_
            obtain ⟨hn16, h⟩ := need_some h
            refine .consW (.append (k := 5003) rk51 rfl (.told (.s rfl) rfl) (.s rfl) hn16) rfl rfl ?_
            refine .consW (.passRow rfl (.tmp rfl)) rfl rfl ?_
            refine .nil ?_
            refine .blkNormal ?_
            exact Ends.join _ (some_eq h) (.cons (t := 2) rfl (.cons (t := 4) rfl (.cons (t := 28) rfl (.cons (t := 29) rfl (.cons (t := 30) rfl Sub.nil))))) (.cons (t := 7) rfl (.cons (t := 5001) rfl SubB.nil))
        · have h := resd_nx hK10 hj10
          refine .nameRow (t := 7) (g := 5004) rfl rfl rfl (fun s5004 => ?_)
          refine .region [] mixed (by kernel_rfl) ?_
          refine .cons (.addW .none (.s rfl) (.int (by decide))) rfl ?_
          refine .cons (.move .none (.s rfl)) rfl ?_
          refine .nil ?_
          refine .anon (t := 7) (g := 5004) rfl rfl trivial rfl ?_
          exact Ends.againL (some_eq h) (.cons (t := 30) rfl (.cons (t := 2) rfl (.cons (t := 4) rfl (.cons (t := 28) rfl (.cons (t := 29) rfl Sub.nil))))) (.cons (t := 7) rfl (.cons (t := 5001) rfl SubB.nil))
      · replace h := bif_f h hb9
        refine .exit ?_
        refine .thenExit ?_
        refine .thenExit ?_
        refine .blkExit ?_
        refine .anon (t := 7) (g := 5003) rfl rfl trivial rfl ?_
        replace h := hD8 _ (some_eq h)
        exact Ends.join _ (some_eq h) (.cons (t := 4) rfl Sub.nil) (.cons (t := 7) rfl (.cons (t := 5001) rfl SubB.nil))
    · have h := resb_nx hK7 hj7
      refine .freezeRowA (t := 7) rfl rfl (.cons (t := 5001) rfl SubB.nil) rfl ?_
      refine .seq ?_
      refine .region [([], []), ([], []), ([], []), ([], []), ([], []), ([], [12]), ([12], [12]), ([], [])] mixed (by kernel_rfl) ?_
      refine .consA (.move .none (.s rfl)) rfl ?_
      obtain ⟨r4, hv17, h⟩ := bind_some h
      refine .consA (.call .none (ref_HullOf_ok hv17) (.cons (.s rfl) .nil)) rfl ?_
      refine .consA (.move .none (.s rfl)) rfl ?_
      refine .consA (.extract .none (.s rfl) rfl) rfl ?_
      refine .consA (.extract .none (.s rfl) rfl) rfl ?_
      refine .consW (.alloc zo41 rfl) rfl rfl ?_
      refine .consN (.store ty41 rfl rfl (.s rfl)) rfl ?_
      refine .consA (.assign .none (.s rfl)) rfl ?_
      refine .nil ?_
      refine .then ?_
      refine .nameBox (t := 12) (g := 5005) rfl rfl (fun m5005 => ?_)
      refine .seq ?_
      refine .seq ?_
      refine .region [] mixed (by kernel_rfl) ?_
      refine .cons (.move .none (.s rfl)) rfl ?_
      refine .cons (.neI .none (.s rfl) (.int (by decide))) rfl ?_
      refine .nil ?_
      refine .then ?_
      refine .cond (t := 56) rfl trivial (fun hb18 => ?_) (fun hb18 => ?_)
      · replace h := bif_t h hb18
        refine .seq ?_
        refine .region [([], []), ([], []), ([5001], [5001]), ([], [])] mixed (by kernel_rfl) ?_
        obtain ⟨v5, hv19, h⟩ := bnd_some h
        refine .consA (.re hv19 (.buildF (y := (⟨(0 : Int), (0 : Int), (0 : Int), (0 : Int)⟩ : Box)) .none bu41 zc41 rfl .nil .nil)) rfl ?_
        refine .consA (.move .none (.s rfl)) rfl ?_
        refine .consN (.storeAt0 (g := 5001) ty41 rfl (.s rfl) (.s rfl)) rfl ?_
        refine .consA (.assign .none (.s rfl)) rfl ?_
        refine .nil ?_
        refine .then ?_
        refine .freezeBox (g := 5001) (ts := [4]) rfl (.cons (t := 4) rfl trivial .nil) SubB.nil rfl ?_
        refine .ret ?_
        refine .thenRet ?_
        obtain rfl := some_eq h
        exact Ends.ret2 (.inl rfl) Tryd.results30 (ResOK.cellR ty41 rfl trivial Imp.refl) (ResOK.tmp rfl trivial Imp.refl)
      · replace h := bif_f h hb18
        refine .skip ?_
        refine .then ?_
        refine .seq ?_
        refine .region [([], []), ([5005], []), ([], []), ([], []), ([5005], []), ([], []), ([], []), ([5005], []), ([], []), ([], []), ([5005], []), ([], []), ([], []), ([5005], [5005])] mixed (by kernel_rfl) ?_
        refine .consA (.fieldPtr .none fd41_0 (.s rfl)) rfl ?_
        refine .consA (.loadAt (k := 5005) .none ty3 rfl (.s rfl) hfd41_0) rfl ?_
        refine .consA (.subW .none (.s rfl) (.int (by decide))) rfl ?_
        refine .consA (.fieldPtr .none fd41_1 (.s rfl)) rfl ?_
        refine .consA (.loadAt (k := 5005) .none ty3 rfl (.s rfl) hfd41_1) rfl ?_
        refine .consA (.subW .none (.s rfl) (.int (by decide))) rfl ?_
        refine .consA (.fieldPtr .none fd41_2 (.s rfl)) rfl ?_
        refine .consA (.loadAt (k := 5005) .none ty3 rfl (.s rfl) hfd41_2) rfl ?_
        refine .consA (.addW .none (.s rfl) (.int (by decide))) rfl ?_
        refine .consA (.fieldPtr .none fd41_3 (.s rfl)) rfl ?_
        refine .consA (.loadAt (k := 5005) .none ty3 rfl (.s rfl) hfd41_3) rfl ?_
        refine .consA (.addW .none (.s rfl) (.int (by decide))) rfl ?_
        obtain ⟨v6, hv20, h⟩ := bnd_some h
        refine .consA (.re hv20 (.buildF (y := (⟨W (r4.1.X - 10), W (r4.1.Y - 10), W (r4.1.W_ + 20), W (r4.1.H + 20)⟩ : Box)) .none bu41 zc41 rfl (.cons (.s rfl) (.cons (.s rfl) (.cons (.s rfl) (.cons (.s rfl) .nil)))) (.cons rfl sf41_0 (.cons rfl sf41_1 (.cons rfl sf41_2 (.cons rfl sf41_3 .nil)))))) rfl ?_
        refine .consN (.storeAt0 (g := 5005) ty41 rfl (.s rfl) (.s rfl)) rfl ?_
        refine .nil ?_
        refine .then ?_
        refine .freezeBox (g := 5005) (ts := [12]) rfl (.cons (t := 12) rfl trivial .nil) (.cons (t := 5001) rfl SubB.nil) rfl ?_
        refine .seq ?_
        refine .region [([], []), ([], []), ([], []), ([5001], [5001]), ([], [])] mixed (by kernel_rfl) ?_
        refine .consA (.load .none ty41 (.s rfl)) rfl ?_
        refine .consA (.load .none ty41 (.s rfl)) rfl ?_
        obtain ⟨r5, hv21, h⟩ := bind_some h
        refine .consA (.call .none (ref_BoxError_ok hv21) (.cons (.s rfl) .nil)) rfl ?_
        refine .consN (.storeAt0 (g := 5001) ty41 rfl (.s rfl) (.s rfl)) rfl ?_
        refine .consA (.assign .none (.s rfl)) rfl ?_
        refine .nil ?_
        refine .then ?_
        refine .freezeBox (g := 5001) (ts := [4]) rfl (.cons (t := 4) rfl trivial .nil) SubB.nil rfl ?_
        refine .ret ?_
        obtain rfl := some_eq h
        exact Ends.ret2 (.inl rfl) Tryd.results30 (ResOK.cellR ty41 rfl trivial Imp.refl) (ResOK.tmp rfl trivial Imp.refl)
theorem ref_BoxOfNode_okN : ∀ (k : Nat)  (x : (Doc × Str)) (r : (Box × Int)) (h : fixN ref_BoxOfNode_body k x = some r), FSpec Tryd.prog 30 [rep x.1, rep x.2] (tup [rep r.1, rep r.2])
  | 0, x, r, h => by simp [fixN] at h
  | k + 1, x, r, h => ref_BoxOfNode_okS (ref_BoxOfNode_okN k) h
theorem ref_BoxOfNode_ok {d1 : Doc} {id1 : Str} {r : (Box × Int)}  (h : ref_BoxOfNode d1 id1 = some r) : FSpec Tryd.prog 30 [rep d1, rep id1] (tup [rep r.1, rep r.2]) :=
  let ⟨k, hk⟩ := fixp_some h
  ref_BoxOfNode_okN k (d1, id1) r hk

theorem ref_DocError_ok {d1 : Doc} {r : Int}  (h : ref_DocError d1 = some r) : FSpec Tryd.prog 7 [rep d1] (rep r) := by
  unfold ref_DocError at h
  refine FSpec.intro (n := 71) fnok7 Tryd.func7 rfl Tryd.ntmps7 rfl (fun F => ?_)
  refine .seq ?_
  refine .region [] mixed (by kernel_rfl) ?_
  refine .cons (.box .none (.s rfl)) rfl ?_
  refine .cons (.assign .none (.int (by decide))) rfl ?_
  refine .nil ?_
  refine .then ?_
  refine .seq ?_
  refine .seq ?_
  refine .region [] mixed (by kernel_rfl) ?_
  refine .cons (.fieldAddr .none fd25_0 hfd25_0 (.s rfl)) rfl ?_
  refine .cons (.load .none ty22 (.s rfl)) rfl ?_
  refine .cons (.len .none sl22 (.s rfl)) rfl ?_
  refine .cons (.gt .none (.s rfl) (.int (by decide))) rfl ?_
  refine .cons (.move .none (.s rfl)) rfl ?_
  refine .cons (.fieldAddr (.at rfl rfl) fd25_1 hfd25_1 (.s rfl)) rfl ?_
  refine .cons (.load (.at rfl rfl) ty23 (.tmp rfl id)) rfl ?_
  refine .cons (.len (.at rfl rfl) sl23 (.tmp rfl id)) rfl ?_
  refine .cons (.gt (.at rfl rfl) (.tmp rfl id) (.int (by decide))) rfl ?_
  refine .cons (.pickOr .none (.s rfl) (.tmp rfl id)) rfl ?_
  refine .nil ?_
  refine .then ?_
  refine .cond (t := 21) rfl trivial (fun hb1 => ?_) (fun hb1 => ?_)
  · replace h := bif_t h hb1
    refine .seq ?_
    refine .region [] mixed (by kernel_rfl) ?_
    refine .cons (.assign .none (.int (by decide))) rfl ?_
    refine .nil ?_
    refine .then ?_
    refine .ret ?_
    refine .thenRet ?_
    obtain rfl := some_eq h
    exact Ends.ret1 (.inl rfl) Tryd.results7 (ResOK.tmp rfl trivial Imp.refl)
  · replace h := bif_f h hb1
    refine .skip ?_
    refine .then ?_
    refine .seq ?_
    refine .seq ?_
    refine .region [] mixed (by kernel_rfl) ?_
    refine .cons (.fieldAddr .none fd25_0 hfd25_0 (.s rfl)) rfl ?_
    refine .cons (.load .none ty22 (.s rfl)) rfl ?_
    refine .cons (.len .none sl22 (.s rfl)) rfl ?_
    refine .cons (.move .none (.int (by decide))) rfl ?_
    refine .nil ?_
    refine .then ?_
    obtain ⟨o_2, h, hK2⟩ := bindR_some h
    refine .thenJ (ι := Unit) (fun j_2 => []) (fun j_2 => []) (fun s => o_2 = Res.nx s) (.cons (t := 1) rfl Sub.nil) SubB.nil ?_ (fun j_2 hj2 => ?_)
    · skip
      refine .block ?_
      refine .rforEL h (fun p3_ => [(25, ⟨True, rep p3_.1⟩)]) (fun p3_ => []) (.cons (t := 25) rfl Sub.nil) SubB.nil (.cons (t := 1) rfl (.cons (t := 24) rfl Sub.nil)) SubB.nil (fun p3_ o_3 h hD3 => ?_)
      refine .seq ?_
      refine .region [] mixed (by kernel_rfl) ?_
      refine .cons (.lt .none (.s rfl) (.s rfl)) rfl ?_
      refine .nil ?_
      refine .then ?_
      refine .seq ?_
      refine .cond (t := 26) rfl trivial (fun hb4 => ?_) (fun hb4 => ?_)
      · replace h := bif_t h hb4
        refine .skip ?_
        refine .then ?_
        refine .seq ?_
        obtain ⟨o_5, h, hK5⟩ := bindD_some h
        unfold ref_DocError_L1 at h
        refine .thenJ (ι := Unit) (fun j_5 => []) (fun j_5 => []) (fun s => o_5 = Res.nx s) (.cons (t := 1) rfl (.cons (t := 24) rfl (.cons (t := 25) rfl Sub.nil))) SubB.nil ?_ (fun j_5 hj5 => ?_)
        · skip
          refine .block ?_
          refine .seq ?_
          refine .region [] mixed (by kernel_rfl) ?_
          refine .cons (.move .none (.s rfl)) rfl ?_
          refine .cons (.assign .none (.s rfl)) rfl ?_
          refine .nil ?_
          refine .then ?_
          refine .seq ?_
          refine .region [] mixed (by kernel_rfl) ?_
          refine .cons (.load .none ty25 (.s rfl)) rfl ?_
          refine .cons (.move .none (.s rfl)) rfl ?_
          obtain ⟨e1, hv6, h⟩ := bind_some h
          refine .cons (.call .none (ref_nodeError_ok hv6) (.cons (.s rfl) (.cons (.s rfl) .nil))) rfl ?_
          refine .cons (.assign .none (.s rfl)) rfl ?_
          refine .nil ?_
          refine .then ?_
          refine .seq ?_
          refine .region [] mixed (by kernel_rfl) ?_
          refine .cons (.move .none (.s rfl)) rfl ?_
          refine .cons (.neI .none (.s rfl) (.int (by decide))) rfl ?_
          refine .nil ?_
          refine .then ?_
          refine .cond (t := 32) rfl trivial (fun hb7 => ?_) (fun hb7 => ?_)
          · replace h := bif_t h hb7
            refine .seq ?_
            refine .region [] mixed (by kernel_rfl) ?_
            refine .cons (.move .none (.s rfl)) rfl ?_
            refine .cons (.assign .none (.s rfl)) rfl ?_
            refine .nil ?_
            refine .then ?_
            refine .ret ?_
            refine .blkRet ?_
            refine .thenRet ?_
            refine .thenRet ?_
            refine .blkRet ?_
            refine .thenRet ?_
            replace h := resd_ab hK5 (some_eq h)
            replace h := hD3 _ (some_eq h)
            replace h := resb_ab hK2 (some_eq h)
            obtain rfl := some_eq h
            exact Ends.ret1 (.inl rfl) Tryd.results7 (ResOK.tmp rfl trivial Imp.refl)
          · replace h := bif_f h hb7
            refine .skip ?_
            refine .blkNormal ?_
            exact Ends.join _ (some_eq h) (.cons (t := 1) rfl (.cons (t := 24) rfl (.cons (t := 25) rfl Sub.nil))) SubB.nil
        · have h := resd_nx hK5 hj5
          refine .region [] mixed (by kernel_rfl) ?_
          refine .cons (.addW .none (.s rfl) (.int (by decide))) rfl ?_
          refine .cons (.move .none (.s rfl)) rfl ?_
          refine .nil ?_
          exact Ends.againL (some_eq h) (.cons (t := 25) rfl (.cons (t := 1) rfl (.cons (t := 24) rfl Sub.nil))) SubB.nil
      · replace h := bif_f h hb4
        refine .exit ?_
        refine .thenExit ?_
        refine .thenExit ?_
        refine .blkExit ?_
        replace h := hD3 _ (some_eq h)
        exact Ends.join _ (some_eq h) (.cons (t := 1) rfl Sub.nil) SubB.nil
    · have h := resb_nx hK2 hj2
      refine .seq ?_
      refine .seq ?_
      refine .region [] mixed (by kernel_rfl) ?_
      refine .cons (.load .none ty25 (.s rfl)) rfl ?_
      obtain ⟨e2, hv8, h⟩ := bind_some h
      refine .cons (.call .none (ref_treeError_ok hv8) (.cons (.s rfl) .nil)) rfl ?_
      refine .cons (.assign .none (.s rfl)) rfl ?_
      refine .nil ?_
      refine .then ?_
      refine .seq ?_
      refine .region [] mixed (by kernel_rfl) ?_
      refine .cons (.move .none (.s rfl)) rfl ?_
      refine .cons (.neI .none (.s rfl) (.int (by decide))) rfl ?_
      refine .nil ?_
      refine .then ?_
      refine .cond (t := 38) rfl trivial (fun hb9 => ?_) (fun hb9 => ?_)
      · replace h := bif_t h hb9
        refine .seq ?_
        refine .region [] mixed (by kernel_rfl) ?_
        refine .cons (.move .none (.s rfl)) rfl ?_
        refine .cons (.assign .none (.s rfl)) rfl ?_
        refine .nil ?_
        refine .then ?_
        refine .ret ?_
        refine .thenRet ?_
        obtain rfl := some_eq h
        exact Ends.ret1 (.inl rfl) Tryd.results7 (ResOK.tmp rfl trivial Imp.refl)
      · replace h := bif_f h hb9
        refine .skip ?_
        refine .then ?_
        refine .seq ?_
        refine .seq ?_
        refine .region [] mixed (by kernel_rfl) ?_
        refine .cons (.fieldAddr .none fd25_1 hfd25_1 (.s rfl)) rfl ?_
        refine .cons (.load .none ty23 (.s rfl)) rfl ?_
        refine .cons (.len .none sl23 (.s rfl)) rfl ?_
        refine .cons (.move .none (.int (by decide))) rfl ?_
        refine .nil ?_
        refine .then ?_
        obtain ⟨o_10, h, hK10⟩ := bindR_some h
        refine .thenJ (ι := Unit) (fun j_10 => []) (fun j_10 => []) (fun s => o_10 = Res.nx s) (.cons (t := 1) rfl Sub.nil) SubB.nil ?_ (fun j_10 hj10 => ?_)
        · skip
          refine .block ?_
          refine .rforEL h (fun p11_ => [(43, ⟨True, rep p11_.1⟩)]) (fun p11_ => []) (.cons (t := 43) rfl Sub.nil) SubB.nil (.cons (t := 1) rfl (.cons (t := 42) rfl Sub.nil)) SubB.nil (fun p11_ o_11 h hD11 => ?_)
          refine .seq ?_
          refine .region [] mixed (by kernel_rfl) ?_
          refine .cons (.lt .none (.s rfl) (.s rfl)) rfl ?_
          refine .nil ?_
          refine .then ?_
          refine .seq ?_
          refine .cond (t := 44) rfl trivial (fun hb12 => ?_) (fun hb12 => ?_)
          · replace h := bif_t h hb12
            refine .skip ?_
            refine .then ?_
            refine .seq ?_
            obtain ⟨o_13, h, hK13⟩ := bindD_some h
            unfold ref_DocError_L2 at h
            refine .thenJ (ι := Unit) (fun j_13 => []) (fun j_13 => []) (fun s => o_13 = Res.nx s) (.cons (t := 1) rfl (.cons (t := 42) rfl (.cons (t := 43) rfl Sub.nil))) SubB.nil ?_ (fun j_13 hj13 => ?_)
            · skip
              refine .block ?_
              refine .seq ?_
              refine .region [] mixed (by kernel_rfl) ?_
              refine .cons (.move .none (.s rfl)) rfl ?_
              refine .cons (.assign .none (.s rfl)) rfl ?_
              refine .nil ?_
              refine .then ?_
              refine .seq ?_
              refine .region [] mixed (by kernel_rfl) ?_
              refine .cons (.load .none ty25 (.s rfl)) rfl ?_
              refine .cons (.move .none (.s rfl)) rfl ?_
              obtain ⟨e3, hv14, h⟩ := bind_some h
              refine .cons (.call .none (ref_edgeError_ok hv14) (.cons (.s rfl) (.cons (.s rfl) .nil))) rfl ?_
              refine .cons (.assign .none (.s rfl)) rfl ?_
              refine .nil ?_
              refine .then ?_
              refine .seq ?_
              refine .region [] mixed (by kernel_rfl) ?_
              refine .cons (.move .none (.s rfl)) rfl ?_
              refine .cons (.neI .none (.s rfl) (.int (by decide))) rfl ?_
              refine .nil ?_
              refine .then ?_
              refine .cond (t := 50) rfl trivial (fun hb15 => ?_) (fun hb15 => ?_)
              · replace h := bif_t h hb15
                refine .seq ?_
                refine .region [] mixed (by kernel_rfl) ?_
                refine .cons (.move .none (.s rfl)) rfl ?_
                refine .cons (.assign .none (.s rfl)) rfl ?_
                refine .nil ?_
                refine .then ?_
                refine .ret ?_
                refine .blkRet ?_
                refine .thenRet ?_
                refine .thenRet ?_
                refine .blkRet ?_
                refine .thenRet ?_
                replace h := resd_ab hK13 (some_eq h)
                replace h := hD11 _ (some_eq h)
                replace h := resb_ab hK10 (some_eq h)
                obtain rfl := some_eq h
                exact Ends.ret1 (.inl rfl) Tryd.results7 (ResOK.tmp rfl trivial Imp.refl)
              · replace h := bif_f h hb15
                refine .skip ?_
                refine .blkNormal ?_
                exact Ends.join _ (some_eq h) (.cons (t := 1) rfl (.cons (t := 42) rfl (.cons (t := 43) rfl Sub.nil))) SubB.nil
            · have h := resd_nx hK13 hj13
              refine .region [] mixed (by kernel_rfl) ?_
              refine .cons (.addW .none (.s rfl) (.int (by decide))) rfl ?_
              refine .cons (.move .none (.s rfl)) rfl ?_
              refine .nil ?_
              exact Ends.againL (some_eq h) (.cons (t := 43) rfl (.cons (t := 1) rfl (.cons (t := 42) rfl Sub.nil))) SubB.nil
          · replace h := bif_f h hb12
            refine .exit ?_
            refine .thenExit ?_
            refine .thenExit ?_
            refine .blkExit ?_
            replace h := hD11 _ (some_eq h)
            exact Ends.join _ (some_eq h) (.cons (t := 1) rfl Sub.nil) SubB.nil
        · have h := resb_nx hK10 hj10
          refine .seq ?_
          refine .seq ?_
          refine .region [] mixed (by kernel_rfl) ?_
          refine .cons (.fieldAddr .none fd25_0 hfd25_0 (.s rfl)) rfl ?_
          refine .cons (.load .none ty22 (.s rfl)) rfl ?_
          refine .cons (.len .none sl22 (.s rfl)) rfl ?_
          refine .cons (.move .none (.int (by decide))) rfl ?_
          refine .nil ?_
          refine .then ?_
          obtain ⟨o_16, h, hK16⟩ := bindR_some h
          refine .thenJ (ι := Unit) (fun j_16 => []) (fun j_16 => []) (fun s => o_16 = Res.nx s) Sub.nil SubB.nil ?_ (fun j_16 hj16 => ?_)
          · skip
            refine .block ?_
            refine .rforEL h (fun p17_ => [(56, ⟨True, rep p17_.1⟩)]) (fun p17_ => []) (.cons (t := 56) rfl Sub.nil) SubB.nil (.cons (t := 1) rfl (.cons (t := 54) rfl (.cons (t := 55) rfl Sub.nil))) SubB.nil (fun p17_ o_17 h hD17 => ?_)
            refine .seq ?_
            refine .region [] mixed (by kernel_rfl) ?_
            refine .cons (.lt .none (.s rfl) (.s rfl)) rfl ?_
            refine .nil ?_
            refine .then ?_
            refine .seq ?_
            refine .cond (t := 57) rfl trivial (fun hb18 => ?_) (fun hb18 => ?_)
            · replace h := bif_t h hb18
              refine .skip ?_
              refine .then ?_
              refine .seq ?_
              obtain ⟨o_19, h, hK19⟩ := bindD_some h
              unfold ref_DocError_L3 at h
              refine .thenJ (ι := Unit) (fun j_19 => []) (fun j_19 => []) (fun s => o_19 = Res.nx s) (.cons (t := 1) rfl (.cons (t := 54) rfl (.cons (t := 55) rfl (.cons (t := 56) rfl Sub.nil)))) SubB.nil ?_ (fun j_19 hj19 => ?_)
              · skip
                refine .block ?_
                refine .seq ?_
                refine .region [([], []), ([], []), ([], [9]), ([9], [9])] mixed (by kernel_rfl) ?_
                obtain ⟨hn20, h⟩ := need_some h
                refine .consA (.indexAddr .none sl22 ty43 (.s rfl) (.s rfl) (fun _ => hn20)) rfl ?_
                obtain ⟨v1, hv21, h⟩ := bnd_some h
                refine .consA (.re hv21 (.load .none ty43 (.s rfl))) rfl ?_
                refine .consW (.alloc zo43 rfl) rfl rfl ?_
                refine .consN (.store ty43 rfl rfl (.s rfl)) rfl ?_
                refine .nil ?_
                refine .then ?_
                refine .freeze (t := 9) rfl rfl SubB.nil rfl ?_
                refine .seq ?_
                refine .region [([], []), ([], []), ([], []), ([], []), ([], []), ([], []), ([], []), ([], [10]), ([10], [10]), ([], [])] mixed (by kernel_rfl) ?_
                refine .consA (.load .none ty25 (.s rfl)) rfl ?_
                refine .consA (.fieldAddr .none fd43_0 hfd43_0 (.s rfl)) rfl ?_
                refine .consA (.load .none ty9 (.s rfl)) rfl ?_
                obtain ⟨r1, hv22, h⟩ := bind_some h
                refine .consA (.call .none (ref_BoxOfNode_ok hv22) (.cons (.s rfl) (.cons (.s rfl) .nil))) rfl ?_
                refine .consA (.move .none (.s rfl)) rfl ?_
                refine .consA (.extract .none (.s rfl) rfl) rfl ?_
                refine .consA (.extract .none (.s rfl) rfl) rfl ?_
                refine .consW (.alloc zo41 rfl) rfl rfl ?_
                refine .consN (.store ty41 rfl rfl (.s rfl)) rfl ?_
                refine .consA (.assign .none (.s rfl)) rfl ?_
                refine .nil ?_
                refine .then ?_
                refine .seq ?_
                refine .region [] mixed (by kernel_rfl) ?_
                refine .cons (.move .none (.s rfl)) rfl ?_
                refine .cons (.neI .none (.s rfl) (.int (by decide))) rfl ?_
                refine .nil ?_
                refine .then ?_
                refine .cond (t := 68) rfl trivial (fun hb23 => ?_) (fun hb23 => ?_)
                · replace h := bif_t h hb23
                  refine .seq ?_
                  refine .region [] mixed (by kernel_rfl) ?_
                  refine .cons (.move .none (.s rfl)) rfl ?_
                  refine .cons (.assign .none (.s rfl)) rfl ?_
                  refine .nil ?_
                  refine .then ?_
                  refine .ret ?_
                  refine .blkRet ?_
                  refine .thenRet ?_
                  refine .thenRet ?_
                  refine .blkRet ?_
                  refine .thenRet ?_
                  replace h := resd_ab hK19 (some_eq h)
                  replace h := hD17 _ (some_eq h)
                  replace h := resb_ab hK16 (some_eq h)
                  obtain rfl := some_eq h
                  exact Ends.ret1 (.inl rfl) Tryd.results7 (ResOK.tmp rfl trivial Imp.refl)
                · replace h := bif_f h hb23
                  refine .skip ?_
                  refine .blkNormal ?_
                  exact Ends.join _ (some_eq h) (.cons (t := 1) rfl (.cons (t := 54) rfl (.cons (t := 55) rfl (.cons (t := 56) rfl Sub.nil)))) SubB.nil
              · have h := resd_nx hK19 hj19
                refine .region [] mixed (by kernel_rfl) ?_
                refine .cons (.addW .none (.s rfl) (.int (by decide))) rfl ?_
                refine .cons (.move .none (.s rfl)) rfl ?_
                refine .nil ?_
                exact Ends.againL (some_eq h) (.cons (t := 56) rfl (.cons (t := 1) rfl (.cons (t := 54) rfl (.cons (t := 55) rfl Sub.nil)))) SubB.nil
            · replace h := bif_f h hb18
              refine .exit ?_
              refine .thenExit ?_
              refine .thenExit ?_
              refine .blkExit ?_
              replace h := hD17 _ (some_eq h)
              exact Ends.join _ (some_eq h) Sub.nil SubB.nil
          · have h := resb_nx hK16 hj16
            refine .seq ?_
            refine .region [] mixed (by kernel_rfl) ?_
            refine .cons (.assign .none (.int (by decide))) rfl ?_
            refine .nil ?_
            refine .then ?_
            refine .ret ?_
            obtain rfl := some_eq h
            exact Ends.ret1 (.inl rfl) Tryd.results7 (ResOK.tmp rfl trivial Imp.refl)

theorem ref_Copied_ok {d1 : Doc} {r : Doc}  (h : ref_Copied d1 = some r) : FSpecO Tryd.prog 33 [rep d1] [] (anyV) [some (deep (fun z0 => deep (fun z1 => valV (⟨⟨z0⟩, ⟨z1⟩⟩ : Doc_o01)) (rowV 96 r.Edges)) (rowV 43 r.Nodes))] := by
  unfold ref_Copied at h
  refine FSpecO.intro (n := 32) fnok33 Tryd.func33 rfl Tryd.ntmps33 rfl (fun F => ?_)
  refine .seq ?_
  refine .region [([], []), ([], [2])] mixed (by kernel_rfl) ?_
  refine .consA (.box .none (.s rfl)) rfl ?_
  refine .consW (.alloc zo25 rfl) rfl rfl ?_
  refine .nil ?_
  refine .then ?_
  obtain ⟨v1, hv1, h⟩ := bnd_some h
  refine .reB (t := 2) rfl (congrArg (cont 25) hv1) ?_
  refine .nameBox (t := 2) (g := 5001) rfl rfl (fun m5001 => ?_)
  refine .seq ?_
  refine .region [([], []), ([], []), ([], [7]), ([], []), ([], []), ([], [10]), ([7, 10], [11, 7, 10]), ([], [3]), ([3, 11], [3, 11])] mixed (by kernel_rfl) ?_
  refine .consA (.fieldAddr .none fd25_0 hfd25_0 (.s rfl)) rfl ?_
  refine .consA (.load .none ty22 (.s rfl)) rfl ?_
  obtain ⟨r1, hv2, h⟩ := bind_some h
  refine .consW (.callO [] (slices_Clone_Node_ok hv2) (.cons (.s rfl) .nil) .nil rfl (by decide) (by decide) (by intro d h; cases h; decide)) rfl rfl ?_
  refine .consA (.fieldAddr .none fd25_1 hfd25_1 (.s rfl)) rfl ?_
  refine .consA (.load .none ty23 (.s rfl)) rfl ?_
  obtain ⟨r2, hv3, h⟩ := bind_some h
  refine .consW (.callO [] (slices_Clone_Edge_ok hv3) (.cons (.s rfl) .nil) .nil rfl (by decide) (by decide) (by intro d h; cases h; decide)) rfl rfl ?_
  refine .consW (.buildG2 (t1 := 7) (t2 := 10) oneRow oneRow (mk := (fun z1 z2 => (⟨⟨z1⟩, ⟨z2⟩⟩ : Doc_o01))) bu25 zvc_Doc_o01 rfl rfl rfl rfl rfl rfl rfl rfl rfl (fun _ _ => (.cons (.s rfl) (.cons (.s rfl) .nil))) (fun _ _ => (.cons rfl sv_Doc_o01_0 (.cons rfl sv_Doc_o01_1 .nil)))) rfl rfl ?_
  refine .consW (.alloc zo25 rfl) rfl rfl ?_
  refine .consN (.storeG2 (t := 11) (k := 3) (mk := (fun z1 z2 => (⟨⟨z1⟩, ⟨z2⟩⟩ : Doc_o01))) ty25 rfl rfl (by rfl) rfl rfl rfl rfl) rfl ?_
  refine .nil ?_
  refine .then ?_
  refine .nameAt (t := 3) (g := 5002) rfl rfl (isBox_deep fun _ => (isBox_deep fun _ => isBox_cont)) rfl (fun m5002 => ?_)
  refine .open (k := 5002) (g := 5003) rfl rfl (fun s5003 => ?_)
  refine .open (k := 5002) (g := 5004) rfl rfl (fun s5004 => ?_)
  refine .seq ?_
  refine .seq ?_
  refine .region [([], []), ([5002], []), ([5004], []), ([], [])] mixed (by kernel_rfl) ?_
  refine .consA (.fieldPtr .none fd25_1 (.s rfl)) rfl ?_
  refine .consA (.loadAt (k := 5002) .none tr23 rfl (.s rfl) hv_Doc_o01_1) rfl ?_
  refine .consA (.lenO (k := 5004) sl23 (.told (.s rfl) rfl)) rfl ?_
  refine .consA (.move .none (.int (by decide))) rfl ?_
  refine .nil ?_
  refine .then ?_
  obtain ⟨j_4, h, hK4⟩ := bind_some h
  refine .thenJ (ι := (List DEdge)) (fun j_4 => []) (fun j_4 => [(5004, some (CPred.at s5004 (rowV 96 j_4)))]) (fun s => j_4 = s) (.cons (t := 2) rfl (.cons (t := 3) rfl Sub.nil)) (.cons (t := 5001) rfl (.cons (t := 5002) rfl (.cons (t := 5003) rfl SubB.nil))) ?_ (fun j_4' hj4 => ?_)
  · skip
    refine .block ?_
    refine .rforL h (fun p5_ => [(15, ⟨True, rep p5_.1⟩)]) (fun p5_ => [(5004, some (CPred.at s5004 (rowV 96 p5_.2)))]) (.cons (t := 15) rfl Sub.nil) (.cons (t := 5004) rfl SubB.nil) (.cons (t := 2) rfl (.cons (t := 3) rfl (.cons (t := 14) rfl Sub.nil))) (.cons (t := 5001) rfl (.cons (t := 5002) rfl (.cons (t := 5003) rfl SubB.nil))) (fun p5_ o_5 h hD5 => ?_)
    refine .seq ?_
    refine .region [] mixed (by kernel_rfl) ?_
    refine .cons (.lt .none (.s rfl) (.s rfl)) rfl ?_
    refine .nil ?_
    refine .then ?_
    refine .seq ?_
    refine .cond (t := 16) rfl trivial (fun hb6 => ?_) (fun hb6 => ?_)
    · replace h := bif_t h hb6
      refine .skip ?_
      refine .then ?_
      refine .seq ?_
      obtain ⟨j_7, h, hK7⟩ := bind_some h
      unfold ref_Copied_L1 at h
      refine .thenJ (ι := (List DEdge)) (fun j_7 => []) (fun j_7 => [(5004, some (CPred.at s5004 (rowV 96 j_7)))]) (fun s => j_7 = s) (.cons (t := 2) rfl (.cons (t := 3) rfl (.cons (t := 14) rfl (.cons (t := 15) rfl Sub.nil)))) (.cons (t := 5001) rfl (.cons (t := 5002) rfl (.cons (t := 5003) rfl SubB.nil))) ?_ (fun j_7' hj7 => ?_)
      · skip
        refine .block ?_
        refine .seq ?_
        refine .region [] mixed (by kernel_rfl) ?_
        refine .cons (.move .none (.s rfl)) rfl ?_
        refine .cons (.assign .none (.s rfl)) rfl ?_
        refine .nil ?_
        refine .then ?_
        refine .region [([], []), ([5002], []), ([], []), ([], []), ([5002], []), ([], []), ([5004], []), ([5004], []), ([5004], []), ([], []), ([5004], []), ([5004], []), ([5004], [5004])] mixed (by kernel_rfl) ?_
        refine .consA (.fieldPtr .none fd25_1 (.s rfl)) rfl ?_
        refine .consA (.loadAt (k := 5002) .none tr23 rfl (.s rfl) hv_Doc_o01_1) rfl ?_
        refine .consA (.move .none (.s rfl)) rfl ?_
        refine .consA (.fieldPtr .none fd25_1 (.s rfl)) rfl ?_
        refine .consA (.loadAt (k := 5002) .none tr23 rfl (.s rfl) hv_Doc_o01_1) rfl ?_
        refine .consA (.move .none (.s rfl)) rfl ?_
        obtain ⟨hn8, h⟩ := need_some h
        refine .consA (.indexAddrO (k := 5004) .none sl23 ty96 (.s rfl) rfl (.s rfl) (fun _ => hn8)) rfl ?_
        refine .consA (.fieldElem (k := 5004) .none fd96_3 (.s rfl) rfl (fun _ => hn8)) rfl ?_
        refine .consA (.loadElem (k := 5004) .none ty94 (.s rfl) rfl hfd96_3 (fun _ => hn8)) rfl ?_
        obtain ⟨r3, hv9, h⟩ := bind_some h
        refine .consA (.call .none (slices_Clone_Point_ok hv9).frz (.cons (.s rfl) .nil)) rfl ?_
        obtain ⟨hn10, h⟩ := need_some h
        refine .consA (.indexAddrO (k := 5004) .none sl23 ty96 (.s rfl) rfl (.s rfl) (fun _ => hn10)) rfl ?_
        refine .consA (.fieldElem (k := 5004) .none fd96_3 (.s rfl) rfl (fun _ => hn10)) rfl ?_
        refine .consN (.storeElem (k := 5004) ty94 (.s rfl) rfl sf96_3 (.s rfl) hn10) rfl ?_
        refine .nil ?_
        refine .blkNormal ?_
        exact Ends.join _ (some_eq h) (.cons (t := 2) rfl (.cons (t := 3) rfl (.cons (t := 14) rfl (.cons (t := 15) rfl Sub.nil)))) (.cons (t := 5004) rfl (.cons (t := 5001) rfl (.cons (t := 5002) rfl (.cons (t := 5003) rfl SubB.nil))))
      · subst hj7; have h := hK7; clear hK7
        refine .region [] mixed (by kernel_rfl) ?_
        refine .cons (.addW .none (.s rfl) (.int (by decide))) rfl ?_
        refine .cons (.move .none (.s rfl)) rfl ?_
        refine .nil ?_
        exact Ends.againL (some_eq h) (.cons (t := 15) rfl (.cons (t := 2) rfl (.cons (t := 3) rfl (.cons (t := 14) rfl Sub.nil)))) (.cons (t := 5004) rfl (.cons (t := 5001) rfl (.cons (t := 5002) rfl (.cons (t := 5003) rfl SubB.nil))))
    · replace h := bif_f h hb6
      refine .exit ?_
      refine .thenExit ?_
      refine .thenExit ?_
      refine .blkExit ?_
      replace h := hD5 _ (some_eq h)
      exact Ends.join _ (some_eq h) (.cons (t := 2) rfl (.cons (t := 3) rfl Sub.nil)) (.cons (t := 5004) rfl (.cons (t := 5001) rfl (.cons (t := 5002) rfl (.cons (t := 5003) rfl SubB.nil))))
  · subst hj4; have h := hK4; clear hK4
    refine .seq ?_
    refine .region [([5002], []), ([5001], [5001])] mixed (by kernel_rfl) ?_
    refine .consA (.loadAt0 (k := 5002) .none tyv_Doc_o01 rfl (.s rfl)) rfl ?_
    refine .consN (.storeAtH (g := 5001) tyv_Doc_o01 (by rfl) rfl (.s rfl) (.s rfl)) rfl ?_
    refine .nil ?_
    refine .then ?_
    refine .ret ?_
    refine .close (k := 5001) (g := 5004) (fun z => cont 25 (⟨⟨s5003⟩, ⟨z⟩⟩ : Doc_o01)) rfl rfl rfl ?_
    refine .close (k := 5001) (g := 5003) (fun z => deep (fun z0 => cont 25 (⟨⟨z⟩, ⟨z0⟩⟩ : Doc_o01)) (rowV 96 j_4)) rfl rfl rfl ?_
    obtain rfl := some_eq h
    exact Ends.ret1S (K := 5001) (.inl rfl) tyv_Doc_o01 Tryd.results33 rfl trivial rfl


end Go.Proofs.YtclcheggnlhamaaDoor
