/-
  The walks: what a function computes is what its plain function says (printed by a program of one's own).
-/
import Derived.Test.YtclcheggnlhamaaDoorUngWa2
set_option maxRecDepth 100000
set_option linter.unusedSimpArgs false
set_option linter.unusedVariables false
namespace Go.Proofs.YtclcheggnlhamaaDoor
open Go Go.DB Go.RowKit

theorem ref_UngroupOf_ok {d1 : Doc} {id1 : Str} {r : (Doc × Int)}  (h : ref_UngroupOf d1 id1 = some r) : FSpec Tryd.prog 10 [rep d1, rep id1] (tup [rep r.1, rep r.2]) := by
  unfold ref_UngroupOf at h
  refine FSpec.intro (n := 56) fnok10 Tryd.func10 rfl Tryd.ntmps10 rfl (fun F => ?_)
  refine .seq ?_
  refine .region [([], []), ([], [4]), ([], [])] mixed (by kernel_rfl) ?_
  refine .consA (.box .none (.s rfl)) rfl ?_
  refine .consW (.alloc zo25 rfl) rfl rfl ?_
  refine .consA (.assign .none (.int (by decide))) rfl ?_
  refine .nil ?_
  refine .then ?_
  obtain ⟨v1, hv1, h⟩ := bnd_some h
  refine .reB (t := 4) rfl (congrArg (cont 25) hv1) ?_
  refine .nameBox (t := 4) (g := 5001) rfl rfl (fun m5001 => ?_)
  refine .seq ?_
  refine .region [] mixed (by kernel_rfl) ?_
  refine .cons (.load .none ty25 (.s rfl)) rfl ?_
  refine .cons (.move .none (.s rfl)) rfl ?_
  obtain ⟨k1, hv2, h⟩ := bind_some h
  refine .cons (.call .none (ref_NodeAt_ok hv2) (.cons (.s rfl) (.cons (.s rfl) .nil))) rfl ?_
  refine .cons (.assign .none (.s rfl)) rfl ?_
  refine .nil ?_
  refine .then ?_
  refine .seq ?_
  refine .seq ?_
  refine .region [] mixed (by kernel_rfl) ?_
  refine .cons (.fieldAddr .none fd25_0 hfd25_0 (.s rfl)) rfl ?_
  refine .cons (.load .none ty22 (.s rfl)) rfl ?_
  refine .cons (.move .none (.s rfl)) rfl ?_
  obtain ⟨hn3, h⟩ := need_some h
  refine .cons (.indexAddr .none sl22 ty43 (.s rfl) (.s rfl) (fun _ => hn3)) rfl ?_
  refine .cons (.fieldAddr .none fd43_1 hfd43_1 (.s rfl)) rfl ?_
  refine .cons (.load .none ty3 (.s rfl)) rfl ?_
  refine .cons (.neI .none (.s rfl) (.int (by decide))) rfl ?_
  refine .nil ?_
  refine .then ?_
  refine .cond (t := 18) rfl trivial (fun hb4 => ?_) (fun hb4 => ?_)
  · replace h := bif_t h hb4
    refine .seq ?_
    refine .region [([], []), ([5001], [5001]), ([], [])] mixed (by kernel_rfl) ?_
    obtain ⟨v2, hv5, h⟩ := bnd_some h
    refine .consA (.re hv5 (.buildF (y := (⟨([] : (List DNode)), ([] : (List DEdge))⟩ : Doc)) .none bu25 zc25 rfl .nil .nil)) rfl ?_
    refine .consN (.storeAt0 (g := 5001) ty25 rfl (.s rfl) (.s rfl)) rfl ?_
    refine .consA (.assign .none (.int (by decide))) rfl ?_
    refine .nil ?_
    refine .then ?_
    refine .freezeBox (g := 5001) (ts := [4]) rfl (.cons (t := 4) rfl trivial .nil) SubB.nil rfl ?_
    refine .ret ?_
    refine .thenRet ?_
    obtain rfl := some_eq h
    exact Ends.ret2 (.inl rfl) Tryd.results10 (ResOK.cellR ty25 rfl trivial Imp.refl) (ResOK.tmp rfl trivial Imp.refl)
  · replace h := bif_f h hb4
    refine .skip ?_
    refine .then ?_
    refine .seq ?_
    refine .region [([], []), ([], [21]), ([], [7]), ([7, 21], [7, 21])] mixed (by kernel_rfl) ?_
    refine .consA (.load .none ty25 (.s rfl)) rfl ?_
    obtain ⟨r1, hv6, h⟩ := bind_some h
    refine .consW (.callO [] (ref_Copied_ok hv6) (.cons (.s rfl) .nil) .nil rfl (by decide) (by decide) (by intro d h; cases h; decide)) rfl rfl ?_
    refine .consW (.alloc zo25 rfl) rfl rfl ?_
    refine .consN (.storeG2 (t := 21) (k := 7) (mk := (fun z1 z2 => (⟨⟨z1⟩, ⟨z2⟩⟩ : Doc_o01))) ty25 rfl rfl (by rfl) rfl rfl rfl rfl) rfl ?_
    refine .nil ?_
    refine .then ?_
    refine .nameAt (t := 7) (g := 5002) rfl rfl (isBox_deep fun _ => (isBox_deep fun _ => isBox_cont)) rfl (fun m5002 => ?_)
    refine .open (k := 5002) (g := 5003) rfl rfl (fun s5003 => ?_)
    refine .open (k := 5002) (g := 5004) rfl rfl (fun s5004 => ?_)
    refine .seq ?_
    refine .seq ?_
    refine .region [([], []), ([5002], []), ([5003], []), ([], [])] mixed (by kernel_rfl) ?_
    refine .consA (.fieldPtr .none fd25_0 (.s rfl)) rfl ?_
    refine .consA (.loadAt (k := 5002) .none tr22 rfl (.s rfl) hv_Doc_o01_0) rfl ?_
    refine .consA (.lenO (k := 5003) sl22 (.told (.s rfl) rfl)) rfl ?_
    refine .consA (.move .none (.int (by decide))) rfl ?_
    refine .nil ?_
    refine .then ?_
    obtain ⟨j_7, h, hK7⟩ := bind_some h
    refine .thenJ (ι := (List DNode)) (fun j_7 => []) (fun j_7 => [(5003, some (CPred.at s5003 (rowV 43 j_7)))]) (fun s => j_7 = s) (.cons (t := 4) rfl (.cons (t := 6) rfl (.cons (t := 7) rfl Sub.nil))) (.cons (t := 5001) rfl (.cons (t := 5002) rfl (.cons (t := 5004) rfl SubB.nil))) ?_ (fun j_7' hj7 => ?_)
    · skip
      refine .block ?_
      refine .rforL h (fun p8_ => [(25, ⟨True, rep p8_.1⟩)]) (fun p8_ => [(5003, some (CPred.at s5003 (rowV 43 p8_.2)))]) (.cons (t := 25) rfl Sub.nil) (.cons (t := 5003) rfl SubB.nil) (.cons (t := 1) rfl (.cons (t := 2) rfl (.cons (t := 4) rfl (.cons (t := 6) rfl (.cons (t := 7) rfl (.cons (t := 24) rfl Sub.nil)))))) (.cons (t := 5001) rfl (.cons (t := 5002) rfl (.cons (t := 5004) rfl SubB.nil))) (fun p8_ o_8 h hD8 => ?_)
      refine .seq ?_
      refine .region [] mixed (by kernel_rfl) ?_
      refine .cons (.lt .none (.s rfl) (.s rfl)) rfl ?_
      refine .nil ?_
      refine .then ?_
      refine .seq ?_
      refine .cond (t := 26) rfl trivial (fun hb9 => ?_) (fun hb9 => ?_)
      · replace h := bif_t h hb9
        refine .skip ?_
        refine .then ?_
        refine .seq ?_
        obtain ⟨j_10, h, hK10⟩ := bind_some h
        unfold ref_UngroupOf_L1 at h
        refine .thenJ (ι := (List DNode)) (fun j_10 => []) (fun j_10 => [(5003, some (CPred.at s5003 (rowV 43 j_10)))]) (fun s => j_10 = s) (.cons (t := 1) rfl (.cons (t := 2) rfl (.cons (t := 4) rfl (.cons (t := 6) rfl (.cons (t := 7) rfl (.cons (t := 24) rfl (.cons (t := 25) rfl Sub.nil))))))) (.cons (t := 5001) rfl (.cons (t := 5002) rfl (.cons (t := 5004) rfl SubB.nil))) ?_ (fun j_10' hj10 => ?_)
        · skip
          refine .block ?_
          refine .seq ?_
          refine .region [] mixed (by kernel_rfl) ?_
          refine .cons (.move .none (.s rfl)) rfl ?_
          refine .cons (.assign .none (.s rfl)) rfl ?_
          refine .nil ?_
          refine .then ?_
          refine .seq ?_
          refine .region [([], []), ([5002], []), ([], []), ([5003], []), ([5003], []), ([5003], []), ([], []), ([], [])] mixed (by kernel_rfl) ?_
          refine .consA (.fieldPtr .none fd25_0 (.s rfl)) rfl ?_
          refine .consA (.loadAt (k := 5002) .none tr22 rfl (.s rfl) hv_Doc_o01_0) rfl ?_
          refine .consA (.move .none (.s rfl)) rfl ?_
          obtain ⟨hn11, h⟩ := need_some h
          refine .consA (.indexAddrO (k := 5003) .none sl22 ty43 (.s rfl) rfl (.s rfl) (fun _ => hn11)) rfl ?_
          refine .consA (.fieldElem (k := 5003) .none fd43_5 (.s rfl) rfl (fun _ => hn11)) rfl ?_
          refine .consA (.loadElem (k := 5003) .none ty9 (.s rfl) rfl hfd43_5 (fun _ => hn11)) rfl ?_
          refine .consA (.move .none (.s rfl)) rfl ?_
          refine .consA (.eqS .none (eqAt_str Tryd.underlying9) (.s rfl) (.s rfl)) rfl ?_
          refine .nil ?_
          refine .then ?_
          refine .cond (t := 35) rfl trivial (fun hb12 => ?_) (fun hb12 => ?_)
          · replace h := bif_t h hb12
            refine .region [([], []), ([5002], []), ([], []), ([], []), ([], []), ([], []), ([], []), ([], []), ([], []), ([5003], []), ([5003], []), ([5003], [5003])] mixed (by kernel_rfl) ?_
            refine .consA (.fieldPtr .none fd25_0 (.s rfl)) rfl ?_
            refine .consA (.loadAt (k := 5002) .none tr22 rfl (.s rfl) hv_Doc_o01_0) rfl ?_
            refine .consA (.move .none (.s rfl)) rfl ?_
            refine .consA (.fieldAddr .none fd25_0 hfd25_0 (.s rfl)) rfl ?_
            refine .consA (.load .none ty22 (.s rfl)) rfl ?_
            refine .consA (.move .none (.s rfl)) rfl ?_
            obtain ⟨hn13, h⟩ := need_some h
            refine .consA (.indexAddr .none sl22 ty43 (.s rfl) (.s rfl) (fun _ => hn13)) rfl ?_
            refine .consA (.fieldAddr .none fd43_5 hfd43_5 (.s rfl)) rfl ?_
            obtain ⟨v3, hv14, h⟩ := bnd_some h
            refine .consA (.re hv14 (.load .none ty9 (.s rfl))) rfl ?_
            obtain ⟨hn15, h⟩ := need_some h
            refine .consA (.indexAddrO (k := 5003) .none sl22 ty43 (.s rfl) rfl (.s rfl) (fun _ => hn15)) rfl ?_
            refine .consA (.fieldElem (k := 5003) .none fd43_5 (.s rfl) rfl (fun _ => hn15)) rfl ?_
            refine .consN (.storeElem (k := 5003) ty9 (.s rfl) rfl sf43_5 (.s rfl) hn15) rfl ?_
            refine .nil ?_
            refine .blkNormal ?_
            exact Ends.join _ (some_eq h) (.cons (t := 1) rfl (.cons (t := 2) rfl (.cons (t := 4) rfl (.cons (t := 6) rfl (.cons (t := 7) rfl (.cons (t := 24) rfl (.cons (t := 25) rfl Sub.nil))))))) (.cons (t := 5003) rfl (.cons (t := 5001) rfl (.cons (t := 5002) rfl (.cons (t := 5004) rfl SubB.nil))))
          · replace h := bif_f h hb12
            refine .skip ?_
            refine .blkNormal ?_
            exact Ends.join _ (some_eq h) (.cons (t := 1) rfl (.cons (t := 2) rfl (.cons (t := 4) rfl (.cons (t := 6) rfl (.cons (t := 7) rfl (.cons (t := 24) rfl (.cons (t := 25) rfl Sub.nil))))))) (.cons (t := 5003) rfl (.cons (t := 5001) rfl (.cons (t := 5002) rfl (.cons (t := 5004) rfl SubB.nil))))
        · subst hj10; have h := hK10; clear hK10
          refine .region [] mixed (by kernel_rfl) ?_
          refine .cons (.addW .none (.s rfl) (.int (by decide))) rfl ?_
          refine .cons (.move .none (.s rfl)) rfl ?_
          refine .nil ?_
          exact Ends.againL (some_eq h) (.cons (t := 25) rfl (.cons (t := 1) rfl (.cons (t := 2) rfl (.cons (t := 4) rfl (.cons (t := 6) rfl (.cons (t := 7) rfl (.cons (t := 24) rfl Sub.nil))))))) (.cons (t := 5003) rfl (.cons (t := 5001) rfl (.cons (t := 5002) rfl (.cons (t := 5004) rfl SubB.nil))))
      · replace h := bif_f h hb9
        refine .exit ?_
        refine .thenExit ?_
        refine .thenExit ?_
        refine .blkExit ?_
        replace h := hD8 _ (some_eq h)
        exact Ends.join _ (some_eq h) (.cons (t := 4) rfl (.cons (t := 6) rfl (.cons (t := 7) rfl Sub.nil))) (.cons (t := 5003) rfl (.cons (t := 5001) rfl (.cons (t := 5002) rfl (.cons (t := 5004) rfl SubB.nil))))
    · subst hj7; have h := hK7; clear hK7
      refine .seq ?_
      refine .region [([], []), ([5002], []), ([], []), ([], []), ([], []), ([5003], [5003, 53]), ([], []), ([5002, 53], [5002, 53])] mixed (by kernel_rfl) ?_
      refine .consA (.fieldPtr .none fd25_0 (.s rfl)) rfl ?_
      refine .consA (.loadAt (k := 5002) .none tr22 rfl (.s rfl) hv_Doc_o01_0) rfl ?_
      refine .consA (.move .none (.s rfl)) rfl ?_
      refine .consA (.move .none (.s rfl)) rfl ?_
      refine .consA (.addW .none (.s rfl) (.int (by decide))) rfl ?_
      obtain ⟨r2, hv16, h⟩ := bind_some h
      refine .consW (.callO [5003] (slices_Delete_Node_ok hv16) (.cons (.s rfl) (.cons (.s rfl) (.cons (.s rfl) .nil))) (.cons (k := 5003) rfl .nil) rfl (by decide) (by decide) (by intro d h; cases h; decide)) rfl rfl ?_
      refine .consA (.fieldPtr .none fd25_0 (.s rfl)) rfl ?_
      refine .consN (.storeRow (k := 5002) (t := 53) ty22 rfl (.s rfl) sv_Doc_o01_0 rfl rfl) rfl ?_
      refine .nil ?_
      refine .then ?_
      refine .open (k := 5002) (g := 5005) rfl rfl (fun s5005 => ?_)
      refine .seq ?_
      refine .region [([5002], []), ([5001], [5001]), ([], [])] mixed (by kernel_rfl) ?_
      refine .consA (.loadAt0 (k := 5002) .none tyv_Doc_o01 rfl (.s rfl)) rfl ?_
      refine .consN (.storeAtH (g := 5001) tyv_Doc_o01 (by rfl) rfl (.s rfl) (.s rfl)) rfl ?_
      refine .consA (.assign .none (.int (by decide))) rfl ?_
      refine .nil ?_
      refine .then ?_
      refine .close (k := 5001) (g := 5004) (fun z => cont 25 (⟨⟨s5005⟩, ⟨z⟩⟩ : Doc_o01)) rfl rfl rfl ?_
      refine .close (k := 5001) (g := 5005) (fun z => deep (fun z0 => cont 25 (⟨⟨z⟩, ⟨z0⟩⟩ : Doc_o01)) (rowV 96 r1.Edges)) rfl rfl rfl ?_
      refine .freezeAt (g := 5001) (S := ref ({ r1 with Nodes := r2, Edges := r1.Edges } : Doc)) (ts := [4]) rfl (.cons (t := 4) rfl trivial .nil) SubB.nil rfl (fun M D w h hms => deep_ref2 (mk := (fun s1_ s2_ => (⟨⟨s1_⟩, ⟨s2_⟩⟩ : Doc_o01))) (y := ({ r1 with Nodes := r2, Edges := r1.Edges } : Doc)) frzRow frzRow rfl (fun M s1_ s2_ cs w hc g1 g2 => by obtain ⟨c0, q0, e0, h0, h1⟩ := hc; exact ⟨c0, q0, e0, raw_cells rfl rfl h0 g1, raw_cells rfl rfl h1 g2⟩) M D w h hms) ?_
      refine .ret ?_
      obtain rfl := some_eq h
      exact Ends.ret2 (.inl rfl) Tryd.results10 (ResOK.cellR ty25 rfl trivial Imp.refl) (ResOK.tmp rfl trivial Imp.refl)

theorem law_pages_ok  {r : Bool}  (h : law_pages  = some r) : FSpec Tryd.prog 11 [] (rep r) := by
  unfold law_pages at h
  refine FSpec.intro (n := 11) fnok11 Tryd.func11 rfl Tryd.ntmps11 rfl (fun F => ?_)
  refine .seq ?_
  refine .region [] mixed (by kernel_rfl) ?_
  refine .cons (.assign .none .bool) rfl ?_
  refine .nil ?_
  refine .then ?_
  refine .seq ?_
  refine .region [] mixed (by kernel_rfl) ?_
  refine .cons (.buildF (y := (⟨([] : (List DNode)), ([] : (List DEdge))⟩ : Doc)) .none bu25 zc25 rfl .nil .nil) rfl ?_
  obtain ⟨r1, hv1, h⟩ := bind_some h
  refine .cons (.call .none (page_Check_ok hv1) (.cons (.s rfl) .nil)) rfl ?_
  refine .cons (.eqI .none (.s rfl) (.int (by decide))) rfl ?_
  refine .cons (.move .none (.s rfl)) rfl ?_
  refine .cons (.buildF (y := (⟨Str.nil, (0 : Int), (⟨(0 : Int), (0 : Int), (0 : Int), (0 : Int)⟩ : Box), Str.nil, Str.nil, Str.nil, false⟩ : DNode)) (.at rfl rfl) bu43 zc43 rfl .nil .nil) rfl ?_
  refine .cons (.buildSlice (xs := [_]) (.at rfl rfl) sl22 ty43 hz43 (.cons (.tmp rfl id) .nil) rfl (by decide)) rfl ?_
  refine .cons (.buildF (y := (⟨[(⟨Str.nil, (0 : Int), (⟨(0 : Int), (0 : Int), (0 : Int), (0 : Int)⟩ : Box), Str.nil, Str.nil, Str.nil, false⟩ : DNode)], ([] : (List DEdge))⟩ : Doc)) (.at rfl rfl) bu25 zc25 rfl (.cons (.tmp rfl id) .nil) (.cons rfl sf25_0 .nil)) rfl ?_
  obtain ⟨r2, hv2, h⟩ := bind_some h
  refine .cons (.callIf (.at rfl rfl) fnok16 (fun hg => page_Check_ok ((fun hg => gd_some hv2 (hg.2)) hg)) (.cons (.tmp rfl id) .nil) (fun h => h)) rfl ?_
  refine .cons (.eqI (.at rfl rfl) (.tmp rfl id) (.int (by decide))) rfl ?_
  refine .cons (.pickAnd .none (.s rfl) (.tmp rfl id)) rfl ?_
  refine .cons (.assign .none (.s rfl)) rfl ?_
  refine .nil ?_
  refine .then ?_
  refine .ret ?_
  obtain rfl := some_eq h
  exact Ends.ret1 (.inl rfl) Tryd.results11 (ResOK.tmp rfl trivial Imp.refl)

theorem slices_Equal_Node_ok {s1_1 : (List DNode)} {s2_1 : (List DNode)} {r : Bool}  (h : slices_Equal_Node s1_1 s2_1 = some r) : FSpec Tryd.prog 80 [rep s1_1, rep s2_1] (rep r) := by
  unfold slices_Equal_Node at h
  refine FSpec.intro (n := 26) fnok80 Tryd.func80 rfl Tryd.ntmps80 rfl (fun F => ?_)
  refine .seq ?_
  refine .region [] mixed (by kernel_rfl) ?_
  refine .cons (.assign .none .bool) rfl ?_
  refine .nil ?_
  refine .then ?_
  refine .seq ?_
  refine .seq ?_
  refine .region [] mixed (by kernel_rfl) ?_
  refine .cons (.move .none (.s rfl)) rfl ?_
  refine .cons (.len .none sl22 (.s rfl)) rfl ?_
  refine .cons (.move .none (.s rfl)) rfl ?_
  refine .cons (.len .none sl22 (.s rfl)) rfl ?_
  refine .cons (.neI .none (.s rfl) (.s rfl)) rfl ?_
  refine .nil ?_
  refine .then ?_
  refine .cond (t := 10) rfl trivial (fun hb1 => ?_) (fun hb1 => ?_)
  · replace h := bif_t h hb1
    refine .seq ?_
    refine .region [] mixed (by kernel_rfl) ?_
    refine .cons (.assign .none .bool) rfl ?_
    refine .nil ?_
    refine .then ?_
    refine .ret ?_
    refine .thenRet ?_
    obtain rfl := some_eq h
    exact Ends.ret1 (.inl rfl) Tryd.results80 (ResOK.tmp rfl trivial Imp.refl)
  · replace h := bif_f h hb1
    refine .skip ?_
    refine .then ?_
    refine .seq ?_
    refine .seq ?_
    refine .region [] mixed (by kernel_rfl) ?_
    refine .cons (.move .none (.s rfl)) rfl ?_
    refine .cons (.len .none sl22 (.s rfl)) rfl ?_
    refine .cons (.move .none (.int (by decide))) rfl ?_
    refine .nil ?_
    refine .then ?_
    obtain ⟨o_2, h, hK2⟩ := bindR_some h
    refine .thenJ (ι := Unit) (fun j_2 => []) (fun j_2 => []) (fun s => o_2 = Res.nx s) Sub.nil SubB.nil ?_ (fun j_2 hj2 => ?_)
    · skip
      refine .block ?_
      refine .rforEL h (fun p3_ => [(13, ⟨True, rep p3_.1⟩)]) (fun p3_ => []) (.cons (t := 13) rfl Sub.nil) SubB.nil (.cons (t := 0) rfl (.cons (t := 1) rfl (.cons (t := 12) rfl Sub.nil))) SubB.nil (fun p3_ o_3 h hD3 => ?_)
      refine .seq ?_
      refine .region [] mixed (by kernel_rfl) ?_
      refine .cons (.lt .none (.s rfl) (.s rfl)) rfl ?_
      refine .nil ?_
      refine .then ?_
      refine .seq ?_
      refine .cond (t := 14) rfl trivial (fun hb4 => ?_) (fun hb4 => ?_)
      · replace h := bif_t h hb4
        refine .skip ?_
        refine .then ?_
        refine .seq ?_
        obtain ⟨o_5, h, hK5⟩ := bindD_some h
        unfold slices_Equal_Node_L1 at h
        refine .thenJ (ι := Unit) (fun j_5 => []) (fun j_5 => []) (fun s => o_5 = Res.nx s) (.cons (t := 0) rfl (.cons (t := 1) rfl (.cons (t := 12) rfl (.cons (t := 13) rfl Sub.nil)))) SubB.nil ?_ (fun j_5 hj5 => ?_)
        · skip
          refine .block ?_
          refine .seq ?_
          refine .region [] mixed (by kernel_rfl) ?_
          refine .cons (.move .none (.s rfl)) rfl ?_
          refine .cons (.assign .none (.s rfl)) rfl ?_
          refine .nil ?_
          refine .then ?_
          refine .seq ?_
          refine .region [] mixed (by kernel_rfl) ?_
          refine .cons (.move .none (.s rfl)) rfl ?_
          refine .cons (.move .none (.s rfl)) rfl ?_
          obtain ⟨hn6, h⟩ := need_some h
          refine .cons (.indexAddr .none sl22 ty43 (.s rfl) (.s rfl) (fun _ => hn6)) rfl ?_
          refine .cons (.load .none ty43 (.s rfl)) rfl ?_
          refine .cons (.move .none (.s rfl)) rfl ?_
          refine .cons (.move .none (.s rfl)) rfl ?_
          obtain ⟨hn7, h⟩ := need_some h
          refine .cons (.indexAddr .none sl22 ty43 (.s rfl) (.s rfl) (fun _ => hn7)) rfl ?_
          refine .cons (.load .none ty43 (.s rfl)) rfl ?_
          refine .cons (.neS .none eqa43 (.s rfl) (.s rfl)) rfl ?_
          refine .nil ?_
          refine .then ?_
          refine .cond (t := 24) rfl trivial (fun hb8 => ?_) (fun hb8 => ?_)
          · replace h := bif_t h hb8
            refine .seq ?_
            refine .region [] mixed (by kernel_rfl) ?_
            refine .cons (.assign .none .bool) rfl ?_
            refine .nil ?_
            refine .then ?_
            refine .ret ?_
            refine .blkRet ?_
            refine .thenRet ?_
            refine .thenRet ?_
            refine .blkRet ?_
            refine .thenRet ?_
            replace h := resd_ab hK5 (some_eq h)
            replace h := hD3 _ (some_eq h)
            replace h := resb_ab hK2 (some_eq h)
            obtain rfl := some_eq h
            exact Ends.ret1 (.inl rfl) Tryd.results80 (ResOK.tmp rfl trivial Imp.refl)
          · replace h := bif_f h hb8
            refine .skip ?_
            refine .blkNormal ?_
            exact Ends.join _ (some_eq h) (.cons (t := 0) rfl (.cons (t := 1) rfl (.cons (t := 12) rfl (.cons (t := 13) rfl Sub.nil)))) SubB.nil
        · have h := resd_nx hK5 hj5
          refine .region [] mixed (by kernel_rfl) ?_
          refine .cons (.addW .none (.s rfl) (.int (by decide))) rfl ?_
          refine .cons (.move .none (.s rfl)) rfl ?_
          refine .nil ?_
          exact Ends.againL (some_eq h) (.cons (t := 13) rfl (.cons (t := 0) rfl (.cons (t := 1) rfl (.cons (t := 12) rfl Sub.nil)))) SubB.nil
      · replace h := bif_f h hb4
        refine .exit ?_
        refine .thenExit ?_
        refine .thenExit ?_
        refine .blkExit ?_
        replace h := hD3 _ (some_eq h)
        exact Ends.join _ (some_eq h) Sub.nil SubB.nil
    · have h := resb_nx hK2 hj2
      refine .seq ?_
      refine .region [] mixed (by kernel_rfl) ?_
      refine .cons (.assign .none .bool) rfl ?_
      refine .nil ?_
      refine .then ?_
      refine .ret ?_
      obtain rfl := some_eq h
      exact Ends.ret1 (.inl rfl) Tryd.results80 (ResOK.tmp rfl trivial Imp.refl)

theorem slices_EqualFunc_Edge_ok {s1_1 : (List DEdge)} {s2_1 : (List DEdge)} {eq1 : (DEdge → DEdge → Option Bool)} {r : Bool}  (h : slices_EqualFunc_Edge s1_1 s2_1 eq1 = some r) : FSpec Tryd.prog 81 [rep s1_1, rep s2_1, fn2 Tryd.prog (rep (α := Bool)) eq1] (rep r) := by
  unfold slices_EqualFunc_Edge at h
  refine FSpec.intro (n := 32) fnok81 Tryd.func81 rfl Tryd.ntmps81 rfl (fun F => ?_)
  refine .seq ?_
  refine .region [] mixed (by kernel_rfl) ?_
  refine .cons (.assign .none .bool) rfl ?_
  refine .nil ?_
  refine .then ?_
  refine .seq ?_
  refine .seq ?_
  refine .region [] mixed (by kernel_rfl) ?_
  refine .cons (.move .none (.s rfl)) rfl ?_
  refine .cons (.len .none sl23 (.s rfl)) rfl ?_
  refine .cons (.move .none (.s rfl)) rfl ?_
  refine .cons (.len .none sl23 (.s rfl)) rfl ?_
  refine .cons (.neI .none (.s rfl) (.s rfl)) rfl ?_
  refine .nil ?_
  refine .then ?_
  refine .cond (t := 14) rfl trivial (fun hb1 => ?_) (fun hb1 => ?_)
  · replace h := bif_t h hb1
    refine .seq ?_
    refine .region [] mixed (by kernel_rfl) ?_
    refine .cons (.assign .none .bool) rfl ?_
    refine .nil ?_
    refine .then ?_
    refine .ret ?_
    refine .thenRet ?_
    obtain rfl := some_eq h
    exact Ends.ret1 (.inl rfl) Tryd.results81 (ResOK.tmp rfl trivial Imp.refl)
  · replace h := bif_f h hb1
    refine .skip ?_
    refine .then ?_
    refine .seq ?_
    refine .seq ?_
    refine .region [] mixed (by kernel_rfl) ?_
    refine .cons (.move .none (.s rfl)) rfl ?_
    refine .cons (.len .none sl23 (.s rfl)) rfl ?_
    refine .cons (.move .none (.int (by decide))) rfl ?_
    refine .nil ?_
    refine .then ?_
    obtain ⟨o_2, h, hK2⟩ := bindR_some h
    refine .thenJ (ι := Unit) (fun j_2 => []) (fun j_2 => []) (fun s => o_2 = Res.nx s) Sub.nil SubB.nil ?_ (fun j_2 hj2 => ?_)
    · skip
      refine .block ?_
      refine .rforEL h (fun p3_ => [(17, ⟨True, rep p3_.1⟩)]) (fun p3_ => []) (.cons (t := 17) rfl Sub.nil) SubB.nil (.cons (t := 1) rfl (.cons (t := 2) rfl (.cons (t := 15) rfl (.cons (t := 16) rfl Sub.nil)))) SubB.nil (fun p3_ o_3 h hD3 => ?_)
      refine .seq ?_
      refine .region [] mixed (by kernel_rfl) ?_
      refine .cons (.lt .none (.s rfl) (.s rfl)) rfl ?_
      refine .nil ?_
      refine .then ?_
      refine .seq ?_
      refine .cond (t := 18) rfl trivial (fun hb4 => ?_) (fun hb4 => ?_)
      · replace h := bif_t h hb4
        refine .skip ?_
        refine .then ?_
        refine .seq ?_
        obtain ⟨o_5, h, hK5⟩ := bindD_some h
        unfold slices_EqualFunc_Edge_L1 at h
        refine .thenJ (ι := Unit) (fun j_5 => []) (fun j_5 => []) (fun s => o_5 = Res.nx s) (.cons (t := 1) rfl (.cons (t := 2) rfl (.cons (t := 15) rfl (.cons (t := 16) rfl (.cons (t := 17) rfl Sub.nil))))) SubB.nil ?_ (fun j_5 hj5 => ?_)
        · skip
          refine .block ?_
          refine .seq ?_
          refine .region [([], []), ([], []), ([], []), ([], [8]), ([], []), ([8], [8])] mixed (by kernel_rfl) ?_
          refine .consA (.move .none (.s rfl)) rfl ?_
          obtain ⟨hn6, h⟩ := need_some h
          refine .consA (.indexAddr .none sl23 ty96 (.s rfl) (.s rfl) (fun _ => hn6)) rfl ?_
          obtain ⟨v1, hv7, h⟩ := bnd_some h
          refine .consA (.re hv7 (.load .none ty96 (.s rfl))) rfl ?_
          refine .consW (.alloc zo96 rfl) rfl rfl ?_
          refine .consA (.assign .none (.s rfl)) rfl ?_
          refine .consN (.store ty96 rfl rfl (.s rfl)) rfl ?_
          refine .nil ?_
          refine .then ?_
          refine .freeze (t := 8) rfl rfl SubB.nil rfl ?_
          refine .seq ?_
          refine .region [([], []), ([], []), ([], []), ([], []), ([], [9]), ([9], [9])] mixed (by kernel_rfl) ?_
          refine .consA (.move .none (.s rfl)) rfl ?_
          refine .consA (.move .none (.s rfl)) rfl ?_
          obtain ⟨hn8, h⟩ := need_some h
          refine .consA (.indexAddr .none sl23 ty96 (.s rfl) (.s rfl) (fun _ => hn8)) rfl ?_
          obtain ⟨v2, hv9, h⟩ := bnd_some h
          refine .consA (.re hv9 (.load .none ty96 (.s rfl))) rfl ?_
          refine .consW (.alloc zo96 rfl) rfl rfl ?_
          refine .consN (.store ty96 rfl rfl (.s rfl)) rfl ?_
          refine .nil ?_
          refine .then ?_
          refine .freeze (t := 9) rfl rfl SubB.nil rfl ?_
          refine .seq ?_
          refine .region [] mixed (by kernel_rfl) ?_
          refine .cons (.move .none (.s rfl)) rfl ?_
          refine .cons (.load .none ty96 (.s rfl)) rfl ?_
          refine .cons (.load .none ty96 (.s rfl)) rfl ?_
          obtain ⟨r1, hv10, h⟩ := bind_some h
          refine .cons (.callV (v1, v2, r1) .none (.s rfl) (fun _ => hv10) (.cons (.s rfl) (.cons (.s rfl) .nil))) rfl ?_
          refine .cons (.not .none (.s rfl)) rfl ?_
          refine .nil ?_
          refine .then ?_
          refine .cond (t := 30) rfl trivial (fun hb11 => ?_) (fun hb11 => ?_)
          · replace h := bif_t h hb11
            refine .seq ?_
            refine .region [] mixed (by kernel_rfl) ?_
            refine .cons (.assign .none .bool) rfl ?_
            refine .nil ?_
            refine .then ?_
            refine .ret ?_
            refine .blkRet ?_
            refine .thenRet ?_
            refine .thenRet ?_
            refine .blkRet ?_
            refine .thenRet ?_
            replace h := resd_ab hK5 (some_eq h)
            replace h := hD3 _ (some_eq h)
            replace h := resb_ab hK2 (some_eq h)
            obtain rfl := some_eq h
            exact Ends.ret1 (.inl rfl) Tryd.results81 (ResOK.tmp rfl trivial Imp.refl)
          · replace h := bif_f h hb11
            refine .skip ?_
            refine .blkNormal ?_
            exact Ends.join _ (some_eq h) (.cons (t := 1) rfl (.cons (t := 2) rfl (.cons (t := 15) rfl (.cons (t := 16) rfl (.cons (t := 17) rfl Sub.nil))))) SubB.nil
        · have h := resd_nx hK5 hj5
          refine .region [] mixed (by kernel_rfl) ?_
          refine .cons (.addW .none (.s rfl) (.int (by decide))) rfl ?_
          refine .cons (.move .none (.s rfl)) rfl ?_
          refine .nil ?_
          exact Ends.againL (some_eq h) (.cons (t := 17) rfl (.cons (t := 1) rfl (.cons (t := 2) rfl (.cons (t := 15) rfl (.cons (t := 16) rfl Sub.nil))))) SubB.nil
      · replace h := bif_f h hb4
        refine .exit ?_
        refine .thenExit ?_
        refine .thenExit ?_
        refine .blkExit ?_
        replace h := hD3 _ (some_eq h)
        exact Ends.join _ (some_eq h) Sub.nil SubB.nil
    · have h := resb_nx hK2 hj2
      refine .seq ?_
      refine .region [] mixed (by kernel_rfl) ?_
      refine .cons (.assign .none .bool) rfl ?_
      refine .nil ?_
      refine .then ?_
      refine .ret ?_
      obtain rfl := some_eq h
      exact Ends.ret1 (.inl rfl) Tryd.results81 (ResOK.tmp rfl trivial Imp.refl)

theorem slices_Equal_Point_ok {s1_1 : (List Point)} {s2_1 : (List Point)} {r : Bool}  (h : slices_Equal_Point s1_1 s2_1 = some r) : FSpec Tryd.prog 83 [rep s1_1, rep s2_1] (rep r) := by
  unfold slices_Equal_Point at h
  refine FSpec.intro (n := 26) fnok83 Tryd.func83 rfl Tryd.ntmps83 rfl (fun F => ?_)
  refine .seq ?_
  refine .region [] mixed (by kernel_rfl) ?_
  refine .cons (.assign .none .bool) rfl ?_
  refine .nil ?_
  refine .then ?_
  refine .seq ?_
  refine .seq ?_
  refine .region [] mixed (by kernel_rfl) ?_
  refine .cons (.move .none (.s rfl)) rfl ?_
  refine .cons (.len .none sl94 (.s rfl)) rfl ?_
  refine .cons (.move .none (.s rfl)) rfl ?_
  refine .cons (.len .none sl94 (.s rfl)) rfl ?_
  refine .cons (.neI .none (.s rfl) (.s rfl)) rfl ?_
  refine .nil ?_
  refine .then ?_
  refine .cond (t := 10) rfl trivial (fun hb1 => ?_) (fun hb1 => ?_)
  · replace h := bif_t h hb1
    refine .seq ?_
    refine .region [] mixed (by kernel_rfl) ?_
    refine .cons (.assign .none .bool) rfl ?_
    refine .nil ?_
    refine .then ?_
    refine .ret ?_
    refine .thenRet ?_
    obtain rfl := some_eq h
    exact Ends.ret1 (.inl rfl) Tryd.results83 (ResOK.tmp rfl trivial Imp.refl)
  · replace h := bif_f h hb1
    refine .skip ?_
    refine .then ?_
    refine .seq ?_
    refine .seq ?_
    refine .region [] mixed (by kernel_rfl) ?_
    refine .cons (.move .none (.s rfl)) rfl ?_
    refine .cons (.len .none sl94 (.s rfl)) rfl ?_
    refine .cons (.move .none (.int (by decide))) rfl ?_
    refine .nil ?_
    refine .then ?_
    obtain ⟨o_2, h, hK2⟩ := bindR_some h
    refine .thenJ (ι := Unit) (fun j_2 => []) (fun j_2 => []) (fun s => o_2 = Res.nx s) Sub.nil SubB.nil ?_ (fun j_2 hj2 => ?_)
    · skip
      refine .block ?_
      refine .rforEL h (fun p3_ => [(13, ⟨True, rep p3_.1⟩)]) (fun p3_ => []) (.cons (t := 13) rfl Sub.nil) SubB.nil (.cons (t := 0) rfl (.cons (t := 1) rfl (.cons (t := 12) rfl Sub.nil))) SubB.nil (fun p3_ o_3 h hD3 => ?_)
      refine .seq ?_
      refine .region [] mixed (by kernel_rfl) ?_
      refine .cons (.lt .none (.s rfl) (.s rfl)) rfl ?_
      refine .nil ?_
      refine .then ?_
      refine .seq ?_
      refine .cond (t := 14) rfl trivial (fun hb4 => ?_) (fun hb4 => ?_)
      · replace h := bif_t h hb4
        refine .skip ?_
        refine .then ?_
        refine .seq ?_
        obtain ⟨o_5, h, hK5⟩ := bindD_some h
        unfold slices_Equal_Point_L1 at h
        refine .thenJ (ι := Unit) (fun j_5 => []) (fun j_5 => []) (fun s => o_5 = Res.nx s) (.cons (t := 0) rfl (.cons (t := 1) rfl (.cons (t := 12) rfl (.cons (t := 13) rfl Sub.nil)))) SubB.nil ?_ (fun j_5 hj5 => ?_)
        · skip
          refine .block ?_
          refine .seq ?_
          refine .region [] mixed (by kernel_rfl) ?_
          refine .cons (.move .none (.s rfl)) rfl ?_
          refine .cons (.assign .none (.s rfl)) rfl ?_
          refine .nil ?_
          refine .then ?_
          refine .seq ?_
          refine .region [] mixed (by kernel_rfl) ?_
          refine .cons (.move .none (.s rfl)) rfl ?_
          refine .cons (.move .none (.s rfl)) rfl ?_
          obtain ⟨hn6, h⟩ := need_some h
          refine .cons (.indexAddr .none sl94 ty118 (.s rfl) (.s rfl) (fun _ => hn6)) rfl ?_
          refine .cons (.load .none ty118 (.s rfl)) rfl ?_
          refine .cons (.move .none (.s rfl)) rfl ?_
          refine .cons (.move .none (.s rfl)) rfl ?_
          obtain ⟨hn7, h⟩ := need_some h
          refine .cons (.indexAddr .none sl94 ty118 (.s rfl) (.s rfl) (fun _ => hn7)) rfl ?_
          refine .cons (.load .none ty118 (.s rfl)) rfl ?_
          refine .cons (.neS .none eq118 (.s rfl) (.s rfl)) rfl ?_
          refine .nil ?_
          refine .then ?_
          refine .cond (t := 24) rfl trivial (fun hb8 => ?_) (fun hb8 => ?_)
          · replace h := bif_t h hb8
            refine .seq ?_
            refine .region [] mixed (by kernel_rfl) ?_
            refine .cons (.assign .none .bool) rfl ?_
            refine .nil ?_
            refine .then ?_
            refine .ret ?_
            refine .blkRet ?_
            refine .thenRet ?_
            refine .thenRet ?_
            refine .blkRet ?_
            refine .thenRet ?_
            replace h := resd_ab hK5 (some_eq h)
            replace h := hD3 _ (some_eq h)
            replace h := resb_ab hK2 (some_eq h)
            obtain rfl := some_eq h
            exact Ends.ret1 (.inl rfl) Tryd.results83 (ResOK.tmp rfl trivial Imp.refl)
          · replace h := bif_f h hb8
            refine .skip ?_
            refine .blkNormal ?_
            exact Ends.join _ (some_eq h) (.cons (t := 0) rfl (.cons (t := 1) rfl (.cons (t := 12) rfl (.cons (t := 13) rfl Sub.nil)))) SubB.nil
        · have h := resd_nx hK5 hj5
          refine .region [] mixed (by kernel_rfl) ?_
          refine .cons (.addW .none (.s rfl) (.int (by decide))) rfl ?_
          refine .cons (.move .none (.s rfl)) rfl ?_
          refine .nil ?_
          exact Ends.againL (some_eq h) (.cons (t := 13) rfl (.cons (t := 0) rfl (.cons (t := 1) rfl (.cons (t := 12) rfl Sub.nil)))) SubB.nil
      · replace h := bif_f h hb4
        refine .exit ?_
        refine .thenExit ?_
        refine .thenExit ?_
        refine .blkExit ?_
        replace h := hD3 _ (some_eq h)
        exact Ends.join _ (some_eq h) Sub.nil SubB.nil
    · have h := resb_nx hK2 hj2
      refine .seq ?_
      refine .region [] mixed (by kernel_rfl) ?_
      refine .cons (.assign .none .bool) rfl ?_
      refine .nil ?_
      refine .then ?_
      refine .ret ?_
      obtain rfl := some_eq h
      exact Ends.ret1 (.inl rfl) Tryd.results83 (ResOK.tmp rfl trivial Imp.refl)

theorem ref_SameDoc_1_ok {x1 : DEdge} {y1 : DEdge} {r : Bool}  (h : ref_SameDoc_1 x1 y1 = some r) : FSpec Tryd.prog 82 [rep x1, rep y1] (rep r) := by
  unfold ref_SameDoc_1 at h
  refine FSpec.intro (n := 45) fnok82 Tryd.func82 rfl Tryd.ntmps82 rfl (fun F => ?_)
  refine .seq ?_
  refine .region [] mixed (by kernel_rfl) ?_
  refine .cons (.box .none (.s rfl)) rfl ?_
  refine .cons (.box .none (.s rfl)) rfl ?_
  refine .cons (.assign .none .bool) rfl ?_
  refine .nil ?_
  refine .then ?_
  refine .seq ?_
  refine .region [] mixed (by kernel_rfl) ?_
  refine .cons (.fieldAddr .none fd96_0 hfd96_0 (.s rfl)) rfl ?_
  refine .cons (.load .none ty9 (.s rfl)) rfl ?_
  refine .cons (.fieldAddr .none fd96_0 hfd96_0 (.s rfl)) rfl ?_
  refine .cons (.load .none ty9 (.s rfl)) rfl ?_
  refine .cons (.eqS .none (eqAt_str Tryd.underlying9) (.s rfl) (.s rfl)) rfl ?_
  refine .cons (.move .none (.s rfl)) rfl ?_
  refine .cons (.fieldAddr (.at rfl rfl) fd96_1 hfd96_1 (.s rfl)) rfl ?_
  refine .cons (.load (.at rfl rfl) ty93 (.tmp rfl id)) rfl ?_
  refine .cons (.fieldAddr (.at rfl rfl) fd96_1 hfd96_1 (.s rfl)) rfl ?_
  refine .cons (.load (.at rfl rfl) ty93 (.tmp rfl id)) rfl ?_
  refine .cons (.eqS (.at rfl rfl) eqa93 (.tmp rfl id) (.tmp rfl id)) rfl ?_
  refine .cons (.pickAnd .none (.s rfl) (.tmp rfl id)) rfl ?_
  refine .cons (.move .none (.s rfl)) rfl ?_
  refine .cons (.fieldAddr (.at rfl rfl) fd96_2 hfd96_2 (.s rfl)) rfl ?_
  refine .cons (.load (.at rfl rfl) ty93 (.tmp rfl id)) rfl ?_
  refine .cons (.fieldAddr (.at rfl rfl) fd96_2 hfd96_2 (.s rfl)) rfl ?_
  refine .cons (.load (.at rfl rfl) ty93 (.tmp rfl id)) rfl ?_
  refine .cons (.eqS (.at rfl rfl) eqa93 (.tmp rfl id) (.tmp rfl id)) rfl ?_
  refine .cons (.pickAnd .none (.s rfl) (.tmp rfl id)) rfl ?_
  refine .cons (.move .none (.s rfl)) rfl ?_
  refine .cons (.fieldAddr (.at rfl rfl) fd96_3 hfd96_3 (.s rfl)) rfl ?_
  refine .cons (.load (.at rfl rfl) ty94 (.tmp rfl id)) rfl ?_
  refine .cons (.fieldAddr (.at rfl rfl) fd96_3 hfd96_3 (.s rfl)) rfl ?_
  refine .cons (.load (.at rfl rfl) ty94 (.tmp rfl id)) rfl ?_
  obtain ⟨r1, hv1, h⟩ := bind_some h
  refine .cons (.callIf (.at rfl rfl) fnok83 (fun hg => slices_Equal_Point_ok ((fun hg => gd_some hv1 (hg.2)) hg)) (.cons (.tmp rfl id) (.cons (.tmp rfl id) .nil)) (fun h => h)) rfl ?_
  refine .cons (.pickAnd .none (.s rfl) (.tmp rfl id)) rfl ?_
  refine .cons (.move .none (.s rfl)) rfl ?_
  refine .cons (.fieldAddr (.at rfl rfl) fd96_4 hfd96_4 (.s rfl)) rfl ?_
  refine .cons (.load (.at rfl rfl) ty9 (.tmp rfl id)) rfl ?_
  refine .cons (.fieldAddr (.at rfl rfl) fd96_4 hfd96_4 (.s rfl)) rfl ?_
  refine .cons (.load (.at rfl rfl) ty9 (.tmp rfl id)) rfl ?_
  refine .cons (.eqS (.at rfl rfl) (eqAt_str Tryd.underlying9) (.tmp rfl id) (.tmp rfl id)) rfl ?_
  refine .cons (.pickAnd .none (.s rfl) (.tmp rfl id)) rfl ?_
  refine .cons (.move .none (.s rfl)) rfl ?_
  refine .cons (.fieldAddr (.at rfl rfl) fd96_5 hfd96_5 (.s rfl)) rfl ?_
  refine .cons (.load (.at rfl rfl) ty9 (.tmp rfl id)) rfl ?_
  refine .cons (.fieldAddr (.at rfl rfl) fd96_5 hfd96_5 (.s rfl)) rfl ?_
  refine .cons (.load (.at rfl rfl) ty9 (.tmp rfl id)) rfl ?_
  refine .cons (.eqS (.at rfl rfl) (eqAt_str Tryd.underlying9) (.tmp rfl id) (.tmp rfl id)) rfl ?_
  refine .cons (.pickAnd .none (.s rfl) (.tmp rfl id)) rfl ?_
  refine .cons (.assign .none (.s rfl)) rfl ?_
  refine .nil ?_
  refine .then ?_
  refine .ret ?_
  obtain rfl := some_eq h
  exact Ends.ret1 (.inl rfl) Tryd.results82 (ResOK.tmp rfl trivial Imp.refl)

theorem ref_SameDoc_ok {a1 : Doc} {b1 : Doc} {r : Bool}  (h : ref_SameDoc a1 b1 = some r) : FSpec Tryd.prog 34 [rep a1, rep b1] (rep r) := by
  unfold ref_SameDoc at h
  refine FSpec.intro (n := 17) fnok34 Tryd.func34 rfl Tryd.ntmps34 rfl (fun F => ?_)
  refine .seq ?_
  refine .region [] mixed (by kernel_rfl) ?_
  refine .cons (.box .none (.s rfl)) rfl ?_
  refine .cons (.box .none (.s rfl)) rfl ?_
  refine .cons (.assign .none .bool) rfl ?_
  refine .nil ?_
  refine .then ?_
  refine .seq ?_
  refine .region [] mixed (by kernel_rfl) ?_
  refine .cons (.fieldAddr .none fd25_0 hfd25_0 (.s rfl)) rfl ?_
  refine .cons (.load .none ty22 (.s rfl)) rfl ?_
  refine .cons (.fieldAddr .none fd25_0 hfd25_0 (.s rfl)) rfl ?_
  refine .cons (.load .none ty22 (.s rfl)) rfl ?_
  obtain ⟨r1, hv1, h⟩ := bind_some h
  refine .cons (.call .none (slices_Equal_Node_ok hv1) (.cons (.s rfl) (.cons (.s rfl) .nil))) rfl ?_
  refine .cons (.move .none (.s rfl)) rfl ?_
  refine .cons (.fieldAddr (.at rfl rfl) fd25_1 hfd25_1 (.s rfl)) rfl ?_
  refine .cons (.load (.at rfl rfl) ty23 (.tmp rfl id)) rfl ?_
  refine .cons (.fieldAddr (.at rfl rfl) fd25_1 hfd25_1 (.s rfl)) rfl ?_
  refine .cons (.load (.at rfl rfl) ty23 (.tmp rfl id)) rfl ?_
  obtain ⟨r2, hv2, h⟩ := bind_some h
  refine .cons (.callIf (.at rfl rfl) fnok81 (fun hg => slices_EqualFunc_Edge_ok ((fun hg => gd_some hv2 (hg.2)) hg)) (.cons (.tmp rfl id) (.cons (.tmp rfl id) (.cons (Opd.func (ι := DEdge × DEdge × Bool) (pre := fun i => ref_SameDoc_1 i.1 i.2.1 = some i.2.2) (Ss := fun i => [rep i.1, rep i.2.1]) (S := fun i => rep i.2.2) fnok82 (fun i h => ref_SameDoc_1_ok h)) .nil))) (fun h => h)) rfl ?_
  refine .cons (.pickAnd .none (.s rfl) (.tmp rfl id)) rfl ?_
  refine .cons (.assign .none (.s rfl)) rfl ?_
  refine .nil ?_
  refine .then ?_
  refine .ret ?_
  obtain rfl := some_eq h
  exact Ends.ret1 (.inl rfl) Tryd.results34 (ResOK.tmp rfl trivial Imp.refl)

theorem law_docIs_ok {d1 : Doc} {e1 : Int} {want1 : Int} {right1 : Doc} {r : Bool}  (h : law_docIs d1 e1 want1 right1 = some r) : FSpec Tryd.prog 12 [rep d1, rep e1, rep want1, rep right1] (rep r) := by
  unfold law_docIs at h
  refine FSpec.intro (n := 33) fnok12 Tryd.func12 rfl Tryd.ntmps12 rfl (fun F => ?_)
  refine .seq ?_
  refine .region [] mixed (by kernel_rfl) ?_
  refine .cons (.box .none (.s rfl)) rfl ?_
  refine .cons (.box .none (.s rfl)) rfl ?_
  refine .cons (.assign .none .bool) rfl ?_
  refine .nil ?_
  refine .then ?_
  refine .seq ?_
  refine .seq ?_
  refine .region [] mixed (by kernel_rfl) ?_
  refine .cons (.move .none (.s rfl)) rfl ?_
  refine .cons (.neI .none (.s rfl) (.int (by decide))) rfl ?_
  refine .nil ?_
  refine .then ?_
  refine .cond (t := 10) rfl trivial (fun hb1 => ?_) (fun hb1 => ?_)
  · replace h := bif_t h hb1
    refine .seq ?_
    refine .region [] mixed (by kernel_rfl) ?_
    refine .cons (.fieldAddr .none fd25_0 hfd25_0 (.s rfl)) rfl ?_
    refine .cons (.load .none ty22 (.s rfl)) rfl ?_
    refine .cons (.len .none sl22 (.s rfl)) rfl ?_
    refine .cons (.eqI .none (.s rfl) (.int (by decide))) rfl ?_
    refine .cons (.move .none (.s rfl)) rfl ?_
    refine .cons (.fieldAddr (.at rfl rfl) fd25_1 hfd25_1 (.s rfl)) rfl ?_
    refine .cons (.load (.at rfl rfl) ty23 (.tmp rfl id)) rfl ?_
    refine .cons (.len (.at rfl rfl) sl23 (.tmp rfl id)) rfl ?_
    refine .cons (.eqI (.at rfl rfl) (.tmp rfl id) (.int (by decide))) rfl ?_
    refine .cons (.pickAnd .none (.s rfl) (.tmp rfl id)) rfl ?_
    refine .cons (.move .none (.s rfl)) rfl ?_
    refine .cons (.move (.at rfl rfl) (.s rfl)) rfl ?_
    refine .cons (.move (.at rfl rfl) (.s rfl)) rfl ?_
    refine .cons (.eqI (.at rfl rfl) (.tmp rfl id) (.tmp rfl id)) rfl ?_
    refine .cons (.pickAnd .none (.s rfl) (.tmp rfl id)) rfl ?_
    refine .cons (.assign .none (.s rfl)) rfl ?_
    refine .nil ?_
    refine .then ?_
    refine .ret ?_
    refine .thenRet ?_
    obtain rfl := some_eq h
    exact Ends.ret1 (.inl rfl) Tryd.results12 (ResOK.tmp rfl trivial Imp.refl)
  · replace h := bif_f h hb1
    refine .skip ?_
    refine .then ?_
    refine .seq ?_
    refine .region [] mixed (by kernel_rfl) ?_
    refine .cons (.move .none (.s rfl)) rfl ?_
    refine .cons (.eqI .none (.s rfl) (.int (by decide))) rfl ?_
    refine .cons (.move .none (.s rfl)) rfl ?_
    refine .cons (.load (.at rfl rfl) ty25 (.s rfl)) rfl ?_
    refine .cons (.load (.at rfl rfl) ty25 (.s rfl)) rfl ?_
    obtain ⟨r1, hv2, h⟩ := bind_some h
    refine .cons (.callIf (.at rfl rfl) fnok34 (fun hg => ref_SameDoc_ok ((fun hg => gd_some hv2 (hg.2)) hg)) (.cons (.tmp rfl id) (.cons (.tmp rfl id) .nil)) (fun h => h)) rfl ?_
    refine .cons (.pickAnd .none (.s rfl) (.tmp rfl id)) rfl ?_
    refine .cons (.assign .none (.s rfl)) rfl ?_
    refine .nil ?_
    refine .then ?_
    refine .ret ?_
    obtain rfl := some_eq h
    exact Ends.ret1 (.inl rfl) Tryd.results12 (ResOK.tmp rfl trivial Imp.refl)

theorem law_UngroupsMatch_ok {d1 : Doc} {id1 : Str} {r : Bool}  (h : law_UngroupsMatch d1 id1 = some r) : FSpec Tryd.prog 3 [rep d1, rep id1] (rep r) := by
  unfold law_UngroupsMatch at h
  refine FSpec.intro (n := 40) fnok3 Tryd.func3 rfl Tryd.ntmps3 rfl (fun F => ?_)
  refine .seq ?_
  refine .region [] mixed (by kernel_rfl) ?_
  refine .cons (.box .none (.s rfl)) rfl ?_
  refine .cons (.assign .none .bool) rfl ?_
  refine .nil ?_
  refine .then ?_
  refine .seq ?_
  refine .region [([], []), ([], []), ([], []), ([], []), ([], []), ([], []), ([], [5]), ([5], [5]), ([], [])] mixed (by kernel_rfl) ?_
  refine .consA (.load .none ty25 (.s rfl)) rfl ?_
  refine .consA (.move .none (.s rfl)) rfl ?_
  obtain ⟨r1, hv1, h⟩ := bind_some h
  refine .consA (.call .none (page_Ungroup_ok hv1) (.cons (.s rfl) (.cons (.s rfl) .nil))) rfl ?_
  refine .consA (.move .none (.s rfl)) rfl ?_
  refine .consA (.extract .none (.s rfl) rfl) rfl ?_
  refine .consA (.extract .none (.s rfl) rfl) rfl ?_
  refine .consW (.alloc zo25 rfl) rfl rfl ?_
  refine .consN (.store ty25 rfl rfl (.s rfl)) rfl ?_
  refine .consA (.assign .none (.s rfl)) rfl ?_
  refine .nil ?_
  refine .then ?_
  refine .freeze (t := 5) rfl rfl SubB.nil rfl ?_
  refine .seq ?_
  refine .region [] mixed (by kernel_rfl) ?_
  refine .cons (.load .none ty25 (.s rfl)) rfl ?_
  obtain ⟨want1, hv2, h⟩ := bind_some h
  refine .cons (.call .none (ref_DocError_ok hv2) (.cons (.s rfl) .nil)) rfl ?_
  refine .cons (.assign .none (.s rfl)) rfl ?_
  refine .nil ?_
  refine .then ?_
  refine .seq ?_
  refine .region [([], [8])] mixed (by kernel_rfl) ?_
  refine .consW (.alloc zo25 rfl) rfl rfl ?_
  refine .nil ?_
  refine .then ?_
  obtain ⟨right1, hv3, h⟩ := bnd_some h
  refine .reB (t := 8) rfl (congrArg (cont 25) hv3) ?_
  refine .nameBox (t := 8) (g := 5001) rfl rfl (fun m5001 => ?_)
  refine .seq ?_
  refine .seq ?_
  refine .region [] mixed (by kernel_rfl) ?_
  refine .cons (.move .none (.s rfl)) rfl ?_
  refine .cons (.eqI .none (.s rfl) (.int (by decide))) rfl ?_
  refine .nil ?_
  refine .then ?_
  obtain ⟨j_4, h, hK4⟩ := bind_some h
  refine .thenJ (ι := Int) (fun j_4 => [(7, ⟨True, rep j_4⟩)]) (fun j_4 => []) (fun s => j_4 = s) (.cons (t := 1) rfl (.cons (t := 2) rfl (.cons (t := 5) rfl (.cons (t := 6) rfl (.cons (t := 8) rfl Sub.nil))))) (.cons (t := 5001) rfl SubB.nil) ?_ (fun j_4' hj4 => ?_)
  · skip
    refine .cond (t := 18) rfl trivial (fun hb5 => ?_) (fun hb5 => ?_)
    · replace h := bif_t h hb5
      refine .region [] mixed (by kernel_rfl) ?_
      refine .cons (.load .none ty25 (.s rfl)) rfl ?_
      refine .cons (.move .none (.s rfl)) rfl ?_
      obtain ⟨r2, hv6, h⟩ := bind_some h
      refine .cons (.call .none (ref_NodeAt_ok hv6) (.cons (.s rfl) (.cons (.s rfl) .nil))) rfl ?_
      refine .cons (.lt .none (.s rfl) (.int (by decide))) rfl ?_
      obtain ⟨want2, hv7, h⟩ := bind_some h
      refine .cons (.call .none (ref_When_ok hv7) (.cons (.s rfl) (.cons (.int (by decide)) .nil))) rfl ?_
      refine .cons (.assign .none (.s rfl)) rfl ?_
      refine .nil ?_
      exact Ends.join _ (some_eq h) (.cons (t := 7) rfl (.cons (t := 1) rfl (.cons (t := 2) rfl (.cons (t := 5) rfl (.cons (t := 6) rfl (.cons (t := 8) rfl Sub.nil)))))) (.cons (t := 5001) rfl SubB.nil)
    · replace h := bif_f h hb5
      refine .skip ?_
      exact Ends.join _ (some_eq h) (.cons (t := 7) rfl (.cons (t := 1) rfl (.cons (t := 2) rfl (.cons (t := 5) rfl (.cons (t := 6) rfl (.cons (t := 8) rfl Sub.nil)))))) (.cons (t := 5001) rfl SubB.nil)
  · subst hj4; have h := hK4; clear hK4
    refine .seq ?_
    refine .seq ?_
    refine .region [] mixed (by kernel_rfl) ?_
    refine .cons (.move .none (.s rfl)) rfl ?_
    refine .cons (.eqI .none (.s rfl) (.int (by decide))) rfl ?_
    refine .nil ?_
    refine .then ?_
    obtain ⟨j_8, h, hK8⟩ := bind_some h
    refine .thenJ (ι := (Int × Doc)) (fun j_8 => [(7, ⟨True, rep j_8.1⟩)]) (fun j_8 => [(5001, some (boxAt m5001 25 j_8.2))]) (fun s => j_8 = s) (.cons (t := 5) rfl (.cons (t := 6) rfl (.cons (t := 8) rfl Sub.nil))) SubB.nil ?_ (fun j_8' hj8 => ?_)
    · skip
      refine .cond (t := 25) rfl trivial (fun hb9 => ?_) (fun hb9 => ?_)
      · replace h := bif_t h hb9
        refine .region [([], []), ([], []), ([], []), ([], []), ([], []), ([], []), ([5001], [5001]), ([], [])] mixed (by kernel_rfl) ?_
        refine .consA (.load .none ty25 (.s rfl)) rfl ?_
        refine .consA (.move .none (.s rfl)) rfl ?_
        obtain ⟨r3, hv10, h⟩ := bind_some h
        refine .consA (.call .none (ref_UngroupOf_ok hv10) (.cons (.s rfl) (.cons (.s rfl) .nil))) rfl ?_
        refine .consA (.move .none (.s rfl)) rfl ?_
        refine .consA (.extract .none (.s rfl) rfl) rfl ?_
        refine .consA (.extract .none (.s rfl) rfl) rfl ?_
        refine .consN (.storeAt0 (g := 5001) ty25 rfl (.s rfl) (.s rfl)) rfl ?_
        refine .consA (.assign .none (.s rfl)) rfl ?_
        refine .nil ?_
        exact Ends.join _ (some_eq h) (.cons (t := 7) rfl (.cons (t := 5) rfl (.cons (t := 6) rfl (.cons (t := 8) rfl Sub.nil)))) (.cons (t := 5001) rfl SubB.nil)
      · replace h := bif_f h hb9
        refine .skip ?_
        exact Ends.join _ (some_eq h) (.cons (t := 7) rfl (.cons (t := 5) rfl (.cons (t := 6) rfl (.cons (t := 8) rfl Sub.nil)))) (.cons (t := 5001) rfl SubB.nil)
    · subst hj8; have h := hK8; clear hK8
      refine .freezeBox (g := 5001) (ts := [8]) rfl (.cons (t := 8) rfl trivial .nil) SubB.nil rfl ?_
      refine .seq ?_
      refine .region [] mixed (by kernel_rfl) ?_
      obtain ⟨r4, hv11, h⟩ := bind_some h
      refine .cons (.call .none (law_pages_ok hv11) .nil) rfl ?_
      refine .cons (.move .none (.s rfl)) rfl ?_
      refine .cons (.load (.at rfl rfl) ty25 (.s rfl)) rfl ?_
      refine .cons (.move (.at rfl rfl) (.s rfl)) rfl ?_
      refine .cons (.move (.at rfl rfl) (.s rfl)) rfl ?_
      refine .cons (.load (.at rfl rfl) ty25 (.s rfl)) rfl ?_
      obtain ⟨r5, hv12, h⟩ := bind_some h
      refine .cons (.callIf (.at rfl rfl) fnok12 (fun hg => law_docIs_ok ((fun hg => gd_some hv12 (hg.2)) hg)) (.cons (.tmp rfl id) (.cons (.tmp rfl id) (.cons (.tmp rfl id) (.cons (.tmp rfl id) .nil)))) (fun h => h)) rfl ?_
      refine .cons (.pickAnd .none (.s rfl) (.tmp rfl id)) rfl ?_
      refine .cons (.assign .none (.s rfl)) rfl ?_
      refine .nil ?_
      refine .then ?_
      refine .ret ?_
      obtain rfl := some_eq h
      exact Ends.ret1 (.inl rfl) Tryd.results3 (ResOK.tmp rfl trivial Imp.refl)


end Go.Proofs.YtclcheggnlhamaaDoor
