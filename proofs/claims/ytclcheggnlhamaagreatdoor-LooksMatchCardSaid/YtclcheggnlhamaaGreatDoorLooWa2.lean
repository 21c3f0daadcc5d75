/-
  The walks: what a function computes is what its plain function says (printed by a program of one's own).
-/
import Derived.Test.YtclcheggnlhamaaGreatDoorLooWa1
set_option maxRecDepth 100000
set_option linter.unusedSimpArgs false
set_option linter.unusedVariables false
namespace Go.Proofs.YtclcheggnlhamaaGreatDoor
open Go Go.DB Go.RowKit

theorem page_viewOf_ok {d1 : Doc} {r : (Option Page_view)}  (h : page_viewOf d1 = some r) : FSpec Tryz.prog 72 [rep d1] (rep r) := by
  unfold page_viewOf at h
  refine FSpec.intro (n := 47) fnok72 Tryz.func72 rfl Tryz.ntmps72 rfl (fun F => ?_)
  refine .seq ?_
  refine .region [] mixed (by kernel_rfl) ?_
  refine .cons (.box .none (.s rfl)) rfl ?_
  refine .cons (.assign .none (.const (x := (none : (Option Page_view))) (fun M w => ⟨_, ptr_zero, rfl⟩))) rfl ?_
  refine .nil ?_
  refine .then ?_
  refine .seq ?_
  refine .region [([], []), ([], [7]), ([], [8]), ([7, 8], [9, 7, 8]), ([9], [10, 9]), ([10], [3, 10])] mixed (by kernel_rfl) ?_
  refine .consA (.load .none ty25 (.s rfl)) rfl ?_
  refine .consW (.makeMap (K := Str) (V := Int) rfl) rfl rfl ?_
  refine .consW (.makeMapW (K := Str) (α := Int) (E := 3) rfl) rfl rfl ?_
  refine .consW (.buildG2 (t1 := 7) (t2 := 8) oneMap oneMapW (mk := (fun z1 z2 => (⟨d1, ⟨z1⟩, ⟨z2⟩⟩ : Page_view_o12))) bu148 zvc_Page_view_o12 rfl rfl rfl rfl rfl rfl rfl rfl rfl (fun _ _ => (.cons (.s rfl) (.cons (.s rfl) (.cons (.s rfl) .nil)))) (fun _ _ => (.cons rfl sv_Page_view_o12_0 (.cons rfl sv_Page_view_o12_1 (.cons rfl sv_Page_view_o12_2 .nil))))) rfl rfl ?_
  refine .consW (.boxG2 (t := 9) rfl rfl) rfl rfl ?_
  refine .consW (.passRow rfl (.tmp rfl)) rfl rfl ?_
  refine .nil ?_
  refine .then ?_
  refine .nameAt (t := 3) (g := 5001) rfl rfl (isBox_deep fun _ => (isBox_deep fun _ => isBox_cont)) rfl (fun m5001 => ?_)
  refine .open (k := 5001) (g := 5002) rfl rfl (fun s5002 => ?_)
  refine .open (k := 5001) (g := 5003) rfl rfl (fun s5003 => ?_)
  refine .seq ?_
  refine .seq ?_
  refine .region [] mixed (by kernel_rfl) ?_
  refine .cons (.fieldAddr .none fd25_0 hfd25_0 (.s rfl)) rfl ?_
  refine .cons (.load .none ty22 (.s rfl)) rfl ?_
  refine .cons (.len .none sl22 (.s rfl)) rfl ?_
  refine .cons (.move .none (.int (by decide))) rfl ?_
  refine .nil ?_
  refine .then ?_
  obtain ⟨c1, hv1, h⟩ := bnd_some h
  refine .reB (t := 5002) rfl (congrArg (fun y => CPred.at s5002 (mapV y)) hv1) ?_
  obtain ⟨c2, hv2, h⟩ := bnd_some h
  refine .reB (t := 5003) rfl (congrArg (fun y => CPred.at s5003 (mapW 3 y)) hv2) ?_
  obtain ⟨j_3, h, hK3⟩ := bind_some h
  refine .thenJ (ι := ((GMap Str Int) × (GMap Str (List Int)))) (fun j_3 => []) (fun j_3 => [(5002, some (CPred.at s5002 (mapV j_3.1))), (5003, some (CPred.at s5003 (mapW 3 j_3.2)))]) (fun s => j_3 = s) (.cons (t := 3) rfl Sub.nil) (.cons (t := 5001) rfl SubB.nil) ?_ (fun j_3' hj3 => ?_)
  · skip
    refine .block ?_
    refine .rforL h (fun p4_ => [(14, ⟨True, rep p4_.1⟩)]) (fun p4_ => [(5002, some (CPred.at s5002 (mapV p4_.2.1))), (5003, some (CPred.at s5003 (mapW 3 p4_.2.2)))]) (.cons (t := 14) rfl Sub.nil) (.cons (t := 5002) rfl (.cons (t := 5003) rfl SubB.nil)) (.cons (t := 3) rfl (.cons (t := 12) rfl (.cons (t := 13) rfl Sub.nil))) (.cons (t := 5001) rfl SubB.nil) (fun p4_ o_4 h hD4 => ?_)
    refine .seq ?_
    refine .region [] mixed (by kernel_rfl) ?_
    refine .cons (.lt .none (.s rfl) (.s rfl)) rfl ?_
    refine .nil ?_
    refine .then ?_
    refine .seq ?_
    refine .cond (t := 15) rfl trivial (fun hb5 => ?_) (fun hb5 => ?_)
    · replace h := bif_t h hb5
      refine .skip ?_
      refine .then ?_
      refine .seq ?_
      obtain ⟨j_6, h, hK6⟩ := bind_some h
      unfold page_viewOf_L1 at h
      refine .thenJ (ι := ((GMap Str Int) × (GMap Str (List Int)))) (fun j_6 => []) (fun j_6 => [(5002, some (CPred.at s5002 (mapV j_6.1))), (5003, some (CPred.at s5003 (mapW 3 j_6.2)))]) (fun s => j_6 = s) (.cons (t := 3) rfl (.cons (t := 12) rfl (.cons (t := 13) rfl (.cons (t := 14) rfl Sub.nil)))) (.cons (t := 5001) rfl SubB.nil) ?_ (fun j_6' hj6 => ?_)
      · skip
        refine .block ?_
        refine .seq ?_
        refine .region [([], []), ([], []), ([], []), ([], [5]), ([], []), ([5], [5])] mixed (by kernel_rfl) ?_
        refine .consA (.move .none (.s rfl)) rfl ?_
        obtain ⟨hn7, h⟩ := need_some h
        refine .consA (.indexAddr .none sl22 ty44 (.s rfl) (.s rfl) (fun _ => hn7)) rfl ?_
        obtain ⟨v1, hv8, h⟩ := bnd_some h
        refine .consA (.re hv8 (.load .none ty44 (.s rfl))) rfl ?_
        refine .consW (.alloc zo44 rfl) rfl rfl ?_
        refine .consA (.assign .none (.s rfl)) rfl ?_
        refine .consN (.store ty44 rfl rfl (.s rfl)) rfl ?_
        refine .nil ?_
        refine .then ?_
        refine .freeze (t := 5) rfl rfl (.cons (t := 5001) rfl (.cons (t := 5002) rfl (.cons (t := 5003) rfl SubB.nil))) rfl ?_
        refine .seq ?_
        refine .region [([], []), ([], []), ([], []), ([5001], []), ([], []), ([], []), ([], []), ([5002], [5002])] mixed (by kernel_rfl) ?_
        refine .consA (.move .none (.s rfl)) rfl ?_
        refine .consA (.nilCheckP .none (.s rfl)) rfl ?_
        refine .consA (.fieldPtr .none fd148_1 (.s rfl)) rfl ?_
        refine .consA (.loadAt (k := 5001) .none tr145 rfl (.s rfl) hv_Page_view_o12_1) rfl ?_
        refine .consA (.fieldAddr .none fd44_0 hfd44_0 (.s rfl)) rfl ?_
        refine .consA (.load .none ty9 (.s rfl)) rfl ?_
        refine .consA (.move .none (.s rfl)) rfl ?_
        refine .consN (.mapUpdate (q := 5002) mo145 (.s rfl) rfl (.s rfl) (.s rfl)) rfl ?_
        refine .nil ?_
        refine .then ?_
        obtain ⟨c3, hv9, h⟩ := bnd_some h
        refine .reB (t := 5002) rfl (congrArg (fun y => CPred.at s5002 (mapV y)) hv9) ?_
        refine .seq ?_
        refine .region [] mixed (by kernel_rfl) ?_
        refine .cons (.fieldAddr .none fd44_5 hfd44_5 (.s rfl)) rfl ?_
        refine .cons (.load .none ty9 (.s rfl)) rfl ?_
        refine .cons (.neS .none (eqAt_str Tryz.underlying9) (.s rfl) (.str (l := []) (by decide))) rfl ?_
        refine .nil ?_
        refine .then ?_
        refine .cond (t := 28) rfl trivial (fun hb10 => ?_) (fun hb10 => ?_)
        · replace h := bif_t h hb10
          refine .region [([], []), ([], []), ([], []), ([5001], []), ([], []), ([], []), ([], []), ([], []), ([], []), ([5001], []), ([], []), ([], []), ([5003], [41, 5003]), ([], []), ([], []), ([41], [44, 41]), ([5003, 44], [5003, 44])] mixed (by kernel_rfl) ?_
          refine .consA (.move .none (.s rfl)) rfl ?_
          refine .consA (.nilCheckP .none (.s rfl)) rfl ?_
          refine .consA (.fieldPtr .none fd148_2 (.s rfl)) rfl ?_
          refine .consA (.loadAt (k := 5001) .none tr146 rfl (.s rfl) hv_Page_view_o12_2) rfl ?_
          refine .consA (.fieldAddr .none fd44_5 hfd44_5 (.s rfl)) rfl ?_
          refine .consA (.load .none ty9 (.s rfl)) rfl ?_
          refine .consA (.move .none (.s rfl)) rfl ?_
          refine .consA (.nilCheckP .none (.s rfl)) rfl ?_
          refine .consA (.fieldPtr .none fd148_2 (.s rfl)) rfl ?_
          refine .consA (.loadAt (k := 5001) .none tr146 rfl (.s rfl) hv_Page_view_o12_2) rfl ?_
          refine .consA (.fieldAddr .none fd44_5 hfd44_5 (.s rfl)) rfl ?_
          refine .consA (.load .none ty9 (.s rfl)) rfl ?_
          refine .consW (.mapTake (q := 5003) mo146 zraw118 rfl rfl (.s rfl) rfl (.s rfl)) rfl rfl ?_
          refine .consA (.move .none (.s rfl)) rfl ?_
          refine .consA (.buildSlice (xs := [_]) .none sl118 ty3 hz3 (.cons (.s rfl) .nil) rfl (by decide)) rfl ?_
          obtain ⟨hn11, h⟩ := need_some h
          refine .consW (.append (k := 41) rk118 rfl (.tmp rfl) (.s rfl) hn11) rfl rfl ?_
          refine .consN (.mapPut (q := 5003) (t := 44) mo146 rfl (.s rfl) rfl (fun _ h => h) rfl rfl (.s rfl)) rfl ?_
          refine .nil ?_
          refine .blkNormal ?_
          exact Ends.join _ (some_eq h) (.cons (t := 3) rfl (.cons (t := 12) rfl (.cons (t := 13) rfl (.cons (t := 14) rfl Sub.nil)))) (.cons (t := 5002) rfl (.cons (t := 5003) rfl (.cons (t := 5001) rfl SubB.nil)))
        · replace h := bif_f h hb10
          refine .skip ?_
          refine .blkNormal ?_
          exact Ends.join _ (some_eq h) (.cons (t := 3) rfl (.cons (t := 12) rfl (.cons (t := 13) rfl (.cons (t := 14) rfl Sub.nil)))) (.cons (t := 5002) rfl (.cons (t := 5003) rfl (.cons (t := 5001) rfl SubB.nil)))
      · subst hj6; have h := hK6; clear hK6
        refine .region [] mixed (by kernel_rfl) ?_
        refine .cons (.addW .none (.s rfl) (.int (by decide))) rfl ?_
        refine .cons (.move .none (.s rfl)) rfl ?_
        refine .nil ?_
        exact Ends.againL (some_eq h) (.cons (t := 14) rfl (.cons (t := 3) rfl (.cons (t := 12) rfl (.cons (t := 13) rfl Sub.nil)))) (.cons (t := 5002) rfl (.cons (t := 5003) rfl (.cons (t := 5001) rfl SubB.nil)))
    · replace h := bif_f h hb5
      refine .exit ?_
      refine .thenExit ?_
      refine .thenExit ?_
      refine .blkExit ?_
      replace h := hD4 _ (some_eq h)
      exact Ends.join _ (some_eq h) (.cons (t := 3) rfl Sub.nil) (.cons (t := 5002) rfl (.cons (t := 5003) rfl (.cons (t := 5001) rfl SubB.nil)))
  · subst hj3; have h := hK3; clear hK3
    refine .close (k := 5001) (g := 5003) (fun z => cont 148 (⟨d1, ⟨s5002⟩, ⟨z⟩⟩ : Page_view_o12)) rfl rfl rfl ?_
    refine .close (k := 5001) (g := 5002) (fun z => deep (fun z0 => cont 148 (⟨d1, ⟨z⟩, ⟨z0⟩⟩ : Page_view_o12)) (mapW 3 j_3.2)) rfl rfl rfl ?_
    refine .freezeAt (g := 5001) (S := ref ((⟨d1, j_3.1, j_3.2⟩ : Page_view) : Page_view)) (ts := [3]) rfl (.cons (t := 3) rfl trivial .nil) SubB.nil rfl (fun M D w h hms => deep_ref2 (mk := (fun s1_ s2_ => (⟨d1, ⟨s1_⟩, ⟨s2_⟩⟩ : Page_view_o12))) (y := ((⟨d1, j_3.1, j_3.2⟩ : Page_view) : Page_view)) frzMap frzMapW rfl (fun M s1_ s2_ cs w hc g1 g2 => by obtain ⟨c0, q0, e0, h0, c1, q1, e1, h1, h2⟩ := hc; exact ⟨c0, q0, e0, h0, c1, q1, e1, raw_cells rfl rfl h1 g1, raw_cells rfl rfl h2 g2⟩) M D w h hms) ?_
    refine .seq ?_
    refine .region [] mixed (by kernel_rfl) ?_
    refine .cons (.move .none (.s rfl)) rfl ?_
    refine .cons (.assign .none (.s rfl)) rfl ?_
    refine .nil ?_
    refine .then ?_
    refine .ret ?_
    obtain rfl := some_eq h
    exact Ends.ret1 (.inl rfl) Tryz.results72 (ResOK.tmp rfl trivial Imp.refSome)

theorem page_view_node_ok {v1 : Page_view} {id1 : Str} {r : DNode}  (h : page_view_node v1 id1 = some r) : FSpec Tryz.prog 164 [ref v1, rep id1] (rep r) := by
  unfold page_view_node at h
  refine FSpec.intro (n := 18) fnok164 Tryz.func164 rfl Tryz.ntmps164 rfl (fun F => ?_)
  refine .seq ?_
  refine .region [([], [4])] mixed (by kernel_rfl) ?_
  refine .consW (.alloc zo44 rfl) rfl rfl ?_
  refine .nil ?_
  refine .then ?_
  obtain ⟨v2, hv1, h⟩ := bnd_some h
  refine .reB (t := 4) rfl (congrArg (cont 44) hv1) ?_
  refine .nameBox (t := 4) (g := 5001) rfl rfl (fun m5001 => ?_)
  refine .seq ?_
  refine .region [([], []), ([], []), ([], []), ([], []), ([], []), ([], []), ([], []), ([], []), ([], []), ([], []), ([], []), ([], []), ([], []), ([5001], [5001])] mixed (by kernel_rfl) ?_
  refine .consA (.move .none (.s rfl)) rfl ?_
  refine .consA (.nilCheckR .none (.s rfl)) rfl ?_
  refine .consA (.fieldAddr .none fd148_0 hfd148_0 (.s rfl)) rfl ?_
  refine .consA (.fieldAddr .none fd25_0 hfd25_0 (.s rfl)) rfl ?_
  refine .consA (.load .none ty22 (.s rfl)) rfl ?_
  refine .consA (.move .none (.s rfl)) rfl ?_
  refine .consA (.nilCheckR .none (.s rfl)) rfl ?_
  refine .consA (.fieldAddr .none fd148_1 hfd148_1 (.s rfl)) rfl ?_
  refine .consA (.load .none ty145 (.s rfl)) rfl ?_
  refine .consA (.move .none (.s rfl)) rfl ?_
  refine .consA (.lookup .none mo145 zo3 (.s rfl) (.s rfl)) rfl ?_
  obtain ⟨hn2, h⟩ := need_some h
  refine .consA (.indexAddr .none sl22 ty44 (.s rfl) (.s rfl) (fun _ => hn2)) rfl ?_
  obtain ⟨v3, hv3, h⟩ := bnd_some h
  refine .consA (.re hv3 (.load .none ty44 (.s rfl))) rfl ?_
  refine .consN (.storeAt0 (g := 5001) ty44 rfl (.s rfl) (.s rfl)) rfl ?_
  refine .nil ?_
  refine .then ?_
  refine .freezeBox (g := 5001) (ts := [4]) rfl (.cons (t := 4) rfl trivial .nil) SubB.nil rfl ?_
  refine .ret ?_
  obtain rfl := some_eq h
  exact Ends.ret1 (.inl rfl) Tryz.results164 (ResOK.cellR ty44 rfl trivial Imp.refl)

theorem page_view_above_ok {v1 : Page_view} {n1 : DNode} {r : (Int × Bool)}  (h : page_view_above v1 n1 = some r) : FSpec Tryz.prog 150 [ref v1, rep n1] (tup [rep r.1, rep r.2]) := by
  unfold page_view_above at h
  refine FSpec.intro (n := 39) fnok150 Tryz.func150 rfl Tryz.ntmps150 rfl (fun F => ?_)
  refine .seq ?_
  refine .region [([], [3]), ([], []), ([], [])] mixed (by kernel_rfl) ?_
  refine .consW (.boxO rfl (.s rfl)) rfl rfl ?_
  refine .consA (.assign .none (.int (by decide))) rfl ?_
  refine .consA (.assign .none .bool) rfl ?_
  refine .nil ?_
  refine .then ?_
  refine .nameBox (t := 3) (g := 5001) rfl rfl (fun m5001 => ?_)
  refine .seq ?_
  refine .region [([], []), ([5001], []), ([], []), ([], [])] mixed (by kernel_rfl) ?_
  refine .consA (.fieldPtr .none fd44_0 (.s rfl)) rfl ?_
  refine .consA (.loadAt (k := 5001) .none ty9 rfl (.s rfl) hfd44_0) rfl ?_
  refine .consA (.assign .none (.s rfl)) rfl ?_
  refine .consA (.assign .none (.int (by decide))) rfl ?_
  refine .nil ?_
  refine .then ?_
  refine .seq ?_
  obtain ⟨o_1, h, hK1⟩ := bindR_some h
  refine .thenJ (ι := Int) (fun j_1 => [(7, ⟨True, rep j_1⟩)]) (fun j_1 => []) (fun s => o_1 = Res.nx s) Sub.nil SubB.nil ?_ (fun j_1 hj1 => ?_)
  · skip
    refine .block ?_
    refine .loopL h (fun s2_ => [(7, ⟨True, rep s2_.1⟩)]) (fun s2_ => [(5001, some (boxAt m5001 44 s2_.2))]) (.cons (t := 7) rfl Sub.nil) (.cons (t := 5001) rfl SubB.nil) (.cons (t := 0) rfl (.cons (t := 3) rfl (.cons (t := 6) rfl Sub.nil))) SubB.nil (fun s2_ o_2 h hD2 => ?_)
    unfold page_view_above_L1 at h
    refine .seq ?_
    refine .seq ?_
    refine .region [([], []), ([5001], []), ([], [])] mixed (by kernel_rfl) ?_
    refine .consA (.fieldPtr .none fd44_5 (.s rfl)) rfl ?_
    refine .consA (.loadAt (k := 5001) .none ty9 rfl (.s rfl) hfd44_5) rfl ?_
    refine .consA (.neS .none (eqAt_str Tryz.underlying9) (.s rfl) (.str (l := []) (by decide))) rfl ?_
    refine .nil ?_
    refine .then ?_
    refine .cond (t := 12) rfl trivial (fun hb3 => ?_) (fun hb3 => ?_)
    · replace h := bif_t h hb3
      refine .skip ?_
      refine .then ?_
      refine .block ?_
      refine .seq ?_
      refine .seq ?_
      refine .region [] mixed (by kernel_rfl) ?_
      refine .cons (.move .none (.s rfl)) rfl ?_
      refine .cons (.addW .none (.s rfl) (.int (by decide))) rfl ?_
      obtain ⟨many1, hv4, h⟩ := bnd_some h
      refine .cons (.re hv4 (.assign .none (.s rfl))) rfl ?_
      refine .nil ?_
      refine .then ?_
      refine .seq ?_
      refine .region [([], []), ([5001], []), ([], []), ([], []), ([], []), ([], []), ([], []), ([], []), ([], []), ([], []), ([], []), ([], []), ([], []), ([], [])] mixed (by kernel_rfl) ?_
      refine .consA (.fieldPtr .none fd44_5 (.s rfl)) rfl ?_
      refine .consA (.loadAt (k := 5001) .none ty9 rfl (.s rfl) hfd44_5) rfl ?_
      refine .consA (.move .none (.s rfl)) rfl ?_
      refine .consA (.eqS .none (eqAt_str Tryz.underlying9) (.s rfl) (.s rfl)) rfl ?_
      refine .consA (.move .none (.s rfl)) rfl ?_
      refine .consA (.move (.at rfl rfl) (.s rfl)) rfl ?_
      refine .consA (.move (.at rfl rfl) (.s rfl)) rfl ?_
      refine .consA (.nilCheckR (.at rfl rfl) (.tmp rfl id)) rfl ?_
      refine .consA (.fieldAddr (.at rfl rfl) fd148_0 hfd148_0 (.tmp rfl id)) rfl ?_
      refine .consA (.fieldAddr (.at rfl rfl) fd25_0 hfd25_0 (.tmp rfl id)) rfl ?_
      refine .consA (.load (.at rfl rfl) ty22 (.tmp rfl id)) rfl ?_
      refine .consA (.len (.at rfl rfl) sl22 (.tmp rfl id)) rfl ?_
      refine .consA (.gt (.at rfl rfl) (.tmp rfl id) (.tmp rfl id)) rfl ?_
      refine .consA (.pickOr .none (.s rfl) (.tmp rfl id)) rfl ?_
      refine .nil ?_
      refine .then ?_
      refine .cond (t := 28) rfl trivial (fun hb5 => ?_) (fun hb5 => ?_)
      · replace h := bif_t h hb5
        refine .seq ?_
        refine .region [([], []), ([], []), ([5001], []), ([], []), ([], []), ([], []), ([], [])] mixed (by kernel_rfl) ?_
        refine .consA (.move .none (.s rfl)) rfl ?_
        refine .consA (.fieldPtr .none fd44_5 (.s rfl)) rfl ?_
        refine .consA (.loadAt (k := 5001) .none ty9 rfl (.s rfl) hfd44_5) rfl ?_
        refine .consA (.move .none (.s rfl)) rfl ?_
        refine .consA (.neS .none (eqAt_str Tryz.underlying9) (.s rfl) (.s rfl)) rfl ?_
        refine .consA (.assign .none (.s rfl)) rfl ?_
        refine .consA (.assign .none (.s rfl)) rfl ?_
        refine .nil ?_
        refine .then ?_
        refine .ret ?_
        refine .thenRet ?_
        refine .blkRet ?_
        refine .thenRet ?_
        refine .blkRet ?_
        refine .thenRet ?_
        replace h := hD2 _ (some_eq h)
        replace h := resb_ab hK1 (some_eq h)
        obtain rfl := some_eq h
        exact Ends.ret2 (.inl rfl) Tryz.results150 (ResOK.tmp rfl trivial Imp.refl) (ResOK.tmp rfl trivial Imp.refl)
      · replace h := bif_f h hb5
        refine .skip ?_
        refine .then ?_
        refine .region [([], []), ([], []), ([5001], []), ([], []), ([5001], [5001])] mixed (by kernel_rfl) ?_
        refine .consA (.move .none (.s rfl)) rfl ?_
        refine .consA (.fieldPtr .none fd44_5 (.s rfl)) rfl ?_
        refine .consA (.loadAt (k := 5001) .none ty9 rfl (.s rfl) hfd44_5) rfl ?_
        obtain ⟨r1, hv6, h⟩ := bind_some h
        refine .consA (.call .none (page_view_node_ok hv6) (.cons (.s rfl) (.cons (.s rfl) .nil))) rfl ?_
        refine .consN (.storeAt0 (g := 5001) ty44 rfl (.s rfl) (.s rfl)) rfl ?_
        refine .nil ?_
        refine .blkNormal ?_
        exact Ends.againL (some_eq h) (.cons (t := 7) rfl (.cons (t := 0) rfl (.cons (t := 3) rfl (.cons (t := 6) rfl Sub.nil)))) (.cons (t := 5001) rfl SubB.nil)
    · replace h := bif_f h hb3
      refine .exit ?_
      refine .thenExit ?_
      refine .thenExit ?_
      refine .blkExit ?_
      replace h := hD2 _ (some_eq h)
      exact Ends.join _ (some_eq h) (.cons (t := 7) rfl Sub.nil) SubB.nil
  · have h := resb_nx hK1 hj1
    refine .seq ?_
    refine .region [] mixed (by kernel_rfl) ?_
    refine .cons (.move .none (.s rfl)) rfl ?_
    refine .cons (.assign .none (.s rfl)) rfl ?_
    refine .cons (.assign .none .bool) rfl ?_
    refine .nil ?_
    refine .then ?_
    refine .ret ?_
    obtain rfl := some_eq h
    exact Ends.ret2 (.inl rfl) Tryz.results150 (ResOK.tmp rfl trivial Imp.refl) (ResOK.tmp rfl trivial Imp.refl)

theorem page_view_checkGroups_ok {v1 : Page_view} {r : Int}  (h : page_view_checkGroups v1 = some r) : FSpec Tryz.prog 73 [ref v1] (rep r) := by
  unfold page_view_checkGroups at h
  refine FSpec.intro (n := 120) fnok73 Tryz.func73 rfl Tryz.ntmps73 rfl (fun F => ?_)
  refine .seq ?_
  refine .region [] mixed (by kernel_rfl) ?_
  refine .cons (.assign .none (.int (by decide))) rfl ?_
  refine .nil ?_
  refine .then ?_
  refine .seq ?_
  refine .seq ?_
  refine .region [] mixed (by kernel_rfl) ?_
  refine .cons (.move .none (.s rfl)) rfl ?_
  refine .cons (.nilCheckR .none (.s rfl)) rfl ?_
  refine .cons (.fieldAddr .none fd148_0 hfd148_0 (.s rfl)) rfl ?_
  refine .cons (.fieldAddr .none fd25_0 hfd25_0 (.s rfl)) rfl ?_
  refine .cons (.load .none ty22 (.s rfl)) rfl ?_
  refine .cons (.len .none sl22 (.s rfl)) rfl ?_
  refine .cons (.move .none (.int (by decide))) rfl ?_
  refine .nil ?_
  refine .then ?_
  obtain ⟨o_1, h, hK1⟩ := bindR_some h
  refine .thenJ (ι := Unit) (fun j_1 => []) (fun j_1 => []) (fun s => o_1 = Res.nx s) (.cons (t := 0) rfl Sub.nil) SubB.nil ?_ (fun j_1 hj1 => ?_)
  · skip
    refine .block ?_
    refine .rforEL h (fun p2_ => [(23, ⟨True, rep p2_.1⟩)]) (fun p2_ => []) (.cons (t := 23) rfl Sub.nil) SubB.nil (.cons (t := 0) rfl (.cons (t := 21) rfl (.cons (t := 22) rfl Sub.nil))) SubB.nil (fun p2_ o_2 h hD2 => ?_)
    refine .seq ?_
    refine .region [] mixed (by kernel_rfl) ?_
    refine .cons (.lt .none (.s rfl) (.s rfl)) rfl ?_
    refine .nil ?_
    refine .then ?_
    refine .seq ?_
    refine .cond (t := 24) rfl trivial (fun hb3 => ?_) (fun hb3 => ?_)
    · replace h := bif_t h hb3
      refine .skip ?_
      refine .then ?_
      refine .seq ?_
      obtain ⟨o_4, h, hK4⟩ := bindD_some h
      unfold page_view_checkGroups_L1 at h
      refine .thenJ (ι := Unit) (fun j_4 => []) (fun j_4 => []) (fun s => o_4 = Res.nx s) (.cons (t := 0) rfl (.cons (t := 21) rfl (.cons (t := 22) rfl (.cons (t := 23) rfl Sub.nil)))) SubB.nil ?_ (fun j_4 hj4 => ?_)
      · skip
        refine .block ?_
        refine .seq ?_
        refine .region [([], []), ([], []), ([], [4]), ([4], [4])] mixed (by kernel_rfl) ?_
        obtain ⟨hn5, h⟩ := need_some h
        refine .consA (.indexAddr .none sl22 ty44 (.s rfl) (.s rfl) (fun _ => hn5)) rfl ?_
        obtain ⟨v2, hv6, h⟩ := bnd_some h
        refine .consA (.re hv6 (.load .none ty44 (.s rfl))) rfl ?_
        refine .consW (.alloc zo44 rfl) rfl rfl ?_
        refine .consN (.store ty44 rfl rfl (.s rfl)) rfl ?_
        refine .nil ?_
        refine .then ?_
        refine .freeze (t := 4) rfl rfl SubB.nil rfl ?_
        refine .seq ?_
        refine .region [] mixed (by kernel_rfl) ?_
        refine .cons (.move .none (.s rfl)) rfl ?_
        refine .cons (.nilCheckR .none (.s rfl)) rfl ?_
        refine .cons (.fieldAddr .none fd148_1 hfd148_1 (.s rfl)) rfl ?_
        refine .cons (.load .none ty145 (.s rfl)) rfl ?_
        refine .cons (.fieldAddr .none fd44_5 hfd44_5 (.s rfl)) rfl ?_
        refine .cons (.load .none ty9 (.s rfl)) rfl ?_
        refine .cons (.lookupOk .none mo145 zo3 (.s rfl) (.s rfl)) rfl ?_
        refine .cons (.move .none (.s rfl)) rfl ?_
        refine .cons (.extract .none (.s rfl) rfl) rfl ?_
        refine .cons (.extract .none (.s rfl) rfl) rfl ?_
        refine .cons (.assign .none (.s rfl)) rfl ?_
        refine .cons (.assign .none (.s rfl)) rfl ?_
        refine .nil ?_
        refine .then ?_
        refine .seq ?_
        refine .region [] mixed (by kernel_rfl) ?_
        refine .cons (.fieldAddr .none fd44_5 hfd44_5 (.s rfl)) rfl ?_
        refine .cons (.load .none ty9 (.s rfl)) rfl ?_
        refine .cons (.neS .none (eqAt_str Tryz.underlying9) (.s rfl) (.str (l := []) (by decide))) rfl ?_
        refine .cons (.move .none (.s rfl)) rfl ?_
        refine .cons (.move (.at rfl rfl) (.s rfl)) rfl ?_
        refine .cons (.not (.at rfl rfl) (.tmp rfl id)) rfl ?_
        refine .cons (.move (.at rfl rfl) (.tmp rfl id)) rfl ?_
        refine .cons (.move (.at rfl rfl) (.s rfl)) rfl ?_
        refine .cons (.nilCheckR (.at rfl rfl) (.tmp rfl id)) rfl ?_
        refine .cons (.fieldAddr (.at rfl rfl) fd148_0 hfd148_0 (.tmp rfl id)) rfl ?_
        refine .cons (.fieldAddr (.at rfl rfl) fd25_0 hfd25_0 (.tmp rfl id)) rfl ?_
        refine .cons (.load (.at rfl rfl) ty22 (.tmp rfl id)) rfl ?_
        refine .cons (.move (.at rfl rfl) (.s rfl)) rfl ?_
        obtain ⟨hn7, h⟩ := need_some h
        refine .cons (.indexAddr (.at rfl rfl) sl22 ty44 (.tmp rfl id) (.tmp rfl id) (fun hg => hn7 hg.1.2 hg.2)) rfl ?_
        refine .cons (.fieldAddr (.at rfl rfl) fd44_1 hfd44_1 (.tmp rfl id)) rfl ?_
        refine .cons (.load (.at rfl rfl) ty3 (.tmp rfl id)) rfl ?_
        refine .cons (.neI (.at rfl rfl) (.tmp rfl id) (.int (by decide))) rfl ?_
        refine .cons (.pickOr (.at rfl rfl) (.tmp rfl id) (.tmp rfl id)) rfl ?_
        refine .cons (.pickAnd .none (.s rfl) (.tmp rfl id)) rfl ?_
        refine .nil ?_
        refine .then ?_
        refine .cond (t := 55) rfl trivial (fun hb8 => ?_) (fun hb8 => ?_)
        · replace h := bif_t h hb8
          refine .seq ?_
          refine .region [] mixed (by kernel_rfl) ?_
          refine .cons (.assign .none (.int (by decide))) rfl ?_
          refine .nil ?_
          refine .then ?_
          refine .ret ?_
          refine .blkRet ?_
          refine .thenRet ?_
          refine .thenRet ?_
          refine .blkRet ?_
          refine .thenRet ?_
          replace h := resd_ab hK4 (some_eq h)
          replace h := hD2 _ (some_eq h)
          replace h := resb_ab hK1 (some_eq h)
          obtain rfl := some_eq h
          exact Ends.ret1 (.inl rfl) Tryz.results73 (ResOK.tmp rfl trivial Imp.refl)
        · replace h := bif_f h hb8
          refine .skip ?_
          refine .blkNormal ?_
          exact Ends.join _ (some_eq h) (.cons (t := 0) rfl (.cons (t := 21) rfl (.cons (t := 22) rfl (.cons (t := 23) rfl Sub.nil)))) SubB.nil
      · have h := resd_nx hK4 hj4
        refine .region [] mixed (by kernel_rfl) ?_
        refine .cons (.addW .none (.s rfl) (.int (by decide))) rfl ?_
        refine .cons (.move .none (.s rfl)) rfl ?_
        refine .nil ?_
        exact Ends.againL (some_eq h) (.cons (t := 23) rfl (.cons (t := 0) rfl (.cons (t := 21) rfl (.cons (t := 22) rfl Sub.nil)))) SubB.nil
    · replace h := bif_f h hb3
      refine .exit ?_
      refine .thenExit ?_
      refine .thenExit ?_
      refine .blkExit ?_
      replace h := hD2 _ (some_eq h)
      exact Ends.join _ (some_eq h) (.cons (t := 0) rfl Sub.nil) SubB.nil
  · have h := resb_nx hK1 hj1
    refine .seq ?_
    refine .seq ?_
    refine .region [] mixed (by kernel_rfl) ?_
    refine .cons (.move .none (.s rfl)) rfl ?_
    refine .cons (.nilCheckR .none (.s rfl)) rfl ?_
    refine .cons (.fieldAddr .none fd148_0 hfd148_0 (.s rfl)) rfl ?_
    refine .cons (.fieldAddr .none fd25_0 hfd25_0 (.s rfl)) rfl ?_
    refine .cons (.load .none ty22 (.s rfl)) rfl ?_
    refine .cons (.len .none sl22 (.s rfl)) rfl ?_
    refine .cons (.move .none (.int (by decide))) rfl ?_
    refine .nil ?_
    refine .then ?_
    obtain ⟨o_9, h, hK9⟩ := bindR_some h
    refine .thenJ (ι := Unit) (fun j_9 => []) (fun j_9 => []) (fun s => o_9 = Res.nx s) (.cons (t := 0) rfl Sub.nil) SubB.nil ?_ (fun j_9 hj9 => ?_)
    · skip
      refine .block ?_
      refine .rforEL h (fun p10_ => [(63, ⟨True, rep p10_.1⟩)]) (fun p10_ => []) (.cons (t := 63) rfl Sub.nil) SubB.nil (.cons (t := 0) rfl (.cons (t := 61) rfl (.cons (t := 62) rfl Sub.nil))) SubB.nil (fun p10_ o_10 h hD10 => ?_)
      refine .seq ?_
      refine .region [] mixed (by kernel_rfl) ?_
      refine .cons (.lt .none (.s rfl) (.s rfl)) rfl ?_
      refine .nil ?_
      refine .then ?_
      refine .seq ?_
      refine .cond (t := 64) rfl trivial (fun hb11 => ?_) (fun hb11 => ?_)
      · replace h := bif_t h hb11
        refine .skip ?_
        refine .then ?_
        refine .seq ?_
        obtain ⟨o_12, h, hK12⟩ := bindD_some h
        unfold page_view_checkGroups_L2 at h
        refine .thenJ (ι := Unit) (fun j_12 => []) (fun j_12 => []) (fun s => o_12 = Res.nx s) (.cons (t := 0) rfl (.cons (t := 61) rfl (.cons (t := 62) rfl (.cons (t := 63) rfl Sub.nil)))) SubB.nil ?_ (fun j_12 hj12 => ?_)
        · skip
          refine .block ?_
          refine .seq ?_
          refine .region [([], []), ([], []), ([], [8]), ([8], [8])] mixed (by kernel_rfl) ?_
          obtain ⟨hn13, h⟩ := need_some h
          refine .consA (.indexAddr .none sl22 ty44 (.s rfl) (.s rfl) (fun _ => hn13)) rfl ?_
          obtain ⟨v3, hv14, h⟩ := bnd_some h
          refine .consA (.re hv14 (.load .none ty44 (.s rfl))) rfl ?_
          refine .consW (.alloc zo44 rfl) rfl rfl ?_
          refine .consN (.store ty44 rfl rfl (.s rfl)) rfl ?_
          refine .nil ?_
          refine .then ?_
          refine .freeze (t := 8) rfl rfl SubB.nil rfl ?_
          refine .seq ?_
          refine .region [] mixed (by kernel_rfl) ?_
          refine .cons (.move .none (.s rfl)) rfl ?_
          refine .cons (.load .none ty44 (.s rfl)) rfl ?_
          obtain ⟨r1, hv15, h⟩ := bind_some h
          refine .cons (.call .none (page_view_above_ok hv15) (.cons (.s rfl) (.cons (.s rfl) .nil))) rfl ?_
          refine .cons (.move .none (.s rfl)) rfl ?_
          refine .cons (.extract .none (.s rfl) rfl) rfl ?_
          refine .cons (.extract .none (.s rfl) rfl) rfl ?_
          refine .cons (.assign .none (.s rfl)) rfl ?_
          refine .cons (.assign .none (.s rfl)) rfl ?_
          refine .nil ?_
          refine .then ?_
          refine .seq ?_
          refine .region [] mixed (by kernel_rfl) ?_
          refine .cons (.move .none (.s rfl)) rfl ?_
          refine .cons (.not .none (.s rfl)) rfl ?_
          refine .nil ?_
          refine .then ?_
          refine .cond (t := 74) rfl trivial (fun hb16 => ?_) (fun hb16 => ?_)
          · replace h := bif_t h hb16
            refine .seq ?_
            refine .region [] mixed (by kernel_rfl) ?_
            refine .cons (.assign .none (.int (by decide))) rfl ?_
            refine .nil ?_
            refine .then ?_
            refine .ret ?_
            refine .blkRet ?_
            refine .thenRet ?_
            refine .thenRet ?_
            refine .blkRet ?_
            refine .thenRet ?_
            replace h := resd_ab hK12 (some_eq h)
            replace h := hD10 _ (some_eq h)
            replace h := resb_ab hK9 (some_eq h)
            obtain rfl := some_eq h
            exact Ends.ret1 (.inl rfl) Tryz.results73 (ResOK.tmp rfl trivial Imp.refl)
          · replace h := bif_f h hb16
            refine .skip ?_
            refine .blkNormal ?_
            exact Ends.join _ (some_eq h) (.cons (t := 0) rfl (.cons (t := 61) rfl (.cons (t := 62) rfl (.cons (t := 63) rfl Sub.nil)))) SubB.nil
        · have h := resd_nx hK12 hj12
          refine .region [] mixed (by kernel_rfl) ?_
          refine .cons (.addW .none (.s rfl) (.int (by decide))) rfl ?_
          refine .cons (.move .none (.s rfl)) rfl ?_
          refine .nil ?_
          exact Ends.againL (some_eq h) (.cons (t := 63) rfl (.cons (t := 0) rfl (.cons (t := 61) rfl (.cons (t := 62) rfl Sub.nil)))) SubB.nil
      · replace h := bif_f h hb11
        refine .exit ?_
        refine .thenExit ?_
        refine .thenExit ?_
        refine .blkExit ?_
        replace h := hD10 _ (some_eq h)
        exact Ends.join _ (some_eq h) (.cons (t := 0) rfl Sub.nil) SubB.nil
    · have h := resb_nx hK9 hj9
      refine .seq ?_
      refine .seq ?_
      refine .region [] mixed (by kernel_rfl) ?_
      refine .cons (.move .none (.s rfl)) rfl ?_
      refine .cons (.nilCheckR .none (.s rfl)) rfl ?_
      refine .cons (.fieldAddr .none fd148_0 hfd148_0 (.s rfl)) rfl ?_
      refine .cons (.fieldAddr .none fd25_0 hfd25_0 (.s rfl)) rfl ?_
      refine .cons (.load .none ty22 (.s rfl)) rfl ?_
      refine .cons (.len .none sl22 (.s rfl)) rfl ?_
      refine .cons (.move .none (.int (by decide))) rfl ?_
      refine .nil ?_
      refine .then ?_
      obtain ⟨o_17, h, hK17⟩ := bindR_some h
      refine .thenJ (ι := Unit) (fun j_17 => []) (fun j_17 => []) (fun s => o_17 = Res.nx s) (.cons (t := 0) rfl Sub.nil) SubB.nil ?_ (fun j_17 hj17 => ?_)
      · skip
        refine .block ?_
        refine .rforEL h (fun p18_ => [(82, ⟨True, rep p18_.1⟩)]) (fun p18_ => []) (.cons (t := 82) rfl Sub.nil) SubB.nil (.cons (t := 0) rfl (.cons (t := 80) rfl (.cons (t := 81) rfl Sub.nil))) SubB.nil (fun p18_ o_18 h hD18 => ?_)
        refine .seq ?_
        refine .region [] mixed (by kernel_rfl) ?_
        refine .cons (.lt .none (.s rfl) (.s rfl)) rfl ?_
        refine .nil ?_
        refine .then ?_
        refine .seq ?_
        refine .cond (t := 83) rfl trivial (fun hb19 => ?_) (fun hb19 => ?_)
        · replace h := bif_t h hb19
          refine .skip ?_
          refine .then ?_
          refine .seq ?_
          obtain ⟨o_20, h, hK20⟩ := bindD_some h
          unfold page_view_checkGroups_L3 at h
          refine .thenJ (ι := Unit) (fun j_20 => []) (fun j_20 => []) (fun s => o_20 = Res.nx s) (.cons (t := 0) rfl (.cons (t := 80) rfl (.cons (t := 81) rfl (.cons (t := 82) rfl Sub.nil)))) SubB.nil ?_ (fun j_20 hj20 => ?_)
          · skip
            refine .block ?_
            refine .seq ?_
            refine .region [([], []), ([], []), ([], [12]), ([12], [12])] mixed (by kernel_rfl) ?_
            obtain ⟨hn21, h⟩ := need_some h
            refine .consA (.indexAddr .none sl22 ty44 (.s rfl) (.s rfl) (fun _ => hn21)) rfl ?_
            obtain ⟨v4, hv22, h⟩ := bnd_some h
            refine .consA (.re hv22 (.load .none ty44 (.s rfl))) rfl ?_
            refine .consW (.alloc zo44 rfl) rfl rfl ?_
            refine .consN (.store ty44 rfl rfl (.s rfl)) rfl ?_
            refine .nil ?_
            refine .then ?_
            refine .freeze (t := 12) rfl rfl SubB.nil rfl ?_
            refine .seq ?_
            refine .region [] mixed (by kernel_rfl) ?_
            refine .cons (.move .none (.s rfl)) rfl ?_
            refine .cons (.load .none ty44 (.s rfl)) rfl ?_
            obtain ⟨r2, hv23, h⟩ := bind_some h
            refine .cons (.call .none (page_view_above_ok hv23) (.cons (.s rfl) (.cons (.s rfl) .nil))) rfl ?_
            refine .cons (.move .none (.s rfl)) rfl ?_
            refine .cons (.extract .none (.s rfl) rfl) rfl ?_
            refine .cons (.extract .none (.s rfl) rfl) rfl ?_
            refine .cons (.assign .none (.s rfl)) rfl ?_
            refine .cons (.assign .none (.s rfl)) rfl ?_
            refine .nil ?_
            refine .then ?_
            refine .seq ?_
            refine .region [] mixed (by kernel_rfl) ?_
            refine .cons (.move .none (.s rfl)) rfl ?_
            refine .cons (.gt .none (.s rfl) (.int (by decide))) rfl ?_
            refine .nil ?_
            refine .then ?_
            refine .cond (t := 93) rfl trivial (fun hb24 => ?_) (fun hb24 => ?_)
            · replace h := bif_t h hb24
              refine .seq ?_
              refine .region [] mixed (by kernel_rfl) ?_
              refine .cons (.assign .none (.int (by decide))) rfl ?_
              refine .nil ?_
              refine .then ?_
              refine .ret ?_
              refine .blkRet ?_
              refine .thenRet ?_
              refine .thenRet ?_
              refine .blkRet ?_
              refine .thenRet ?_
              replace h := resd_ab hK20 (some_eq h)
              replace h := hD18 _ (some_eq h)
              replace h := resb_ab hK17 (some_eq h)
              obtain rfl := some_eq h
              exact Ends.ret1 (.inl rfl) Tryz.results73 (ResOK.tmp rfl trivial Imp.refl)
            · replace h := bif_f h hb24
              refine .skip ?_
              refine .blkNormal ?_
              exact Ends.join _ (some_eq h) (.cons (t := 0) rfl (.cons (t := 80) rfl (.cons (t := 81) rfl (.cons (t := 82) rfl Sub.nil)))) SubB.nil
          · have h := resd_nx hK20 hj20
            refine .region [] mixed (by kernel_rfl) ?_
            refine .cons (.addW .none (.s rfl) (.int (by decide))) rfl ?_
            refine .cons (.move .none (.s rfl)) rfl ?_
            refine .nil ?_
            exact Ends.againL (some_eq h) (.cons (t := 82) rfl (.cons (t := 0) rfl (.cons (t := 80) rfl (.cons (t := 81) rfl Sub.nil)))) SubB.nil
        · replace h := bif_f h hb19
          refine .exit ?_
          refine .thenExit ?_
          refine .thenExit ?_
          refine .blkExit ?_
          replace h := hD18 _ (some_eq h)
          exact Ends.join _ (some_eq h) (.cons (t := 0) rfl Sub.nil) SubB.nil
      · have h := resb_nx hK17 hj17
        refine .seq ?_
        refine .seq ?_
        refine .region [] mixed (by kernel_rfl) ?_
        refine .cons (.move .none (.s rfl)) rfl ?_
        refine .cons (.nilCheckR .none (.s rfl)) rfl ?_
        refine .cons (.fieldAddr .none fd148_0 hfd148_0 (.s rfl)) rfl ?_
        refine .cons (.fieldAddr .none fd25_0 hfd25_0 (.s rfl)) rfl ?_
        refine .cons (.load .none ty22 (.s rfl)) rfl ?_
        refine .cons (.len .none sl22 (.s rfl)) rfl ?_
        refine .cons (.move .none (.int (by decide))) rfl ?_
        refine .nil ?_
        refine .then ?_
        obtain ⟨o_25, h, hK25⟩ := bindR_some h
        refine .thenJ (ι := Unit) (fun j_25 => []) (fun j_25 => []) (fun s => o_25 = Res.nx s) Sub.nil SubB.nil ?_ (fun j_25 hj25 => ?_)
        · skip
          refine .block ?_
          refine .rforEL h (fun p26_ => [(101, ⟨True, rep p26_.1⟩)]) (fun p26_ => []) (.cons (t := 101) rfl Sub.nil) SubB.nil (.cons (t := 0) rfl (.cons (t := 99) rfl (.cons (t := 100) rfl Sub.nil))) SubB.nil (fun p26_ o_26 h hD26 => ?_)
          refine .seq ?_
          refine .region [] mixed (by kernel_rfl) ?_
          refine .cons (.lt .none (.s rfl) (.s rfl)) rfl ?_
          refine .nil ?_
          refine .then ?_
          refine .seq ?_
          refine .cond (t := 102) rfl trivial (fun hb27 => ?_) (fun hb27 => ?_)
          · replace h := bif_t h hb27
            refine .skip ?_
            refine .then ?_
            refine .seq ?_
            obtain ⟨o_28, h, hK28⟩ := bindD_some h
            unfold page_view_checkGroups_L4 at h
            refine .thenJ (ι := Unit) (fun j_28 => []) (fun j_28 => []) (fun s => o_28 = Res.nx s) (.cons (t := 0) rfl (.cons (t := 99) rfl (.cons (t := 100) rfl (.cons (t := 101) rfl Sub.nil)))) SubB.nil ?_ (fun j_28 hj28 => ?_)
            · skip
              refine .block ?_
              refine .seq ?_
              refine .region [([], []), ([], []), ([], [16]), ([16], [16])] mixed (by kernel_rfl) ?_
              obtain ⟨hn29, h⟩ := need_some h
              refine .consA (.indexAddr .none sl22 ty44 (.s rfl) (.s rfl) (fun _ => hn29)) rfl ?_
              obtain ⟨v5, hv30, h⟩ := bnd_some h
              refine .consA (.re hv30 (.load .none ty44 (.s rfl))) rfl ?_
              refine .consW (.alloc zo44 rfl) rfl rfl ?_
              refine .consN (.store ty44 rfl rfl (.s rfl)) rfl ?_
              refine .nil ?_
              refine .then ?_
              refine .freeze (t := 16) rfl rfl SubB.nil rfl ?_
              refine .seq ?_
              refine .region [] mixed (by kernel_rfl) ?_
              refine .cons (.fieldAddr .none fd44_1 hfd44_1 (.s rfl)) rfl ?_
              refine .cons (.load .none ty3 (.s rfl)) rfl ?_
              refine .cons (.eqI .none (.s rfl) (.int (by decide))) rfl ?_
              refine .cons (.move .none (.s rfl)) rfl ?_
              refine .cons (.move (.at rfl rfl) (.s rfl)) rfl ?_
              refine .cons (.nilCheckR (.at rfl rfl) (.tmp rfl id)) rfl ?_
              refine .cons (.fieldAddr (.at rfl rfl) fd148_2 hfd148_2 (.tmp rfl id)) rfl ?_
              refine .cons (.load (.at rfl rfl) ty146 (.tmp rfl id)) rfl ?_
              refine .cons (.fieldAddr (.at rfl rfl) fd44_0 hfd44_0 (.s rfl)) rfl ?_
              refine .cons (.load (.at rfl rfl) ty9 (.tmp rfl id)) rfl ?_
              refine .cons (.lookup (.at rfl rfl) mo146 zo118 (.tmp rfl id) (.tmp rfl id)) rfl ?_
              refine .cons (.len (.at rfl rfl) sl118 (.tmp rfl id)) rfl ?_
              refine .cons (.eqI (.at rfl rfl) (.tmp rfl id) (.int (by decide))) rfl ?_
              refine .cons (.pickAnd .none (.s rfl) (.tmp rfl id)) rfl ?_
              refine .nil ?_
              refine .then ?_
              refine .cond (t := 118) rfl trivial (fun hb31 => ?_) (fun hb31 => ?_)
              · replace h := bif_t h hb31
                refine .seq ?_
                refine .region [] mixed (by kernel_rfl) ?_
                refine .cons (.assign .none (.int (by decide))) rfl ?_
                refine .nil ?_
                refine .then ?_
                refine .ret ?_
                refine .blkRet ?_
                refine .thenRet ?_
                refine .thenRet ?_
                refine .blkRet ?_
                refine .thenRet ?_
                replace h := resd_ab hK28 (some_eq h)
                replace h := hD26 _ (some_eq h)
                replace h := resb_ab hK25 (some_eq h)
                obtain rfl := some_eq h
                exact Ends.ret1 (.inl rfl) Tryz.results73 (ResOK.tmp rfl trivial Imp.refl)
              · replace h := bif_f h hb31
                refine .skip ?_
                refine .blkNormal ?_
                exact Ends.join _ (some_eq h) (.cons (t := 0) rfl (.cons (t := 99) rfl (.cons (t := 100) rfl (.cons (t := 101) rfl Sub.nil)))) SubB.nil
            · have h := resd_nx hK28 hj28
              refine .region [] mixed (by kernel_rfl) ?_
              refine .cons (.addW .none (.s rfl) (.int (by decide))) rfl ?_
              refine .cons (.move .none (.s rfl)) rfl ?_
              refine .nil ?_
              exact Ends.againL (some_eq h) (.cons (t := 101) rfl (.cons (t := 0) rfl (.cons (t := 99) rfl (.cons (t := 100) rfl Sub.nil)))) SubB.nil
          · replace h := bif_f h hb27
            refine .exit ?_
            refine .thenExit ?_
            refine .thenExit ?_
            refine .blkExit ?_
            replace h := hD26 _ (some_eq h)
            exact Ends.join _ (some_eq h) Sub.nil SubB.nil
        · have h := resb_nx hK25 hj25
          refine .seq ?_
          refine .region [] mixed (by kernel_rfl) ?_
          refine .cons (.assign .none (.int (by decide))) rfl ?_
          refine .nil ?_
          refine .then ?_
          refine .ret ?_
          obtain rfl := some_eq h
          exact Ends.ret1 (.inl rfl) Tryz.results73 (ResOK.tmp rfl trivial Imp.refl)

theorem page_view_checkEnd_ok {v1 : Page_view} {x1 : DEnd} {r : Int}  (h : page_view_checkEnd v1 x1 = some r) : FSpec Tryz.prog 151 [ref v1, rep x1] (rep r) := by
  unfold page_view_checkEnd at h
  refine FSpec.intro (n := 50) fnok151 Tryz.func151 rfl Tryz.ntmps151 rfl (fun F => ?_)
  refine .seq ?_
  refine .region [] mixed (by kernel_rfl) ?_
  refine .cons (.box .none (.s rfl)) rfl ?_
  refine .cons (.assign .none (.int (by decide))) rfl ?_
  refine .nil ?_
  refine .then ?_
  refine .seq ?_
  refine .region [] mixed (by kernel_rfl) ?_
  refine .cons (.move .none (.s rfl)) rfl ?_
  refine .cons (.nilCheckR .none (.s rfl)) rfl ?_
  refine .cons (.fieldAddr .none fd148_1 hfd148_1 (.s rfl)) rfl ?_
  refine .cons (.load .none ty145 (.s rfl)) rfl ?_
  refine .cons (.fieldAddr .none fd65_0 hfd65_0 (.s rfl)) rfl ?_
  refine .cons (.load .none ty9 (.s rfl)) rfl ?_
  refine .cons (.lookupOk .none mo145 zo3 (.s rfl) (.s rfl)) rfl ?_
  refine .cons (.move .none (.s rfl)) rfl ?_
  refine .cons (.extract .none (.s rfl) rfl) rfl ?_
  refine .cons (.extract .none (.s rfl) rfl) rfl ?_
  refine .cons (.assign .none (.s rfl)) rfl ?_
  refine .cons (.assign .none (.s rfl)) rfl ?_
  refine .nil ?_
  refine .then ?_
  refine .seq ?_
  refine .block ?_
  refine .seq ?_
  refine .region [] mixed (by kernel_rfl) ?_
  refine .cons (.move .none (.s rfl)) rfl ?_
  refine .cons (.not .none (.s rfl)) rfl ?_
  refine .cons (.assign .none (.s rfl)) rfl ?_
  refine .nil ?_
  refine .then ?_
  refine .cond (t := 17) rfl trivial (fun hb1 => ?_) (fun hb1 => ?_)
  · replace h := bif_t h hb1
    refine .seq ?_
    refine .region [] mixed (by kernel_rfl) ?_
    refine .cons (.assign .none (.int (by decide))) rfl ?_
    refine .nil ?_
    refine .then ?_
    refine .ret ?_
    refine .blkRet ?_
    refine .thenRet ?_
    obtain rfl := some_eq h
    exact Ends.ret1 (.inl rfl) Tryz.results151 (ResOK.tmp rfl trivial Imp.refl)
  · replace h := bif_f h hb1
    refine .seq ?_
    refine .region [] mixed (by kernel_rfl) ?_
    refine .cons (.move .none (.s rfl)) rfl ?_
    refine .cons (.nilCheckR .none (.s rfl)) rfl ?_
    refine .cons (.fieldAddr .none fd148_0 hfd148_0 (.s rfl)) rfl ?_
    refine .cons (.fieldAddr .none fd25_0 hfd25_0 (.s rfl)) rfl ?_
    refine .cons (.load .none ty22 (.s rfl)) rfl ?_
    refine .cons (.move .none (.s rfl)) rfl ?_
    obtain ⟨hn2, h⟩ := need_some h
    refine .cons (.indexAddr .none sl22 ty44 (.s rfl) (.s rfl) (fun _ => hn2)) rfl ?_
    refine .cons (.fieldAddr .none fd44_1 hfd44_1 (.s rfl)) rfl ?_
    refine .cons (.load .none ty3 (.s rfl)) rfl ?_
    refine .cons (.eqI .none (.s rfl) (.int (by decide))) rfl ?_
    refine .cons (.assign .none (.s rfl)) rfl ?_
    refine .nil ?_
    refine .then ?_
    refine .cond (t := 20) rfl trivial (fun hb3 => ?_) (fun hb3 => ?_)
    · replace h := bif_t h hb3
      refine .seq ?_
      refine .region [] mixed (by kernel_rfl) ?_
      refine .cons (.assign .none (.int (by decide))) rfl ?_
      refine .nil ?_
      refine .then ?_
      refine .ret ?_
      refine .blkRet ?_
      refine .thenRet ?_
      obtain rfl := some_eq h
      exact Ends.ret1 (.inl rfl) Tryz.results151 (ResOK.tmp rfl trivial Imp.refl)
    · replace h := bif_f h hb3
      refine .seq ?_
      refine .region [] mixed (by kernel_rfl) ?_
      refine .cons (.fieldAddr .none fd65_1 hfd65_1 (.s rfl)) rfl ?_
      refine .cons (.load .none ty3 (.s rfl)) rfl ?_
      refine .cons (.lt .none (.s rfl) (.int (by decide))) rfl ?_
      refine .cons (.move .none (.s rfl)) rfl ?_
      refine .cons (.fieldAddr (.at rfl rfl) fd65_1 hfd65_1 (.s rfl)) rfl ?_
      refine .cons (.load (.at rfl rfl) ty3 (.tmp rfl id)) rfl ?_
      refine .cons (.gt (.at rfl rfl) (.tmp rfl id) (.int (by decide))) rfl ?_
      refine .cons (.pickOr .none (.s rfl) (.tmp rfl id)) rfl ?_
      refine .cons (.move .none (.s rfl)) rfl ?_
      refine .cons (.fieldAddr (.at rfl rfl) fd65_2 hfd65_2 (.s rfl)) rfl ?_
      refine .cons (.load (.at rfl rfl) ty3 (.tmp rfl id)) rfl ?_
      refine .cons (.lt (.at rfl rfl) (.tmp rfl id) (.int (by decide))) rfl ?_
      refine .cons (.pickOr .none (.s rfl) (.tmp rfl id)) rfl ?_
      refine .cons (.move .none (.s rfl)) rfl ?_
      refine .cons (.fieldAddr (.at rfl rfl) fd65_2 hfd65_2 (.s rfl)) rfl ?_
      refine .cons (.load (.at rfl rfl) ty3 (.tmp rfl id)) rfl ?_
      refine .cons (.gt (.at rfl rfl) (.tmp rfl id) (.int (by decide))) rfl ?_
      refine .cons (.pickOr .none (.s rfl) (.tmp rfl id)) rfl ?_
      refine .cons (.assign .none (.s rfl)) rfl ?_
      refine .nil ?_
      refine .then ?_
      refine .cond (t := 31) rfl trivial (fun hb4 => ?_) (fun hb4 => ?_)
      · replace h := bif_t h hb4
        refine .seq ?_
        refine .region [] mixed (by kernel_rfl) ?_
        refine .cons (.assign .none (.int (by decide))) rfl ?_
        refine .nil ?_
        refine .then ?_
        refine .ret ?_
        refine .blkRet ?_
        refine .thenRet ?_
        obtain rfl := some_eq h
        exact Ends.ret1 (.inl rfl) Tryz.results151 (ResOK.tmp rfl trivial Imp.refl)
      · replace h := bif_f h hb4
        refine .skip ?_
        refine .blkNormal ?_
        refine .then ?_
        refine .seq ?_
        refine .region [] mixed (by kernel_rfl) ?_
        refine .cons (.assign .none (.int (by decide))) rfl ?_
        refine .nil ?_
        refine .then ?_
        refine .ret ?_
        obtain rfl := some_eq h
        exact Ends.ret1 (.inl rfl) Tryz.results151 (ResOK.tmp rfl trivial Imp.refl)

theorem geom_CheckPoint_ok {p1 : Point} {r : Int}  (h : geom_CheckPoint p1 = some r) : FSpec Tryz.prog 83 [rep p1] (rep r) := by
  unfold geom_CheckPoint at h
  refine FSpec.intro (n := 11) fnok83 Tryz.func83 rfl Tryz.ntmps83 rfl (fun F => ?_)
  refine .seq ?_
  refine .region [] mixed (by kernel_rfl) ?_
  refine .cons (.box .none (.s rfl)) rfl ?_
  refine .cons (.assign .none (.int (by decide))) rfl ?_
  refine .nil ?_
  refine .then ?_
  refine .seq ?_
  refine .seq ?_
  refine .region [] mixed (by kernel_rfl) ?_
  refine .cons (.fieldAddr .none fd27_0 hfd27_0 (.s rfl)) rfl ?_
  refine .cons (.load .none ty3 (.s rfl)) rfl ?_
  obtain ⟨r1, hv1, h⟩ := bind_some h
  refine .cons (.call .none (geom_out_ok hv1) (.cons (.s rfl) .nil)) rfl ?_
  refine .cons (.move .none (.s rfl)) rfl ?_
  refine .cons (.fieldAddr (.at rfl rfl) fd27_1 hfd27_1 (.s rfl)) rfl ?_
  refine .cons (.load (.at rfl rfl) ty3 (.tmp rfl id)) rfl ?_
  obtain ⟨r2, hv2, h⟩ := bind_some h
  refine .cons (.callIf (.at rfl rfl) fnok156 (fun hg => geom_out_ok ((fun hg => gd_some hv2 ((notT hg.2))) hg)) (.cons (.tmp rfl id) .nil) (fun h => h)) rfl ?_
  refine .cons (.pickOr .none (.s rfl) (.tmp rfl id)) rfl ?_
  refine .nil ?_
  refine .then ?_
  refine .cond (t := 10) rfl trivial (fun hb3 => ?_) (fun hb3 => ?_)
  · replace h := bif_t h hb3
    refine .seq ?_
    refine .region [] mixed (by kernel_rfl) ?_
    refine .cons (.assign .none (.int (by decide))) rfl ?_
    refine .nil ?_
    refine .then ?_
    refine .ret ?_
    refine .thenRet ?_
    obtain rfl := some_eq h
    exact Ends.ret1 (.inl rfl) Tryz.results83 (ResOK.tmp rfl trivial Imp.refl)
  · replace h := bif_f h hb3
    refine .skip ?_
    refine .then ?_
    refine .seq ?_
    refine .region [] mixed (by kernel_rfl) ?_
    refine .cons (.assign .none (.int (by decide))) rfl ?_
    refine .nil ?_
    refine .then ?_
    refine .ret ?_
    obtain rfl := some_eq h
    exact Ends.ret1 (.inl rfl) Tryz.results83 (ResOK.tmp rfl trivial Imp.refl)

theorem geom_points_ok {l1 : (List Point)} {r : Int}  (h : geom_points l1 = some r) : FSpec Tryz.prog 184 [rep l1] (rep r) := by
  unfold geom_points at h
  refine FSpec.intro (n := 18) fnok184 Tryz.func184 rfl Tryz.ntmps184 rfl (fun F => ?_)
  refine .seq ?_
  refine .region [] mixed (by kernel_rfl) ?_
  refine .cons (.assign .none (.int (by decide))) rfl ?_
  refine .nil ?_
  refine .then ?_
  refine .seq ?_
  refine .seq ?_
  refine .region [] mixed (by kernel_rfl) ?_
  refine .cons (.move .none (.s rfl)) rfl ?_
  refine .cons (.len .none sl59 (.s rfl)) rfl ?_
  refine .cons (.move .none (.int (by decide))) rfl ?_
  refine .nil ?_
  refine .then ?_
  obtain ⟨o_1, h, hK1⟩ := bindR_some h
  refine .thenJ (ι := Unit) (fun j_1 => []) (fun j_1 => []) (fun s => o_1 = Res.nx s) Sub.nil SubB.nil ?_ (fun j_1 hj1 => ?_)
  · skip
    refine .block ?_
    refine .rforEL h (fun p2_ => [(8, ⟨True, rep p2_.1⟩)]) (fun p2_ => []) (.cons (t := 8) rfl Sub.nil) SubB.nil (.cons (t := 6) rfl (.cons (t := 7) rfl Sub.nil)) SubB.nil (fun p2_ o_2 h hD2 => ?_)
    refine .seq ?_
    refine .region [] mixed (by kernel_rfl) ?_
    refine .cons (.lt .none (.s rfl) (.s rfl)) rfl ?_
    refine .nil ?_
    refine .then ?_
    refine .seq ?_
    refine .cond (t := 9) rfl trivial (fun hb3 => ?_) (fun hb3 => ?_)
    · replace h := bif_t h hb3
      refine .skip ?_
      refine .then ?_
      refine .seq ?_
      obtain ⟨o_4, h, hK4⟩ := bindD_some h
      unfold geom_points_L1 at h
      refine .thenJ (ι := Unit) (fun j_4 => []) (fun j_4 => []) (fun s => o_4 = Res.nx s) (.cons (t := 6) rfl (.cons (t := 7) rfl (.cons (t := 8) rfl Sub.nil))) SubB.nil ?_ (fun j_4 hj4 => ?_)
      · skip
        refine .block ?_
        refine .seq ?_
        refine .region [([], []), ([], []), ([], [4]), ([4], [4])] mixed (by kernel_rfl) ?_
        obtain ⟨hn5, h⟩ := need_some h
        refine .consA (.indexAddr .none sl59 ty27 (.s rfl) (.s rfl) (fun _ => hn5)) rfl ?_
        obtain ⟨v1, hv6, h⟩ := bnd_some h
        refine .consA (.re hv6 (.load .none ty27 (.s rfl))) rfl ?_
        refine .consW (.alloc zo27 rfl) rfl rfl ?_
        refine .consN (.store ty27 rfl rfl (.s rfl)) rfl ?_
        refine .nil ?_
        refine .then ?_
        refine .freeze (t := 4) rfl rfl SubB.nil rfl ?_
        refine .seq ?_
        refine .region [] mixed (by kernel_rfl) ?_
        refine .cons (.load .none ty27 (.s rfl)) rfl ?_
        obtain ⟨e1, hv7, h⟩ := bind_some h
        refine .cons (.call .none (geom_CheckPoint_ok hv7) (.cons (.s rfl) .nil)) rfl ?_
        refine .cons (.assign .none (.s rfl)) rfl ?_
        refine .nil ?_
        refine .then ?_
        refine .seq ?_
        refine .region [] mixed (by kernel_rfl) ?_
        refine .cons (.move .none (.s rfl)) rfl ?_
        refine .cons (.neI .none (.s rfl) (.int (by decide))) rfl ?_
        refine .nil ?_
        refine .then ?_
        refine .cond (t := 15) rfl trivial (fun hb8 => ?_) (fun hb8 => ?_)
        · replace h := bif_t h hb8
          refine .seq ?_
          refine .region [] mixed (by kernel_rfl) ?_
          refine .cons (.move .none (.s rfl)) rfl ?_
          refine .cons (.assign .none (.s rfl)) rfl ?_
          refine .nil ?_
          refine .then ?_
          refine .ret ?_
          refine .blkRet ?_
          refine .thenRet ?_
          refine .thenRet ?_
          refine .blkRet ?_
          refine .thenRet ?_
          replace h := resd_ab hK4 (some_eq h)
          replace h := hD2 _ (some_eq h)
          replace h := resb_ab hK1 (some_eq h)
          obtain rfl := some_eq h
          exact Ends.ret1 (.inl rfl) Tryz.results184 (ResOK.tmp rfl trivial Imp.refl)
        · replace h := bif_f h hb8
          refine .skip ?_
          refine .blkNormal ?_
          exact Ends.join _ (some_eq h) (.cons (t := 6) rfl (.cons (t := 7) rfl (.cons (t := 8) rfl Sub.nil))) SubB.nil
      · have h := resd_nx hK4 hj4
        refine .region [] mixed (by kernel_rfl) ?_
        refine .cons (.addW .none (.s rfl) (.int (by decide))) rfl ?_
        refine .cons (.move .none (.s rfl)) rfl ?_
        refine .nil ?_
        exact Ends.againL (some_eq h) (.cons (t := 8) rfl (.cons (t := 6) rfl (.cons (t := 7) rfl Sub.nil))) SubB.nil
    · replace h := bif_f h hb3
      refine .exit ?_
      refine .thenExit ?_
      refine .thenExit ?_
      refine .blkExit ?_
      replace h := hD2 _ (some_eq h)
      exact Ends.join _ (some_eq h) Sub.nil SubB.nil
  · have h := resb_nx hK1 hj1
    refine .seq ?_
    refine .region [] mixed (by kernel_rfl) ?_
    refine .cons (.assign .none (.int (by decide))) rfl ?_
    refine .nil ?_
    refine .then ?_
    refine .ret ?_
    obtain rfl := some_eq h
    exact Ends.ret1 (.inl rfl) Tryz.results184 (ResOK.tmp rfl trivial Imp.refl)

theorem geom_CheckPoints_ok {l1 : (List Point)} {r : Int}  (h : geom_CheckPoints l1 = some r) : FSpec Tryz.prog 152 [rep l1] (rep r) := by
  unfold geom_CheckPoints at h
  refine FSpec.intro (n := 8) fnok152 Tryz.func152 rfl Tryz.ntmps152 rfl (fun F => ?_)
  refine .seq ?_
  refine .region [] mixed (by kernel_rfl) ?_
  refine .cons (.assign .none (.int (by decide))) rfl ?_
  refine .nil ?_
  refine .then ?_
  refine .seq ?_
  refine .seq ?_
  refine .region [] mixed (by kernel_rfl) ?_
  refine .cons (.move .none (.s rfl)) rfl ?_
  refine .cons (.len .none sl59 (.s rfl)) rfl ?_
  refine .cons (.gt .none (.s rfl) (.int (by decide))) rfl ?_
  refine .nil ?_
  refine .then ?_
  refine .cond (t := 5) rfl trivial (fun hb1 => ?_) (fun hb1 => ?_)
  · replace h := bif_t h hb1
    refine .seq ?_
    refine .region [] mixed (by kernel_rfl) ?_
    refine .cons (.assign .none (.int (by decide))) rfl ?_
    refine .nil ?_
    refine .then ?_
    refine .ret ?_
    refine .thenRet ?_
    obtain rfl := some_eq h
    exact Ends.ret1 (.inl rfl) Tryz.results152 (ResOK.tmp rfl trivial Imp.refl)
  · replace h := bif_f h hb1
    refine .skip ?_
    refine .then ?_
    refine .seq ?_
    refine .region [] mixed (by kernel_rfl) ?_
    refine .cons (.move .none (.s rfl)) rfl ?_
    obtain ⟨r1, hv2, h⟩ := bind_some h
    refine .cons (.call .none (geom_points_ok hv2) (.cons (.s rfl) .nil)) rfl ?_
    refine .cons (.assign .none (.s rfl)) rfl ?_
    refine .nil ?_
    refine .then ?_
    refine .ret ?_
    obtain rfl := some_eq h
    exact Ends.ret1 (.inl rfl) Tryz.results152 (ResOK.tmp rfl trivial Imp.refl)

theorem page_view_checkEdge_ok {v1 : Page_view} {x1 : DEdge} {twice1 : Bool} {r : Int}  (h : page_view_checkEdge v1 x1 twice1 = some r) : FSpec Tryz.prog 74 [ref v1, rep x1, rep twice1] (rep r) := by
  unfold page_view_checkEdge at h
  refine FSpec.intro (n := 61) fnok74 Tryz.func74 rfl Tryz.ntmps74 rfl (fun F => ?_)
  refine .seq ?_
  refine .region [] mixed (by kernel_rfl) ?_
  refine .cons (.box .none (.s rfl)) rfl ?_
  refine .cons (.assign .none (.int (by decide))) rfl ?_
  refine .nil ?_
  refine .then ?_
  refine .seq ?_
  refine .block ?_
  refine .seq ?_
  refine .region [] mixed (by kernel_rfl) ?_
  refine .cons (.fieldAddr .none fd67_0 hfd67_0 (.s rfl)) rfl ?_
  refine .cons (.load .none ty9 (.s rfl)) rfl ?_
  obtain ⟨r1, hv1, h⟩ := bind_some h
  refine .cons (.call .none (page_isName_ok hv1) (.cons (.s rfl) .nil)) rfl ?_
  refine .cons (.not .none (.s rfl)) rfl ?_
  refine .cons (.assign .none (.s rfl)) rfl ?_
  refine .nil ?_
  refine .then ?_
  refine .cond (t := 12) rfl trivial (fun hb2 => ?_) (fun hb2 => ?_)
  · replace h := bif_t h hb2
    refine .seq ?_
    refine .region [] mixed (by kernel_rfl) ?_
    refine .cons (.assign .none (.int (by decide))) rfl ?_
    refine .nil ?_
    refine .then ?_
    refine .ret ?_
    refine .blkRet ?_
    refine .thenRet ?_
    obtain rfl := some_eq h
    exact Ends.ret1 (.inl rfl) Tryz.results74 (ResOK.tmp rfl trivial Imp.refl)
  · replace h := bif_f h hb2
    refine .seq ?_
    refine .region [] mixed (by kernel_rfl) ?_
    refine .cons (.move .none (.s rfl)) rfl ?_
    refine .cons (.assign .none (.s rfl)) rfl ?_
    refine .nil ?_
    refine .then ?_
    refine .cond (t := 17) rfl trivial (fun hb3 => ?_) (fun hb3 => ?_)
    · replace h := bif_t h hb3
      refine .seq ?_
      refine .region [] mixed (by kernel_rfl) ?_
      refine .cons (.assign .none (.int (by decide))) rfl ?_
      refine .nil ?_
      refine .then ?_
      refine .ret ?_
      refine .blkRet ?_
      refine .thenRet ?_
      obtain rfl := some_eq h
      exact Ends.ret1 (.inl rfl) Tryz.results74 (ResOK.tmp rfl trivial Imp.refl)
    · replace h := bif_f h hb3
      refine .skip ?_
      refine .blkNormal ?_
      refine .then ?_
      refine .seq ?_
      refine .seq ?_
      refine .region [] mixed (by kernel_rfl) ?_
      refine .cons (.fieldAddr .none fd67_1 hfd67_1 (.s rfl)) rfl ?_
      refine .cons (.load .none ty65 (.s rfl)) rfl ?_
      refine .cons (.fieldAddr .none fd67_2 hfd67_2 (.s rfl)) rfl ?_
      refine .cons (.load .none ty65 (.s rfl)) rfl ?_
      obtain ⟨v2, hv4, h⟩ := bnd_some h
      refine .cons (.re hv4 (.buildSlice (xs := [_, _]) .none sl184 ty65 hz65 (.cons (.s rfl) (.cons (.s rfl) .nil)) rfl (by decide))) rfl ?_
      refine .cons (.len .none sl184 (.s rfl)) rfl ?_
      refine .cons (.move .none (.int (by decide))) rfl ?_
      refine .nil ?_
      refine .then ?_
      obtain ⟨o_5, h, hK5⟩ := bindR_some h
      refine .thenJ (ι := Unit) (fun j_5 => []) (fun j_5 => []) (fun s => o_5 = Res.nx s) (.cons (t := 4) rfl Sub.nil) SubB.nil ?_ (fun j_5 hj5 => ?_)
      · skip
        refine .block ?_
        refine .rforEL h (fun p6_ => [(25, ⟨True, rep p6_.1⟩)]) (fun p6_ => []) (.cons (t := 25) rfl Sub.nil) SubB.nil (.cons (t := 0) rfl (.cons (t := 4) rfl (.cons (t := 23) rfl (.cons (t := 24) rfl Sub.nil)))) SubB.nil (fun p6_ o_6 h hD6 => ?_)
        refine .seq ?_
        refine .region [] mixed (by kernel_rfl) ?_
        refine .cons (.lt .none (.s rfl) (.s rfl)) rfl ?_
        refine .nil ?_
        refine .then ?_
        refine .seq ?_
        refine .cond (t := 26) rfl trivial (fun hb7 => ?_) (fun hb7 => ?_)
        · replace h := bif_t h hb7
          refine .skip ?_
          refine .then ?_
          refine .seq ?_
          obtain ⟨o_8, h, hK8⟩ := bindD_some h
          unfold page_view_checkEdge_L1 at h
          refine .thenJ (ι := Unit) (fun j_8 => []) (fun j_8 => []) (fun s => o_8 = Res.nx s) (.cons (t := 0) rfl (.cons (t := 4) rfl (.cons (t := 23) rfl (.cons (t := 24) rfl (.cons (t := 25) rfl Sub.nil))))) SubB.nil ?_ (fun j_8 hj8 => ?_)
          · skip
            refine .block ?_
            refine .seq ?_
            refine .region [([], []), ([], []), ([], [8]), ([8], [8])] mixed (by kernel_rfl) ?_
            obtain ⟨hn9, h⟩ := need_some h
            refine .consA (.indexAddr .none sl184 ty65 (.s rfl) (.s rfl) (fun _ => hn9)) rfl ?_
            obtain ⟨v3, hv10, h⟩ := bnd_some h
            refine .consA (.re hv10 (.load .none ty65 (.s rfl))) rfl ?_
            refine .consW (.alloc zo65 rfl) rfl rfl ?_
            refine .consN (.store ty65 rfl rfl (.s rfl)) rfl ?_
            refine .nil ?_
            refine .then ?_
            refine .freeze (t := 8) rfl rfl SubB.nil rfl ?_
            refine .seq ?_
            refine .region [] mixed (by kernel_rfl) ?_
            refine .cons (.move .none (.s rfl)) rfl ?_
            refine .cons (.load .none ty65 (.s rfl)) rfl ?_
            obtain ⟨e1, hv11, h⟩ := bind_some h
            refine .cons (.call .none (page_view_checkEnd_ok hv11) (.cons (.s rfl) (.cons (.s rfl) .nil))) rfl ?_
            refine .cons (.assign .none (.s rfl)) rfl ?_
            refine .nil ?_
            refine .then ?_
            refine .seq ?_
            refine .region [] mixed (by kernel_rfl) ?_
            refine .cons (.move .none (.s rfl)) rfl ?_
            refine .cons (.neI .none (.s rfl) (.int (by decide))) rfl ?_
            refine .nil ?_
            refine .then ?_
            refine .cond (t := 33) rfl trivial (fun hb12 => ?_) (fun hb12 => ?_)
            · replace h := bif_t h hb12
              refine .seq ?_
              refine .region [] mixed (by kernel_rfl) ?_
              refine .cons (.move .none (.s rfl)) rfl ?_
              refine .cons (.assign .none (.s rfl)) rfl ?_
              refine .nil ?_
              refine .then ?_
              refine .ret ?_
              refine .blkRet ?_
              refine .thenRet ?_
              refine .thenRet ?_
              refine .blkRet ?_
              refine .thenRet ?_
              replace h := resd_ab hK8 (some_eq h)
              replace h := hD6 _ (some_eq h)
              replace h := resb_ab hK5 (some_eq h)
              obtain rfl := some_eq h
              exact Ends.ret1 (.inl rfl) Tryz.results74 (ResOK.tmp rfl trivial Imp.refl)
            · replace h := bif_f h hb12
              refine .skip ?_
              refine .blkNormal ?_
              exact Ends.join _ (some_eq h) (.cons (t := 0) rfl (.cons (t := 4) rfl (.cons (t := 23) rfl (.cons (t := 24) rfl (.cons (t := 25) rfl Sub.nil))))) SubB.nil
          · have h := resd_nx hK8 hj8
            refine .region [] mixed (by kernel_rfl) ?_
            refine .cons (.addW .none (.s rfl) (.int (by decide))) rfl ?_
            refine .cons (.move .none (.s rfl)) rfl ?_
            refine .nil ?_
            exact Ends.againL (some_eq h) (.cons (t := 25) rfl (.cons (t := 0) rfl (.cons (t := 4) rfl (.cons (t := 23) rfl (.cons (t := 24) rfl Sub.nil))))) SubB.nil
        · replace h := bif_f h hb7
          refine .exit ?_
          refine .thenExit ?_
          refine .thenExit ?_
          refine .blkExit ?_
          replace h := hD6 _ (some_eq h)
          exact Ends.join _ (some_eq h) (.cons (t := 4) rfl Sub.nil) SubB.nil
      · have h := resb_nx hK5 hj5
        refine .seq ?_
        refine .seq ?_
        refine .region [] mixed (by kernel_rfl) ?_
        refine .cons (.fieldAddr .none fd67_3 hfd67_3 (.s rfl)) rfl ?_
        refine .cons (.load .none ty59 (.s rfl)) rfl ?_
        refine .cons (.len .none sl59 (.s rfl)) rfl ?_
        refine .cons (.gt .none (.s rfl) (.int (by decide))) rfl ?_
        refine .nil ?_
        refine .then ?_
        refine .cond (t := 39) rfl trivial (fun hb13 => ?_) (fun hb13 => ?_)
        · replace h := bif_t h hb13
          refine .seq ?_
          refine .region [] mixed (by kernel_rfl) ?_
          refine .cons (.assign .none (.int (by decide))) rfl ?_
          refine .nil ?_
          refine .then ?_
          refine .ret ?_
          refine .thenRet ?_
          obtain rfl := some_eq h
          exact Ends.ret1 (.inl rfl) Tryz.results74 (ResOK.tmp rfl trivial Imp.refl)
        · replace h := bif_f h hb13
          refine .skip ?_
          refine .then ?_
          refine .seq ?_
          refine .seq ?_
          refine .region [] mixed (by kernel_rfl) ?_
          refine .cons (.fieldAddr .none fd67_3 hfd67_3 (.s rfl)) rfl ?_
          refine .cons (.load .none ty59 (.s rfl)) rfl ?_
          obtain ⟨e2, hv14, h⟩ := bind_some h
          refine .cons (.call .none (geom_CheckPoints_ok hv14) (.cons (.s rfl) .nil)) rfl ?_
          refine .cons (.assign .none (.s rfl)) rfl ?_
          refine .nil ?_
          refine .then ?_
          refine .seq ?_
          refine .region [] mixed (by kernel_rfl) ?_
          refine .cons (.move .none (.s rfl)) rfl ?_
          refine .cons (.neI .none (.s rfl) (.int (by decide))) rfl ?_
          refine .nil ?_
          refine .then ?_
          refine .cond (t := 44) rfl trivial (fun hb15 => ?_) (fun hb15 => ?_)
          · replace h := bif_t h hb15
            refine .seq ?_
            refine .region [] mixed (by kernel_rfl) ?_
            refine .cons (.move .none (.s rfl)) rfl ?_
            refine .cons (.assign .none (.s rfl)) rfl ?_
            refine .nil ?_
            refine .then ?_
            refine .ret ?_
            refine .thenRet ?_
            obtain rfl := some_eq h
            exact Ends.ret1 (.inl rfl) Tryz.results74 (ResOK.tmp rfl trivial Imp.refl)
          · replace h := bif_f h hb15
            refine .skip ?_
            refine .then ?_
            refine .seq ?_
            refine .seq ?_
            refine .region [] mixed (by kernel_rfl) ?_
            refine .cons (.fieldAddr .none fd67_4 hfd67_4 (.s rfl)) rfl ?_
            refine .cons (.load .none ty9 (.s rfl)) rfl ?_
            obtain ⟨e3, hv16, h⟩ := bind_some h
            refine .cons (.call .none (shape_CheckText_ok hv16) (.cons (.s rfl) .nil)) rfl ?_
            refine .cons (.assign .none (.s rfl)) rfl ?_
            refine .nil ?_
            refine .then ?_
            refine .seq ?_
            refine .region [] mixed (by kernel_rfl) ?_
            refine .cons (.move .none (.s rfl)) rfl ?_
            refine .cons (.neI .none (.s rfl) (.int (by decide))) rfl ?_
            refine .nil ?_
            refine .then ?_
            refine .cond (t := 50) rfl trivial (fun hb17 => ?_) (fun hb17 => ?_)
            · replace h := bif_t h hb17
              refine .seq ?_
              refine .region [] mixed (by kernel_rfl) ?_
              refine .cons (.move .none (.s rfl)) rfl ?_
              refine .cons (.assign .none (.s rfl)) rfl ?_
              refine .nil ?_
              refine .then ?_
              refine .ret ?_
              refine .thenRet ?_
              obtain rfl := some_eq h
              exact Ends.ret1 (.inl rfl) Tryz.results74 (ResOK.tmp rfl trivial Imp.refl)
            · replace h := bif_f h hb17
              refine .skip ?_
              refine .then ?_
              refine .seq ?_
              refine .seq ?_
              refine .region [] mixed (by kernel_rfl) ?_
              refine .cons (.fieldAddr .none fd67_5 hfd67_5 (.s rfl)) rfl ?_
              refine .cons (.load .none ty9 (.s rfl)) rfl ?_
              refine .cons (.neS .none (eqAt_str Tryz.underlying9) (.s rfl) (.str (l := []) (by decide))) rfl ?_
              refine .cons (.move .none (.s rfl)) rfl ?_
              refine .cons (.fieldAddr (.at rfl rfl) fd67_5 hfd67_5 (.s rfl)) rfl ?_
              refine .cons (.load (.at rfl rfl) ty9 (.tmp rfl id)) rfl ?_
              obtain ⟨r2, hv18, h⟩ := bind_some h
              refine .cons (.callIf (.at rfl rfl) fnok103 (fun hg => page_isName_ok ((fun hg => gd_some hv18 (hg.2)) hg)) (.cons (.tmp rfl id) .nil) (fun h => h)) rfl ?_
              refine .cons (.not (.at rfl rfl) (.tmp rfl id)) rfl ?_
              refine .cons (.pickAnd .none (.s rfl) (.tmp rfl id)) rfl ?_
              refine .nil ?_
              refine .then ?_
              refine .cond (t := 60) rfl trivial (fun hb19 => ?_) (fun hb19 => ?_)
              · replace h := bif_t h hb19
                refine .seq ?_
                refine .region [] mixed (by kernel_rfl) ?_
                refine .cons (.assign .none (.int (by decide))) rfl ?_
                refine .nil ?_
                refine .then ?_
                refine .ret ?_
                refine .thenRet ?_
                obtain rfl := some_eq h
                exact Ends.ret1 (.inl rfl) Tryz.results74 (ResOK.tmp rfl trivial Imp.refl)
              · replace h := bif_f h hb19
                refine .skip ?_
                refine .then ?_
                refine .seq ?_
                refine .region [] mixed (by kernel_rfl) ?_
                refine .cons (.assign .none (.int (by decide))) rfl ?_
                refine .nil ?_
                refine .then ?_
                refine .ret ?_
                obtain rfl := some_eq h
                exact Ends.ret1 (.inl rfl) Tryz.results74 (ResOK.tmp rfl trivial Imp.refl)

theorem geom_boxes_ok {l1 : (List Box)} {r : Int}  (h : geom_boxes l1 = some r) : FSpec Tryz.prog 159 [rep l1] (rep r) := by
  unfold geom_boxes at h
  refine FSpec.intro (n := 18) fnok159 Tryz.func159 rfl Tryz.ntmps159 rfl (fun F => ?_)
  refine .seq ?_
  refine .region [] mixed (by kernel_rfl) ?_
  refine .cons (.assign .none (.int (by decide))) rfl ?_
  refine .nil ?_
  refine .then ?_
  refine .seq ?_
  refine .seq ?_
  refine .region [] mixed (by kernel_rfl) ?_
  refine .cons (.move .none (.s rfl)) rfl ?_
  refine .cons (.len .none sl109 (.s rfl)) rfl ?_
  refine .cons (.move .none (.int (by decide))) rfl ?_
  refine .nil ?_
  refine .then ?_
  obtain ⟨o_1, h, hK1⟩ := bindR_some h
  refine .thenJ (ι := Unit) (fun j_1 => []) (fun j_1 => []) (fun s => o_1 = Res.nx s) Sub.nil SubB.nil ?_ (fun j_1 hj1 => ?_)
  · skip
    refine .block ?_
    refine .rforEL h (fun p2_ => [(8, ⟨True, rep p2_.1⟩)]) (fun p2_ => []) (.cons (t := 8) rfl Sub.nil) SubB.nil (.cons (t := 6) rfl (.cons (t := 7) rfl Sub.nil)) SubB.nil (fun p2_ o_2 h hD2 => ?_)
    refine .seq ?_
    refine .region [] mixed (by kernel_rfl) ?_
    refine .cons (.lt .none (.s rfl) (.s rfl)) rfl ?_
    refine .nil ?_
    refine .then ?_
    refine .seq ?_
    refine .cond (t := 9) rfl trivial (fun hb3 => ?_) (fun hb3 => ?_)
    · replace h := bif_t h hb3
      refine .skip ?_
      refine .then ?_
      refine .seq ?_
      obtain ⟨o_4, h, hK4⟩ := bindD_some h
      unfold geom_boxes_L1 at h
      refine .thenJ (ι := Unit) (fun j_4 => []) (fun j_4 => []) (fun s => o_4 = Res.nx s) (.cons (t := 6) rfl (.cons (t := 7) rfl (.cons (t := 8) rfl Sub.nil))) SubB.nil ?_ (fun j_4 hj4 => ?_)
      · skip
        refine .block ?_
        refine .seq ?_
        refine .region [([], []), ([], []), ([], [4]), ([4], [4])] mixed (by kernel_rfl) ?_
        obtain ⟨hn5, h⟩ := need_some h
        refine .consA (.indexAddr .none sl109 ty29 (.s rfl) (.s rfl) (fun _ => hn5)) rfl ?_
        obtain ⟨v1, hv6, h⟩ := bnd_some h
        refine .consA (.re hv6 (.load .none ty29 (.s rfl))) rfl ?_
        refine .consW (.alloc zo29 rfl) rfl rfl ?_
        refine .consN (.store ty29 rfl rfl (.s rfl)) rfl ?_
        refine .nil ?_
        refine .then ?_
        refine .freeze (t := 4) rfl rfl SubB.nil rfl ?_
        refine .seq ?_
        refine .region [] mixed (by kernel_rfl) ?_
        refine .cons (.load .none ty29 (.s rfl)) rfl ?_
        obtain ⟨e1, hv7, h⟩ := bind_some h
        refine .cons (.call .none (geom_CheckBox_ok hv7) (.cons (.s rfl) .nil)) rfl ?_
        refine .cons (.assign .none (.s rfl)) rfl ?_
        refine .nil ?_
        refine .then ?_
        refine .seq ?_
        refine .region [] mixed (by kernel_rfl) ?_
        refine .cons (.move .none (.s rfl)) rfl ?_
        refine .cons (.neI .none (.s rfl) (.int (by decide))) rfl ?_
        refine .nil ?_
        refine .then ?_
        refine .cond (t := 15) rfl trivial (fun hb8 => ?_) (fun hb8 => ?_)
        · replace h := bif_t h hb8
          refine .seq ?_
          refine .region [] mixed (by kernel_rfl) ?_
          refine .cons (.move .none (.s rfl)) rfl ?_
          refine .cons (.assign .none (.s rfl)) rfl ?_
          refine .nil ?_
          refine .then ?_
          refine .ret ?_
          refine .blkRet ?_
          refine .thenRet ?_
          refine .thenRet ?_
          refine .blkRet ?_
          refine .thenRet ?_
          replace h := resd_ab hK4 (some_eq h)
          replace h := hD2 _ (some_eq h)
          replace h := resb_ab hK1 (some_eq h)
          obtain rfl := some_eq h
          exact Ends.ret1 (.inl rfl) Tryz.results159 (ResOK.tmp rfl trivial Imp.refl)
        · replace h := bif_f h hb8
          refine .skip ?_
          refine .blkNormal ?_
          exact Ends.join _ (some_eq h) (.cons (t := 6) rfl (.cons (t := 7) rfl (.cons (t := 8) rfl Sub.nil))) SubB.nil
      · have h := resd_nx hK4 hj4
        refine .region [] mixed (by kernel_rfl) ?_
        refine .cons (.addW .none (.s rfl) (.int (by decide))) rfl ?_
        refine .cons (.move .none (.s rfl)) rfl ?_
        refine .nil ?_
        exact Ends.againL (some_eq h) (.cons (t := 8) rfl (.cons (t := 6) rfl (.cons (t := 7) rfl Sub.nil))) SubB.nil
    · replace h := bif_f h hb3
      refine .exit ?_
      refine .thenExit ?_
      refine .thenExit ?_
      refine .blkExit ?_
      replace h := hD2 _ (some_eq h)
      exact Ends.join _ (some_eq h) Sub.nil SubB.nil
  · have h := resb_nx hK1 hj1
    refine .seq ?_
    refine .region [] mixed (by kernel_rfl) ?_
    refine .cons (.assign .none (.int (by decide))) rfl ?_
    refine .nil ?_
    refine .then ?_
    refine .ret ?_
    obtain rfl := some_eq h
    exact Ends.ret1 (.inl rfl) Tryz.results159 (ResOK.tmp rfl trivial Imp.refl)

theorem geom_Hull_ok {l1 : (List Box)} {r : (Box × Int)}  (h : geom_Hull l1 = some r) : FSpec Tryz.prog 153 [rep l1] (tup [rep r.1, rep r.2]) := by
  unfold geom_Hull at h
  refine FSpec.intro (n := 83) fnok153 Tryz.func153 rfl Tryz.ntmps153 rfl (fun F => ?_)
  refine .seq ?_
  refine .region [([], [2]), ([], [])] mixed (by kernel_rfl) ?_
  refine .consW (.alloc zo29 rfl) rfl rfl ?_
  refine .consA (.assign .none (.int (by decide))) rfl ?_
  refine .nil ?_
  refine .then ?_
  obtain ⟨v1, hv1, h⟩ := bnd_some h
  refine .reB (t := 2) rfl (congrArg (cont 29) hv1) ?_
  refine .nameBox (t := 2) (g := 5001) rfl rfl (fun m5001 => ?_)
  refine .seq ?_
  refine .seq ?_
  refine .region [] mixed (by kernel_rfl) ?_
  refine .cons (.move .none (.s rfl)) rfl ?_
  refine .cons (.len .none sl109 (.s rfl)) rfl ?_
  refine .cons (.gt .none (.s rfl) (.int (by decide))) rfl ?_
  refine .nil ?_
  refine .then ?_
  refine .cond (t := 12) rfl trivial (fun hb2 => ?_) (fun hb2 => ?_)
  · replace h := bif_t h hb2
    refine .seq ?_
    refine .region [([], []), ([5001], [5001]), ([], [])] mixed (by kernel_rfl) ?_
    obtain ⟨v2, hv3, h⟩ := bnd_some h
    refine .consA (.re hv3 (.buildF (y := (⟨(0 : Int), (0 : Int), (0 : Int), (0 : Int)⟩ : Box)) .none bu29 zc29 rfl .nil .nil)) rfl ?_
    refine .consN (.storeAt0 (g := 5001) ty29 rfl (.s rfl) (.s rfl)) rfl ?_
    refine .consA (.assign .none (.int (by decide))) rfl ?_
    refine .nil ?_
    refine .then ?_
    refine .freezeBox (g := 5001) (ts := [2]) rfl (.cons (t := 2) rfl trivial .nil) SubB.nil rfl ?_
    refine .ret ?_
    refine .thenRet ?_
    obtain rfl := some_eq h
    exact Ends.ret2 (.inl rfl) Tryz.results153 (ResOK.cellR ty29 rfl trivial Imp.refl) (ResOK.tmp rfl trivial Imp.refl)
  · replace h := bif_f h hb2
    refine .skip ?_
    refine .then ?_
    refine .seq ?_
    refine .seq ?_
    refine .region [] mixed (by kernel_rfl) ?_
    refine .cons (.move .none (.s rfl)) rfl ?_
    obtain ⟨e1, hv4, h⟩ := bind_some h
    refine .cons (.call .none (geom_boxes_ok hv4) (.cons (.s rfl) .nil)) rfl ?_
    refine .cons (.assign .none (.s rfl)) rfl ?_
    refine .nil ?_
    refine .then ?_
    refine .seq ?_
    refine .region [] mixed (by kernel_rfl) ?_
    refine .cons (.move .none (.s rfl)) rfl ?_
    refine .cons (.neI .none (.s rfl) (.int (by decide))) rfl ?_
    refine .nil ?_
    refine .then ?_
    refine .cond (t := 17) rfl trivial (fun hb5 => ?_) (fun hb5 => ?_)
    · replace h := bif_t h hb5
      refine .seq ?_
      refine .region [([], []), ([], []), ([5001], [5001]), ([], [])] mixed (by kernel_rfl) ?_
      obtain ⟨v3, hv6, h⟩ := bnd_some h
      refine .consA (.re hv6 (.buildF (y := (⟨(0 : Int), (0 : Int), (0 : Int), (0 : Int)⟩ : Box)) .none bu29 zc29 rfl .nil .nil)) rfl ?_
      refine .consA (.move .none (.s rfl)) rfl ?_
      refine .consN (.storeAt0 (g := 5001) ty29 rfl (.s rfl) (.s rfl)) rfl ?_
      refine .consA (.assign .none (.s rfl)) rfl ?_
      refine .nil ?_
      refine .then ?_
      refine .freezeBox (g := 5001) (ts := [2]) rfl (.cons (t := 2) rfl trivial .nil) SubB.nil rfl ?_
      refine .ret ?_
      refine .thenRet ?_
      obtain rfl := some_eq h
      exact Ends.ret2 (.inl rfl) Tryz.results153 (ResOK.cellR ty29 rfl trivial Imp.refl) (ResOK.tmp rfl trivial Imp.refl)
    · replace h := bif_f h hb5
      refine .skip ?_
      refine .then ?_
      refine .seq ?_
      refine .seq ?_
      refine .region [] mixed (by kernel_rfl) ?_
      refine .cons (.move .none (.s rfl)) rfl ?_
      refine .cons (.len .none sl109 (.s rfl)) rfl ?_
      refine .cons (.eqI .none (.s rfl) (.int (by decide))) rfl ?_
      refine .nil ?_
      refine .then ?_
      refine .cond (t := 22) rfl trivial (fun hb7 => ?_) (fun hb7 => ?_)
      · replace h := bif_t h hb7
        refine .seq ?_
        refine .region [([], []), ([5001], [5001]), ([], [])] mixed (by kernel_rfl) ?_
        obtain ⟨v4, hv8, h⟩ := bnd_some h
        refine .consA (.re hv8 (.buildF (y := (⟨(0 : Int), (0 : Int), (0 : Int), (0 : Int)⟩ : Box)) .none bu29 zc29 rfl .nil .nil)) rfl ?_
        refine .consN (.storeAt0 (g := 5001) ty29 rfl (.s rfl) (.s rfl)) rfl ?_
        refine .consA (.assign .none (.int (by decide))) rfl ?_
        refine .nil ?_
        refine .then ?_
        refine .freezeBox (g := 5001) (ts := [2]) rfl (.cons (t := 2) rfl trivial .nil) SubB.nil rfl ?_
        refine .ret ?_
        refine .thenRet ?_
        obtain rfl := some_eq h
        exact Ends.ret2 (.inl rfl) Tryz.results153 (ResOK.cellR ty29 rfl trivial Imp.refl) (ResOK.tmp rfl trivial Imp.refl)
      · replace h := bif_f h hb7
        refine .skip ?_
        refine .then ?_
        refine .seq ?_
        refine .region [([], []), ([], []), ([], []), ([], [5]), ([5], [5])] mixed (by kernel_rfl) ?_
        refine .consA (.move .none (.s rfl)) rfl ?_
        obtain ⟨hn9, h⟩ := need_some h
        refine .consA (.indexAddr .none sl109 ty29 (.s rfl) (.int (by decide)) (fun _ => hn9)) rfl ?_
        obtain ⟨v5, hv10, h⟩ := bnd_some h
        refine .consA (.re hv10 (.load .none ty29 (.s rfl))) rfl ?_
        refine .consW (.alloc zo29 rfl) rfl rfl ?_
        refine .consN (.store ty29 rfl rfl (.s rfl)) rfl ?_
        refine .nil ?_
        refine .then ?_
        refine .nameBox (t := 5) (g := 5002) rfl rfl (fun m5002 => ?_)
        refine .seq ?_
        refine .seq ?_
        refine .region [] mixed (by kernel_rfl) ?_
        refine .cons (.move .none (.s rfl)) rfl ?_
        refine .cons (.len .none sl109 (.s rfl)) rfl ?_
        refine .cons (.move .none (.int (by decide))) rfl ?_
        refine .nil ?_
        refine .then ?_
        obtain ⟨j_11, h, hK11⟩ := bind_some h
        refine .thenJ (ι := Box) (fun j_11 => []) (fun j_11 => [(5002, some (boxAt m5002 29 j_11))]) (fun s => j_11 = s) (.cons (t := 2) rfl (.cons (t := 5) rfl Sub.nil)) (.cons (t := 5001) rfl SubB.nil) ?_ (fun j_11' hj11 => ?_)
        · skip
          refine .block ?_
          refine .rforL h (fun p12_ => [(29, ⟨True, rep p12_.1⟩)]) (fun p12_ => [(5002, some (boxAt m5002 29 p12_.2))]) (.cons (t := 29) rfl Sub.nil) (.cons (t := 5002) rfl SubB.nil) (.cons (t := 2) rfl (.cons (t := 5) rfl (.cons (t := 27) rfl (.cons (t := 28) rfl Sub.nil)))) (.cons (t := 5001) rfl SubB.nil) (fun p12_ o_12 h hD12 => ?_)
          refine .seq ?_
          refine .region [] mixed (by kernel_rfl) ?_
          refine .cons (.lt .none (.s rfl) (.s rfl)) rfl ?_
          refine .nil ?_
          refine .then ?_
          refine .seq ?_
          refine .cond (t := 30) rfl trivial (fun hb13 => ?_) (fun hb13 => ?_)
          · replace h := bif_t h hb13
            refine .skip ?_
            refine .then ?_
            refine .seq ?_
            obtain ⟨j_14, h, hK14⟩ := bind_some h
            unfold geom_Hull_L1 at h
            refine .thenJ (ι := Box) (fun j_14 => []) (fun j_14 => [(5002, some (boxAt m5002 29 j_14))]) (fun s => j_14 = s) (.cons (t := 2) rfl (.cons (t := 5) rfl (.cons (t := 27) rfl (.cons (t := 28) rfl (.cons (t := 29) rfl Sub.nil))))) (.cons (t := 5001) rfl SubB.nil) ?_ (fun j_14' hj14 => ?_)
            · skip
              refine .block ?_
              refine .seq ?_
              refine .region [([], []), ([], []), ([], [7]), ([7], [7])] mixed (by kernel_rfl) ?_
              obtain ⟨hn15, h⟩ := need_some h
              refine .consA (.indexAddr .none sl109 ty29 (.s rfl) (.s rfl) (fun _ => hn15)) rfl ?_
              obtain ⟨v6, hv16, h⟩ := bnd_some h
              refine .consA (.re hv16 (.load .none ty29 (.s rfl))) rfl ?_
              refine .consW (.alloc zo29 rfl) rfl rfl ?_
              refine .consN (.store ty29 rfl rfl (.s rfl)) rfl ?_
              refine .nil ?_
              refine .then ?_
              refine .freeze (t := 7) rfl rfl (.cons (t := 5001) rfl (.cons (t := 5002) rfl SubB.nil)) rfl ?_
              refine .seq ?_
              refine .region [([], []), ([5002], []), ([], []), ([], []), ([], []), ([], []), ([5002], []), ([], []), ([], []), ([], []), ([], []), ([], [])] mixed (by kernel_rfl) ?_
              refine .consA (.fieldPtr .none fd29_0 (.s rfl)) rfl ?_
              refine .consA (.loadAt (k := 5002) .none ty3 rfl (.s rfl) hfd29_0) rfl ?_
              refine .consA (.fieldAddr .none fd29_0 hfd29_0 (.s rfl)) rfl ?_
              refine .consA (.load .none ty3 (.s rfl)) rfl ?_
              refine .consA (.min2 .none (.s rfl) (.s rfl)) rfl ?_
              refine .consA (.fieldPtr .none fd29_1 (.s rfl)) rfl ?_
              refine .consA (.loadAt (k := 5002) .none ty3 rfl (.s rfl) hfd29_1) rfl ?_
              refine .consA (.fieldAddr .none fd29_1 hfd29_1 (.s rfl)) rfl ?_
              refine .consA (.load .none ty3 (.s rfl)) rfl ?_
              refine .consA (.min2 .none (.s rfl) (.s rfl)) rfl ?_
              obtain ⟨x1, hv17, h⟩ := bnd_some h
              refine .consA (.re hv17 (.assign .none (.s rfl))) rfl ?_
              obtain ⟨y1, hv18, h⟩ := bnd_some h
              refine .consA (.re hv18 (.assign .none (.s rfl))) rfl ?_
              refine .nil ?_
              refine .then ?_
              refine .region [([], []), ([], []), ([], []), ([5002], []), ([], []), ([5002], []), ([], []), ([], []), ([], []), ([], []), ([], []), ([], []), ([], []), ([], []), ([], []), ([], []), ([5002], []), ([], []), ([5002], []), ([], []), ([], []), ([], []), ([], []), ([], []), ([], []), ([], []), ([], []), ([], []), ([], []), ([5002], [5002])] mixed (by kernel_rfl) ?_
              refine .consA (.move .none (.s rfl)) rfl ?_
              refine .consA (.move .none (.s rfl)) rfl ?_
              refine .consA (.fieldPtr .none fd29_0 (.s rfl)) rfl ?_
              refine .consA (.loadAt (k := 5002) .none ty3 rfl (.s rfl) hfd29_0) rfl ?_
              refine .consA (.fieldPtr .none fd29_2 (.s rfl)) rfl ?_
              refine .consA (.loadAt (k := 5002) .none ty3 rfl (.s rfl) hfd29_2) rfl ?_
              refine .consA (.addW .none (.s rfl) (.s rfl)) rfl ?_
              refine .consA (.fieldAddr .none fd29_0 hfd29_0 (.s rfl)) rfl ?_
              refine .consA (.load .none ty3 (.s rfl)) rfl ?_
              refine .consA (.fieldAddr .none fd29_2 hfd29_2 (.s rfl)) rfl ?_
              refine .consA (.load .none ty3 (.s rfl)) rfl ?_
              refine .consA (.addW .none (.s rfl) (.s rfl)) rfl ?_
              refine .consA (.max2 .none (.s rfl) (.s rfl)) rfl ?_
              refine .consA (.move .none (.s rfl)) rfl ?_
              refine .consA (.subW .none (.s rfl) (.s rfl)) rfl ?_
              refine .consA (.fieldPtr .none fd29_1 (.s rfl)) rfl ?_
              refine .consA (.loadAt (k := 5002) .none ty3 rfl (.s rfl) hfd29_1) rfl ?_
              refine .consA (.fieldPtr .none fd29_3 (.s rfl)) rfl ?_
              refine .consA (.loadAt (k := 5002) .none ty3 rfl (.s rfl) hfd29_3) rfl ?_
              refine .consA (.addW .none (.s rfl) (.s rfl)) rfl ?_
              refine .consA (.fieldAddr .none fd29_1 hfd29_1 (.s rfl)) rfl ?_
              refine .consA (.load .none ty3 (.s rfl)) rfl ?_
              refine .consA (.fieldAddr .none fd29_3 hfd29_3 (.s rfl)) rfl ?_
              refine .consA (.load .none ty3 (.s rfl)) rfl ?_
              refine .consA (.addW .none (.s rfl) (.s rfl)) rfl ?_
              refine .consA (.max2 .none (.s rfl) (.s rfl)) rfl ?_
              refine .consA (.move .none (.s rfl)) rfl ?_
              refine .consA (.subW .none (.s rfl) (.s rfl)) rfl ?_
              obtain ⟨v7, hv19, h⟩ := bnd_some h
              refine .consA (.re hv19 (.buildF (y := (⟨x1, y1, W ((max (W (p12_.2.X + p12_.2.W_)) (W (v6.X + v6.W_))) - x1), W ((max (W (p12_.2.Y + p12_.2.H)) (W (v6.Y + v6.H))) - y1)⟩ : Box)) .none bu29 zc29 rfl (.cons (.s rfl) (.cons (.s rfl) (.cons (.s rfl) (.cons (.s rfl) .nil)))) (.cons rfl sf29_0 (.cons rfl sf29_1 (.cons rfl sf29_2 (.cons rfl sf29_3 .nil)))))) rfl ?_
              refine .consN (.storeAt0 (g := 5002) ty29 rfl (.s rfl) (.s rfl)) rfl ?_
              refine .nil ?_
              refine .blkNormal ?_
              exact Ends.join _ (some_eq h) (.cons (t := 2) rfl (.cons (t := 5) rfl (.cons (t := 27) rfl (.cons (t := 28) rfl (.cons (t := 29) rfl Sub.nil))))) (.cons (t := 5002) rfl (.cons (t := 5001) rfl SubB.nil))
            · subst hj14; have h := hK14; clear hK14
              refine .region [] mixed (by kernel_rfl) ?_
              refine .cons (.addW .none (.s rfl) (.int (by decide))) rfl ?_
              refine .cons (.move .none (.s rfl)) rfl ?_
              refine .nil ?_
              exact Ends.againL (some_eq h) (.cons (t := 29) rfl (.cons (t := 2) rfl (.cons (t := 5) rfl (.cons (t := 27) rfl (.cons (t := 28) rfl Sub.nil))))) (.cons (t := 5002) rfl (.cons (t := 5001) rfl SubB.nil))
          · replace h := bif_f h hb13
            refine .exit ?_
            refine .thenExit ?_
            refine .thenExit ?_
            refine .blkExit ?_
            replace h := hD12 _ (some_eq h)
            exact Ends.join _ (some_eq h) (.cons (t := 2) rfl (.cons (t := 5) rfl Sub.nil)) (.cons (t := 5002) rfl (.cons (t := 5001) rfl SubB.nil))
        · subst hj11; have h := hK11; clear hK11
          refine .freezeBox (g := 5002) (ts := [5]) rfl (.cons (t := 5) rfl trivial .nil) (.cons (t := 5001) rfl SubB.nil) rfl ?_
          refine .seq ?_
          refine .seq ?_
          refine .region [] mixed (by kernel_rfl) ?_
          refine .cons (.fieldAddr .none fd29_2 hfd29_2 (.s rfl)) rfl ?_
          refine .cons (.load .none ty3 (.s rfl)) rfl ?_
          refine .cons (.gt .none (.s rfl) (.int (by decide))) rfl ?_
          refine .cons (.move .none (.s rfl)) rfl ?_
          refine .cons (.fieldAddr (.at rfl rfl) fd29_3 hfd29_3 (.s rfl)) rfl ?_
          refine .cons (.load (.at rfl rfl) ty3 (.tmp rfl id)) rfl ?_
          refine .cons (.gt (.at rfl rfl) (.tmp rfl id) (.int (by decide))) rfl ?_
          refine .cons (.pickOr .none (.s rfl) (.tmp rfl id)) rfl ?_
          refine .nil ?_
          refine .then ?_
          refine .cond (t := 80) rfl trivial (fun hb20 => ?_) (fun hb20 => ?_)
          · replace h := bif_t h hb20
            refine .seq ?_
            refine .region [([], []), ([5001], [5001]), ([], [])] mixed (by kernel_rfl) ?_
            obtain ⟨v8, hv21, h⟩ := bnd_some h
            refine .consA (.re hv21 (.buildF (y := (⟨(0 : Int), (0 : Int), (0 : Int), (0 : Int)⟩ : Box)) .none bu29 zc29 rfl .nil .nil)) rfl ?_
            refine .consN (.storeAt0 (g := 5001) ty29 rfl (.s rfl) (.s rfl)) rfl ?_
            refine .consA (.assign .none (.int (by decide))) rfl ?_
            refine .nil ?_
            refine .then ?_
            refine .freezeBox (g := 5001) (ts := [2]) rfl (.cons (t := 2) rfl trivial .nil) SubB.nil rfl ?_
            refine .ret ?_
            refine .thenRet ?_
            obtain rfl := some_eq h
            exact Ends.ret2 (.inl rfl) Tryz.results153 (ResOK.cellR ty29 rfl trivial Imp.refl) (ResOK.tmp rfl trivial Imp.refl)
          · replace h := bif_f h hb20
            refine .skip ?_
            refine .then ?_
            refine .seq ?_
            refine .region [([], []), ([5001], [5001]), ([], [])] mixed (by kernel_rfl) ?_
            refine .consA (.load .none ty29 (.s rfl)) rfl ?_
            refine .consN (.storeAt0 (g := 5001) ty29 rfl (.s rfl) (.s rfl)) rfl ?_
            refine .consA (.assign .none (.int (by decide))) rfl ?_
            refine .nil ?_
            refine .then ?_
            refine .freezeBox (g := 5001) (ts := [2]) rfl (.cons (t := 2) rfl trivial .nil) SubB.nil rfl ?_
            refine .ret ?_
            obtain rfl := some_eq h
            exact Ends.ret2 (.inl rfl) Tryz.results153 (ResOK.cellR ty29 rfl trivial Imp.refl) (ResOK.tmp rfl trivial Imp.refl)

theorem geom_Grow_ok {b1 : Box} {n1 : Int} {r : (Box × Int)}  (h : geom_Grow b1 n1 = some r) : FSpec Tryz.prog 154 [rep b1, rep n1] (tup [rep r.1, rep r.2]) := by
  unfold geom_Grow at h
  refine FSpec.intro (n := 57) fnok154 Tryz.func154 rfl Tryz.ntmps154 rfl (fun F => ?_)
  refine .seq ?_
  refine .region [([], []), ([], [4]), ([], [])] mixed (by kernel_rfl) ?_
  refine .consA (.box .none (.s rfl)) rfl ?_
  refine .consW (.alloc zo29 rfl) rfl rfl ?_
  refine .consA (.assign .none (.int (by decide))) rfl ?_
  refine .nil ?_
  refine .then ?_
  obtain ⟨v1, hv1, h⟩ := bnd_some h
  refine .reB (t := 4) rfl (congrArg (cont 29) hv1) ?_
  refine .nameBox (t := 4) (g := 5001) rfl rfl (fun m5001 => ?_)
  refine .seq ?_
  refine .seq ?_
  refine .region [] mixed (by kernel_rfl) ?_
  refine .cons (.load .none ty29 (.s rfl)) rfl ?_
  obtain ⟨e1, hv2, h⟩ := bind_some h
  refine .cons (.call .none (geom_CheckBox_ok hv2) (.cons (.s rfl) .nil)) rfl ?_
  refine .cons (.assign .none (.s rfl)) rfl ?_
  refine .nil ?_
  refine .then ?_
  refine .seq ?_
  refine .region [] mixed (by kernel_rfl) ?_
  refine .cons (.move .none (.s rfl)) rfl ?_
  refine .cons (.neI .none (.s rfl) (.int (by decide))) rfl ?_
  refine .nil ?_
  refine .then ?_
  refine .cond (t := 12) rfl trivial (fun hb3 => ?_) (fun hb3 => ?_)
  · replace h := bif_t h hb3
    refine .seq ?_
    refine .region [([], []), ([], []), ([5001], [5001]), ([], [])] mixed (by kernel_rfl) ?_
    obtain ⟨v2, hv4, h⟩ := bnd_some h
    refine .consA (.re hv4 (.buildF (y := (⟨(0 : Int), (0 : Int), (0 : Int), (0 : Int)⟩ : Box)) .none bu29 zc29 rfl .nil .nil)) rfl ?_
    refine .consA (.move .none (.s rfl)) rfl ?_
    refine .consN (.storeAt0 (g := 5001) ty29 rfl (.s rfl) (.s rfl)) rfl ?_
    refine .consA (.assign .none (.s rfl)) rfl ?_
    refine .nil ?_
    refine .then ?_
    refine .freezeBox (g := 5001) (ts := [4]) rfl (.cons (t := 4) rfl trivial .nil) SubB.nil rfl ?_
    refine .ret ?_
    refine .thenRet ?_
    obtain rfl := some_eq h
    exact Ends.ret2 (.inl rfl) Tryz.results154 (ResOK.cellR ty29 rfl trivial Imp.refl) (ResOK.tmp rfl trivial Imp.refl)
  · replace h := bif_f h hb3
    refine .skip ?_
    refine .then ?_
    refine .seq ?_
    refine .seq ?_
    refine .region [] mixed (by kernel_rfl) ?_
    refine .cons (.move .none (.s rfl)) rfl ?_
    refine .cons (.lt .none (.s rfl) (.int (by decide))) rfl ?_
    refine .cons (.move .none (.s rfl)) rfl ?_
    refine .cons (.move (.at rfl rfl) (.s rfl)) rfl ?_
    refine .cons (.gt (.at rfl rfl) (.tmp rfl id) (.int (by decide))) rfl ?_
    refine .cons (.pickOr .none (.s rfl) (.tmp rfl id)) rfl ?_
    refine .nil ?_
    refine .then ?_
    refine .cond (t := 20) rfl trivial (fun hb5 => ?_) (fun hb5 => ?_)
    · replace h := bif_t h hb5
      refine .seq ?_
      refine .region [([], []), ([5001], [5001]), ([], [])] mixed (by kernel_rfl) ?_
      obtain ⟨v3, hv6, h⟩ := bnd_some h
      refine .consA (.re hv6 (.buildF (y := (⟨(0 : Int), (0 : Int), (0 : Int), (0 : Int)⟩ : Box)) .none bu29 zc29 rfl .nil .nil)) rfl ?_
      refine .consN (.storeAt0 (g := 5001) ty29 rfl (.s rfl) (.s rfl)) rfl ?_
      refine .consA (.assign .none (.int (by decide))) rfl ?_
      refine .nil ?_
      refine .then ?_
      refine .freezeBox (g := 5001) (ts := [4]) rfl (.cons (t := 4) rfl trivial .nil) SubB.nil rfl ?_
      refine .ret ?_
      refine .thenRet ?_
      obtain rfl := some_eq h
      exact Ends.ret2 (.inl rfl) Tryz.results154 (ResOK.cellR ty29 rfl trivial Imp.refl) (ResOK.tmp rfl trivial Imp.refl)
    · replace h := bif_f h hb5
      refine .skip ?_
      refine .then ?_
      refine .seq ?_
      refine .region [([], []), ([], []), ([], []), ([], []), ([], []), ([], []), ([], []), ([], []), ([], []), ([], []), ([], []), ([], []), ([], []), ([], []), ([], []), ([], []), ([], []), ([], []), ([], []), ([], [7]), ([7], [7])] mixed (by kernel_rfl) ?_
      refine .consA (.fieldAddr .none fd29_0 hfd29_0 (.s rfl)) rfl ?_
      refine .consA (.load .none ty3 (.s rfl)) rfl ?_
      refine .consA (.move .none (.s rfl)) rfl ?_
      refine .consA (.subW .none (.s rfl) (.s rfl)) rfl ?_
      refine .consA (.fieldAddr .none fd29_1 hfd29_1 (.s rfl)) rfl ?_
      refine .consA (.load .none ty3 (.s rfl)) rfl ?_
      refine .consA (.move .none (.s rfl)) rfl ?_
      refine .consA (.subW .none (.s rfl) (.s rfl)) rfl ?_
      refine .consA (.fieldAddr .none fd29_2 hfd29_2 (.s rfl)) rfl ?_
      refine .consA (.load .none ty3 (.s rfl)) rfl ?_
      refine .consA (.move .none (.s rfl)) rfl ?_
      refine .consA (.mulW .none (.int (by decide)) (.s rfl)) rfl ?_
      refine .consA (.addW .none (.s rfl) (.s rfl)) rfl ?_
      refine .consA (.fieldAddr .none fd29_3 hfd29_3 (.s rfl)) rfl ?_
      refine .consA (.load .none ty3 (.s rfl)) rfl ?_
      refine .consA (.move .none (.s rfl)) rfl ?_
      refine .consA (.mulW .none (.int (by decide)) (.s rfl)) rfl ?_
      refine .consA (.addW .none (.s rfl) (.s rfl)) rfl ?_
      obtain ⟨v4, hv7, h⟩ := bnd_some h
      refine .consA (.re hv7 (.buildF (y := (⟨W (b1.X - n1), W (b1.Y - n1), W (b1.W_ + (W (2 * n1))), W (b1.H + (W (2 * n1)))⟩ : Box)) .none bu29 zc29 rfl (.cons (.s rfl) (.cons (.s rfl) (.cons (.s rfl) (.cons (.s rfl) .nil)))) (.cons rfl sf29_0 (.cons rfl sf29_1 (.cons rfl sf29_2 (.cons rfl sf29_3 .nil)))))) rfl ?_
      refine .consW (.alloc zo29 rfl) rfl rfl ?_
      refine .consN (.store ty29 rfl rfl (.s rfl)) rfl ?_
      refine .nil ?_
      refine .then ?_
      refine .freeze (t := 7) rfl rfl (.cons (t := 5001) rfl SubB.nil) rfl ?_
      refine .seq ?_
      refine .seq ?_
      refine .region [] mixed (by kernel_rfl) ?_
      refine .cons (.fieldAddr .none fd29_2 hfd29_2 (.s rfl)) rfl ?_
      refine .cons (.load .none ty3 (.s rfl)) rfl ?_
      refine .cons (.lt .none (.s rfl) (.int (by decide))) rfl ?_
      refine .cons (.move .none (.s rfl)) rfl ?_
      refine .cons (.fieldAddr (.at rfl rfl) fd29_3 hfd29_3 (.s rfl)) rfl ?_
      refine .cons (.load (.at rfl rfl) ty3 (.tmp rfl id)) rfl ?_
      refine .cons (.lt (.at rfl rfl) (.tmp rfl id) (.int (by decide))) rfl ?_
      refine .cons (.pickOr .none (.s rfl) (.tmp rfl id)) rfl ?_
      refine .nil ?_
      refine .then ?_
      refine .cond (t := 48) rfl trivial (fun hb8 => ?_) (fun hb8 => ?_)
      · replace h := bif_t h hb8
        refine .seq ?_
        refine .region [([], []), ([5001], [5001]), ([], [])] mixed (by kernel_rfl) ?_
        obtain ⟨v5, hv9, h⟩ := bnd_some h
        refine .consA (.re hv9 (.buildF (y := (⟨(0 : Int), (0 : Int), (0 : Int), (0 : Int)⟩ : Box)) .none bu29 zc29 rfl .nil .nil)) rfl ?_
        refine .consN (.storeAt0 (g := 5001) ty29 rfl (.s rfl) (.s rfl)) rfl ?_
        refine .consA (.assign .none (.int (by decide))) rfl ?_
        refine .nil ?_
        refine .then ?_
        refine .freezeBox (g := 5001) (ts := [4]) rfl (.cons (t := 4) rfl trivial .nil) SubB.nil rfl ?_
        refine .ret ?_
        refine .thenRet ?_
        obtain rfl := some_eq h
        exact Ends.ret2 (.inl rfl) Tryz.results154 (ResOK.cellR ty29 rfl trivial Imp.refl) (ResOK.tmp rfl trivial Imp.refl)
      · replace h := bif_f h hb8
        refine .skip ?_
        refine .then ?_
        refine .seq ?_
        refine .seq ?_
        refine .region [] mixed (by kernel_rfl) ?_
        refine .cons (.load .none ty29 (.s rfl)) rfl ?_
        obtain ⟨e2, hv10, h⟩ := bind_some h
        refine .cons (.call .none (geom_CheckBox_ok hv10) (.cons (.s rfl) .nil)) rfl ?_
        refine .cons (.assign .none (.s rfl)) rfl ?_
        refine .nil ?_
        refine .then ?_
        refine .seq ?_
        refine .region [] mixed (by kernel_rfl) ?_
        refine .cons (.move .none (.s rfl)) rfl ?_
        refine .cons (.neI .none (.s rfl) (.int (by decide))) rfl ?_
        refine .nil ?_
        refine .then ?_
        refine .cond (t := 53) rfl trivial (fun hb11 => ?_) (fun hb11 => ?_)
        · replace h := bif_t h hb11
          refine .seq ?_
          refine .region [([], []), ([], []), ([5001], [5001]), ([], [])] mixed (by kernel_rfl) ?_
          obtain ⟨v6, hv12, h⟩ := bnd_some h
          refine .consA (.re hv12 (.buildF (y := (⟨(0 : Int), (0 : Int), (0 : Int), (0 : Int)⟩ : Box)) .none bu29 zc29 rfl .nil .nil)) rfl ?_
          refine .consA (.move .none (.s rfl)) rfl ?_
          refine .consN (.storeAt0 (g := 5001) ty29 rfl (.s rfl) (.s rfl)) rfl ?_
          refine .consA (.assign .none (.s rfl)) rfl ?_
          refine .nil ?_
          refine .then ?_
          refine .freezeBox (g := 5001) (ts := [4]) rfl (.cons (t := 4) rfl trivial .nil) SubB.nil rfl ?_
          refine .ret ?_
          refine .thenRet ?_
          obtain rfl := some_eq h
          exact Ends.ret2 (.inl rfl) Tryz.results154 (ResOK.cellR ty29 rfl trivial Imp.refl) (ResOK.tmp rfl trivial Imp.refl)
        · replace h := bif_f h hb11
          refine .skip ?_
          refine .then ?_
          refine .seq ?_
          refine .region [([], []), ([5001], [5001]), ([], [])] mixed (by kernel_rfl) ?_
          refine .consA (.load .none ty29 (.s rfl)) rfl ?_
          refine .consN (.storeAt0 (g := 5001) ty29 rfl (.s rfl) (.s rfl)) rfl ?_
          refine .consA (.assign .none (.int (by decide))) rfl ?_
          refine .nil ?_
          refine .then ?_
          refine .freezeBox (g := 5001) (ts := [4]) rfl (.cons (t := 4) rfl trivial .nil) SubB.nil rfl ?_
          refine .ret ?_
          obtain rfl := some_eq h
          exact Ends.ret2 (.inl rfl) Tryz.results154 (ResOK.cellR ty29 rfl trivial Imp.refl) (ResOK.tmp rfl trivial Imp.refl)

theorem page_view_boxOf_okS {self : (Page_view × Int) → Option (Box × Int)} (hself : ∀  (x : (Page_view × Int)) (r : (Box × Int)), self x = some r → FSpec Tryz.prog 75 [ref x.1, rep x.2] (tup [rep r.1, rep r.2]))  {x : (Page_view × Int)} {r : (Box × Int)} (h : page_view_boxOf_body self x = some r) : FSpec Tryz.prog 75 [ref x.1, rep x.2] (tup [rep r.1, rep r.2]) := by
  unfold page_view_boxOf_body at h
  refine FSpec.intro (n := 67) fnok75 Tryz.func75 rfl Tryz.ntmps75 rfl (fun F => ?_)
  refine .seq ?_
  refine .region [([], [4]), ([], [])] mixed (by kernel_rfl) ?_
  refine .consW (.alloc zo29 rfl) rfl rfl ?_
  refine .consA (.assign .none (.int (by decide))) rfl ?_
  refine .nil ?_
  refine .then ?_
  obtain ⟨v2, hv1, h⟩ := bnd_some h
  refine .reB (t := 4) rfl (congrArg (cont 29) hv1) ?_
  refine .nameBox (t := 4) (g := 5001) rfl rfl (fun m5001 => ?_)
  refine .seq ?_
  refine .region [([], []), ([], []), ([], []), ([], []), ([], []), ([], []), ([], []), ([], []), ([], [6]), ([6], [6])] mixed (by kernel_rfl) ?_
  refine .consA (.move .none (.s rfl)) rfl ?_
  refine .consA (.nilCheckR .none (.s rfl)) rfl ?_
  refine .consA (.fieldAddr .none fd148_0 hfd148_0 (.s rfl)) rfl ?_
  refine .consA (.fieldAddr .none fd25_0 hfd25_0 (.s rfl)) rfl ?_
  refine .consA (.load .none ty22 (.s rfl)) rfl ?_
  refine .consA (.move .none (.s rfl)) rfl ?_
  obtain ⟨hn2, h⟩ := need_some h
  refine .consA (.indexAddr .none sl22 ty44 (.s rfl) (.s rfl) (fun _ => hn2)) rfl ?_
  obtain ⟨v3, hv3, h⟩ := bnd_some h
  refine .consA (.re hv3 (.load .none ty44 (.s rfl))) rfl ?_
  refine .consW (.alloc zo44 rfl) rfl rfl ?_
  refine .consN (.store ty44 rfl rfl (.s rfl)) rfl ?_
  refine .nil ?_
  refine .then ?_
  refine .freeze (t := 6) rfl rfl (.cons (t := 5001) rfl SubB.nil) rfl ?_
  refine .seq ?_
  refine .seq ?_
  refine .region [] mixed (by kernel_rfl) ?_
  refine .cons (.fieldAddr .none fd44_1 hfd44_1 (.s rfl)) rfl ?_
  refine .cons (.load .none ty3 (.s rfl)) rfl ?_
  refine .cons (.neI .none (.s rfl) (.int (by decide))) rfl ?_
  refine .nil ?_
  refine .then ?_
  refine .cond (t := 24) rfl trivial (fun hb4 => ?_) (fun hb4 => ?_)
  · replace h := bif_t h hb4
    refine .seq ?_
    refine .region [([], []), ([], []), ([5001], [5001]), ([], [])] mixed (by kernel_rfl) ?_
    refine .consA (.fieldAddr .none fd44_2 hfd44_2 (.s rfl)) rfl ?_
    refine .consA (.load .none ty29 (.s rfl)) rfl ?_
    refine .consN (.storeAt0 (g := 5001) ty29 rfl (.s rfl) (.s rfl)) rfl ?_
    refine .consA (.assign .none (.int (by decide))) rfl ?_
    refine .nil ?_
    refine .then ?_
    refine .freezeBox (g := 5001) (ts := [4]) rfl (.cons (t := 4) rfl trivial .nil) SubB.nil rfl ?_
    refine .ret ?_
    refine .thenRet ?_
    obtain rfl := some_eq h
    exact Ends.ret2 (.inl rfl) Tryz.results75 (ResOK.cellR ty29 rfl trivial Imp.refl) (ResOK.tmp rfl trivial Imp.refl)
  · replace h := bif_f h hb4
    refine .skip ?_
    refine .then ?_
    refine .seq ?_
    refine .region [([], [7])] mixed (by kernel_rfl) ?_
    refine .consW (.nilRow (T := 29) (α := Box) rfl) rfl rfl ?_
    refine .nil ?_
    refine .then ?_
    refine .nameRow (t := 7) (g := 5002) rfl rfl rfl (fun s5002 => ?_)
    refine .seq ?_
    refine .seq ?_
    refine .region [] mixed (by kernel_rfl) ?_
    refine .cons (.move .none (.s rfl)) rfl ?_
    refine .cons (.nilCheckR .none (.s rfl)) rfl ?_
    refine .cons (.fieldAddr .none fd148_2 hfd148_2 (.s rfl)) rfl ?_
    refine .cons (.load .none ty146 (.s rfl)) rfl ?_
    refine .cons (.fieldAddr .none fd44_0 hfd44_0 (.s rfl)) rfl ?_
    refine .cons (.load .none ty9 (.s rfl)) rfl ?_
    obtain ⟨v4, hv5, h⟩ := bnd_some h
    refine .cons (.re hv5 (.lookup .none mo146 zo118 (.s rfl) (.s rfl))) rfl ?_
    refine .cons (.len .none sl118 (.s rfl)) rfl ?_
    refine .cons (.move .none (.int (by decide))) rfl ?_
    refine .nil ?_
    refine .then ?_
    obtain ⟨o_6, h, hK6⟩ := bindR_some h
    refine .thenJ (ι := (List Box)) (fun j_6 => []) (fun j_6 => [(7, some (rowV 29 j_6))]) (fun s => o_6 = Res.nx s) (.cons (t := 4) rfl Sub.nil) (.cons (t := 5001) rfl SubB.nil) ?_ (fun j_6 hj6 => ?_)
    · skip
      refine .block ?_
      refine .anon (t := 7) (g := 5002) rfl rfl trivial rfl ?_
      refine .rforEL h (fun p7_ => [(35, ⟨True, rep p7_.1⟩)]) (fun p7_ => [(7, some (rowV 29 p7_.2))]) (.cons (t := 35) rfl Sub.nil) (.cons (t := 7) rfl SubB.nil) (.cons (t := 0) rfl (.cons (t := 4) rfl (.cons (t := 33) rfl (.cons (t := 34) rfl Sub.nil)))) (.cons (t := 5001) rfl SubB.nil) (fun p7_ o_7 h hD7 => ?_)
      refine .nameRow (t := 7) (g := 5003) rfl rfl rfl (fun s5003 => ?_)
      refine .seq ?_
      refine .region [] mixed (by kernel_rfl) ?_
      refine .cons (.lt .none (.s rfl) (.s rfl)) rfl ?_
      refine .nil ?_
      refine .then ?_
      refine .seq ?_
      refine .cond (t := 36) rfl trivial (fun hb8 => ?_) (fun hb8 => ?_)
      · replace h := bif_t h hb8
        refine .skip ?_
        refine .then ?_
        refine .seq ?_
        obtain ⟨o_9, h, hK9⟩ := bindD_some h
        unfold page_view_boxOf_L1 at h
        refine .thenJ (ι := (List Box)) (fun j_9 => []) (fun j_9 => [(7, some (rowV 29 j_9))]) (fun s => o_9 = Res.nx s) (.cons (t := 0) rfl (.cons (t := 4) rfl (.cons (t := 33) rfl (.cons (t := 34) rfl (.cons (t := 35) rfl Sub.nil))))) (.cons (t := 5001) rfl SubB.nil) ?_ (fun j_9 hj9 => ?_)
        · skip
          refine .block ?_
          refine .seq ?_
          refine .region [] mixed (by kernel_rfl) ?_
          obtain ⟨hn10, h⟩ := need_some h
          refine .cons (.indexAddr .none sl118 ty3 (.s rfl) (.s rfl) (fun _ => hn10)) rfl ?_
          refine .cons (.load .none ty3 (.s rfl)) rfl ?_
          refine .cons (.assign .none (.s rfl)) rfl ?_
          refine .nil ?_
          refine .then ?_
          refine .seq ?_
          refine .region [([], []), ([], []), ([], []), ([], []), ([], []), ([], []), ([], [10]), ([10], [10]), ([], [])] mixed (by kernel_rfl) ?_
          refine .consA (.move .none (.s rfl)) rfl ?_
          refine .consA (.move .none (.s rfl)) rfl ?_
          obtain ⟨r1, hv11, h⟩ := bind_some h
          refine .consA (.call .none (hself _ _ hv11) (.cons (.s rfl) (.cons (.s rfl) .nil))) rfl ?_
          refine .consA (.move .none (.s rfl)) rfl ?_
          refine .consA (.extract .none (.s rfl) rfl) rfl ?_
          refine .consA (.extract .none (.s rfl) rfl) rfl ?_
          refine .consW (.alloc zo29 rfl) rfl rfl ?_
          refine .consN (.store ty29 rfl rfl (.s rfl)) rfl ?_
          refine .consA (.assign .none (.s rfl)) rfl ?_
          refine .nil ?_
          refine .then ?_
          refine .freeze (t := 10) rfl rfl (.cons (t := 5001) rfl (.cons (t := 5003) rfl SubB.nil)) rfl ?_
          refine .seq ?_
          refine .seq ?_
          refine .region [] mixed (by kernel_rfl) ?_
          refine .cons (.move .none (.s rfl)) rfl ?_
          refine .cons (.neI .none (.s rfl) (.int (by decide))) rfl ?_
          refine .nil ?_
          refine .then ?_
          refine .cond (t := 46) rfl trivial (fun hb12 => ?_) (fun hb12 => ?_)
          · replace h := bif_t h hb12
            refine .seq ?_
            refine .region [([], []), ([], []), ([5001], [5001]), ([], [])] mixed (by kernel_rfl) ?_
            obtain ⟨v5, hv13, h⟩ := bnd_some h
            refine .consA (.re hv13 (.buildF (y := (⟨(0 : Int), (0 : Int), (0 : Int), (0 : Int)⟩ : Box)) .none bu29 zc29 rfl .nil .nil)) rfl ?_
            refine .consA (.move .none (.s rfl)) rfl ?_
            refine .consN (.storeAt0 (g := 5001) ty29 rfl (.s rfl) (.s rfl)) rfl ?_
            refine .consA (.assign .none (.s rfl)) rfl ?_
            refine .nil ?_
            refine .then ?_
            refine .freezeBox (g := 5001) (ts := [4]) rfl (.cons (t := 4) rfl trivial .nil) SubB.nil rfl ?_
            refine .ret ?_
            refine .thenRet ?_
            refine .blkRet ?_
            refine .thenRet ?_
            refine .thenRet ?_
            refine .blkRet ?_
            refine .thenRet ?_
            replace h := resd_ab hK9 (some_eq h)
            replace h := hD7 _ (some_eq h)
            replace h := resb_ab hK6 (some_eq h)
            obtain rfl := some_eq h
            exact Ends.ret2 (.inl rfl) Tryz.results75 (ResOK.cellR ty29 rfl trivial Imp.refl) (ResOK.tmp rfl trivial Imp.refl)
          · replace h := bif_f h hb12
            refine .skip ?_
            refine .then ?_
            refine .region [([], []), ([], []), ([], []), ([5003], [52, 5003]), ([52], [7, 52])] mixed (by kernel_rfl) ?_
            refine .consA (.move .none (.s rfl)) rfl ?_
            refine .consA (.load .none ty29 (.s rfl)) rfl ?_
            refine .consA (.buildSlice (xs := [_]) .none sl109 ty29 hz29 (.cons (.s rfl) .nil) rfl (by decide)) rfl ?_
            obtain ⟨hn14, h⟩ := need_some h
            refine .consW (.append (k := 5003) rk109 rfl (.told (.s rfl) rfl) (.s rfl) hn14) rfl rfl ?_
            refine .consW (.passRow rfl (.tmp rfl)) rfl rfl ?_
            refine .nil ?_
            refine .blkNormal ?_
            exact Ends.join _ (some_eq h) (.cons (t := 0) rfl (.cons (t := 4) rfl (.cons (t := 33) rfl (.cons (t := 34) rfl (.cons (t := 35) rfl Sub.nil))))) (.cons (t := 7) rfl (.cons (t := 5001) rfl SubB.nil))
        · have h := resd_nx hK9 hj9
          refine .nameRow (t := 7) (g := 5004) rfl rfl rfl (fun s5004 => ?_)
          refine .region [] mixed (by kernel_rfl) ?_
          refine .cons (.addW .none (.s rfl) (.int (by decide))) rfl ?_
          refine .cons (.move .none (.s rfl)) rfl ?_
          refine .nil ?_
          refine .anon (t := 7) (g := 5004) rfl rfl trivial rfl ?_
          exact Ends.againL (some_eq h) (.cons (t := 35) rfl (.cons (t := 0) rfl (.cons (t := 4) rfl (.cons (t := 33) rfl (.cons (t := 34) rfl Sub.nil))))) (.cons (t := 7) rfl (.cons (t := 5001) rfl SubB.nil))
      · replace h := bif_f h hb8
        refine .exit ?_
        refine .thenExit ?_
        refine .thenExit ?_
        refine .blkExit ?_
        refine .anon (t := 7) (g := 5003) rfl rfl trivial rfl ?_
        replace h := hD7 _ (some_eq h)
        exact Ends.join _ (some_eq h) (.cons (t := 4) rfl Sub.nil) (.cons (t := 7) rfl (.cons (t := 5001) rfl SubB.nil))
    · have h := resb_nx hK6 hj6
      refine .freezeRowA (t := 7) rfl rfl (.cons (t := 5001) rfl SubB.nil) rfl ?_
      refine .seq ?_
      refine .region [([], []), ([], []), ([], []), ([], []), ([], []), ([], [12]), ([12], [12]), ([], [])] mixed (by kernel_rfl) ?_
      refine .consA (.move .none (.s rfl)) rfl ?_
      obtain ⟨r2, hv15, h⟩ := bind_some h
      refine .consA (.call .none (geom_Hull_ok hv15) (.cons (.s rfl) .nil)) rfl ?_
      refine .consA (.move .none (.s rfl)) rfl ?_
      refine .consA (.extract .none (.s rfl) rfl) rfl ?_
      refine .consA (.extract .none (.s rfl) rfl) rfl ?_
      refine .consW (.alloc zo29 rfl) rfl rfl ?_
      refine .consN (.store ty29 rfl rfl (.s rfl)) rfl ?_
      refine .consA (.assign .none (.s rfl)) rfl ?_
      refine .nil ?_
      refine .then ?_
      refine .freeze (t := 12) rfl rfl (.cons (t := 5001) rfl SubB.nil) rfl ?_
      refine .seq ?_
      refine .seq ?_
      refine .region [] mixed (by kernel_rfl) ?_
      refine .cons (.move .none (.s rfl)) rfl ?_
      refine .cons (.neI .none (.s rfl) (.int (by decide))) rfl ?_
      refine .nil ?_
      refine .then ?_
      refine .cond (t := 60) rfl trivial (fun hb16 => ?_) (fun hb16 => ?_)
      · replace h := bif_t h hb16
        refine .seq ?_
        refine .region [([], []), ([], []), ([5001], [5001]), ([], [])] mixed (by kernel_rfl) ?_
        obtain ⟨v6, hv17, h⟩ := bnd_some h
        refine .consA (.re hv17 (.buildF (y := (⟨(0 : Int), (0 : Int), (0 : Int), (0 : Int)⟩ : Box)) .none bu29 zc29 rfl .nil .nil)) rfl ?_
        refine .consA (.move .none (.s rfl)) rfl ?_
        refine .consN (.storeAt0 (g := 5001) ty29 rfl (.s rfl) (.s rfl)) rfl ?_
        refine .consA (.assign .none (.s rfl)) rfl ?_
        refine .nil ?_
        refine .then ?_
        refine .freezeBox (g := 5001) (ts := [4]) rfl (.cons (t := 4) rfl trivial .nil) SubB.nil rfl ?_
        refine .ret ?_
        refine .thenRet ?_
        obtain rfl := some_eq h
        exact Ends.ret2 (.inl rfl) Tryz.results75 (ResOK.cellR ty29 rfl trivial Imp.refl) (ResOK.tmp rfl trivial Imp.refl)
      · replace h := bif_f h hb16
        refine .skip ?_
        refine .then ?_
        refine .seq ?_
        refine .region [([], []), ([], []), ([], []), ([], []), ([5001], [5001]), ([], [])] mixed (by kernel_rfl) ?_
        refine .consA (.load .none ty29 (.s rfl)) rfl ?_
        obtain ⟨r3, hv18, h⟩ := bind_some h
        refine .consA (.call .none (geom_Grow_ok hv18) (.cons (.s rfl) (.cons (.int (by decide)) .nil))) rfl ?_
        refine .consA (.extract .none (.s rfl) rfl) rfl ?_
        refine .consA (.extract .none (.s rfl) rfl) rfl ?_
        refine .consN (.storeAt0 (g := 5001) ty29 rfl (.s rfl) (.s rfl)) rfl ?_
        refine .consA (.assign .none (.s rfl)) rfl ?_
        refine .nil ?_
        refine .then ?_
        refine .freezeBox (g := 5001) (ts := [4]) rfl (.cons (t := 4) rfl trivial .nil) SubB.nil rfl ?_
        refine .ret ?_
        obtain rfl := some_eq h
        exact Ends.ret2 (.inl rfl) Tryz.results75 (ResOK.cellR ty29 rfl trivial Imp.refl) (ResOK.tmp rfl trivial Imp.refl)
theorem page_view_boxOf_okN : ∀ (k : Nat)  (x : (Page_view × Int)) (r : (Box × Int)) (h : fixN page_view_boxOf_body k x = some r), FSpec Tryz.prog 75 [ref x.1, rep x.2] (tup [rep r.1, rep r.2])
  | 0, x, r, h => by simp [fixN] at h
  | k + 1, x, r, h => page_view_boxOf_okS (page_view_boxOf_okN k) h
theorem page_view_boxOf_ok {v1 : Page_view} {i1 : Int} {r : (Box × Int)}  (h : page_view_boxOf v1 i1 = some r) : FSpec Tryz.prog 75 [ref v1, rep i1] (tup [rep r.1, rep r.2]) :=
  let ⟨k, hk⟩ := fixp_some h
  page_view_boxOf_okN k (v1, i1) r hk

theorem page_Check_ok {d1 : Doc} {r : Int}  (h : page_Check d1 = some r) : FSpec Tryz.prog 12 [rep d1] (rep r) := by
  unfold page_Check at h
  refine FSpec.intro (n := 90) fnok12 Tryz.func12 rfl Tryz.ntmps12 rfl (fun F => ?_)
  refine .seq ?_
  refine .region [] mixed (by kernel_rfl) ?_
  refine .cons (.box .none (.s rfl)) rfl ?_
  refine .cons (.assign .none (.int (by decide))) rfl ?_
  refine .nil ?_
  refine .then ?_
  refine .seq ?_
  refine .seq ?_
  refine .region [] mixed (by kernel_rfl) ?_
  refine .cons (.fieldAddr .none fd25_0 hfd25_0 (.s rfl)) rfl ?_
  refine .cons (.load .none ty22 (.s rfl)) rfl ?_
  refine .cons (.len .none sl22 (.s rfl)) rfl ?_
  refine .cons (.gt .none (.s rfl) (.int (by decide))) rfl ?_
  refine .cons (.move .none (.s rfl)) rfl ?_
  refine .cons (.fieldAddr (.at rfl rfl) fd25_1 hfd25_1 (.s rfl)) rfl ?_
  refine .cons (.load (.at rfl rfl) ty23 (.tmp rfl id)) rfl ?_
  refine .cons (.len (.at rfl rfl) sl23 (.tmp rfl id)) rfl ?_
  refine .cons (.gt (.at rfl rfl) (.tmp rfl id) (.int (by decide))) rfl ?_
  refine .cons (.pickOr .none (.s rfl) (.tmp rfl id)) rfl ?_
  refine .nil ?_
  refine .then ?_
  refine .cond (t := 24) rfl trivial (fun hb1 => ?_) (fun hb1 => ?_)
  · replace h := bif_t h hb1
    refine .seq ?_
    refine .region [] mixed (by kernel_rfl) ?_
    refine .cons (.assign .none (.int (by decide))) rfl ?_
    refine .nil ?_
    refine .then ?_
    refine .ret ?_
    refine .thenRet ?_
    obtain rfl := some_eq h
    exact Ends.ret1 (.inl rfl) Tryz.results12 (ResOK.tmp rfl trivial Imp.refl)
  · replace h := bif_f h hb1
    refine .skip ?_
    refine .then ?_
    refine .seq ?_
    refine .region [([], [25]), ([25], [3, 25])] mixed (by kernel_rfl) ?_
    refine .consW (.makeMap (K := Str) (V := Bool) rfl) rfl rfl ?_
    refine .consW (.passRow rfl (.tmp rfl)) rfl rfl ?_
    refine .nil ?_
    refine .then ?_
    obtain ⟨known1, hv2, h⟩ := bnd_some h
    refine .reB (t := 3) rfl (congrArg mapV hv2) ?_
    refine .nameMap (t := 3) (g := 5001) rfl rfl rfl (fun s5001 => ?_)
    refine .seq ?_
    refine .seq ?_
    refine .region [] mixed (by kernel_rfl) ?_
    refine .cons (.fieldAddr .none fd25_0 hfd25_0 (.s rfl)) rfl ?_
    refine .cons (.load .none ty22 (.s rfl)) rfl ?_
    refine .cons (.len .none sl22 (.s rfl)) rfl ?_
    refine .cons (.move .none (.int (by decide))) rfl ?_
    refine .nil ?_
    refine .then ?_
    obtain ⟨o_3, h, hK3⟩ := bindR_some h
    refine .thenJ (ι := (GMap Str Bool)) (fun j_3 => []) (fun j_3 => [(5001, some (CPred.at s5001 (mapV j_3)))]) (fun s => o_3 = Res.nx s) (.cons (t := 1) rfl (.cons (t := 3) rfl Sub.nil)) SubB.nil ?_ (fun j_3 hj3 => ?_)
    · skip
      refine .block ?_
      refine .rforEL h (fun p4_ => [(29, ⟨True, rep p4_.1⟩)]) (fun p4_ => [(5001, some (CPred.at s5001 (mapV p4_.2)))]) (.cons (t := 29) rfl Sub.nil) (.cons (t := 5001) rfl SubB.nil) (.cons (t := 1) rfl (.cons (t := 3) rfl (.cons (t := 27) rfl (.cons (t := 28) rfl Sub.nil)))) SubB.nil (fun p4_ o_4 h hD4 => ?_)
      refine .seq ?_
      refine .region [] mixed (by kernel_rfl) ?_
      refine .cons (.lt .none (.s rfl) (.s rfl)) rfl ?_
      refine .nil ?_
      refine .then ?_
      refine .seq ?_
      refine .cond (t := 30) rfl trivial (fun hb5 => ?_) (fun hb5 => ?_)
      · replace h := bif_t h hb5
        refine .skip ?_
        refine .then ?_
        refine .seq ?_
        obtain ⟨o_6, h, hK6⟩ := bindD_some h
        unfold page_Check_L1 at h
        refine .thenJ (ι := (GMap Str Bool)) (fun j_6 => []) (fun j_6 => [(5001, some (CPred.at s5001 (mapV j_6)))]) (fun s => o_6 = Res.nx s) (.cons (t := 1) rfl (.cons (t := 3) rfl (.cons (t := 27) rfl (.cons (t := 28) rfl (.cons (t := 29) rfl Sub.nil))))) SubB.nil ?_ (fun j_6 hj6 => ?_)
        · skip
          refine .block ?_
          refine .seq ?_
          refine .region [([], []), ([], []), ([], [5]), ([5], [5])] mixed (by kernel_rfl) ?_
          obtain ⟨hn7, h⟩ := need_some h
          refine .consA (.indexAddr .none sl22 ty44 (.s rfl) (.s rfl) (fun _ => hn7)) rfl ?_
          obtain ⟨v1, hv8, h⟩ := bnd_some h
          refine .consA (.re hv8 (.load .none ty44 (.s rfl))) rfl ?_
          refine .consW (.alloc zo44 rfl) rfl rfl ?_
          refine .consN (.store ty44 rfl rfl (.s rfl)) rfl ?_
          refine .nil ?_
          refine .then ?_
          refine .freeze (t := 5) rfl rfl (.cons (t := 5001) rfl SubB.nil) rfl ?_
          refine .seq ?_
          refine .seq ?_
          refine .region [([], []), ([], []), ([], []), ([], []), ([5001], []), ([], []), ([], [])] mixed (by kernel_rfl) ?_
          refine .consA (.load .none ty44 (.s rfl)) rfl ?_
          refine .consA (.move .none (.s rfl)) rfl ?_
          refine .consA (.fieldAddr .none fd44_0 hfd44_0 (.s rfl)) rfl ?_
          refine .consA (.load .none ty9 (.s rfl)) rfl ?_
          refine .consA (.lookupO (q := 5001) .none mo90 zo4 ownMap_self (.told (.s rfl) rfl) (.s rfl)) rfl ?_
          obtain ⟨e1, hv9, h⟩ := bind_some h
          refine .consA (.call .none (page_checkNode_ok hv9) (.cons (.s rfl) (.cons (.s rfl) .nil))) rfl ?_
          refine .consA (.assign .none (.s rfl)) rfl ?_
          refine .nil ?_
          refine .then ?_
          refine .seq ?_
          refine .region [] mixed (by kernel_rfl) ?_
          refine .cons (.move .none (.s rfl)) rfl ?_
          refine .cons (.neI .none (.s rfl) (.int (by decide))) rfl ?_
          refine .nil ?_
          refine .then ?_
          refine .cond (t := 40) rfl trivial (fun hb10 => ?_) (fun hb10 => ?_)
          · replace h := bif_t h hb10
            refine .seq ?_
            refine .region [] mixed (by kernel_rfl) ?_
            refine .cons (.move .none (.s rfl)) rfl ?_
            refine .cons (.assign .none (.s rfl)) rfl ?_
            refine .nil ?_
            refine .then ?_
            refine .ret ?_
            refine .thenRet ?_
            refine .blkRet ?_
            refine .thenRet ?_
            refine .thenRet ?_
            refine .blkRet ?_
            refine .thenRet ?_
            replace h := resd_ab hK6 (some_eq h)
            replace h := hD4 _ (some_eq h)
            replace h := resb_ab hK3 (some_eq h)
            obtain rfl := some_eq h
            exact Ends.ret1 (.inl rfl) Tryz.results12 (ResOK.tmp rfl trivial Imp.refl)
          · replace h := bif_f h hb10
            refine .skip ?_
            refine .then ?_
            refine .region [([], []), ([], []), ([], []), ([5001], [5001])] mixed (by kernel_rfl) ?_
            refine .consA (.move .none (.s rfl)) rfl ?_
            refine .consA (.fieldAddr .none fd44_0 hfd44_0 (.s rfl)) rfl ?_
            refine .consA (.load .none ty9 (.s rfl)) rfl ?_
            refine .consN (.mapUpdate (q := 5001) mo90 (.s rfl) rfl (.s rfl) .bool) rfl ?_
            refine .nil ?_
            refine .blkNormal ?_
            exact Ends.join _ (some_eq h) (.cons (t := 1) rfl (.cons (t := 3) rfl (.cons (t := 27) rfl (.cons (t := 28) rfl (.cons (t := 29) rfl Sub.nil))))) (.cons (t := 5001) rfl SubB.nil)
        · have h := resd_nx hK6 hj6
          refine .region [] mixed (by kernel_rfl) ?_
          refine .cons (.addW .none (.s rfl) (.int (by decide))) rfl ?_
          refine .cons (.move .none (.s rfl)) rfl ?_
          refine .nil ?_
          exact Ends.againL (some_eq h) (.cons (t := 29) rfl (.cons (t := 1) rfl (.cons (t := 3) rfl (.cons (t := 27) rfl (.cons (t := 28) rfl Sub.nil))))) (.cons (t := 5001) rfl SubB.nil)
      · replace h := bif_f h hb5
        refine .exit ?_
        refine .thenExit ?_
        refine .thenExit ?_
        refine .blkExit ?_
        replace h := hD4 _ (some_eq h)
        exact Ends.join _ (some_eq h) (.cons (t := 1) rfl (.cons (t := 3) rfl Sub.nil)) (.cons (t := 5001) rfl SubB.nil)
    · have h := resb_nx hK3 hj3
      refine .seq ?_
      refine .region [] mixed (by kernel_rfl) ?_
      refine .cons (.load .none ty25 (.s rfl)) rfl ?_
      obtain ⟨v2, hv11, h⟩ := bind_some h
      obtain ⟨p1, hv12, h⟩ := bind_some h
      refine .cons (.isRef hv12 (.call .none (page_viewOf_ok hv11) (.cons (.s rfl) .nil))) rfl ?_
      refine .cons (.assign .none (.s rfl)) rfl ?_
      refine .nil ?_
      refine .then ?_
      refine .seq ?_
      refine .seq ?_
      refine .region [] mixed (by kernel_rfl) ?_
      refine .cons (.move .none (.s rfl)) rfl ?_
      obtain ⟨e2, hv13, h⟩ := bind_some h
      refine .cons (.call .none (page_view_checkGroups_ok hv13) (.cons (.s rfl) .nil)) rfl ?_
      refine .cons (.assign .none (.s rfl)) rfl ?_
      refine .nil ?_
      refine .then ?_
      refine .seq ?_
      refine .region [] mixed (by kernel_rfl) ?_
      refine .cons (.move .none (.s rfl)) rfl ?_
      refine .cons (.neI .none (.s rfl) (.int (by decide))) rfl ?_
      refine .nil ?_
      refine .then ?_
      refine .cond (t := 51) rfl trivial (fun hb14 => ?_) (fun hb14 => ?_)
      · replace h := bif_t h hb14
        refine .seq ?_
        refine .region [] mixed (by kernel_rfl) ?_
        refine .cons (.move .none (.s rfl)) rfl ?_
        refine .cons (.assign .none (.s rfl)) rfl ?_
        refine .nil ?_
        refine .then ?_
        refine .ret ?_
        refine .thenRet ?_
        obtain rfl := some_eq h
        exact Ends.ret1 (.inl rfl) Tryz.results12 (ResOK.tmp rfl trivial Imp.refl)
      · replace h := bif_f h hb14
        refine .skip ?_
        refine .then ?_
        refine .seq ?_
        refine .seq ?_
        refine .region [] mixed (by kernel_rfl) ?_
        refine .cons (.fieldAddr .none fd25_1 hfd25_1 (.s rfl)) rfl ?_
        refine .cons (.load .none ty23 (.s rfl)) rfl ?_
        refine .cons (.len .none sl23 (.s rfl)) rfl ?_
        refine .cons (.move .none (.int (by decide))) rfl ?_
        refine .nil ?_
        refine .then ?_
        obtain ⟨o_15, h, hK15⟩ := bindR_some h
        refine .thenJ (ι := (GMap Str Bool)) (fun j_15 => []) (fun j_15 => [(5001, some (CPred.at s5001 (mapV j_15)))]) (fun s => o_15 = Res.nx s) (.cons (t := 1) rfl (.cons (t := 3) rfl (.cons (t := 7) rfl Sub.nil))) SubB.nil ?_ (fun j_15 hj15 => ?_)
        · skip
          refine .block ?_
          refine .rforEL h (fun p16_ => [(56, ⟨True, rep p16_.1⟩)]) (fun p16_ => [(5001, some (CPred.at s5001 (mapV p16_.2)))]) (.cons (t := 56) rfl Sub.nil) (.cons (t := 5001) rfl SubB.nil) (.cons (t := 1) rfl (.cons (t := 3) rfl (.cons (t := 7) rfl (.cons (t := 54) rfl (.cons (t := 55) rfl Sub.nil))))) SubB.nil (fun p16_ o_16 h hD16 => ?_)
          refine .seq ?_
          refine .region [] mixed (by kernel_rfl) ?_
          refine .cons (.lt .none (.s rfl) (.s rfl)) rfl ?_
          refine .nil ?_
          refine .then ?_
          refine .seq ?_
          refine .cond (t := 57) rfl trivial (fun hb17 => ?_) (fun hb17 => ?_)
          · replace h := bif_t h hb17
            refine .skip ?_
            refine .then ?_
            refine .seq ?_
            obtain ⟨o_18, h, hK18⟩ := bindD_some h
            unfold page_Check_L2 at h
            refine .thenJ (ι := (GMap Str Bool)) (fun j_18 => []) (fun j_18 => [(5001, some (CPred.at s5001 (mapV j_18)))]) (fun s => o_18 = Res.nx s) (.cons (t := 1) rfl (.cons (t := 3) rfl (.cons (t := 7) rfl (.cons (t := 54) rfl (.cons (t := 55) rfl (.cons (t := 56) rfl Sub.nil)))))) SubB.nil ?_ (fun j_18 hj18 => ?_)
            · skip
              refine .block ?_
              refine .seq ?_
              refine .region [([], []), ([], []), ([], [10]), ([10], [10])] mixed (by kernel_rfl) ?_
              obtain ⟨hn19, h⟩ := need_some h
              refine .consA (.indexAddr .none sl23 ty67 (.s rfl) (.s rfl) (fun _ => hn19)) rfl ?_
              obtain ⟨v3, hv20, h⟩ := bnd_some h
              refine .consA (.re hv20 (.load .none ty67 (.s rfl))) rfl ?_
              refine .consW (.alloc zo67 rfl) rfl rfl ?_
              refine .consN (.store ty67 rfl rfl (.s rfl)) rfl ?_
              refine .nil ?_
              refine .then ?_
              refine .freeze (t := 10) rfl rfl (.cons (t := 5001) rfl SubB.nil) rfl ?_
              refine .seq ?_
              refine .seq ?_
              refine .region [([], []), ([], []), ([], []), ([], []), ([], []), ([5001], []), ([], []), ([], [])] mixed (by kernel_rfl) ?_
              refine .consA (.move .none (.s rfl)) rfl ?_
              refine .consA (.load .none ty67 (.s rfl)) rfl ?_
              refine .consA (.move .none (.s rfl)) rfl ?_
              refine .consA (.fieldAddr .none fd67_0 hfd67_0 (.s rfl)) rfl ?_
              refine .consA (.load .none ty9 (.s rfl)) rfl ?_
              refine .consA (.lookupO (q := 5001) .none mo90 zo4 ownMap_self (.told (.s rfl) rfl) (.s rfl)) rfl ?_
              obtain ⟨e3, hv21, h⟩ := bind_some h
              refine .consA (.call .none (page_view_checkEdge_ok hv21) (.cons (.s rfl) (.cons (.s rfl) (.cons (.s rfl) .nil)))) rfl ?_
              refine .consA (.assign .none (.s rfl)) rfl ?_
              refine .nil ?_
              refine .then ?_
              refine .seq ?_
              refine .region [] mixed (by kernel_rfl) ?_
              refine .cons (.move .none (.s rfl)) rfl ?_
              refine .cons (.neI .none (.s rfl) (.int (by decide))) rfl ?_
              refine .nil ?_
              refine .then ?_
              refine .cond (t := 68) rfl trivial (fun hb22 => ?_) (fun hb22 => ?_)
              · replace h := bif_t h hb22
                refine .seq ?_
                refine .region [] mixed (by kernel_rfl) ?_
                refine .cons (.move .none (.s rfl)) rfl ?_
                refine .cons (.assign .none (.s rfl)) rfl ?_
                refine .nil ?_
                refine .then ?_
                refine .ret ?_
                refine .thenRet ?_
                refine .blkRet ?_
                refine .thenRet ?_
                refine .thenRet ?_
                refine .blkRet ?_
                refine .thenRet ?_
                replace h := resd_ab hK18 (some_eq h)
                replace h := hD16 _ (some_eq h)
                replace h := resb_ab hK15 (some_eq h)
                obtain rfl := some_eq h
                exact Ends.ret1 (.inl rfl) Tryz.results12 (ResOK.tmp rfl trivial Imp.refl)
              · replace h := bif_f h hb22
                refine .skip ?_
                refine .then ?_
                refine .region [([], []), ([], []), ([], []), ([5001], [5001])] mixed (by kernel_rfl) ?_
                refine .consA (.move .none (.s rfl)) rfl ?_
                refine .consA (.fieldAddr .none fd67_0 hfd67_0 (.s rfl)) rfl ?_
                refine .consA (.load .none ty9 (.s rfl)) rfl ?_
                refine .consN (.mapUpdate (q := 5001) mo90 (.s rfl) rfl (.s rfl) .bool) rfl ?_
                refine .nil ?_
                refine .blkNormal ?_
                exact Ends.join _ (some_eq h) (.cons (t := 1) rfl (.cons (t := 3) rfl (.cons (t := 7) rfl (.cons (t := 54) rfl (.cons (t := 55) rfl (.cons (t := 56) rfl Sub.nil)))))) (.cons (t := 5001) rfl SubB.nil)
            · have h := resd_nx hK18 hj18
              refine .region [] mixed (by kernel_rfl) ?_
              refine .cons (.addW .none (.s rfl) (.int (by decide))) rfl ?_
              refine .cons (.move .none (.s rfl)) rfl ?_
              refine .nil ?_
              exact Ends.againL (some_eq h) (.cons (t := 56) rfl (.cons (t := 1) rfl (.cons (t := 3) rfl (.cons (t := 7) rfl (.cons (t := 54) rfl (.cons (t := 55) rfl Sub.nil)))))) (.cons (t := 5001) rfl SubB.nil)
          · replace h := bif_f h hb17
            refine .exit ?_
            refine .thenExit ?_
            refine .thenExit ?_
            refine .blkExit ?_
            replace h := hD16 _ (some_eq h)
            exact Ends.join _ (some_eq h) (.cons (t := 1) rfl (.cons (t := 3) rfl (.cons (t := 7) rfl Sub.nil))) (.cons (t := 5001) rfl SubB.nil)
        · have h := resb_nx hK15 hj15
          refine .seq ?_
          refine .seq ?_
          refine .region [] mixed (by kernel_rfl) ?_
          refine .cons (.fieldAddr .none fd25_0 hfd25_0 (.s rfl)) rfl ?_
          refine .cons (.load .none ty22 (.s rfl)) rfl ?_
          refine .cons (.len .none sl22 (.s rfl)) rfl ?_
          refine .cons (.move .none (.int (by decide))) rfl ?_
          refine .nil ?_
          refine .then ?_
          obtain ⟨o_23, h, hK23⟩ := bindR_some h
          refine .thenJ (ι := Unit) (fun j_23 => []) (fun j_23 => []) (fun s => o_23 = Res.nx s) Sub.nil SubB.nil ?_ (fun j_23 hj23 => ?_)
          · skip
            refine .block ?_
            refine .rforEL h (fun p24_ => [(77, ⟨True, rep p24_.1⟩)]) (fun p24_ => []) (.cons (t := 77) rfl Sub.nil) SubB.nil (.cons (t := 7) rfl (.cons (t := 76) rfl Sub.nil)) SubB.nil (fun p24_ o_24 h hD24 => ?_)
            refine .seq ?_
            refine .region [] mixed (by kernel_rfl) ?_
            refine .cons (.lt .none (.s rfl) (.s rfl)) rfl ?_
            refine .nil ?_
            refine .then ?_
            refine .seq ?_
            refine .cond (t := 78) rfl trivial (fun hb25 => ?_) (fun hb25 => ?_)
            · replace h := bif_t h hb25
              refine .skip ?_
              refine .then ?_
              refine .seq ?_
              obtain ⟨o_26, h, hK26⟩ := bindD_some h
              unfold page_Check_L3 at h
              refine .thenJ (ι := Unit) (fun j_26 => []) (fun j_26 => []) (fun s => o_26 = Res.nx s) (.cons (t := 7) rfl (.cons (t := 76) rfl (.cons (t := 77) rfl Sub.nil))) SubB.nil ?_ (fun j_26 hj26 => ?_)
              · skip
                refine .block ?_
                refine .seq ?_
                refine .region [] mixed (by kernel_rfl) ?_
                refine .cons (.move .none (.s rfl)) rfl ?_
                refine .cons (.assign .none (.s rfl)) rfl ?_
                refine .nil ?_
                refine .then ?_
                refine .seq ?_
                refine .region [([], []), ([], []), ([], []), ([], []), ([], []), ([], []), ([], [13]), ([13], [13]), ([], [])] mixed (by kernel_rfl) ?_
                refine .consA (.move .none (.s rfl)) rfl ?_
                refine .consA (.move .none (.s rfl)) rfl ?_
                obtain ⟨r1, hv27, h⟩ := bind_some h
                refine .consA (.call .none (page_view_boxOf_ok hv27) (.cons (.s rfl) (.cons (.s rfl) .nil))) rfl ?_
                refine .consA (.move .none (.s rfl)) rfl ?_
                refine .consA (.extract .none (.s rfl) rfl) rfl ?_
                refine .consA (.extract .none (.s rfl) rfl) rfl ?_
                refine .consW (.alloc zo29 rfl) rfl rfl ?_
                refine .consN (.store ty29 rfl rfl (.s rfl)) rfl ?_
                refine .consA (.assign .none (.s rfl)) rfl ?_
                refine .nil ?_
                refine .then ?_
                refine .seq ?_
                refine .region [] mixed (by kernel_rfl) ?_
                refine .cons (.move .none (.s rfl)) rfl ?_
                refine .cons (.neI .none (.s rfl) (.int (by decide))) rfl ?_
                refine .nil ?_
                refine .then ?_
                refine .cond (t := 87) rfl trivial (fun hb28 => ?_) (fun hb28 => ?_)
                · replace h := bif_t h hb28
                  refine .seq ?_
                  refine .region [] mixed (by kernel_rfl) ?_
                  refine .cons (.move .none (.s rfl)) rfl ?_
                  refine .cons (.assign .none (.s rfl)) rfl ?_
                  refine .nil ?_
                  refine .then ?_
                  refine .ret ?_
                  refine .blkRet ?_
                  refine .thenRet ?_
                  refine .thenRet ?_
                  refine .blkRet ?_
                  refine .thenRet ?_
                  replace h := resd_ab hK26 (some_eq h)
                  replace h := hD24 _ (some_eq h)
                  replace h := resb_ab hK23 (some_eq h)
                  obtain rfl := some_eq h
                  exact Ends.ret1 (.inl rfl) Tryz.results12 (ResOK.tmp rfl trivial Imp.refl)
                · replace h := bif_f h hb28
                  refine .skip ?_
                  refine .blkNormal ?_
                  exact Ends.join _ (some_eq h) (.cons (t := 7) rfl (.cons (t := 76) rfl (.cons (t := 77) rfl Sub.nil))) SubB.nil
              · have h := resd_nx hK26 hj26
                refine .region [] mixed (by kernel_rfl) ?_
                refine .cons (.addW .none (.s rfl) (.int (by decide))) rfl ?_
                refine .cons (.move .none (.s rfl)) rfl ?_
                refine .nil ?_
                exact Ends.againL (some_eq h) (.cons (t := 77) rfl (.cons (t := 7) rfl (.cons (t := 76) rfl Sub.nil))) SubB.nil
            · replace h := bif_f h hb25
              refine .exit ?_
              refine .thenExit ?_
              refine .thenExit ?_
              refine .blkExit ?_
              replace h := hD24 _ (some_eq h)
              exact Ends.join _ (some_eq h) Sub.nil SubB.nil
          · have h := resb_nx hK23 hj23
            refine .seq ?_
            refine .region [] mixed (by kernel_rfl) ?_
            refine .cons (.assign .none (.int (by decide))) rfl ?_
            refine .nil ?_
            refine .then ?_
            refine .ret ?_
            obtain rfl := some_eq h
            exact Ends.ret1 (.inl rfl) Tryz.results12 (ResOK.tmp rfl trivial Imp.refl)

theorem page_look_ok {d1 : Doc} {r : ((Option Page_view) × Int)}  (h : page_look d1 = some r) : FSpec Tryz.prog 81 [rep d1] (tup [rep r.1, rep r.2]) := by
  unfold page_look at h
  refine FSpec.intro (n := 12) fnok81 Tryz.func81 rfl Tryz.ntmps81 rfl (fun F => ?_)
  refine .seq ?_
  refine .region [] mixed (by kernel_rfl) ?_
  refine .cons (.box .none (.s rfl)) rfl ?_
  refine .cons (.assign .none (.const (x := (none : (Option Page_view))) (fun M w => ⟨_, ptr_zero, rfl⟩))) rfl ?_
  refine .cons (.assign .none (.int (by decide))) rfl ?_
  refine .nil ?_
  refine .then ?_
  refine .seq ?_
  refine .seq ?_
  refine .region [] mixed (by kernel_rfl) ?_
  refine .cons (.load .none ty25 (.s rfl)) rfl ?_
  obtain ⟨e1, hv1, h⟩ := bind_some h
  refine .cons (.call .none (page_Check_ok hv1) (.cons (.s rfl) .nil)) rfl ?_
  refine .cons (.assign .none (.s rfl)) rfl ?_
  refine .nil ?_
  refine .then ?_
  refine .seq ?_
  refine .region [] mixed (by kernel_rfl) ?_
  refine .cons (.move .none (.s rfl)) rfl ?_
  refine .cons (.neI .none (.s rfl) (.int (by decide))) rfl ?_
  refine .nil ?_
  refine .then ?_
  refine .cond (t := 8) rfl trivial (fun hb2 => ?_) (fun hb2 => ?_)
  · replace h := bif_t h hb2
    refine .seq ?_
    refine .region [] mixed (by kernel_rfl) ?_
    refine .cons (.move .none (.s rfl)) rfl ?_
    refine .cons (.assign .none (.const (x := (none : (Option Page_view))) (fun M w => ⟨_, ptr_zero, rfl⟩))) rfl ?_
    refine .cons (.assign .none (.s rfl)) rfl ?_
    refine .nil ?_
    refine .then ?_
    refine .ret ?_
    refine .thenRet ?_
    obtain rfl := some_eq h
    exact Ends.ret2 (.inl rfl) Tryz.results81 (ResOK.tmp rfl trivial Imp.refl) (ResOK.tmp rfl trivial Imp.refl)
  · replace h := bif_f h hb2
    refine .skip ?_
    refine .then ?_
    refine .seq ?_
    refine .region [] mixed (by kernel_rfl) ?_
    refine .cons (.load .none ty25 (.s rfl)) rfl ?_
    obtain ⟨r1, hv3, h⟩ := bind_some h
    obtain ⟨p1, hv4, h⟩ := bind_some h
    refine .cons (.isRef hv4 (.call .none (page_viewOf_ok hv3) (.cons (.s rfl) .nil))) rfl ?_
    refine .cons (.assign .none (.s rfl)) rfl ?_
    refine .cons (.assign .none (.int (by decide))) rfl ?_
    refine .nil ?_
    refine .then ?_
    refine .ret ?_
    obtain rfl := some_eq h
    exact Ends.ret2 (.inl rfl) Tryz.results81 (ResOK.tmp rfl trivial Imp.refSome) (ResOK.tmp rfl trivial Imp.refl)

theorem page_find_ok {d1 : Doc} {id1 : Str} {r : ((Option Page_view) × Int × Int)}  (h : page_find d1 id1 = some r) : FSpec Tryz.prog 69 [rep d1, rep id1] (tup [rep r.1, rep r.2.1, rep r.2.2]) := by
  unfold page_find at h
  refine FSpec.intro (n := 32) fnok69 Tryz.func69 rfl Tryz.ntmps69 rfl (fun F => ?_)
  refine .seq ?_
  refine .region [] mixed (by kernel_rfl) ?_
  refine .cons (.box .none (.s rfl)) rfl ?_
  refine .cons (.assign .none (.const (x := (none : (Option Page_view))) (fun M w => ⟨_, ptr_zero, rfl⟩))) rfl ?_
  refine .cons (.assign .none (.int (by decide))) rfl ?_
  refine .cons (.assign .none (.int (by decide))) rfl ?_
  refine .nil ?_
  refine .then ?_
  refine .seq ?_
  refine .region [] mixed (by kernel_rfl) ?_
  refine .cons (.load .none ty25 (.s rfl)) rfl ?_
  obtain ⟨r1, hv1, h⟩ := bind_some h
  refine .cons (.call .none (page_look_ok hv1) (.cons (.s rfl) .nil)) rfl ?_
  refine .cons (.move .none (.s rfl)) rfl ?_
  refine .cons (.extract .none (.s rfl) rfl) rfl ?_
  refine .cons (.extract .none (.s rfl) rfl) rfl ?_
  refine .cons (.assign .none (.s rfl)) rfl ?_
  refine .cons (.assign .none (.s rfl)) rfl ?_
  refine .nil ?_
  refine .then ?_
  refine .seq ?_
  refine .seq ?_
  refine .region [] mixed (by kernel_rfl) ?_
  refine .cons (.move .none (.s rfl)) rfl ?_
  refine .cons (.neI .none (.s rfl) (.int (by decide))) rfl ?_
  refine .nil ?_
  refine .then ?_
  refine .cond (t := 17) rfl trivial (fun hb2 => ?_) (fun hb2 => ?_)
  · replace h := bif_t h hb2
    refine .seq ?_
    refine .region [] mixed (by kernel_rfl) ?_
    refine .cons (.move .none (.s rfl)) rfl ?_
    refine .cons (.assign .none (.const (x := (none : (Option Page_view))) (fun M w => ⟨_, ptr_zero, rfl⟩))) rfl ?_
    refine .cons (.assign .none (.int (by decide))) rfl ?_
    refine .cons (.assign .none (.s rfl)) rfl ?_
    refine .nil ?_
    refine .then ?_
    refine .ret ?_
    refine .thenRet ?_
    obtain rfl := some_eq h
    exact Ends.ret3 (.inl rfl) Tryz.results69 (ResOK.tmp rfl trivial Imp.refl) (ResOK.tmp rfl trivial Imp.refl) (ResOK.tmp rfl trivial Imp.refl)
  · replace h := bif_f h hb2
    refine .skip ?_
    refine .then ?_
    refine .seq ?_
    obtain ⟨v1, hv3, h⟩ := bind_some h
    refine .isRef (t := 7) hv3 rfl trivial ?_
    refine .region [] mixed (by kernel_rfl) ?_
    refine .cons (.move .none (.s rfl)) rfl ?_
    refine .cons (.nilCheckR .none (.s rfl)) rfl ?_
    refine .cons (.fieldAddr .none fd148_1 hfd148_1 (.s rfl)) rfl ?_
    refine .cons (.load .none ty145 (.s rfl)) rfl ?_
    refine .cons (.move .none (.s rfl)) rfl ?_
    refine .cons (.lookupOk .none mo145 zo3 (.s rfl) (.s rfl)) rfl ?_
    refine .cons (.move .none (.s rfl)) rfl ?_
    refine .cons (.extract .none (.s rfl) rfl) rfl ?_
    refine .cons (.extract .none (.s rfl) rfl) rfl ?_
    refine .cons (.assign .none (.s rfl)) rfl ?_
    refine .cons (.assign .none (.s rfl)) rfl ?_
    refine .nil ?_
    refine .then ?_
    refine .seq ?_
    refine .seq ?_
    refine .region [] mixed (by kernel_rfl) ?_
    refine .cons (.move .none (.s rfl)) rfl ?_
    refine .cons (.not .none (.s rfl)) rfl ?_
    refine .nil ?_
    refine .then ?_
    refine .cond (t := 29) rfl trivial (fun hb4 => ?_) (fun hb4 => ?_)
    · replace h := bif_t h hb4
      refine .seq ?_
      refine .region [] mixed (by kernel_rfl) ?_
      refine .cons (.assign .none (.const (x := (none : (Option Page_view))) (fun M w => ⟨_, ptr_zero, rfl⟩))) rfl ?_
      refine .cons (.assign .none (.int (by decide))) rfl ?_
      refine .cons (.assign .none (.int (by decide))) rfl ?_
      refine .nil ?_
      refine .then ?_
      refine .ret ?_
      refine .thenRet ?_
      obtain rfl := some_eq h
      exact Ends.ret3 (.inl rfl) Tryz.results69 (ResOK.tmp rfl trivial Imp.refl) (ResOK.tmp rfl trivial Imp.refl) (ResOK.tmp rfl trivial Imp.refl)
    · replace h := bif_f h hb4
      refine .skip ?_
      refine .then ?_
      refine .seq ?_
      refine .region [] mixed (by kernel_rfl) ?_
      refine .cons (.move .none (.s rfl)) rfl ?_
      refine .cons (.move .none (.s rfl)) rfl ?_
      refine .cons (.assign .none (.s rfl)) rfl ?_
      refine .cons (.assign .none (.s rfl)) rfl ?_
      refine .cons (.assign .none (.int (by decide))) rfl ?_
      refine .nil ?_
      refine .then ?_
      refine .ret ?_
      obtain rfl := some_eq h
      exact Ends.ret3 (.inl rfl) Tryz.results69 (ResOK.tmp rfl trivial Imp.refSome) (ResOK.tmp rfl trivial Imp.refl) (ResOK.tmp rfl trivial Imp.refl)

theorem page_view_box_ok {v1 : Page_view} {i1 : Int} {r : Box}  (h : page_view_box v1 i1 = some r) : FSpec Tryz.prog 70 [ref v1, rep i1] (rep r) := by
  unfold page_view_box at h
  refine FSpec.intro (n := 14) fnok70 Tryz.func70 rfl Tryz.ntmps70 rfl (fun F => ?_)
  refine .seq ?_
  refine .region [([], [4])] mixed (by kernel_rfl) ?_
  refine .consW (.alloc zo29 rfl) rfl rfl ?_
  refine .nil ?_
  refine .then ?_
  obtain ⟨v2, hv1, h⟩ := bnd_some h
  refine .reB (t := 4) rfl (congrArg (cont 29) hv1) ?_
  refine .nameBox (t := 4) (g := 5001) rfl rfl (fun m5001 => ?_)
  refine .seq ?_
  refine .region [([], []), ([], []), ([], []), ([], []), ([], []), ([], []), ([], [5]), ([5], [5]), ([], [])] mixed (by kernel_rfl) ?_
  refine .consA (.move .none (.s rfl)) rfl ?_
  refine .consA (.move .none (.s rfl)) rfl ?_
  obtain ⟨r1, hv2, h⟩ := bind_some h
  refine .consA (.call .none (page_view_boxOf_ok hv2) (.cons (.s rfl) (.cons (.s rfl) .nil))) rfl ?_
  refine .consA (.move .none (.s rfl)) rfl ?_
  refine .consA (.extract .none (.s rfl) rfl) rfl ?_
  refine .consA (.extract .none (.s rfl) rfl) rfl ?_
  refine .consW (.alloc zo29 rfl) rfl rfl ?_
  refine .consN (.store ty29 rfl rfl (.s rfl)) rfl ?_
  refine .consA (.assign .none (.s rfl)) rfl ?_
  refine .nil ?_
  refine .then ?_
  refine .freeze (t := 5) rfl rfl (.cons (t := 5001) rfl SubB.nil) rfl ?_
  refine .seq ?_
  refine .region [([], []), ([5001], [5001])] mixed (by kernel_rfl) ?_
  refine .consA (.load .none ty29 (.s rfl)) rfl ?_
  refine .consN (.storeAt0 (g := 5001) ty29 rfl (.s rfl) (.s rfl)) rfl ?_
  refine .nil ?_
  refine .then ?_
  refine .freezeBox (g := 5001) (ts := [4]) rfl (.cons (t := 4) rfl trivial .nil) SubB.nil rfl ?_
  refine .ret ?_
  obtain rfl := some_eq h
  exact Ends.ret1 (.inl rfl) Tryz.results70 (ResOK.cellR ty29 rfl trivial Imp.refl)

theorem page_BoxOf_ok {d1 : Doc} {id1 : Str} {r : (Box × Int)}  (h : page_BoxOf d1 id1 = some r) : FSpec Tryz.prog 10 [rep d1, rep id1] (tup [rep r.1, rep r.2]) := by
  unfold page_BoxOf at h
  refine FSpec.intro (n := 23) fnok10 Tryz.func10 rfl Tryz.ntmps10 rfl (fun F => ?_)
  refine .seq ?_
  refine .region [([], []), ([], [4]), ([], [])] mixed (by kernel_rfl) ?_
  refine .consA (.box .none (.s rfl)) rfl ?_
  refine .consW (.alloc zo29 rfl) rfl rfl ?_
  refine .consA (.assign .none (.int (by decide))) rfl ?_
  refine .nil ?_
  refine .then ?_
  obtain ⟨v1, hv1, h⟩ := bnd_some h
  refine .reB (t := 4) rfl (congrArg (cont 29) hv1) ?_
  refine .nameBox (t := 4) (g := 5001) rfl rfl (fun m5001 => ?_)
  refine .seq ?_
  refine .region [] mixed (by kernel_rfl) ?_
  refine .cons (.load .none ty25 (.s rfl)) rfl ?_
  refine .cons (.move .none (.s rfl)) rfl ?_
  obtain ⟨r1, hv2, h⟩ := bind_some h
  refine .cons (.call .none (page_find_ok hv2) (.cons (.s rfl) (.cons (.s rfl) .nil))) rfl ?_
  refine .cons (.move .none (.s rfl)) rfl ?_
  refine .cons (.extract .none (.s rfl) rfl) rfl ?_
  refine .cons (.extract .none (.s rfl) rfl) rfl ?_
  refine .cons (.extract .none (.s rfl) rfl) rfl ?_
  refine .cons (.assign .none (.s rfl)) rfl ?_
  refine .cons (.assign .none (.s rfl)) rfl ?_
  refine .cons (.assign .none (.s rfl)) rfl ?_
  refine .nil ?_
  refine .then ?_
  refine .seq ?_
  refine .seq ?_
  refine .region [] mixed (by kernel_rfl) ?_
  refine .cons (.move .none (.s rfl)) rfl ?_
  refine .cons (.neI .none (.s rfl) (.int (by decide))) rfl ?_
  refine .nil ?_
  refine .then ?_
  refine .cond (t := 17) rfl trivial (fun hb3 => ?_) (fun hb3 => ?_)
  · replace h := bif_t h hb3
    refine .seq ?_
    refine .region [([], []), ([], []), ([5001], [5001]), ([], [])] mixed (by kernel_rfl) ?_
    obtain ⟨v2, hv4, h⟩ := bnd_some h
    refine .consA (.re hv4 (.buildF (y := (⟨(0 : Int), (0 : Int), (0 : Int), (0 : Int)⟩ : Box)) .none bu29 zc29 rfl .nil .nil)) rfl ?_
    refine .consA (.move .none (.s rfl)) rfl ?_
    refine .consN (.storeAt0 (g := 5001) ty29 rfl (.s rfl) (.s rfl)) rfl ?_
    refine .consA (.assign .none (.s rfl)) rfl ?_
    refine .nil ?_
    refine .then ?_
    refine .freezeBox (g := 5001) (ts := [4]) rfl (.cons (t := 4) rfl trivial .nil) SubB.nil rfl ?_
    refine .ret ?_
    refine .thenRet ?_
    obtain rfl := some_eq h
    exact Ends.ret2 (.inl rfl) Tryz.results10 (ResOK.cellR ty29 rfl trivial Imp.refl) (ResOK.tmp rfl trivial Imp.refl)
  · replace h := bif_f h hb3
    refine .skip ?_
    refine .then ?_
    refine .seq ?_
    obtain ⟨v3, hv5, h⟩ := bind_some h
    refine .isRef (t := 6) hv5 rfl trivial ?_
    refine .region [([], []), ([], []), ([], []), ([5001], [5001]), ([], [])] mixed (by kernel_rfl) ?_
    refine .consA (.move .none (.s rfl)) rfl ?_
    refine .consA (.move .none (.s rfl)) rfl ?_
    obtain ⟨r2, hv6, h⟩ := bind_some h
    refine .consA (.call .none (page_view_box_ok hv6) (.cons (.s rfl) (.cons (.s rfl) .nil))) rfl ?_
    refine .consN (.storeAt0 (g := 5001) ty29 rfl (.s rfl) (.s rfl)) rfl ?_
    refine .consA (.assign .none (.int (by decide))) rfl ?_
    refine .nil ?_
    refine .then ?_
    refine .freezeBox (g := 5001) (ts := [4]) rfl (.cons (t := 4) rfl trivial .nil) SubB.nil rfl ?_
    refine .ret ?_
    obtain rfl := some_eq h
    exact Ends.ret2 (.inl rfl) Tryz.results10 (ResOK.cellR ty29 rfl trivial Imp.refl) (ResOK.tmp rfl trivial Imp.refl)

theorem law_pages_ok  {r : Bool}  (h : law_pages  = some r) : FSpec Tryz.prog 11 [] (rep r) := by
  unfold law_pages at h
  refine FSpec.intro (n := 11) fnok11 Tryz.func11 rfl Tryz.ntmps11 rfl (fun F => ?_)
  refine .seq ?_
  refine .region [] mixed (by kernel_rfl) ?_
  refine .cons (.assign .none .bool) rfl ?_
  refine .nil ?_
  refine .then ?_
  refine .seq ?_
  refine .region [] mixed (by kernel_rfl) ?_
  refine .cons (.buildF (y := (⟨([] : (List DNode)), ([] : (List DEdge))⟩ : Doc)) .none bu25 zc25 rfl .nil .nil) rfl ?_
  obtain ⟨r1, hv1, h⟩ := bind_some h
  refine .cons (.call .none (page_Check_ok hv1) (.cons (.s rfl) .nil)) rfl ?_
  refine .cons (.eqI .none (.s rfl) (.int (by decide))) rfl ?_
  refine .cons (.move .none (.s rfl)) rfl ?_
  refine .cons (.buildF (y := (⟨Str.nil, (0 : Int), (⟨(0 : Int), (0 : Int), (0 : Int), (0 : Int)⟩ : Box), Str.nil, Str.nil, Str.nil, false⟩ : DNode)) (.at rfl rfl) bu44 zc44 rfl .nil .nil) rfl ?_
  refine .cons (.buildSlice (xs := [_]) (.at rfl rfl) sl22 ty44 hz44 (.cons (.tmp rfl id) .nil) rfl (by decide)) rfl ?_
  refine .cons (.buildF (y := (⟨[(⟨Str.nil, (0 : Int), (⟨(0 : Int), (0 : Int), (0 : Int), (0 : Int)⟩ : Box), Str.nil, Str.nil, Str.nil, false⟩ : DNode)], ([] : (List DEdge))⟩ : Doc)) (.at rfl rfl) bu25 zc25 rfl (.cons (.tmp rfl id) .nil) (.cons rfl sf25_0 .nil)) rfl ?_
  obtain ⟨r2, hv2, h⟩ := bind_some h
  refine .cons (.callIf (.at rfl rfl) fnok12 (fun hg => page_Check_ok ((fun hg => gd_some hv2 (hg.2)) hg)) (.cons (.tmp rfl id) .nil) (fun h => h)) rfl ?_
  refine .cons (.eqI (.at rfl rfl) (.tmp rfl id) (.int (by decide))) rfl ?_
  refine .cons (.pickAnd .none (.s rfl) (.tmp rfl id)) rfl ?_
  refine .cons (.assign .none (.s rfl)) rfl ?_
  refine .nil ?_
  refine .then ?_
  refine .ret ?_
  obtain rfl := some_eq h
  exact Ends.ret1 (.inl rfl) Tryz.results11 (ResOK.tmp rfl trivial Imp.refl)

theorem law_LooksMatch_1_ok {c0_1 : Doc} {c1_1 : Str} {r : Box}  (h : law_LooksMatch_1 c0_1 c1_1 = some r) : FSpec Tryz.prog 14 [ref c0_1, ref c1_1] (rep r) := by
  unfold law_LooksMatch_1 at h
  refine FSpec.intro (n := 12) fnok14 Tryz.func14 rfl Tryz.ntmps14 rfl (fun F => ?_)
  refine .seq ?_
  refine .region [([], [2])] mixed (by kernel_rfl) ?_
  refine .consW (.alloc zo29 rfl) rfl rfl ?_
  refine .nil ?_
  refine .then ?_
  obtain ⟨v1, hv1, h⟩ := bnd_some h
  refine .reB (t := 2) rfl (congrArg (cont 29) hv1) ?_
  refine .nameBox (t := 2) (g := 5001) rfl rfl (fun m5001 => ?_)
  refine .seq ?_
  refine .region [([], []), ([], []), ([], []), ([], []), ([], []), ([], []), ([], [3]), ([3], [3]), ([], [])] mixed (by kernel_rfl) ?_
  refine .consA (.load .none ty25 (.s rfl)) rfl ?_
  refine .consA (.load .none ty9 (.s rfl)) rfl ?_
  obtain ⟨r1, hv2, h⟩ := bind_some h
  refine .consA (.call .none (ref_BoxOfNode_ok hv2) (.cons (.s rfl) (.cons (.s rfl) .nil))) rfl ?_
  refine .consA (.move .none (.s rfl)) rfl ?_
  refine .consA (.extract .none (.s rfl) rfl) rfl ?_
  refine .consA (.extract .none (.s rfl) rfl) rfl ?_
  refine .consW (.alloc zo29 rfl) rfl rfl ?_
  refine .consN (.store ty29 rfl rfl (.s rfl)) rfl ?_
  refine .consA (.assign .none (.s rfl)) rfl ?_
  refine .nil ?_
  refine .then ?_
  refine .freeze (t := 3) rfl rfl (.cons (t := 5001) rfl SubB.nil) rfl ?_
  refine .seq ?_
  refine .region [([], []), ([5001], [5001])] mixed (by kernel_rfl) ?_
  refine .consA (.load .none ty29 (.s rfl)) rfl ?_
  refine .consN (.storeAt0 (g := 5001) ty29 rfl (.s rfl) (.s rfl)) rfl ?_
  refine .nil ?_
  refine .then ?_
  refine .freezeBox (g := 5001) (ts := [2]) rfl (.cons (t := 2) rfl trivial .nil) SubB.nil rfl ?_
  refine .ret ?_
  obtain rfl := some_eq h
  exact Ends.ret1 (.inl rfl) Tryz.results14 (ResOK.cellR ty29 rfl trivial Imp.refl)

theorem law_is_Box_ok {got1 : Box} {e1 : Int} {want1 : Int} {right1 : (Option Box)} {r : Bool}  (h : law_is_Box got1 e1 want1 right1 = some r) : FSpec Tryz.prog 13 [rep got1, rep e1, rep want1, fn0 Tryz.prog (rep (α := Box)) right1] (rep r) := by
  unfold law_is_Box at h
  refine FSpec.intro (n := 28) fnok13 Tryz.func13 rfl Tryz.ntmps13 rfl (fun F => ?_)
  refine .seq ?_
  refine .region [] mixed (by kernel_rfl) ?_
  refine .cons (.box .none (.s rfl)) rfl ?_
  refine .cons (.assign .none .bool) rfl ?_
  refine .nil ?_
  refine .then ?_
  refine .seq ?_
  refine .region [([], [9])] mixed (by kernel_rfl) ?_
  refine .consW (.alloc zo29 rfl) rfl rfl ?_
  refine .nil ?_
  refine .then ?_
  refine .freeze (t := 9) rfl rfl SubB.nil rfl ?_
  refine .seq ?_
  refine .seq ?_
  refine .region [] mixed (by kernel_rfl) ?_
  refine .cons (.move .none (.s rfl)) rfl ?_
  refine .cons (.neI .none (.s rfl) (.int (by decide))) rfl ?_
  refine .nil ?_
  refine .then ?_
  refine .cond (t := 11) rfl trivial (fun hb1 => ?_) (fun hb1 => ?_)
  · replace h := bif_t h hb1
    refine .seq ?_
    refine .region [] mixed (by kernel_rfl) ?_
    refine .cons (.load .none ty29 (.s rfl)) rfl ?_
    refine .cons (.load .none ty29 (.s rfl)) rfl ?_
    refine .cons (.eqS .none eq29 (.s rfl) (.s rfl)) rfl ?_
    refine .cons (.move .none (.s rfl)) rfl ?_
    refine .cons (.move (.at rfl rfl) (.s rfl)) rfl ?_
    refine .cons (.move (.at rfl rfl) (.s rfl)) rfl ?_
    refine .cons (.eqI (.at rfl rfl) (.tmp rfl id) (.tmp rfl id)) rfl ?_
    refine .cons (.pickAnd .none (.s rfl) (.tmp rfl id)) rfl ?_
    refine .cons (.assign .none (.s rfl)) rfl ?_
    refine .nil ?_
    refine .then ?_
    refine .ret ?_
    refine .thenRet ?_
    obtain rfl := some_eq h
    exact Ends.ret1 (.inl rfl) Tryz.results13 (ResOK.tmp rfl trivial Imp.refl)
  · replace h := bif_f h hb1
    refine .skip ?_
    refine .then ?_
    refine .seq ?_
    refine .region [] mixed (by kernel_rfl) ?_
    refine .cons (.move .none (.s rfl)) rfl ?_
    refine .cons (.eqI .none (.s rfl) (.int (by decide))) rfl ?_
    refine .cons (.move .none (.s rfl)) rfl ?_
    refine .cons (.load (.at rfl rfl) ty29 (.s rfl)) rfl ?_
    refine .cons (.move (.at rfl rfl) (.s rfl)) rfl ?_
    obtain ⟨r1, hv2, h⟩ := bind_some h
    refine .cons (.callV _ (.at rfl rfl) (.tmp rfl id) (fun hg => gd_some hv2 (hg.2)) .nil) rfl ?_
    refine .cons (.eqS (.at rfl rfl) eq29 (.tmp rfl id) (.tmp rfl id)) rfl ?_
    refine .cons (.pickAnd .none (.s rfl) (.tmp rfl id)) rfl ?_
    refine .cons (.assign .none (.s rfl)) rfl ?_
    refine .nil ?_
    refine .then ?_
    refine .ret ?_
    obtain rfl := some_eq h
    exact Ends.ret1 (.inl rfl) Tryz.results13 (ResOK.tmp rfl trivial Imp.refl)

theorem page_view_below_okS {self : (Page_view × Int × (List Bool)) → Option (List Bool)} (hself : ∀ {s35 : Value} (x : (Page_view × Int × (List Bool))) (r : (List Bool)), self x = some r → FSpecO Tryz.prog 78 [ref x.1, rep x.2.1, isV s35] [(s35, rowV 4 x.2.2)] (anyV) [some (rowV 4 r)]) {s35 : Value} {x : (Page_view × Int × (List Bool))} {r : (List Bool)} (h : page_view_below_body self x = some r) : FSpecO Tryz.prog 78 [ref x.1, rep x.2.1, isV s35] [(s35, rowV 4 x.2.2)] (anyV) [some (rowV 4 r)] := by
  unfold page_view_below_body at h
  refine FSpecO.intro (n := 35) fnok78 Tryz.func78 rfl Tryz.ntmps78 rfl (fun F => ?_)
  refine .seq ?_
  refine .region [([], []), ([], []), ([35], []), ([35], [35])] mixed (by kernel_rfl) ?_
  refine .consA (.move .none (.s rfl)) rfl ?_
  refine .consA (.move .none (.s rfl)) rfl ?_
  obtain ⟨hn1, h⟩ := need_some h
  refine .consA (.indexAddrO (k := 35) .none sl112 ty4 (.s rfl) rfl (.s rfl) (fun _ => hn1)) rfl ?_
  refine .consN (.storeElem0 (k := 35) ty4 (.s rfl) rfl .bool hn1) rfl ?_
  refine .nil ?_
  refine .then ?_
  obtain ⟨marks2, hv2, h⟩ := bnd_some h
  refine .reB (t := 35) rfl (congrArg (fun y => CPred.at s35 (rowV 4 y)) hv2) ?_
  refine .seq ?_
  refine .region [] mixed (by kernel_rfl) ?_
  refine .cons (.move .none (.s rfl)) rfl ?_
  refine .cons (.nilCheckR .none (.s rfl)) rfl ?_
  refine .cons (.fieldAddr .none fd148_2 hfd148_2 (.s rfl)) rfl ?_
  refine .cons (.load .none ty146 (.s rfl)) rfl ?_
  refine .cons (.move .none (.s rfl)) rfl ?_
  refine .cons (.nilCheckR .none (.s rfl)) rfl ?_
  refine .cons (.fieldAddr .none fd148_0 hfd148_0 (.s rfl)) rfl ?_
  refine .cons (.fieldAddr .none fd25_0 hfd25_0 (.s rfl)) rfl ?_
  refine .cons (.load .none ty22 (.s rfl)) rfl ?_
  refine .cons (.move .none (.s rfl)) rfl ?_
  obtain ⟨hn3, h⟩ := need_some h
  refine .cons (.indexAddr .none sl22 ty44 (.s rfl) (.s rfl) (fun _ => hn3)) rfl ?_
  refine .cons (.fieldAddr .none fd44_0 hfd44_0 (.s rfl)) rfl ?_
  refine .cons (.load .none ty9 (.s rfl)) rfl ?_
  obtain ⟨v2, hv4, h⟩ := bnd_some h
  refine .cons (.re hv4 (.lookup .none mo146 zo118 (.s rfl) (.s rfl))) rfl ?_
  refine .cons (.len .none sl118 (.s rfl)) rfl ?_
  refine .cons (.move .none (.int (by decide))) rfl ?_
  refine .nil ?_
  refine .then ?_
  obtain ⟨j_5, h, hK5⟩ := bind_some h
  refine .tailJ (ι := (List Bool)) (fun j_5 => []) (fun j_5 => [(35, some (CPred.at s35 (rowV 4 j_5)))]) (fun s => j_5 = s) (.cons (t := 2) rfl Sub.nil) SubB.nil ?_ (fun j_5' hj5 => ?_)
  · skip
    refine .block ?_
    refine .rforL h (fun p6_ => [(26, ⟨True, rep p6_.1⟩)]) (fun p6_ => [(35, some (CPred.at s35 (rowV 4 p6_.2)))]) (.cons (t := 26) rfl Sub.nil) (.cons (t := 35) rfl SubB.nil) (.cons (t := 0) rfl (.cons (t := 2) rfl (.cons (t := 24) rfl (.cons (t := 25) rfl Sub.nil)))) SubB.nil (fun p6_ o_6 h hD6 => ?_)
    refine .seq ?_
    refine .region [] mixed (by kernel_rfl) ?_
    refine .cons (.lt .none (.s rfl) (.s rfl)) rfl ?_
    refine .nil ?_
    refine .then ?_
    refine .seq ?_
    refine .cond (t := 27) rfl trivial (fun hb7 => ?_) (fun hb7 => ?_)
    · replace h := bif_t h hb7
      refine .skip ?_
      refine .then ?_
      refine .seq ?_
      obtain ⟨j_8, h, hK8⟩ := bind_some h
      unfold page_view_below_L1 at h
      refine .thenJ (ι := (List Bool)) (fun j_8 => []) (fun j_8 => [(35, some (CPred.at s35 (rowV 4 j_8)))]) (fun s => j_8 = s) (.cons (t := 0) rfl (.cons (t := 2) rfl (.cons (t := 24) rfl (.cons (t := 25) rfl (.cons (t := 26) rfl Sub.nil))))) SubB.nil ?_ (fun j_8' hj8 => ?_)
      · skip
        refine .block ?_
        refine .seq ?_
        refine .region [] mixed (by kernel_rfl) ?_
        obtain ⟨hn9, h⟩ := need_some h
        refine .cons (.indexAddr .none sl118 ty3 (.s rfl) (.s rfl) (fun _ => hn9)) rfl ?_
        refine .cons (.load .none ty3 (.s rfl)) rfl ?_
        refine .cons (.assign .none (.s rfl)) rfl ?_
        refine .nil ?_
        refine .then ?_
        refine .region [([], []), ([], []), ([], []), ([35], [35])] mixed (by kernel_rfl) ?_
        refine .consA (.move .none (.s rfl)) rfl ?_
        refine .consA (.move .none (.s rfl)) rfl ?_
        refine .consA (.move .none (.s rfl)) rfl ?_
        obtain ⟨r1, hv10, h⟩ := bind_some h
        refine .consW (.callO [35] (hself _ _ hv10) (.cons (.s rfl) (.cons (.s rfl) (.cons (.s rfl) .nil))) (.cons (k := 35) rfl .nil) rfl (by decide) (by decide) (by intro d h; cases h; decide)) rfl rfl ?_
        refine .nil ?_
        refine .blkNormal ?_
        exact Ends.join _ (some_eq h) (.cons (t := 0) rfl (.cons (t := 2) rfl (.cons (t := 24) rfl (.cons (t := 25) rfl (.cons (t := 26) rfl Sub.nil))))) (.cons (t := 35) rfl SubB.nil)
      · subst hj8; have h := hK8; clear hK8
        refine .region [] mixed (by kernel_rfl) ?_
        refine .cons (.addW .none (.s rfl) (.int (by decide))) rfl ?_
        refine .cons (.move .none (.s rfl)) rfl ?_
        refine .nil ?_
        exact Ends.againL (some_eq h) (.cons (t := 26) rfl (.cons (t := 0) rfl (.cons (t := 2) rfl (.cons (t := 24) rfl (.cons (t := 25) rfl Sub.nil))))) (.cons (t := 35) rfl SubB.nil)
    · replace h := bif_f h hb7
      refine .exit ?_
      refine .thenExit ?_
      refine .thenExit ?_
      refine .blkExit ?_
      replace h := hD6 _ (some_eq h)
      exact Ends.join _ (some_eq h) (.cons (t := 2) rfl Sub.nil) (.cons (t := 35) rfl SubB.nil)
  · subst hj5; have h := hK5; clear hK5
    obtain rfl := some_eq h
    exact Ends.ret0O (.inr rfl) [35] Tryz.results78 (by decide) (.held rfl .nil) 
theorem page_view_below_okN : ∀ (k : Nat) {s35 : Value} (x : (Page_view × Int × (List Bool))) (r : (List Bool)) (h : fixN page_view_below_body k x = some r), FSpecO Tryz.prog 78 [ref x.1, rep x.2.1, isV s35] [(s35, rowV 4 x.2.2)] (anyV) [some (rowV 4 r)]
  | 0, _, x, r, h => by simp [fixN] at h
  | k + 1, _, x, r, h => page_view_below_okS (page_view_below_okN k) h
theorem page_view_below_ok {v1 : Page_view} {k1 : Int} {marks1 : (List Bool)} {r : (List Bool)} {s35 : Value} (h : page_view_below v1 k1 marks1 = some r) : FSpecO Tryz.prog 78 [ref v1, rep k1, isV s35] [(s35, rowV 4 marks1)] (anyV) [some (rowV 4 r)] :=
  let ⟨k, hk⟩ := fixp_some h
  page_view_below_okN k (v1, k1, marks1) r hk

theorem page_view_marked_ok {v1 : Page_view} {marks1 : (List Bool)} {r : (List Str)}  (h : page_view_marked v1 marks1 = some r) : FSpec Tryz.prog 79 [ref v1, rep marks1] (rep r) := by
  unfold page_view_marked at h
  refine FSpec.intro (n := 30) fnok79 Tryz.func79 rfl Tryz.ntmps79 rfl (fun F => ?_)
  refine .seq ?_
  refine .region [] mixed (by kernel_rfl) ?_
  refine .cons (.assign .none (.const (x := ([] : (List Str))) (fun M w => ⟨_, ⟨none, 0, rfl, Nat.le_refl _, by decide, rfl⟩, rfl⟩))) rfl ?_
  refine .nil ?_
  refine .then ?_
  refine .seq ?_
  refine .region [([], [5])] mixed (by kernel_rfl) ?_
  refine .consW (.nilRow (T := 9) (α := Str) rfl) rfl rfl ?_
  refine .nil ?_
  refine .then ?_
  refine .nameRow (t := 5) (g := 5001) rfl rfl rfl (fun s5001 => ?_)
  refine .seq ?_
  refine .seq ?_
  refine .region [] mixed (by kernel_rfl) ?_
  refine .cons (.move .none (.s rfl)) rfl ?_
  refine .cons (.nilCheckR .none (.s rfl)) rfl ?_
  refine .cons (.fieldAddr .none fd148_0 hfd148_0 (.s rfl)) rfl ?_
  refine .cons (.fieldAddr .none fd25_0 hfd25_0 (.s rfl)) rfl ?_
  refine .cons (.load .none ty22 (.s rfl)) rfl ?_
  refine .cons (.len .none sl22 (.s rfl)) rfl ?_
  refine .cons (.move .none (.int (by decide))) rfl ?_
  refine .nil ?_
  refine .then ?_
  obtain ⟨j_1, h, hK1⟩ := bind_some h
  refine .thenJ (ι := (List Str)) (fun j_1 => []) (fun j_1 => [(5, some (rowV 9 j_1))]) (fun s => j_1 = s) Sub.nil SubB.nil ?_ (fun j_1' hj1 => ?_)
  · skip
    refine .block ?_
    refine .anon (t := 5) (g := 5001) rfl rfl trivial rfl ?_
    refine .rforL h (fun p2_ => [(14, ⟨True, rep p2_.1⟩)]) (fun p2_ => [(5, some (rowV 9 p2_.2))]) (.cons (t := 14) rfl Sub.nil) (.cons (t := 5) rfl SubB.nil) (.cons (t := 1) rfl (.cons (t := 12) rfl (.cons (t := 13) rfl Sub.nil))) SubB.nil (fun p2_ o_2 h hD2 => ?_)
    refine .nameRow (t := 5) (g := 5002) rfl rfl rfl (fun s5002 => ?_)
    refine .seq ?_
    refine .region [] mixed (by kernel_rfl) ?_
    refine .cons (.lt .none (.s rfl) (.s rfl)) rfl ?_
    refine .nil ?_
    refine .then ?_
    refine .seq ?_
    refine .cond (t := 15) rfl trivial (fun hb3 => ?_) (fun hb3 => ?_)
    · replace h := bif_t h hb3
      refine .skip ?_
      refine .then ?_
      refine .seq ?_
      obtain ⟨j_4, h, hK4⟩ := bind_some h
      unfold page_view_marked_L1 at h
      refine .thenJ (ι := (List Str)) (fun j_4 => []) (fun j_4 => [(5, some (rowV 9 j_4))]) (fun s => j_4 = s) (.cons (t := 1) rfl (.cons (t := 12) rfl (.cons (t := 13) rfl (.cons (t := 14) rfl Sub.nil)))) SubB.nil ?_ (fun j_4' hj4 => ?_)
      · skip
        refine .block ?_
        refine .seq ?_
        refine .region [([], []), ([], []), ([], []), ([], [7]), ([], []), ([7], [7])] mixed (by kernel_rfl) ?_
        refine .consA (.move .none (.s rfl)) rfl ?_
        obtain ⟨hn5, h⟩ := need_some h
        refine .consA (.indexAddr .none sl22 ty44 (.s rfl) (.s rfl) (fun _ => hn5)) rfl ?_
        obtain ⟨v2, hv6, h⟩ := bnd_some h
        refine .consA (.re hv6 (.load .none ty44 (.s rfl))) rfl ?_
        refine .consW (.alloc zo44 rfl) rfl rfl ?_
        refine .consA (.assign .none (.s rfl)) rfl ?_
        refine .consN (.store ty44 rfl rfl (.s rfl)) rfl ?_
        refine .nil ?_
        refine .then ?_
        refine .freeze (t := 7) rfl rfl (.cons (t := 5002) rfl SubB.nil) rfl ?_
        refine .seq ?_
        refine .region [] mixed (by kernel_rfl) ?_
        refine .cons (.move .none (.s rfl)) rfl ?_
        refine .cons (.move .none (.s rfl)) rfl ?_
        obtain ⟨hn7, h⟩ := need_some h
        refine .cons (.indexAddr .none sl112 ty4 (.s rfl) (.s rfl) (fun _ => hn7)) rfl ?_
        refine .cons (.load .none ty4 (.s rfl)) rfl ?_
        refine .nil ?_
        refine .then ?_
        refine .cond (t := 22) rfl trivial (fun hb8 => ?_) (fun hb8 => ?_)
        · replace h := bif_t h hb8
          refine .region [([], []), ([], []), ([], []), ([], []), ([5002], [27, 5002]), ([27], [5, 27])] mixed (by kernel_rfl) ?_
          refine .consA (.move .none (.s rfl)) rfl ?_
          refine .consA (.fieldAddr .none fd44_0 hfd44_0 (.s rfl)) rfl ?_
          refine .consA (.load .none ty9 (.s rfl)) rfl ?_
          refine .consA (.buildSlice (xs := [_]) .none sl39 ty9 hz9 (.cons (.s rfl) .nil) rfl (by decide)) rfl ?_
          obtain ⟨hn9, h⟩ := need_some h
          refine .consW (.append (k := 5002) rk39 rfl (.told (.s rfl) rfl) (.s rfl) hn9) rfl rfl ?_
          refine .consW (.passRow rfl (.tmp rfl)) rfl rfl ?_
          refine .nil ?_
          refine .blkNormal ?_
          exact Ends.join _ (some_eq h) (.cons (t := 1) rfl (.cons (t := 12) rfl (.cons (t := 13) rfl (.cons (t := 14) rfl Sub.nil)))) (.cons (t := 5) rfl SubB.nil)
        · replace h := bif_f h hb8
          refine .skip ?_
          refine .blkNormal ?_
          refine .anon (t := 5) (g := 5002) rfl rfl trivial rfl ?_
          exact Ends.join _ (some_eq h) (.cons (t := 1) rfl (.cons (t := 12) rfl (.cons (t := 13) rfl (.cons (t := 14) rfl Sub.nil)))) (.cons (t := 5) rfl SubB.nil)
      · subst hj4; have h := hK4; clear hK4
        refine .nameRow (t := 5) (g := 5003) rfl rfl rfl (fun s5003 => ?_)
        refine .region [] mixed (by kernel_rfl) ?_
        refine .cons (.addW .none (.s rfl) (.int (by decide))) rfl ?_
        refine .cons (.move .none (.s rfl)) rfl ?_
        refine .nil ?_
        refine .anon (t := 5) (g := 5003) rfl rfl trivial rfl ?_
        exact Ends.againL (some_eq h) (.cons (t := 14) rfl (.cons (t := 1) rfl (.cons (t := 12) rfl (.cons (t := 13) rfl Sub.nil)))) (.cons (t := 5) rfl SubB.nil)
    · replace h := bif_f h hb3
      refine .exit ?_
      refine .thenExit ?_
      refine .thenExit ?_
      refine .blkExit ?_
      refine .anon (t := 5) (g := 5002) rfl rfl trivial rfl ?_
      replace h := hD2 _ (some_eq h)
      exact Ends.join _ (some_eq h) Sub.nil (.cons (t := 5) rfl SubB.nil)
  · subst hj1; have h := hK1; clear hK1
    refine .freezeRowA (t := 5) rfl rfl SubB.nil rfl ?_
    refine .seq ?_
    refine .region [] mixed (by kernel_rfl) ?_
    refine .cons (.move .none (.s rfl)) rfl ?_
    refine .cons (.assign .none (.s rfl)) rfl ?_
    refine .nil ?_
    refine .then ?_
    refine .ret ?_
    obtain rfl := some_eq h
    exact Ends.ret1 (.inl rfl) Tryz.results79 (ResOK.tmp rfl trivial Imp.refl)

theorem page_Below_ok {d1 : Doc} {id1 : Str} {r : ((List Str) × Int)}  (h : page_Below d1 id1 = some r) : FSpec Tryz.prog 16 [rep d1, rep id1] (tup [rep r.1, rep r.2]) := by
  unfold page_Below at h
  refine FSpec.intro (n := 34) fnok16 Tryz.func16 rfl Tryz.ntmps16 rfl (fun F => ?_)
  refine .seq ?_
  refine .region [] mixed (by kernel_rfl) ?_
  refine .cons (.box .none (.s rfl)) rfl ?_
  refine .cons (.assign .none (.const (x := ([] : (List Str))) (fun M w => ⟨_, ⟨none, 0, rfl, Nat.le_refl _, by decide, rfl⟩, rfl⟩))) rfl ?_
  refine .cons (.assign .none (.int (by decide))) rfl ?_
  refine .nil ?_
  refine .then ?_
  refine .seq ?_
  refine .region [] mixed (by kernel_rfl) ?_
  refine .cons (.load .none ty25 (.s rfl)) rfl ?_
  refine .cons (.move .none (.s rfl)) rfl ?_
  obtain ⟨r1, hv1, h⟩ := bind_some h
  refine .cons (.call .none (page_find_ok hv1) (.cons (.s rfl) (.cons (.s rfl) .nil))) rfl ?_
  refine .cons (.move .none (.s rfl)) rfl ?_
  refine .cons (.extract .none (.s rfl) rfl) rfl ?_
  refine .cons (.extract .none (.s rfl) rfl) rfl ?_
  refine .cons (.extract .none (.s rfl) rfl) rfl ?_
  refine .cons (.assign .none (.s rfl)) rfl ?_
  refine .cons (.assign .none (.s rfl)) rfl ?_
  refine .cons (.assign .none (.s rfl)) rfl ?_
  refine .nil ?_
  refine .then ?_
  refine .seq ?_
  refine .seq ?_
  refine .region [] mixed (by kernel_rfl) ?_
  refine .cons (.move .none (.s rfl)) rfl ?_
  refine .cons (.neI .none (.s rfl) (.int (by decide))) rfl ?_
  refine .nil ?_
  refine .then ?_
  refine .cond (t := 18) rfl trivial (fun hb2 => ?_) (fun hb2 => ?_)
  · replace h := bif_t h hb2
    refine .seq ?_
    refine .region [] mixed (by kernel_rfl) ?_
    refine .cons (.move .none (.s rfl)) rfl ?_
    refine .cons (.assign .none (.const (x := ([] : (List Str))) (fun M w => ⟨_, ⟨none, 0, rfl, Nat.le_refl _, by decide, rfl⟩, rfl⟩))) rfl ?_
    refine .cons (.assign .none (.s rfl)) rfl ?_
    refine .nil ?_
    refine .then ?_
    refine .ret ?_
    refine .thenRet ?_
    obtain rfl := some_eq h
    exact Ends.ret2 (.inl rfl) Tryz.results16 (ResOK.tmp rfl trivial Imp.refl) (ResOK.tmp rfl trivial Imp.refl)
  · replace h := bif_f h hb2
    refine .skip ?_
    refine .then ?_
    refine .seq ?_
    refine .region [([], []), ([], []), ([], []), ([], [23]), ([23], [9, 23])] mixed (by kernel_rfl) ?_
    refine .consA (.fieldAddr .none fd25_0 hfd25_0 (.s rfl)) rfl ?_
    refine .consA (.load .none ty22 (.s rfl)) rfl ?_
    obtain ⟨v1, hv3, h⟩ := bnd_some h
    refine .consA (.re hv3 (.len .none sl22 (.s rfl))) rfl ?_
    obtain ⟨hn4, h⟩ := need_some h
    refine .consW (.makeSlice rk112 zo4 rfl (.s rfl) (.s rfl) hn4) rfl rfl ?_
    refine .consW (.passRow rfl (.tmp rfl)) rfl rfl ?_
    refine .nil ?_
    refine .then ?_
    obtain ⟨marks1, hv5, h⟩ := bnd_some h
    refine .reB (t := 9) rfl (congrArg (rowV 4) hv5) ?_
    refine .nameRow (t := 9) (g := 5001) rfl rfl rfl (fun s5001 => ?_)
    refine .seq ?_
    obtain ⟨v2, hv6, h⟩ := bind_some h
    refine .isRef (t := 6) hv6 rfl trivial ?_
    refine .region [([], []), ([], []), ([], []), ([5001], [5001])] mixed (by kernel_rfl) ?_
    refine .consA (.move .none (.s rfl)) rfl ?_
    refine .consA (.move .none (.s rfl)) rfl ?_
    refine .consA (.move .none (.s rfl)) rfl ?_
    obtain ⟨r2, hv7, h⟩ := bind_some h
    refine .consW (.callO [5001] (page_view_below_ok hv7) (.cons (.s rfl) (.cons (.s rfl) (.cons (.s rfl) .nil))) (.cons (k := 5001) rfl .nil) rfl (by decide) (by decide) (by intro d h; cases h; decide)) rfl rfl ?_
    refine .nil ?_
    refine .then ?_
    refine .seq ?_
    refine .region [([], []), ([], []), ([5001], []), ([5001], [5001])] mixed (by kernel_rfl) ?_
    refine .consA (.move .none (.s rfl)) rfl ?_
    refine .consA (.move .none (.s rfl)) rfl ?_
    obtain ⟨hn8, h⟩ := need_some h
    refine .consA (.indexAddrO (k := 5001) .none sl112 ty4 (.s rfl) rfl (.s rfl) (fun _ => hn8)) rfl ?_
    refine .consN (.storeElem0 (k := 5001) ty4 (.s rfl) rfl .bool hn8) rfl ?_
    refine .nil ?_
    refine .then ?_
    refine .freezeRow (g := 5001) (ts := [9]) rfl (.cons (t := 9) rfl trivial .nil) SubB.nil rfl ?_
    refine .seq ?_
    refine .region [] mixed (by kernel_rfl) ?_
    refine .cons (.move .none (.s rfl)) rfl ?_
    refine .cons (.move .none (.s rfl)) rfl ?_
    obtain ⟨r3, hv9, h⟩ := bind_some h
    refine .cons (.call .none (page_view_marked_ok hv9) (.cons (.s rfl) (.cons (.s rfl) .nil))) rfl ?_
    refine .cons (.assign .none (.s rfl)) rfl ?_
    refine .cons (.assign .none (.int (by decide))) rfl ?_
    refine .nil ?_
    refine .then ?_
    refine .ret ?_
    obtain rfl := some_eq h
    exact Ends.ret2 (.inl rfl) Tryz.results16 (ResOK.tmp rfl trivial Imp.refl) (ResOK.tmp rfl trivial Imp.refl)

theorem ref_IsBelow_ok {d1 : Doc} {id1 : Str} {group1 : Str} {r : Bool}  (h : ref_IsBelow d1 id1 group1 = some r) : FSpec Tryz.prog 19 [rep d1, rep id1, rep group1] (rep r) := by
  unfold ref_IsBelow at h
  refine FSpec.intro (n := 29) fnok19 Tryz.func19 rfl Tryz.ntmps19 rfl (fun F => ?_)
  refine .seq ?_
  refine .region [] mixed (by kernel_rfl) ?_
  refine .cons (.box .none (.s rfl)) rfl ?_
  refine .cons (.assign .none .bool) rfl ?_
  refine .nil ?_
  refine .then ?_
  refine .seq ?_
  refine .seq ?_
  refine .region [] mixed (by kernel_rfl) ?_
  refine .cons (.fieldAddr .none fd25_0 hfd25_0 (.s rfl)) rfl ?_
  refine .cons (.load .none ty22 (.s rfl)) rfl ?_
  refine .cons (.load .none ty25 (.s rfl)) rfl ?_
  refine .cons (.move .none (.s rfl)) rfl ?_
  obtain ⟨r1, hv1, h⟩ := bind_some h
  refine .cons (.call .none (ref_NodeAt_ok hv1) (.cons (.s rfl) (.cons (.s rfl) .nil))) rfl ?_
  obtain ⟨hn2, h⟩ := need_some h
  refine .cons (.indexAddr .none sl22 ty44 (.s rfl) (.s rfl) (fun _ => hn2)) rfl ?_
  refine .cons (.fieldAddr .none fd44_5 hfd44_5 (.s rfl)) rfl ?_
  refine .cons (.load .none ty9 (.s rfl)) rfl ?_
  obtain ⟨p1, hv3, h⟩ := bnd_some h
  refine .cons (.re hv3 (.assign .none (.s rfl))) rfl ?_
  refine .nil ?_
  refine .then ?_
  obtain ⟨o_4, h, hK4⟩ := bindR_some h
  refine .thenJ (ι := Unit) (fun j_4 => []) (fun j_4 => []) (fun s => o_4 = Res.nx s) Sub.nil SubB.nil ?_ (fun j_4 hj4 => ?_)
  · skip
    refine .block ?_
    refine .loopL h (fun s5_ => [(7, ⟨True, rep s5_⟩)]) (fun s5_ => []) (.cons (t := 7) rfl Sub.nil) SubB.nil (.cons (t := 2) rfl (.cons (t := 3) rfl Sub.nil)) SubB.nil (fun s5_ o_5 h hD5 => ?_)
    unfold ref_IsBelow_L1 at h
    refine .seq ?_
    refine .seq ?_
    refine .region [] mixed (by kernel_rfl) ?_
    refine .cons (.move .none (.s rfl)) rfl ?_
    refine .cons (.neS .none (eqAt_str Tryz.underlying9) (.s rfl) (.str (l := []) (by decide))) rfl ?_
    refine .nil ?_
    refine .then ?_
    refine .cond (t := 17) rfl trivial (fun hb6 => ?_) (fun hb6 => ?_)
    · replace h := bif_t h hb6
      refine .skip ?_
      refine .then ?_
      refine .seq ?_
      refine .block ?_
      refine .seq ?_
      refine .region [] mixed (by kernel_rfl) ?_
      refine .cons (.move .none (.s rfl)) rfl ?_
      refine .cons (.move .none (.s rfl)) rfl ?_
      refine .cons (.eqS .none (eqAt_str Tryz.underlying9) (.s rfl) (.s rfl)) rfl ?_
      refine .nil ?_
      refine .then ?_
      refine .cond (t := 28) rfl trivial (fun hb7 => ?_) (fun hb7 => ?_)
      · replace h := bif_t h hb7
        refine .seq ?_
        refine .region [] mixed (by kernel_rfl) ?_
        refine .cons (.assign .none .bool) rfl ?_
        refine .nil ?_
        refine .then ?_
        refine .ret ?_
        refine .blkRet ?_
        refine .thenRet ?_
        refine .thenRet ?_
        refine .blkRet ?_
        refine .thenRet ?_
        replace h := hD5 _ (some_eq h)
        replace h := resb_ab hK4 (some_eq h)
        obtain rfl := some_eq h
        exact Ends.ret1 (.inl rfl) Tryz.results19 (ResOK.tmp rfl trivial Imp.refl)
      · replace h := bif_f h hb7
        refine .skip ?_
        refine .blkNormal ?_
        refine .then ?_
        refine .region [] mixed (by kernel_rfl) ?_
        refine .cons (.fieldAddr .none fd25_0 hfd25_0 (.s rfl)) rfl ?_
        refine .cons (.load .none ty22 (.s rfl)) rfl ?_
        refine .cons (.load .none ty25 (.s rfl)) rfl ?_
        refine .cons (.move .none (.s rfl)) rfl ?_
        obtain ⟨r2, hv8, h⟩ := bind_some h
        refine .cons (.call .none (ref_NodeAt_ok hv8) (.cons (.s rfl) (.cons (.s rfl) .nil))) rfl ?_
        obtain ⟨hn9, h⟩ := need_some h
        refine .cons (.indexAddr .none sl22 ty44 (.s rfl) (.s rfl) (fun _ => hn9)) rfl ?_
        refine .cons (.fieldAddr .none fd44_5 hfd44_5 (.s rfl)) rfl ?_
        refine .cons (.load .none ty9 (.s rfl)) rfl ?_
        obtain ⟨p2, hv10, h⟩ := bnd_some h
        refine .cons (.re hv10 (.assign .none (.s rfl))) rfl ?_
        refine .nil ?_
        exact Ends.againL (some_eq h) (.cons (t := 7) rfl (.cons (t := 2) rfl (.cons (t := 3) rfl Sub.nil))) SubB.nil
    · replace h := bif_f h hb6
      refine .exit ?_
      refine .thenExit ?_
      refine .thenExit ?_
      refine .blkExit ?_
      replace h := hD5 _ (some_eq h)
      exact Ends.join _ (some_eq h) Sub.nil SubB.nil
  · have h := resb_nx hK4 hj4
    refine .seq ?_
    refine .region [] mixed (by kernel_rfl) ?_
    refine .cons (.assign .none .bool) rfl ?_
    refine .nil ?_
    refine .then ?_
    refine .ret ?_
    obtain rfl := some_eq h
    exact Ends.ret1 (.inl rfl) Tryz.results19 (ResOK.tmp rfl trivial Imp.refl)

theorem law_LooksMatch_2_ok {c0_1 : Doc} {c1_1 : Str} {r : (List Str)}  (h : law_LooksMatch_2 c0_1 c1_1 = some r) : FSpec Tryz.prog 18 [ref c0_1, ref c1_1] (rep r) := by
  unfold law_LooksMatch_2 at h
  refine FSpec.intro (n := 25) fnok18 Tryz.func18 rfl Tryz.ntmps18 rfl (fun F => ?_)
  refine .seq ?_
  refine .region [] mixed (by kernel_rfl) ?_
  refine .cons (.assign .none (.const (x := ([] : (List Str))) (fun M w => ⟨_, ⟨none, 0, rfl, Nat.le_refl _, by decide, rfl⟩, rfl⟩))) rfl ?_
  refine .nil ?_
  refine .then ?_
  refine .seq ?_
  refine .region [([], [3])] mixed (by kernel_rfl) ?_
  refine .consW (.nilRow (T := 9) (α := Str) rfl) rfl rfl ?_
  refine .nil ?_
  refine .then ?_
  refine .nameRow (t := 3) (g := 5001) rfl rfl rfl (fun s5001 => ?_)
  refine .seq ?_
  refine .seq ?_
  refine .region [] mixed (by kernel_rfl) ?_
  refine .cons (.fieldAddr .none fd25_0 hfd25_0 (.s rfl)) rfl ?_
  refine .cons (.load .none ty22 (.s rfl)) rfl ?_
  refine .cons (.len .none sl22 (.s rfl)) rfl ?_
  refine .cons (.move .none (.int (by decide))) rfl ?_
  refine .nil ?_
  refine .then ?_
  obtain ⟨j_1, h, hK1⟩ := bind_some h
  refine .thenJ (ι := (List Str)) (fun j_1 => []) (fun j_1 => [(3, some (rowV 9 j_1))]) (fun s => j_1 = s) Sub.nil SubB.nil ?_ (fun j_1' hj1 => ?_)
  · skip
    refine .block ?_
    refine .anon (t := 3) (g := 5001) rfl rfl trivial rfl ?_
    refine .rforL h (fun p2_ => [(9, ⟨True, rep p2_.1⟩)]) (fun p2_ => [(3, some (rowV 9 p2_.2))]) (.cons (t := 9) rfl Sub.nil) (.cons (t := 3) rfl SubB.nil) (.cons (t := 0) rfl (.cons (t := 1) rfl (.cons (t := 7) rfl (.cons (t := 8) rfl Sub.nil)))) SubB.nil (fun p2_ o_2 h hD2 => ?_)
    refine .nameRow (t := 3) (g := 5002) rfl rfl rfl (fun s5002 => ?_)
    refine .seq ?_
    refine .region [] mixed (by kernel_rfl) ?_
    refine .cons (.lt .none (.s rfl) (.s rfl)) rfl ?_
    refine .nil ?_
    refine .then ?_
    refine .seq ?_
    refine .cond (t := 10) rfl trivial (fun hb3 => ?_) (fun hb3 => ?_)
    · replace h := bif_t h hb3
      refine .skip ?_
      refine .then ?_
      refine .seq ?_
      obtain ⟨j_4, h, hK4⟩ := bind_some h
      unfold law_LooksMatch_2_L1 at h
      refine .thenJ (ι := (List Str)) (fun j_4 => []) (fun j_4 => [(3, some (rowV 9 j_4))]) (fun s => j_4 = s) (.cons (t := 0) rfl (.cons (t := 1) rfl (.cons (t := 7) rfl (.cons (t := 8) rfl (.cons (t := 9) rfl Sub.nil))))) SubB.nil ?_ (fun j_4' hj4 => ?_)
      · skip
        refine .block ?_
        refine .seq ?_
        refine .region [([], []), ([], []), ([], [5]), ([5], [5])] mixed (by kernel_rfl) ?_
        obtain ⟨hn5, h⟩ := need_some h
        refine .consA (.indexAddr .none sl22 ty44 (.s rfl) (.s rfl) (fun _ => hn5)) rfl ?_
        obtain ⟨v1, hv6, h⟩ := bnd_some h
        refine .consA (.re hv6 (.load .none ty44 (.s rfl))) rfl ?_
        refine .consW (.alloc zo44 rfl) rfl rfl ?_
        refine .consN (.store ty44 rfl rfl (.s rfl)) rfl ?_
        refine .nil ?_
        refine .then ?_
        refine .freeze (t := 5) rfl rfl (.cons (t := 5002) rfl SubB.nil) rfl ?_
        refine .seq ?_
        refine .region [] mixed (by kernel_rfl) ?_
        refine .cons (.load .none ty25 (.s rfl)) rfl ?_
        refine .cons (.fieldAddr .none fd44_0 hfd44_0 (.s rfl)) rfl ?_
        refine .cons (.load .none ty9 (.s rfl)) rfl ?_
        refine .cons (.load .none ty9 (.s rfl)) rfl ?_
        obtain ⟨r1, hv7, h⟩ := bind_some h
        refine .cons (.call .none (ref_IsBelow_ok hv7) (.cons (.s rfl) (.cons (.s rfl) (.cons (.s rfl) .nil)))) rfl ?_
        refine .nil ?_
        refine .then ?_
        refine .cond (t := 17) rfl trivial (fun hb8 => ?_) (fun hb8 => ?_)
        · replace h := bif_t h hb8
          refine .region [([], []), ([], []), ([], []), ([], []), ([5002], [22, 5002]), ([22], [3, 22])] mixed (by kernel_rfl) ?_
          refine .consA (.move .none (.s rfl)) rfl ?_
          refine .consA (.fieldAddr .none fd44_0 hfd44_0 (.s rfl)) rfl ?_
          refine .consA (.load .none ty9 (.s rfl)) rfl ?_
          refine .consA (.buildSlice (xs := [_]) .none sl39 ty9 hz9 (.cons (.s rfl) .nil) rfl (by decide)) rfl ?_
          obtain ⟨hn9, h⟩ := need_some h
          refine .consW (.append (k := 5002) rk39 rfl (.told (.s rfl) rfl) (.s rfl) hn9) rfl rfl ?_
          refine .consW (.passRow rfl (.tmp rfl)) rfl rfl ?_
          refine .nil ?_
          refine .blkNormal ?_
          exact Ends.join _ (some_eq h) (.cons (t := 0) rfl (.cons (t := 1) rfl (.cons (t := 7) rfl (.cons (t := 8) rfl (.cons (t := 9) rfl Sub.nil))))) (.cons (t := 3) rfl SubB.nil)
        · replace h := bif_f h hb8
          refine .skip ?_
          refine .blkNormal ?_
          refine .anon (t := 3) (g := 5002) rfl rfl trivial rfl ?_
          exact Ends.join _ (some_eq h) (.cons (t := 0) rfl (.cons (t := 1) rfl (.cons (t := 7) rfl (.cons (t := 8) rfl (.cons (t := 9) rfl Sub.nil))))) (.cons (t := 3) rfl SubB.nil)
      · subst hj4; have h := hK4; clear hK4
        refine .nameRow (t := 3) (g := 5003) rfl rfl rfl (fun s5003 => ?_)
        refine .region [] mixed (by kernel_rfl) ?_
        refine .cons (.addW .none (.s rfl) (.int (by decide))) rfl ?_
        refine .cons (.move .none (.s rfl)) rfl ?_
        refine .nil ?_
        refine .anon (t := 3) (g := 5003) rfl rfl trivial rfl ?_
        exact Ends.againL (some_eq h) (.cons (t := 9) rfl (.cons (t := 0) rfl (.cons (t := 1) rfl (.cons (t := 7) rfl (.cons (t := 8) rfl Sub.nil))))) (.cons (t := 3) rfl SubB.nil)
    · replace h := bif_f h hb3
      refine .exit ?_
      refine .thenExit ?_
      refine .thenExit ?_
      refine .blkExit ?_
      refine .anon (t := 3) (g := 5002) rfl rfl trivial rfl ?_
      replace h := hD2 _ (some_eq h)
      exact Ends.join _ (some_eq h) Sub.nil (.cons (t := 3) rfl SubB.nil)
  · subst hj1; have h := hK1; clear hK1
    refine .freezeRowA (t := 3) rfl rfl SubB.nil rfl ?_
    refine .seq ?_
    refine .region [] mixed (by kernel_rfl) ?_
    refine .cons (.move .none (.s rfl)) rfl ?_
    refine .cons (.assign .none (.s rfl)) rfl ?_
    refine .nil ?_
    refine .then ?_
    refine .ret ?_
    obtain rfl := some_eq h
    exact Ends.ret1 (.inl rfl) Tryz.results18 (ResOK.tmp rfl trivial Imp.refl)


end Go.Proofs.YtclcheggnlhamaaGreatDoor
