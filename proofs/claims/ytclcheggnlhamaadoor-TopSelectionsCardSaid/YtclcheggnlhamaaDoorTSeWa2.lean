/-
  The walks: what a function computes is what its plain function says (printed by a program of one's own).
-/
import Derived.Test.YtclcheggnlhamaaDoorTSeWa1
set_option maxRecDepth 100000
set_option linter.unusedSimpArgs false
set_option linter.unusedVariables false
namespace Go.Proofs.YtclcheggnlhamaaDoor
open Go Go.DB Go.RowKit
theorem page_BoxOf_ok {d1 : Doc} {id1 : Str} {r : (Box × Int)}  (h : page_BoxOf d1 id1 = some r) : FSpec Tryd.prog 20 [rep d1, rep id1] (tup [rep r.1, rep r.2]) := by
 unfold page_BoxOf at h
 obtain ⟨v1, hv1, h⟩ := bnd_some h
 obtain ⟨r1, hv2, h⟩ := bind_some h
 refine FSpec.intro (n := 23) fnok20 Tryd.func20 rfl Tryd.ntmps20 rfl (fun F => (.sr [oo, ([], [4]), oo] mixed (.consA (.box .none (.s rfl)) rfl (.consW (.alloc zo41 rfl) rfl rfl (.consA (.assign .none (.int (by decide))) rfl (.nil (.reB (t := 4) rfl (congrArg (cont 41) hv1) (.nameBox (t := 4) (g := 5001) rfl rfl (fun m5001 => (.sr [] mixed (.ld ty25 rfl (.mv rfl (.cons (.call .none (page_find_ok hv2) (.cons (.s rfl) (.cons (.s rfl) .nil))) rfl (.mv rfl (.cons (.extract .none (.s rfl) rfl) rfl (.cons (.extract .none (.s rfl) rfl) rfl (.cons (.extract .none (.s rfl) rfl) rfl (.asn rfl (.asn rfl (.asn rfl (.nil (.seq (.sr [] mixed (.mv rfl (.cons (.neI .none (.s rfl) (.int (by decide))) rfl (.nil (.cb rfl h (fun _ h => ?_) fun _ h => ?_)))))))))))))))))))))))))))
 ·
  obtain ⟨v2, hv4, h⟩ := bnd_some h
  refine .sr [oo, oo, ([5001], [5001]), oo] mixed (.consA (.re hv4 (.buildF (y := (⟨(0 : Int), (0 : Int), (0 : Int), (0 : Int)⟩ : Box)) .none bu41 zc41 rfl .nil .nil)) rfl (.mvA rfl (.consN (.storeAt0 (g := 5001) ty41 rfl (.s rfl) (.s rfl)) rfl (.asnA rfl (.nil (.freezeBox (g := 5001) (ts := [4]) rfl (.cons (t := 4) rfl trivial .nil) SubB.nil rfl (.ret (.thenRet ?_))))))))
  obtain rfl := some_eq h
  exact Ends.ret2 (.inl rfl) Tryd.results20 (ResOK.cellR ty41 rfl trivial Imp.refl) (ResOK.tmp rfl trivial Imp.refl)
 ·
  obtain ⟨v3, hv5, h⟩ := bind_some h
  obtain ⟨r2, hv6, h⟩ := bind_some h
  refine .skip (.then (.seq (.isRef (t := 6) hv5 rfl trivial (.rg [oo, oo, oo, ([5001], [5001]), oo] mixed (.mvA rfl (.mvA rfl (.consA (.call .none (page_view_box_ok hv6) (.cons (.s rfl) (.cons (.s rfl) .nil))) rfl (.consN (.storeAt0 (g := 5001) ty41 rfl (.s rfl) (.s rfl)) rfl (.consA (.assign .none (.int (by decide))) rfl (.nil (.then (.freezeBox (g := 5001) (ts := [4]) rfl (.cons (t := 4) rfl trivial .nil) SubB.nil rfl (.ret ?_)))))))))))))
  obtain rfl := some_eq h
  exact Ends.ret2 (.inl rfl) Tryd.results20 (ResOK.cellR ty41 rfl trivial Imp.refl) (ResOK.tmp rfl trivial Imp.refl)
theorem page_Spread_1_ok {k1 : Int} {c0_1 : (Option Page_view)} {c1_1 : Bool} {r : (Int × Int × Int)}  (h : page_Spread_1 k1 c0_1 c1_1 = some r) : FSpec Tryd.prog 55 [rep k1, ref c0_1, ref c1_1] (tup [rep r.1, rep r.2.1, rep r.2.2]) := by
 unfold page_Spread_1 at h
 obtain ⟨p1, hv1, h⟩ := bind_some h
 obtain ⟨r1, hv2, h⟩ := bind_some h
 refine FSpec.intro (n := 24) fnok55 Tryd.func55 rfl Tryd.ntmps55 rfl (fun F => (.sr [] mixed (.asi (.asi (.asi (.nil (.sr [oo, oo, oo, ([], [7]), ([7], [7])] mixed (.consA (.isRef hv1 (.load .none ty55 (.s rfl))) rfl (.mvA rfl (.consA (.call .none (page_view_box_ok hv2) (.cons (.s rfl) (.cons (.s rfl) .nil))) rfl (.consW (.alloc zo41 rfl) rfl rfl (.consN (.store ty41 rfl rfl (.s rfl)) rfl (.nil (.freeze (t := 7) rfl rfl SubB.nil rfl (.seq (.sr [] mixed (.ld ty4 rfl (.nil (.cb rfl h (fun _ h => ?_) fun _ h => ?_)))))))))))))))))))
 ·
  refine .sr [] mixed (.fa fd41_1 hfd41_1 rfl (.ld ty3 rfl (.fa fd41_3 hfd41_3 rfl (.ld ty3 rfl (.fa fd41_0 hfd41_0 rfl (.ld ty3 rfl (.asn rfl (.asn rfl (.asn rfl (.nil (.ret (.thenRet ?_))))))))))))
  obtain rfl := some_eq h
  exact Ends.ret3 (.inl rfl) Tryd.results55 (ResOK.tmp rfl trivial Imp.refl) (ResOK.tmp rfl trivial Imp.refl) (ResOK.tmp rfl trivial Imp.refl)
 ·
  refine .skip (.then (.sr [] mixed (.fa fd41_0 hfd41_0 rfl (.ld ty3 rfl (.fa fd41_2 hfd41_2 rfl (.ld ty3 rfl (.fa fd41_1 hfd41_1 rfl (.ld ty3 rfl (.asn rfl (.asn rfl (.asn rfl (.nil (.ret ?_)))))))))))))
  obtain rfl := some_eq h
  exact Ends.ret3 (.inl rfl) Tryd.results55 (ResOK.tmp rfl trivial Imp.refl) (ResOK.tmp rfl trivial Imp.refl) (ResOK.tmp rfl trivial Imp.refl)
theorem slices_Clone_int_ok {s1 : (List Int)} {r : (List Int)}  (h : slices_Clone_int s1 = some r) : FSpecO Tryd.prog 56 [rep s1] [] (anyV) [some (rowV 3 r)] := by
 unfold slices_Clone_int at h
 refine FSpecO.intro (n := 8) fnok56 Tryd.func56 rfl Tryd.ntmps56 rfl (fun F => (.sr [] mixed (.cons (.assign .none (.const (x := ([] : (List Int))) (fun M w => ⟨_, ⟨none, 0, rfl, Nat.le_refl _, by decide, rfl⟩, rfl⟩))) rfl (.nil (.seq (.sr [] mixed (.mv rfl (.cons (.eqNil .none sl59 (.s rfl)) rfl (.nil (.condNil (t := 4) rfl trivial (fun hb1 => ?_) ?_))))))))))
 ·
  replace h := nilc_t h hb1
  refine .sr [([], [2])] mixed (.consW (.nilRow (T := 3) (α := Int) rfl) rfl rfl (.nil (.nameRow (t := 2) (g := 5001) rfl rfl rfl (fun s5001 => (.ret (.thenRet (.anon (t := 2) (g := 5001) rfl rfl trivial rfl ?_)))))))
  obtain rfl := some_eq h
  exact Ends.ret1O (.inl rfl) [2] Tryd.results56 (by decide) (.res rfl rfl) (ResOK.tmp rfl trivial (fun _ _ _ _ => trivial))
 ·
  replace h := nilc_f h
  obtain ⟨hn2, h⟩ := need_some h
  obtain ⟨v1, hv3, h⟩ := bnd_some h
  refine .skip (.then (.sr [([], [5]), oo, ([5], [7, 5]), ([7], [2, 7])] mixed (.consW (.buildSliceO (xs := []) rfl sl59 ty3 hz3 .nil rfl (by decide)) rfl rfl (.mvA rfl (.consW (.append (k := 5) rk59 rfl (.tmp rfl) (.s rfl) hn2) rfl rfl (.consW (.passRow rfl (.tmp rfl)) rfl rfl (.nil (.reB (t := 2) rfl (congrArg (rowV 3) hv3) (.nameRow (t := 2) (g := 5002) rfl rfl rfl (fun s5002 => (.ret (.anon (t := 2) (g := 5002) rfl rfl trivial rfl ?_))))))))))))
  obtain rfl := some_eq h
  exact Ends.ret1O (.inl rfl) [2] Tryd.results56 (by decide) (.res rfl rfl) (ResOK.tmp rfl trivial (fun _ _ _ _ => trivial))
theorem cmp_isNaN_int_ok {x1 : Int} {r : Bool}  (h : cmp_isNaN_int x1 = some r) : FSpec Tryd.prog 102 [rep x1] (rep r) := by
 unfold cmp_isNaN_int at h
 refine FSpec.intro (n := 6) fnok102 Tryd.func102 rfl Tryd.ntmps102 rfl (fun F => (.sr [] mixed (.cons (.assign .none .bool) rfl (.nil (.sr [] mixed (.mv rfl (.mv rfl (.cons (.neI .none (.s rfl) (.s rfl)) rfl (.asn rfl (.nil (.ret ?_)))))))))))
 obtain rfl := some_eq h
 exact Ends.rt Tryd.results102 rfl
theorem cmp_Compare_int_ok {x1 : Int} {y1 : Int} {r : Int}  (h : cmp_Compare_int x1 y1 = some r) : FSpec Tryd.prog 60 [rep x1, rep y1] (rep r) := by
 unfold cmp_Compare_int at h
 obtain ⟨xNaN1, hv1, h⟩ := bind_some h
 obtain ⟨yNaN1, hv2, h⟩ := bind_some h
 refine FSpec.intro (n := 20) fnok60 Tryd.func60 rfl Tryd.ntmps60 rfl (fun F => (.sr [] mixed (.asi (.nil (.sr [] mixed (.mv rfl (.cons (.call .none (cmp_isNaN_int_ok hv1) (.cons (.s rfl) .nil)) rfl (.asn rfl (.nil (.sr [] mixed (.mv rfl (.cons (.call .none (cmp_isNaN_int_ok hv2) (.cons (.s rfl) .nil)) rfl (.asn rfl (.nil (.seq (.sr [] mixed (.mv rfl (.nil (.cb rfl h (fun _ h => ?_) fun _ h => ?_)))))))))))))))))))
 ·
  refine .seq (.sr [] mixed (.mv rfl (.nil (.cb rfl h (fun _ h => ?_) fun _ h => ?_))))
  ·
   refine .sr [] mixed (.asi (.nil (.ret (.thenRet (.thenRet ?_)))))
   obtain rfl := some_eq h
   exact Ends.rt Tryd.results60 rfl
  ·
   refine .skip (.then (.sr [] mixed (.asi (.nil (.ret (.thenRet ?_))))))
   obtain rfl := some_eq h
   exact Ends.rt Tryd.results60 rfl
 ·
  refine .skip (.then (.seq (.sr [] mixed (.mv rfl (.nil (.cb rfl h (fun _ h => ?_) fun _ h => ?_))))))
  ·
   refine .sr [] mixed (.asi (.nil (.ret (.thenRet ?_))))
   obtain rfl := some_eq h
   exact Ends.rt Tryd.results60 rfl
  ·
   refine .skip (.then (.seq (.sr [] mixed (.mv rfl (.mv rfl (.cons (.lt .none (.s rfl) (.s rfl)) rfl (.nil (.cb rfl h (fun _ h => ?_) fun _ h => ?_))))))))
   ·
    refine .sr [] mixed (.asi (.nil (.ret (.thenRet ?_))))
    obtain rfl := some_eq h
    exact Ends.rt Tryd.results60 rfl
   ·
    refine .skip (.then (.seq (.sr [] mixed (.mv rfl (.mv rfl (.cons (.gt .none (.s rfl) (.s rfl)) rfl (.nil (.cb rfl h (fun _ h => ?_) fun _ h => ?_))))))))
    ·
     refine .sr [] mixed (.asi (.nil (.ret (.thenRet ?_))))
     obtain rfl := some_eq h
     exact Ends.rt Tryd.results60 rfl
    ·
     refine .skip (.then (.sr [] mixed (.asi (.nil (.ret ?_)))))
     obtain rfl := some_eq h
     exact Ends.rt Tryd.results60 rfl
theorem cmp_Or_int_ok {vals1 : (List Int)} {r : Int}  (h : cmp_Or_int vals1 = some r) : FSpec Tryd.prog 59 [rep vals1] (rep r) := by
 unfold cmp_Or_int at h
 refine FSpec.intro (n := 18) fnok59 Tryd.func59 rfl Tryd.ntmps59 rfl (fun F => (.sr [] mixed (.asi (.nil (.sr [] mixed (.asi (.nil (.seq (.sr [] mixed (.mv rfl (.cons (.len .none sl59 (.s rfl)) rfl (.mvi (.nil ?_)))))))))))))
 obtain ⟨o_1, h, hK1⟩ := bindR_some h
 refine .thenJ (ι := Unit) (fun j_1 => []) (fun j_1 => []) (fun s => o_1 = Res.nx s) (.k 3 rfl .nil) SubB.nil ?_ (fun j_1 hj1 => ?_)
 ·
  refine .block (.rforEL h (fun p2_ => [(8, ⟨True, rep p2_.1⟩)]) (fun p2_ => []) (.k 8 rfl .nil) SubB.nil (.k 3 rfl (.k 6 rfl (.k 7 rfl .nil))) SubB.nil (fun p2_ o_2 h hD2 => (.sr [] mixed (.cons (.lt .none (.s rfl) (.s rfl)) rfl (.nil (.seq (.cb rfl h (fun _ h => ?_) fun _ h => ?_)))))))
  ·
   refine .skip (.then (.seq ?_))
   obtain ⟨o_4, h, hK4⟩ := bindD_some h
   unfold cmp_Or_int_L1 at h
   refine .thenJ (ι := Unit) (fun j_4 => []) (fun j_4 => []) (fun s => o_4 = Res.nx s) (.k 3 rfl (.k 6 rfl (.k 7 rfl (.k 8 rfl .nil)))) SubB.nil ?_ (fun j_4 hj4 => ?_)
   ·
    obtain ⟨hn5, h⟩ := need_some h
    obtain ⟨val1, hv6, h⟩ := bnd_some h
    refine .block (.sr [] mixed (.cons (.indexAddr .none sl59 ty3 (.s rfl) (.s rfl) (fun _ => hn5)) rfl (.ld ty3 rfl (.cons (.re hv6 (.assign .none (.s rfl))) rfl (.nil (.sr [] mixed (.mv rfl (.mv rfl (.cons (.neI .none (.s rfl) (.s rfl)) rfl (.nil (.cb rfl h (fun _ h => ?_) fun _ h => ?_)))))))))))
    ·
     refine .sr [] mixed (.mv rfl (.asn rfl (.nil (.ret (.blkRet (.thenRet (.thenRet (.blkRet (.thenRet ?_)))))))))
     replace h := resd_ab hK4 (some_eq h)
     replace h := hD2 _ (some_eq h)
     replace h := resb_ab hK1 (some_eq h)
     obtain rfl := some_eq h
     exact Ends.rt Tryd.results59 rfl
    ·
     exact .skip (.blkNormal (Ends.j _ (some_eq h)))
   ·
    have h := resd_nx hK4 hj4
    exact .rg [] mixed (.cons (.addW .none (.s rfl) (.int (by decide))) rfl (.mv rfl (.nil (Ends.ag (some_eq h)))))
  ·
   refine .exit (.thenExit (.thenExit (.blkExit ?_)))
   replace h := hD2 _ (some_eq h)
   exact Ends.j _ (some_eq h)
 ·
  have h := resb_nx hK1 hj1
  refine .sr [] mixed (.mv rfl (.asn rfl (.nil (.ret ?_))))
  obtain rfl := some_eq h
  exact Ends.rt Tryd.results59 rfl
theorem page_Spread_2_ok {a1 : Int} {b1 : Int} {c0_1 : (Int → Option (Int × Int × Int))} {r : Int}  (h : page_Spread_2 a1 b1 c0_1 = some r) : FSpec Tryd.prog 58 [rep a1, rep b1, refS (fn1 Tryd.prog tup3 c0_1)] (rep r) := by
 unfold page_Spread_2 at h
 obtain ⟨r1, hv1, h⟩ := bind_some h
 obtain ⟨r2, hv2, h⟩ := bind_some h
 obtain ⟨r3, hv3, h⟩ := bind_some h
 obtain ⟨r4, hv4, h⟩ := bind_some h
 obtain ⟨r5, hv5, h⟩ := bind_some h
 refine FSpec.intro (n := 34) fnok58 Tryd.func58 rfl Tryd.ntmps58 rfl (fun F => (.sr [] mixed (.asi (.nil (.sr [] mixed (.cons (.loadF .none tr104 (.s rfl)) rfl (.mv rfl (.cons (.callV (a1, r1) .none (.s rfl) (fun _ => hv1) (.cons (.s rfl) .nil)) rfl (.mv rfl (.cons (.extract .none (.s rfl) rfl) rfl (.cons (.extract .none (.s rfl) rfl) rfl (.cons (.extract .none (.s rfl) rfl) rfl (.asn rfl (.asn rfl (.asn rfl (.nil (.sr [] mixed (.cons (.loadF .none tr104 (.s rfl)) rfl (.mv rfl (.cons (.callV (b1, r2) .none (.s rfl) (fun _ => hv2) (.cons (.s rfl) .nil)) rfl (.mv rfl (.cons (.extract .none (.s rfl) rfl) rfl (.cons (.extract .none (.s rfl) rfl) rfl (.cons (.extract .none (.s rfl) rfl) rfl (.asn rfl (.asn rfl (.asn rfl (.nil (.sr [] mixed (.mv rfl (.mv rfl (.cons (.call .none (cmp_Compare_int_ok hv3) (.cons (.s rfl) (.cons (.s rfl) .nil))) rfl (.mv rfl (.mv rfl (.cons (.call .none (cmp_Compare_int_ok hv4) (.cons (.s rfl) (.cons (.s rfl) .nil))) rfl (.cons (.buildSlice (xs := [_, _]) .none sl59 ty3 hz3 (.cons (.s rfl) (.cons (.s rfl) .nil)) rfl (by decide)) rfl (.cons (.call .none (cmp_Or_int_ok hv5) (.cons (.s rfl) .nil)) rfl (.asn rfl (.nil (.ret ?_))))))))))))))))))))))))))))))))))))))))
 obtain rfl := some_eq h
 exact Ends.rt Tryd.results58 rfl
theorem slices_insertionSortCmpFunc_int_ok {data1 : (List Int)} {a1 : Int} {b1 : Int} {cmp1 : (Int → Int → Option Int)} {r : (List Int)} {s53 : Value} (h : slices_insertionSortCmpFunc_int data1 a1 b1 cmp1 = some r) : FSpecO Tryd.prog 116 [isV s53, rep a1, rep b1, fn2 Tryd.prog (rep (α := Int)) cmp1] [(s53, rowV 3 data1)] (anyV) [some (rowV 3 r)] := by
 unfold slices_insertionSortCmpFunc_int at h
 obtain ⟨i1, hv1, h⟩ := bnd_some h
 refine FSpecO.intro (n := 53) fnok116 Tryd.func116 rfl Tryd.ntmps116 rfl (fun F => (.sr [] mixed (.mv rfl (.cons (.addW .none (.s rfl) (.int (by decide))) rfl (.cons (.re hv1 (.assign .none (.s rfl))) rfl (.nil (.block (.loopL h (fun s2_ => [(8, ⟨True, rep s2_.1⟩)]) (fun s2_ => [(53, some (CPred.at s53 (rowV 3 s2_.2)))]) (.k 8 rfl .nil) (.k 53 rfl .nil) (.k 0 rfl (.k 1 rfl (.k 2 rfl (.k 3 rfl .nil)))) SubB.nil (fun s2_ o_2 h hD2 => ?_)))))))))
 unfold slices_insertionSortCmpFunc_int_L1 at h
 refine .seq (.sr [] mixed (.mv rfl (.mv rfl (.cons (.lt .none (.s rfl) (.s rfl)) rfl (.nil (.cb rfl h (fun _ h => ?_) fun _ h => ?_))))))
 ·
  refine .skip (.then (.seq ?_))
  obtain ⟨j_4, h, hK4⟩ := bind_some h
  refine .thenJ (ι := (List Int)) (fun j_4 => []) (fun j_4 => [(53, some (CPred.at s53 (rowV 3 j_4)))]) (fun s => j_4 = s) (.k 0 rfl (.k 1 rfl (.k 2 rfl (.k 3 rfl (.k 8 rfl .nil))))) SubB.nil ?_ (fun j_4' hj4 => ?_)
  ·
   refine .block (.sr [] mixed (.mv rfl (.asn rfl (.nil (.block (.loopL h (fun s5_ => [(9, ⟨True, rep s5_.1⟩)]) (fun s5_ => [(53, some (CPred.at s53 (rowV 3 s5_.2)))]) (.k 9 rfl .nil) (.k 53 rfl .nil) (.k 0 rfl (.k 1 rfl (.k 2 rfl (.k 3 rfl (.k 8 rfl .nil))))) SubB.nil (fun s5_ o_5 h hD5 => ?_)))))))
   unfold slices_insertionSortCmpFunc_int_L2 at h
   obtain ⟨hn6, h⟩ := need_some h
   obtain ⟨hn7, h⟩ := need_some h
   obtain ⟨r1, hv8, h⟩ := bind_some h
   refine .seq (.sr [oo, oo, oo, oo, oo, oo, oo, ([53], []), ([53], []), oo, oo, oo, ([53], []), ([53], []), oo, oo, oo] mixed (.mvA rfl (.mvA rfl (.consA (.gt .none (.s rfl) (.s rfl)) rfl (.mvA rfl (.consA (.move (.at rfl rfl) (.s rfl)) rfl (.consA (.move (.at rfl rfl) (.s rfl)) rfl (.consA (.move (.at rfl rfl) (.s rfl)) rfl (.consA (.indexAddrO (k := 53) (.at rfl rfl) sl59 ty3 (.tmp rfl id) rfl (.tmp rfl id) (fun hg => hn6 hg.2)) rfl (.consA (.loadElem0 (k := 53) (.at rfl rfl) ty3 (.tmp rfl id) rfl (fun hg => hn6 hg.2)) rfl (.consA (.move (.at rfl rfl) (.s rfl)) rfl (.consA (.move (.at rfl rfl) (.s rfl)) rfl (.consA (.subW (.at rfl rfl) (.tmp rfl id) (.int (by decide))) rfl (.consA (.indexAddrO (k := 53) (.at rfl rfl) sl59 ty3 (.tmp rfl id) rfl (.tmp rfl id) (fun hg => hn7 hg.2)) rfl (.consA (.loadElem0 (k := 53) (.at rfl rfl) ty3 (.tmp rfl id) rfl (fun hg => hn7 hg.2)) rfl (.consA (.callV (gx s5_.2 s5_.1, gx s5_.2 (W (s5_.1 - 1)), r1) (.at rfl rfl) (.tmp rfl id) (fun hg => gd_some hv8 (hg.2)) (.cons (.tmp rfl id) (.cons (.tmp rfl id) .nil))) rfl (.consA (.lt (.at rfl rfl) (.tmp rfl id) (.int (by decide))) rfl (.consA (.pickAnd .none (.s rfl) (.tmp rfl id)) rfl (.nil (.cb rfl h (fun _ h => ?_) fun _ h => ?_))))))))))))))))))))
   ·
    obtain ⟨hn10, h⟩ := need_some h
    obtain ⟨v1, hv11, h⟩ := bnd_some h
    obtain ⟨hn12, h⟩ := need_some h
    obtain ⟨v2, hv13, h⟩ := bnd_some h
    obtain ⟨hn14, h⟩ := need_some h
    obtain ⟨hn15, h⟩ := need_some h
    obtain ⟨data2, hv16, h⟩ := bnd_some h
    obtain ⟨j1, hv17, h⟩ := bnd_some h
    exact .skip (.then (.seq (.block (.rg [oo, oo, oo, oo, oo, oo, oo, oo, ([53], []), ([53], []), oo, oo, ([53], []), ([53], []), ([53], []), ([53], [53]), ([53], []), ([53], [53])] mixed (.mvA rfl (.mvA rfl (.mvA rfl (.mvA rfl (.consA (.subW .none (.s rfl) (.int (by decide))) rfl (.mvA rfl (.mvA rfl (.consA (.subW .none (.s rfl) (.int (by decide))) rfl (.consA (.indexAddrO (k := 53) .none sl59 ty3 (.s rfl) rfl (.s rfl) (fun _ => hn10)) rfl (.consA (.re hv11 (.loadElem0 (k := 53) .none ty3 (.s rfl) rfl (fun _ => hn10))) rfl (.mvA rfl (.mvA rfl (.consA (.indexAddrO (k := 53) .none sl59 ty3 (.s rfl) rfl (.s rfl) (fun _ => hn12)) rfl (.consA (.re hv13 (.loadElem0 (k := 53) .none ty3 (.s rfl) rfl (fun _ => hn12))) rfl (.consA (.indexAddrO (k := 53) .none sl59 ty3 (.s rfl) rfl (.s rfl) (fun _ => hn14)) rfl (.consN (.storeElem0 (k := 53) ty3 (.s rfl) rfl (.s rfl) hn14) rfl (.consA (.indexAddrO (k := 53) .none sl59 ty3 (.s rfl) rfl (.s rfl) (fun _ => hn15)) rfl (.consN (.storeElem0 (k := 53) ty3 (.s rfl) rfl (.s rfl) hn15) rfl (.nil (.blkNormal (.then (.reB (t := 53) rfl (congrArg (fun y => CPred.at s53 (rowV 3 y)) hv16) (.rg [] mixed (.mv rfl (.cons (.subW .none (.s rfl) (.int (by decide))) rfl (.cons (.re hv17 (.assign .none (.s rfl))) rfl (.nil (Ends.ag (some_eq h)))))))))))))))))))))))))))))))))
   ·
    refine .exit (.thenExit (.thenExit (.blkExit (.blkNormal ?_))))
    replace h := hD5 _ (some_eq h)
    exact Ends.j _ (some_eq h)
  ·
   subst hj4; have h := hK4; clear hK4
   obtain ⟨i2, hv18, h⟩ := bnd_some h
   exact .rg [] mixed (.mv rfl (.cons (.addW .none (.s rfl) (.int (by decide))) rfl (.cons (.re hv18 (.assign .none (.s rfl))) rfl (.nil (Ends.ag (some_eq h))))))
 ·
  refine .exit (.thenExit (.thenExit (.blkExit ?_)))
  replace h := hD2 _ (some_eq h)
  obtain rfl := some_eq h
  exact Ends.ret0O (.inr rfl) [53] Tryd.results116 (by decide) (.held rfl .nil)
theorem slices_swapRangeCmpFunc_int_ok {data1 : (List Int)} {a1 : Int} {b1 : Int} {n1 : Int} {cmp1 : (Int → Int → Option Int)} {r : (List Int)} {s38 : Value} (h : slices_swapRangeCmpFunc_int data1 a1 b1 n1 cmp1 = some r) : FSpecO Tryd.prog 134 [isV s38, rep a1, rep b1, rep n1, fn2 Tryd.prog (rep (α := Int)) cmp1] [(s38, rowV 3 data1)] (anyV) [some (rowV 3 r)] := by
 unfold slices_swapRangeCmpFunc_int at h
 refine FSpecO.intro (n := 38) fnok134 Tryd.func134 rfl Tryd.ntmps134 rfl (fun F => (.sr [] mixed (.asi (.nil (.block (.loopL h (fun s1_ => [(10, ⟨True, rep s1_.1⟩)]) (fun s1_ => [(38, some (CPred.at s38 (rowV 3 s1_.2)))]) (.k 10 rfl .nil) (.k 38 rfl .nil) (.k 0 rfl (.k 1 rfl (.k 2 rfl (.k 3 rfl .nil)))) SubB.nil (fun s1_ o_1 h hD1 => ?_)))))))
 unfold slices_swapRangeCmpFunc_int_L1 at h
 refine .seq (.sr [] mixed (.mv rfl (.mv rfl (.cons (.lt .none (.s rfl) (.s rfl)) rfl (.nil (.cb rfl h (fun _ h => ?_) fun _ h => ?_))))))
 ·
  obtain ⟨hn3, h⟩ := need_some h
  obtain ⟨v1, hv4, h⟩ := bnd_some h
  obtain ⟨hn5, h⟩ := need_some h
  obtain ⟨v2, hv6, h⟩ := bnd_some h
  obtain ⟨hn7, h⟩ := need_some h
  obtain ⟨hn8, h⟩ := need_some h
  obtain ⟨data2, hv9, h⟩ := bnd_some h
  obtain ⟨i1, hv10, h⟩ := bnd_some h
  exact .skip (.then (.seq (.block (.rg [oo, oo, oo, oo, oo, oo, oo, oo, oo, oo, oo, oo, ([38], []), ([38], []), oo, oo, oo, oo, ([38], []), ([38], []), ([38], []), ([38], [38]), ([38], []), ([38], [38])] mixed (.mvA rfl (.mvA rfl (.mvA rfl (.consA (.addW .none (.s rfl) (.s rfl)) rfl (.mvA rfl (.mvA rfl (.mvA rfl (.consA (.addW .none (.s rfl) (.s rfl)) rfl (.mvA rfl (.mvA rfl (.mvA rfl (.consA (.addW .none (.s rfl) (.s rfl)) rfl (.consA (.indexAddrO (k := 38) .none sl59 ty3 (.s rfl) rfl (.s rfl) (fun _ => hn3)) rfl (.consA (.re hv4 (.loadElem0 (k := 38) .none ty3 (.s rfl) rfl (fun _ => hn3))) rfl (.mvA rfl (.mvA rfl (.mvA rfl (.consA (.addW .none (.s rfl) (.s rfl)) rfl (.consA (.indexAddrO (k := 38) .none sl59 ty3 (.s rfl) rfl (.s rfl) (fun _ => hn5)) rfl (.consA (.re hv6 (.loadElem0 (k := 38) .none ty3 (.s rfl) rfl (fun _ => hn5))) rfl (.consA (.indexAddrO (k := 38) .none sl59 ty3 (.s rfl) rfl (.s rfl) (fun _ => hn7)) rfl (.consN (.storeElem0 (k := 38) ty3 (.s rfl) rfl (.s rfl) hn7) rfl (.consA (.indexAddrO (k := 38) .none sl59 ty3 (.s rfl) rfl (.s rfl) (fun _ => hn8)) rfl (.consN (.storeElem0 (k := 38) ty3 (.s rfl) rfl (.s rfl) hn8) rfl (.nil (.blkNormal (.then (.reB (t := 38) rfl (congrArg (fun y => CPred.at s38 (rowV 3 y)) hv9) (.rg [] mixed (.mv rfl (.cons (.addW .none (.s rfl) (.int (by decide))) rfl (.cons (.re hv10 (.assign .none (.s rfl))) rfl (.nil (Ends.ag (some_eq h)))))))))))))))))))))))))))))))))))))))
 ·
  refine .exit (.thenExit (.thenExit (.blkExit ?_)))
  replace h := hD1 _ (some_eq h)
  obtain rfl := some_eq h
  exact Ends.ret0O (.inr rfl) [38] Tryd.results134 (by decide) (.held rfl .nil)
theorem slices_rotateCmpFunc_int_ok {data1 : (List Int)} {a1 : Int} {m1 : Int} {b1 : Int} {cmp1 : (Int → Int → Option Int)} {r : (List Int)} {s58 : Value} (h : slices_rotateCmpFunc_int data1 a1 m1 b1 cmp1 = some r) : FSpecO Tryd.prog 128 [isV s58, rep a1, rep m1, rep b1, fn2 Tryd.prog (rep (α := Int)) cmp1] [(s58, rowV 3 data1)] (anyV) [some (rowV 3 r)] := by
 unfold slices_rotateCmpFunc_int at h
 obtain ⟨i1, hv1, h⟩ := bnd_some h
 obtain ⟨j1, hv2, h⟩ := bnd_some h
 refine FSpecO.intro (n := 58) fnok128 Tryd.func128 rfl Tryd.ntmps128 rfl (fun F => (.sr [] mixed (.mv rfl (.mv rfl (.cons (.subW .none (.s rfl) (.s rfl)) rfl (.cons (.re hv1 (.assign .none (.s rfl))) rfl (.nil (.sr [] mixed (.mv rfl (.mv rfl (.cons (.subW .none (.s rfl) (.s rfl)) rfl (.cons (.re hv2 (.assign .none (.s rfl))) rfl (.nil (.seq ?_))))))))))))))
 obtain ⟨j_3, h, hK3⟩ := bind_some h
 refine .thenJ (ι := (Int × (List Int))) (fun j_3 => [(10, ⟨True, rep j_3.1⟩)]) (fun j_3 => [(58, some (CPred.at s58 (rowV 3 j_3.2)))]) (fun s => j_3 = s) (.k 0 rfl (.k 2 rfl (.k 4 rfl .nil))) SubB.nil ?_ (fun j_3' hj3 => ?_)
 ·
  refine .block (.loopL h (fun s4_ => [(10, ⟨True, rep s4_.1⟩), (11, ⟨True, rep s4_.2.1⟩)]) (fun s4_ => [(58, some (CPred.at s58 (rowV 3 s4_.2.2)))]) (.k 10 rfl (.k 11 rfl .nil)) (.k 58 rfl .nil) (.k 0 rfl (.k 2 rfl (.k 4 rfl .nil))) SubB.nil (fun s4_ o_4 h hD4 => ?_))
  unfold slices_rotateCmpFunc_int_L1 at h
  refine .seq (.sr [] mixed (.mv rfl (.mv rfl (.cons (.neI .none (.s rfl) (.s rfl)) rfl (.nil (.cb rfl h (fun _ h => ?_) fun _ h => ?_))))))
  ·
   refine .skip (.then (.block (.sr [] mixed (.mv rfl (.mv rfl (.cons (.gt .none (.s rfl) (.s rfl)) rfl (.nil (.cb rfl h (fun _ h => ?_) fun _ h => ?_))))))))
   ·
    obtain ⟨r1, hv7, h⟩ := bind_some h
    refine .sr [oo, oo, oo, oo, oo, oo, oo, ([58], [58])] mixed (.mvA rfl (.mvA rfl (.mvA rfl (.consA (.subW .none (.s rfl) (.s rfl)) rfl (.mvA rfl (.mvA rfl (.mvA rfl (.consW (.callO [58] (slices_swapRangeCmpFunc_int_ok hv7) (.cons (.s rfl) (.cons (.s rfl) (.cons (.s rfl) (.cons (.s rfl) (.cons (.s rfl) .nil))))) (.cons (k := 58) rfl .nil) rfl (by decide) (by decide) (by intro d h; cases h; decide)) rfl rfl ?_))))))))
    obtain ⟨i2, hv8, h⟩ := bnd_some h
    exact .nil (.rg [] mixed (.mv rfl (.mv rfl (.cons (.subW .none (.s rfl) (.s rfl)) rfl (.cons (.re hv8 (.assign .none (.s rfl))) rfl (.nil (.blkNormal (Ends.ag (some_eq h)))))))))
   ·
    obtain ⟨r2, hv9, h⟩ := bind_some h
    refine .sr [oo, oo, oo, oo, oo, oo, oo, oo, oo, oo, oo, ([58], [58])] mixed (.mvA rfl (.mvA rfl (.mvA rfl (.consA (.subW .none (.s rfl) (.s rfl)) rfl (.mvA rfl (.mvA rfl (.consA (.addW .none (.s rfl) (.s rfl)) rfl (.mvA rfl (.consA (.subW .none (.s rfl) (.s rfl)) rfl (.mvA rfl (.mvA rfl (.consW (.callO [58] (slices_swapRangeCmpFunc_int_ok hv9) (.cons (.s rfl) (.cons (.s rfl) (.cons (.s rfl) (.cons (.s rfl) (.cons (.s rfl) .nil))))) (.cons (k := 58) rfl .nil) rfl (by decide) (by decide) (by intro d h; cases h; decide)) rfl rfl ?_))))))))))))
    obtain ⟨j2, hv10, h⟩ := bnd_some h
    exact .nil (.rg [] mixed (.mv rfl (.mv rfl (.cons (.subW .none (.s rfl) (.s rfl)) rfl (.cons (.re hv10 (.assign .none (.s rfl))) rfl (.nil (.blkNormal (Ends.ag (some_eq h)))))))))
  ·
   refine .exit (.thenExit (.thenExit (.blkExit ?_)))
   replace h := hD4 _ (some_eq h)
   exact Ends.j _ (some_eq h)
 ·
  subst hj3; have h := hK3; clear hK3
  obtain ⟨r3, hv11, h⟩ := bind_some h
  refine .rg [oo, oo, oo, oo, oo, oo, oo, ([58], [58])] mixed (.mvA rfl (.mvA rfl (.mvA rfl (.consA (.subW .none (.s rfl) (.s rfl)) rfl (.mvA rfl (.mvA rfl (.mvA rfl (.consW (.callO [58] (slices_swapRangeCmpFunc_int_ok hv11) (.cons (.s rfl) (.cons (.s rfl) (.cons (.s rfl) (.cons (.s rfl) (.cons (.s rfl) .nil))))) (.cons (k := 58) rfl .nil) rfl (by decide) (by decide) (by intro d h; cases h; decide)) rfl rfl (.nil ?_)))))))))
  obtain rfl := some_eq h
  exact Ends.ret0O (.inr rfl) [58] Tryd.results128 (by decide) (.held rfl .nil)
set_option maxHeartbeats 4000000 in
theorem slices_symMergeCmpFunc_int_okS {self : ((List Int) × Int × Int × Int × (Int → Int → Option Int)) → Option (List Int)} (hself : ∀ {s220 : Value} (x : ((List Int) × Int × Int × Int × (Int → Int → Option Int))) (r : (List Int)), self x = some r → FSpecO Tryd.prog 117 [isV s220, rep x.2.1, rep x.2.2.1, rep x.2.2.2.1, fn2 Tryd.prog (rep (α := Int)) x.2.2.2.2] [(s220, rowV 3 x.1)] (anyV) [some (rowV 3 r)]) {s220 : Value} {x : ((List Int) × Int × Int × Int × (Int → Int → Option Int))} {r : (List Int)} (h : slices_symMergeCmpFunc_int_body self x = some r) : FSpecO Tryd.prog 117 [isV s220, rep x.2.1, rep x.2.2.1, rep x.2.2.2.1, fn2 Tryd.prog (rep (α := Int)) x.2.2.2.2] [(s220, rowV 3 x.1)] (anyV) [some (rowV 3 r)] := by
 unfold slices_symMergeCmpFunc_int_body at h
 refine FSpecO.intro (n := 220) fnok117 Tryd.func117 rfl Tryd.ntmps117 rfl (fun F => (.seq (.sr [] mixed (.mv rfl (.mv rfl (.cons (.subW .none (.s rfl) (.s rfl)) rfl (.cons (.eqI .none (.s rfl) (.int (by decide))) rfl (.nil ?_))))))))
 obtain ⟨o_1, h, hK1⟩ := bindR_some h
 refine .thenJ (ι := Unit) (fun j_1 => []) (fun j_1 => []) (fun s => o_1 = Res.nx s) (.k 0 rfl (.k 1 rfl (.k 2 rfl (.k 3 rfl (.k 4 rfl .nil))))) (.k 220 rfl .nil) ?_ (fun j_1 hj1 => ?_)
 ·
  refine .cb rfl h (fun _ h => ?_) fun _ h => ?_
  ·
   refine .sr [] mixed (.mv rfl (.asn rfl (.nil (.sr [] mixed (.mv rfl (.asn rfl (.nil (.seq ?_))))))))
   obtain ⟨j_3, h, hK3⟩ := bind_some h
   refine .thenJ (ι := Int) (fun j_3 => [(10, ⟨True, rep j_3⟩)]) (fun j_3 => []) (fun s => j_3 = s) (.k 0 rfl (.k 1 rfl .nil)) (.k 220 rfl .nil) ?_ (fun j_3' hj3 => ?_)
   ·
    refine .block (.loopL h (fun s4_ => [(10, ⟨True, rep s4_.1⟩), (11, ⟨True, rep s4_.2⟩)]) (fun s4_ => []) (.k 10 rfl (.k 11 rfl .nil)) SubB.nil (.k 0 rfl (.k 1 rfl (.k 4 rfl .nil))) (.k 220 rfl .nil) (fun s4_ o_4 h hD4 => ?_))
    unfold slices_symMergeCmpFunc_int_L1 at h
    refine .seq (.sr [] mixed (.mv rfl (.mv rfl (.cons (.lt .none (.s rfl) (.s rfl)) rfl (.nil (.cb rfl h (fun _ h => ?_) fun _ h => ?_))))))
    ·
     obtain ⟨h1, hv6, h⟩ := bnd_some h
     obtain ⟨hn7, h⟩ := need_some h
     obtain ⟨hn8, h⟩ := need_some h
     obtain ⟨r1, hv9, h⟩ := bind_some h
     refine .skip (.then (.block (.sr [] mixed (.mv rfl (.mv rfl (.cons (.addW .none (.s rfl) (.s rfl)) rfl (.cons (.toK .none (by kernel_rfl) Tryd.underlying160 (.s rfl)) rfl (.cons (.kshr .none (.s rfl) .ki (fun _ => by decide)) rfl (.cons (.toInt .none (by kernel_rfl) Tryd.underlying3 (.s rfl)) rfl (.cons (.re hv6 (.assign .none (.s rfl))) rfl (.nil (.sr [oo, oo, oo, ([220], []), ([220], []), oo, oo, ([220], []), ([220], []), oo, oo] mixed (.mvA rfl (.mvA rfl (.mvA rfl (.consA (.indexAddrO (k := 220) .none sl59 ty3 (.s rfl) rfl (.s rfl) (fun _ => hn7)) rfl (.consA (.loadElem0 (k := 220) .none ty3 (.s rfl) rfl (fun _ => hn7)) rfl (.mvA rfl (.mvA rfl (.consA (.indexAddrO (k := 220) .none sl59 ty3 (.s rfl) rfl (.s rfl) (fun _ => hn8)) rfl (.consA (.loadElem0 (k := 220) .none ty3 (.s rfl) rfl (fun _ => hn8)) rfl (.consA (.callV (gx x.1 h1, gx x.1 x.2.1, r1) .none (.s rfl) (fun _ => hv9) (.cons (.s rfl) (.cons (.s rfl) .nil))) rfl (.consA (.lt .none (.s rfl) (.int (by decide))) rfl (.nil (.cb rfl h (fun _ h => ?_) fun _ h => ?_)))))))))))))))))))))))))
     ·
      obtain ⟨i1, hv11, h⟩ := bnd_some h
      exact .rg [] mixed (.mv rfl (.cons (.addW .none (.s rfl) (.int (by decide))) rfl (.cons (.re hv11 (.assign .none (.s rfl))) rfl (.nil (.blkNormal (Ends.ag (some_eq h)))))))
     ·
      exact .rg [] mixed (.mv rfl (.asn rfl (.nil (.blkNormal (Ends.ag (some_eq h))))))
    ·
     refine .exit (.thenExit (.thenExit (.blkExit ?_)))
     replace h := hD4 _ (some_eq h)
     exact Ends.j _ (some_eq h)
   ·
    subst hj3; have h := hK3; clear hK3
    refine .seq (.sr [] mixed (.mv rfl (.asn rfl (.nil ?_))))
    obtain ⟨j_12, h, hK12⟩ := bind_some h
    refine .thenJ (ι := (List Int)) (fun j_12 => []) (fun j_12 => [(220, some (CPred.at s220 (rowV 3 j_12)))]) (fun s => j_12 = s) Sub.nil SubB.nil ?_ (fun j_12' hj12 => ?_)
    ·
     refine .block (.loopL h (fun s13_ => [(13, ⟨True, rep s13_.1⟩)]) (fun s13_ => [(220, some (CPred.at s220 (rowV 3 s13_.2)))]) (.k 13 rfl .nil) (.k 220 rfl .nil) (.k 0 rfl (.k 10 rfl .nil)) SubB.nil (fun s13_ o_13 h hD13 => ?_))
     unfold slices_symMergeCmpFunc_int_L2 at h
     refine .seq (.sr [] mixed (.mv rfl (.mv rfl (.cons (.subW .none (.s rfl) (.int (by decide))) rfl (.cons (.lt .none (.s rfl) (.s rfl)) rfl (.nil (.cb rfl h (fun _ h => ?_) fun _ h => ?_)))))))
     ·
      obtain ⟨hn15, h⟩ := need_some h
      obtain ⟨v1, hv16, h⟩ := bnd_some h
      obtain ⟨hn17, h⟩ := need_some h
      obtain ⟨v2, hv18, h⟩ := bnd_some h
      obtain ⟨hn19, h⟩ := need_some h
      obtain ⟨hn20, h⟩ := need_some h
      obtain ⟨data2, hv21, h⟩ := bnd_some h
      obtain ⟨k1, hv22, h⟩ := bnd_some h
      exact .skip (.then (.seq (.block (.rg [oo, oo, oo, oo, oo, oo, oo, oo, ([220], []), ([220], []), oo, oo, ([220], []), ([220], []), ([220], []), ([220], [220]), ([220], []), ([220], [220])] mixed (.mvA rfl (.mvA rfl (.mvA rfl (.mvA rfl (.consA (.addW .none (.s rfl) (.int (by decide))) rfl (.mvA rfl (.mvA rfl (.consA (.addW .none (.s rfl) (.int (by decide))) rfl (.consA (.indexAddrO (k := 220) .none sl59 ty3 (.s rfl) rfl (.s rfl) (fun _ => hn15)) rfl (.consA (.re hv16 (.loadElem0 (k := 220) .none ty3 (.s rfl) rfl (fun _ => hn15))) rfl (.mvA rfl (.mvA rfl (.consA (.indexAddrO (k := 220) .none sl59 ty3 (.s rfl) rfl (.s rfl) (fun _ => hn17)) rfl (.consA (.re hv18 (.loadElem0 (k := 220) .none ty3 (.s rfl) rfl (fun _ => hn17))) rfl (.consA (.indexAddrO (k := 220) .none sl59 ty3 (.s rfl) rfl (.s rfl) (fun _ => hn19)) rfl (.consN (.storeElem0 (k := 220) ty3 (.s rfl) rfl (.s rfl) hn19) rfl (.consA (.indexAddrO (k := 220) .none sl59 ty3 (.s rfl) rfl (.s rfl) (fun _ => hn20)) rfl (.consN (.storeElem0 (k := 220) ty3 (.s rfl) rfl (.s rfl) hn20) rfl (.nil (.blkNormal (.then (.reB (t := 220) rfl (congrArg (fun y => CPred.at s220 (rowV 3 y)) hv21) (.rg [] mixed (.mv rfl (.cons (.addW .none (.s rfl) (.int (by decide))) rfl (.cons (.re hv22 (.assign .none (.s rfl))) rfl (.nil (Ends.ag (some_eq h)))))))))))))))))))))))))))))))))
     ·
      refine .exit (.thenExit (.thenExit (.blkExit ?_)))
      replace h := hD13 _ (some_eq h)
      exact Ends.j _ (some_eq h)
    ·
     subst hj12; have h := hK12; clear hK12
     refine .ret (.thenRet ?_)
     replace h := resb_ab hK1 (some_eq h)
     obtain rfl := some_eq h
     exact Ends.ret0O (.inl rfl) [220] Tryd.results117 (by decide) (.held rfl .nil)
  ·
   exact .skip (Ends.j _ (some_eq h))
 ·
  have h := resb_nx hK1 hj1
  refine .seq (.sr [] mixed (.mv rfl (.mv rfl (.cons (.subW .none (.s rfl) (.s rfl)) rfl (.cons (.eqI .none (.s rfl) (.int (by decide))) rfl (.nil ?_))))))
  obtain ⟨o_23, h, hK23⟩ := bindR_some h
  refine .thenJ (ι := Unit) (fun j_23 => []) (fun j_23 => []) (fun s => o_23 = Res.nx s) (.k 0 rfl (.k 1 rfl (.k 2 rfl (.k 3 rfl (.k 4 rfl .nil))))) (.k 220 rfl .nil) ?_ (fun j_23 hj23 => ?_)
  ·
   refine .cb rfl h (fun _ h => ?_) fun _ h => ?_
   ·
    refine .sr [] mixed (.mv rfl (.asn rfl (.nil (.sr [] mixed (.mv rfl (.asn rfl (.nil (.seq ?_))))))))
    obtain ⟨j_25, h, hK25⟩ := bind_some h
    refine .thenJ (ι := Int) (fun j_25 => [(14, ⟨True, rep j_25⟩)]) (fun j_25 => []) (fun s => j_25 = s) (.k 0 rfl (.k 2 rfl .nil)) (.k 220 rfl .nil) ?_ (fun j_25' hj25 => ?_)
    ·
     refine .block (.loopL h (fun s26_ => [(14, ⟨True, rep s26_.1⟩), (15, ⟨True, rep s26_.2⟩)]) (fun s26_ => []) (.k 14 rfl (.k 15 rfl .nil)) SubB.nil (.k 0 rfl (.k 2 rfl (.k 4 rfl .nil))) (.k 220 rfl .nil) (fun s26_ o_26 h hD26 => ?_))
     unfold slices_symMergeCmpFunc_int_L3 at h
     refine .seq (.sr [] mixed (.mv rfl (.mv rfl (.cons (.lt .none (.s rfl) (.s rfl)) rfl (.nil (.cb rfl h (fun _ h => ?_) fun _ h => ?_))))))
     ·
      obtain ⟨h2, hv28, h⟩ := bnd_some h
      obtain ⟨hn29, h⟩ := need_some h
      obtain ⟨hn30, h⟩ := need_some h
      obtain ⟨r2, hv31, h⟩ := bind_some h
      refine .skip (.then (.block (.sr [] mixed (.mv rfl (.mv rfl (.cons (.addW .none (.s rfl) (.s rfl)) rfl (.cons (.toK .none (by kernel_rfl) Tryd.underlying160 (.s rfl)) rfl (.cons (.kshr .none (.s rfl) .ki (fun _ => by decide)) rfl (.cons (.toInt .none (by kernel_rfl) Tryd.underlying3 (.s rfl)) rfl (.cons (.re hv28 (.assign .none (.s rfl))) rfl (.nil (.sr [oo, oo, oo, ([220], []), ([220], []), oo, oo, ([220], []), ([220], []), oo, oo, oo] mixed (.mvA rfl (.mvA rfl (.mvA rfl (.consA (.indexAddrO (k := 220) .none sl59 ty3 (.s rfl) rfl (.s rfl) (fun _ => hn29)) rfl (.consA (.loadElem0 (k := 220) .none ty3 (.s rfl) rfl (fun _ => hn29)) rfl (.mvA rfl (.mvA rfl (.consA (.indexAddrO (k := 220) .none sl59 ty3 (.s rfl) rfl (.s rfl) (fun _ => hn30)) rfl (.consA (.loadElem0 (k := 220) .none ty3 (.s rfl) rfl (fun _ => hn30)) rfl (.consA (.callV (gx x.1 x.2.2.1, gx x.1 h2, r2) .none (.s rfl) (fun _ => hv31) (.cons (.s rfl) (.cons (.s rfl) .nil))) rfl (.consA (.lt .none (.s rfl) (.int (by decide))) rfl (.consA (.not .none (.s rfl)) rfl (.nil (.cb rfl h (fun _ h => ?_) fun _ h => ?_))))))))))))))))))))))))))
      ·
       obtain ⟨i2, hv33, h⟩ := bnd_some h
       exact .rg [] mixed (.mv rfl (.cons (.addW .none (.s rfl) (.int (by decide))) rfl (.cons (.re hv33 (.assign .none (.s rfl))) rfl (.nil (.blkNormal (Ends.ag (some_eq h)))))))
      ·
       exact .rg [] mixed (.mv rfl (.asn rfl (.nil (.blkNormal (Ends.ag (some_eq h))))))
     ·
      refine .exit (.thenExit (.thenExit (.blkExit ?_)))
      replace h := hD26 _ (some_eq h)
      exact Ends.j _ (some_eq h)
    ·
     subst hj25; have h := hK25; clear hK25
     refine .seq (.sr [] mixed (.mv rfl (.asn rfl (.nil ?_))))
     obtain ⟨j_34, h, hK34⟩ := bind_some h
     refine .thenJ (ι := (List Int)) (fun j_34 => []) (fun j_34 => [(220, some (CPred.at s220 (rowV 3 j_34)))]) (fun s => j_34 = s) Sub.nil SubB.nil ?_ (fun j_34' hj34 => ?_)
     ·
      refine .block (.loopL h (fun s35_ => [(17, ⟨True, rep s35_.1⟩)]) (fun s35_ => [(220, some (CPred.at s220 (rowV 3 s35_.2)))]) (.k 17 rfl .nil) (.k 220 rfl .nil) (.k 0 rfl (.k 14 rfl .nil)) SubB.nil (fun s35_ o_35 h hD35 => ?_))
      unfold slices_symMergeCmpFunc_int_L4 at h
      refine .seq (.sr [] mixed (.mv rfl (.mv rfl (.cons (.gt .none (.s rfl) (.s rfl)) rfl (.nil (.cb rfl h (fun _ h => ?_) fun _ h => ?_))))))
      ·
       obtain ⟨hn37, h⟩ := need_some h
       obtain ⟨v3, hv38, h⟩ := bnd_some h
       obtain ⟨hn39, h⟩ := need_some h
       obtain ⟨v4, hv40, h⟩ := bnd_some h
       obtain ⟨hn41, h⟩ := need_some h
       obtain ⟨hn42, h⟩ := need_some h
       obtain ⟨data3, hv43, h⟩ := bnd_some h
       obtain ⟨k2, hv44, h⟩ := bnd_some h
       exact .skip (.then (.seq (.block (.rg [oo, oo, oo, oo, oo, oo, oo, oo, ([220], []), ([220], []), oo, oo, ([220], []), ([220], []), ([220], []), ([220], [220]), ([220], []), ([220], [220])] mixed (.mvA rfl (.mvA rfl (.mvA rfl (.mvA rfl (.consA (.subW .none (.s rfl) (.int (by decide))) rfl (.mvA rfl (.mvA rfl (.consA (.subW .none (.s rfl) (.int (by decide))) rfl (.consA (.indexAddrO (k := 220) .none sl59 ty3 (.s rfl) rfl (.s rfl) (fun _ => hn37)) rfl (.consA (.re hv38 (.loadElem0 (k := 220) .none ty3 (.s rfl) rfl (fun _ => hn37))) rfl (.mvA rfl (.mvA rfl (.consA (.indexAddrO (k := 220) .none sl59 ty3 (.s rfl) rfl (.s rfl) (fun _ => hn39)) rfl (.consA (.re hv40 (.loadElem0 (k := 220) .none ty3 (.s rfl) rfl (fun _ => hn39))) rfl (.consA (.indexAddrO (k := 220) .none sl59 ty3 (.s rfl) rfl (.s rfl) (fun _ => hn41)) rfl (.consN (.storeElem0 (k := 220) ty3 (.s rfl) rfl (.s rfl) hn41) rfl (.consA (.indexAddrO (k := 220) .none sl59 ty3 (.s rfl) rfl (.s rfl) (fun _ => hn42)) rfl (.consN (.storeElem0 (k := 220) ty3 (.s rfl) rfl (.s rfl) hn42) rfl (.nil (.blkNormal (.then (.reB (t := 220) rfl (congrArg (fun y => CPred.at s220 (rowV 3 y)) hv43) (.rg [] mixed (.mv rfl (.cons (.subW .none (.s rfl) (.int (by decide))) rfl (.cons (.re hv44 (.assign .none (.s rfl))) rfl (.nil (Ends.ag (some_eq h)))))))))))))))))))))))))))))))))
      ·
       refine .exit (.thenExit (.thenExit (.blkExit ?_)))
       replace h := hD35 _ (some_eq h)
       exact Ends.j _ (some_eq h)
     ·
      subst hj34; have h := hK34; clear hK34
      refine .ret (.thenRet ?_)
      replace h := resb_ab hK23 (some_eq h)
      obtain rfl := some_eq h
      exact Ends.ret0O (.inl rfl) [220] Tryd.results117 (by decide) (.held rfl .nil)
   ·
    exact .skip (Ends.j _ (some_eq h))
  ·
   have h := resb_nx hK23 hj23
   obtain ⟨mid1, hv45, h⟩ := bnd_some h
   obtain ⟨n1, hv46, h⟩ := bnd_some h
   refine .sr [] mixed (.mv rfl (.mv rfl (.cons (.addW .none (.s rfl) (.s rfl)) rfl (.cons (.toK .none (by kernel_rfl) Tryd.underlying160 (.s rfl)) rfl (.cons (.kshr .none (.s rfl) .ki (fun _ => by decide)) rfl (.cons (.toInt .none (by kernel_rfl) Tryd.underlying3 (.s rfl)) rfl (.cons (.re hv45 (.assign .none (.s rfl))) rfl (.nil (.sr [] mixed (.mv rfl (.mv rfl (.cons (.addW .none (.s rfl) (.s rfl)) rfl (.cons (.re hv46 (.assign .none (.s rfl))) rfl (.nil (.sr [] mixed (.asi (.asi (.nil (.seq (.sr [] mixed (.mv rfl (.mv rfl (.cons (.gt .none (.s rfl) (.s rfl)) rfl (.nil ?_))))))))))))))))))))))))
   obtain ⟨j_47, h, hK47⟩ := bind_some h
   refine .thenJ (ι := (Int × Int)) (fun j_47 => [(20, ⟨True, rep j_47.1⟩), (21, ⟨True, rep j_47.2⟩)]) (fun j_47 => []) (fun s => j_47 = s) (.k 0 rfl (.k 1 rfl (.k 2 rfl (.k 3 rfl (.k 4 rfl (.k 18 rfl (.k 19 rfl .nil))))))) (.k 220 rfl .nil) ?_ (fun j_47' hj47 => ?_)
   ·
    refine .cb rfl h (fun _ h => ?_) fun _ h => ?_
    ·
     obtain ⟨start1, hv49, h⟩ := bnd_some h
     exact .sr [] mixed (.mv rfl (.mv rfl (.cons (.subW .none (.s rfl) (.s rfl)) rfl (.cons (.re hv49 (.assign .none (.s rfl))) rfl (.nil (.rg [] mixed (.mv rfl (.asn rfl (.nil (Ends.j _ (some_eq h)))))))))))
    ·
     exact .sr [] mixed (.mv rfl (.asn rfl (.nil (.rg [] mixed (.mv rfl (.asn rfl (.nil (Ends.j _ (some_eq h)))))))))
   ·
    subst hj47; have h := hK47; clear hK47
    refine .sr [] mixed (.mv rfl (.cons (.subW .none (.s rfl) (.int (by decide))) rfl (.asn rfl (.nil (.seq ?_)))))
    obtain ⟨j_50, h, hK50⟩ := bind_some h
    refine .thenJ (ι := Int) (fun j_50 => [(20, ⟨True, rep j_50⟩)]) (fun j_50 => []) (fun s => j_50 = s) (.k 0 rfl (.k 1 rfl (.k 2 rfl (.k 3 rfl (.k 4 rfl (.k 18 rfl (.k 19 rfl .nil))))))) (.k 220 rfl .nil) ?_ (fun j_50' hj50 => ?_)
    ·
     refine .block (.loopL h (fun s51_ => [(20, ⟨True, rep s51_.1⟩), (21, ⟨True, rep s51_.2⟩)]) (fun s51_ => []) (.k 20 rfl (.k 21 rfl .nil)) SubB.nil (.k 0 rfl (.k 1 rfl (.k 2 rfl (.k 3 rfl (.k 4 rfl (.k 18 rfl (.k 19 rfl (.k 22 rfl .nil)))))))) (.k 220 rfl .nil) (fun s51_ o_51 h hD51 => ?_))
     unfold slices_symMergeCmpFunc_int_L5 at h
     refine .seq (.sr [] mixed (.mv rfl (.mv rfl (.cons (.lt .none (.s rfl) (.s rfl)) rfl (.nil (.cb rfl h (fun _ h => ?_) fun _ h => ?_))))))
     ·
      obtain ⟨c1, hv53, h⟩ := bnd_some h
      obtain ⟨hn54, h⟩ := need_some h
      obtain ⟨hn55, h⟩ := need_some h
      obtain ⟨r3, hv56, h⟩ := bind_some h
      refine .skip (.then (.block (.sr [] mixed (.mv rfl (.mv rfl (.cons (.addW .none (.s rfl) (.s rfl)) rfl (.cons (.toK .none (by kernel_rfl) Tryd.underlying160 (.s rfl)) rfl (.cons (.kshr .none (.s rfl) .ki (fun _ => by decide)) rfl (.cons (.toInt .none (by kernel_rfl) Tryd.underlying3 (.s rfl)) rfl (.cons (.re hv53 (.assign .none (.s rfl))) rfl (.nil (.sr [oo, oo, oo, oo, oo, ([220], []), ([220], []), oo, oo, ([220], []), ([220], []), oo, oo, oo] mixed (.mvA rfl (.mvA rfl (.mvA rfl (.mvA rfl (.consA (.subW .none (.s rfl) (.s rfl)) rfl (.consA (.indexAddrO (k := 220) .none sl59 ty3 (.s rfl) rfl (.s rfl) (fun _ => hn54)) rfl (.consA (.loadElem0 (k := 220) .none ty3 (.s rfl) rfl (fun _ => hn54)) rfl (.mvA rfl (.mvA rfl (.consA (.indexAddrO (k := 220) .none sl59 ty3 (.s rfl) rfl (.s rfl) (fun _ => hn55)) rfl (.consA (.loadElem0 (k := 220) .none ty3 (.s rfl) rfl (fun _ => hn55)) rfl (.consA (.callV (gx x.1 (W ((W (n1 - 1)) - c1)), gx x.1 c1, r3) .none (.s rfl) (fun _ => hv56) (.cons (.s rfl) (.cons (.s rfl) .nil))) rfl (.consA (.lt .none (.s rfl) (.int (by decide))) rfl (.consA (.not .none (.s rfl)) rfl (.nil (.cb rfl h (fun _ h => ?_) fun _ h => ?_))))))))))))))))))))))))))))
      ·
       obtain ⟨start2, hv58, h⟩ := bnd_some h
       exact .rg [] mixed (.mv rfl (.cons (.addW .none (.s rfl) (.int (by decide))) rfl (.cons (.re hv58 (.assign .none (.s rfl))) rfl (.nil (.blkNormal (Ends.ag (some_eq h)))))))
      ·
       exact .rg [] mixed (.mv rfl (.asn rfl (.nil (.blkNormal (Ends.ag (some_eq h))))))
     ·
      refine .exit (.thenExit (.thenExit (.blkExit ?_)))
      replace h := hD51 _ (some_eq h)
      exact Ends.j _ (some_eq h)
    ·
     subst hj50; have h := hK50; clear hK50
     obtain ⟨end1, hv59, h⟩ := bnd_some h
     refine .sr [] mixed (.mv rfl (.mv rfl (.cons (.subW .none (.s rfl) (.s rfl)) rfl (.cons (.re hv59 (.assign .none (.s rfl))) rfl (.nil (.seq (.sr [] mixed (.mv rfl (.mv rfl (.cons (.lt .none (.s rfl) (.s rfl)) rfl (.mv rfl (.cons (.move (.at rfl rfl) (.s rfl)) rfl (.cons (.move (.at rfl rfl) (.s rfl)) rfl (.cons (.lt (.at rfl rfl) (.tmp rfl id) (.tmp rfl id)) rfl (.cons (.pickAnd .none (.s rfl) (.tmp rfl id)) rfl (.nil ?_))))))))))))))))
     obtain ⟨j_60, h, hK60⟩ := bind_some h
     refine .thenJ (ι := (List Int)) (fun j_60 => []) (fun j_60 => [(220, some (CPred.at s220 (rowV 3 j_60)))]) (fun s => j_60 = s) (.k 0 rfl (.k 1 rfl (.k 3 rfl (.k 4 rfl (.k 18 rfl (.k 20 rfl (.k 24 rfl .nil))))))) SubB.nil ?_ (fun j_60' hj60 => ?_)
     ·
      refine .cb rfl h (fun _ h => ?_) fun _ h => ?_
      ·
       obtain ⟨r4, hv62, h⟩ := bind_some h
       exact .rg [oo, oo, oo, oo, oo, ([220], [220])] mixed (.mvA rfl (.mvA rfl (.mvA rfl (.mvA rfl (.mvA rfl (.consW (.callO [220] (slices_rotateCmpFunc_int_ok hv62) (.cons (.s rfl) (.cons (.s rfl) (.cons (.s rfl) (.cons (.s rfl) (.cons (.s rfl) .nil))))) (.cons (k := 220) rfl .nil) rfl (by decide) (by decide) (by intro d h; cases h; decide)) rfl rfl (.nil (Ends.j _ (some_eq h)))))))))
      ·
       exact .skip (Ends.j _ (some_eq h))
     ·
      subst hj60; have h := hK60; clear hK60
      refine .seq (.sr [] mixed (.mv rfl (.mv rfl (.cons (.lt .none (.s rfl) (.s rfl)) rfl (.mv rfl (.cons (.move (.at rfl rfl) (.s rfl)) rfl (.cons (.move (.at rfl rfl) (.s rfl)) rfl (.cons (.lt (.at rfl rfl) (.tmp rfl id) (.tmp rfl id)) rfl (.cons (.pickAnd .none (.s rfl) (.tmp rfl id)) rfl (.nil ?_))))))))))
      obtain ⟨j_63, h, hK63⟩ := bind_some h
      refine .thenJ (ι := (List Int)) (fun j_63 => []) (fun j_63 => [(220, some (CPred.at s220 (rowV 3 j_63)))]) (fun s => j_63 = s) (.k 0 rfl (.k 3 rfl (.k 4 rfl (.k 18 rfl (.k 24 rfl .nil))))) SubB.nil ?_ (fun j_63' hj63 => ?_)
      ·
       refine .cb rfl h (fun _ h => ?_) fun _ h => ?_
       ·
        obtain ⟨r5, hv65, h⟩ := bind_some h
        exact .rg [oo, oo, oo, oo, oo, ([220], [220])] mixed (.mvA rfl (.mvA rfl (.mvA rfl (.mvA rfl (.mvA rfl (.consW (.callO [220] (hself _ _ hv65) (.cons (.s rfl) (.cons (.s rfl) (.cons (.s rfl) (.cons (.s rfl) (.cons (.s rfl) .nil))))) (.cons (k := 220) rfl .nil) rfl (by decide) (by decide) (by intro d h; cases h; decide)) rfl rfl (.nil (Ends.j _ (some_eq h)))))))))
       ·
        exact .skip (Ends.j _ (some_eq h))
      ·
       subst hj63; have h := hK63; clear hK63
       refine .sr [] mixed (.mv rfl (.mv rfl (.cons (.lt .none (.s rfl) (.s rfl)) rfl (.mv rfl (.cons (.move (.at rfl rfl) (.s rfl)) rfl (.cons (.move (.at rfl rfl) (.s rfl)) rfl (.cons (.lt (.at rfl rfl) (.tmp rfl id) (.tmp rfl id)) rfl (.cons (.pickAnd .none (.s rfl) (.tmp rfl id)) rfl (.nil (.cb rfl h (fun _ h => ?_) fun _ h => ?_))))))))))
       ·
        obtain ⟨r6, hv67, h⟩ := bind_some h
        refine .rg [oo, oo, oo, oo, oo, ([220], [220])] mixed (.mvA rfl (.mvA rfl (.mvA rfl (.mvA rfl (.mvA rfl (.consW (.callO [220] (hself _ _ hv67) (.cons (.s rfl) (.cons (.s rfl) (.cons (.s rfl) (.cons (.s rfl) (.cons (.s rfl) .nil))))) (.cons (k := 220) rfl .nil) rfl (by decide) (by decide) (by intro d h; cases h; decide)) rfl rfl (.nil ?_)))))))
        obtain rfl := some_eq h
        exact Ends.ret0O (.inr rfl) [220] Tryd.results117 (by decide) (.held rfl .nil)
       ·
        refine .skip ?_
        obtain rfl := some_eq h
        exact Ends.ret0O (.inr rfl) [220] Tryd.results117 (by decide) (.held rfl .nil)
theorem slices_symMergeCmpFunc_int_okN : ∀ (k : Nat) {s220 : Value} (x : ((List Int) × Int × Int × Int × (Int → Int → Option Int))) (r : (List Int)) (h : fixN slices_symMergeCmpFunc_int_body k x = some r), FSpecO Tryd.prog 117 [isV s220, rep x.2.1, rep x.2.2.1, rep x.2.2.2.1, fn2 Tryd.prog (rep (α := Int)) x.2.2.2.2] [(s220, rowV 3 x.1)] (anyV) [some (rowV 3 r)]
 | 0, _, x, r, h => by simp [fixN] at h
 | k + 1, _, x, r, h => slices_symMergeCmpFunc_int_okS (slices_symMergeCmpFunc_int_okN k) h
theorem slices_symMergeCmpFunc_int_ok {data1 : (List Int)} {a1 : Int} {m1 : Int} {b1 : Int} {cmp1 : (Int → Int → Option Int)} {r : (List Int)} {s220 : Value} (h : slices_symMergeCmpFunc_int data1 a1 m1 b1 cmp1 = some r) : FSpecO Tryd.prog 117 [isV s220, rep a1, rep m1, rep b1, fn2 Tryd.prog (rep (α := Int)) cmp1] [(s220, rowV 3 data1)] (anyV) [some (rowV 3 r)] :=
 let ⟨k, hk⟩ := fixp_some h
 slices_symMergeCmpFunc_int_okN k (data1, a1, m1, b1, cmp1) r hk
theorem slices_stableCmpFunc_int_ok {data1 : (List Int)} {n1 : Int} {cmp1 : (Int → Int → Option Int)} {r : (List Int)} {s63 : Value} (h : slices_stableCmpFunc_int data1 n1 cmp1 = some r) : FSpecO Tryd.prog 101 [isV s63, rep n1, fn2 Tryd.prog (rep (α := Int)) cmp1] [(s63, rowV 3 data1)] (anyV) [some (rowV 3 r)] := by
 unfold slices_stableCmpFunc_int at h
 refine FSpecO.intro (n := 63) fnok101 Tryd.func101 rfl Tryd.ntmps101 rfl (fun F => (.sr [] mixed (.asi (.nil (.sr [] mixed (.mv rfl (.asi (.asn rfl (.nil (.seq ?_))))))))))
 obtain ⟨j_1, h, hK1⟩ := bind_some h
 refine .thenJ (ι := (Int × (List Int))) (fun j_1 => [(7, ⟨True, rep j_1.1⟩)]) (fun j_1 => [(63, some (CPred.at s63 (rowV 3 j_1.2)))]) (fun s => j_1 = s) (.k 0 rfl (.k 1 rfl (.k 2 rfl (.k 6 rfl .nil)))) SubB.nil ?_ (fun j_1' hj1 => ?_)
 ·
  refine .block (.loopL h (fun s2_ => [(7, ⟨True, rep s2_.1⟩), (8, ⟨True, rep s2_.2.1⟩)]) (fun s2_ => [(63, some (CPred.at s63 (rowV 3 s2_.2.2)))]) (.k 7 rfl (.k 8 rfl .nil)) (.k 63 rfl .nil) (.k 0 rfl (.k 1 rfl (.k 2 rfl (.k 6 rfl .nil)))) SubB.nil (fun s2_ o_2 h hD2 => ?_))
  unfold slices_stableCmpFunc_int_L1 at h
  refine .seq (.sr [] mixed (.mv rfl (.mv rfl (.cons (.le .none (.s rfl) (.s rfl)) rfl (.nil (.cb rfl h (fun _ h => ?_) fun _ h => ?_))))))
  ·
   obtain ⟨r1, hv4, h⟩ := bind_some h
   refine .skip (.then (.block (.sr [oo, oo, oo, oo, ([63], [63])] mixed (.mvA rfl (.mvA rfl (.mvA rfl (.mvA rfl (.consW (.callO [63] (slices_insertionSortCmpFunc_int_ok hv4) (.cons (.s rfl) (.cons (.s rfl) (.cons (.s rfl) (.cons (.s rfl) .nil)))) (.cons (k := 63) rfl .nil) rfl (by decide) (by decide) (by intro d h; cases h; decide)) rfl rfl ?_))))))))
   obtain ⟨b1, hv5, h⟩ := bnd_some h
   exact .nil (.sr [] mixed (.mv rfl (.asn rfl (.nil (.rg [] mixed (.mv rfl (.mv rfl (.cons (.addW .none (.s rfl) (.s rfl)) rfl (.cons (.re hv5 (.assign .none (.s rfl))) rfl (.nil (.blkNormal (Ends.ag (some_eq h)))))))))))))
  ·
   refine .exit (.thenExit (.thenExit (.blkExit ?_)))
   replace h := hD2 _ (some_eq h)
   exact Ends.j _ (some_eq h)
 ·
  subst hj1; have h := hK1; clear hK1
  obtain ⟨r2, hv6, h⟩ := bind_some h
  refine .sr [oo, oo, oo, oo, ([63], [63])] mixed (.mvA rfl (.mvA rfl (.mvA rfl (.mvA rfl (.consW (.callO [63] (slices_insertionSortCmpFunc_int_ok hv6) (.cons (.s rfl) (.cons (.s rfl) (.cons (.s rfl) (.cons (.s rfl) .nil)))) (.cons (k := 63) rfl .nil) rfl (by decide) (by decide) (by intro d h; cases h; decide)) rfl rfl (.nil (.block (.loopL h (fun s7_ => [(6, ⟨True, rep s7_.1⟩)]) (fun s7_ => [(63, some (CPred.at s63 (rowV 3 s7_.2)))]) (.k 6 rfl .nil) (.k 63 rfl .nil) (.k 0 rfl (.k 1 rfl (.k 2 rfl .nil))) SubB.nil (fun s7_ o_7 h hD7 => ?_)))))))))
  unfold slices_stableCmpFunc_int_L2 at h
  refine .seq (.sr [] mixed (.mv rfl (.mv rfl (.cons (.lt .none (.s rfl) (.s rfl)) rfl (.nil (.cb rfl h (fun _ h => ?_) fun _ h => ?_))))))
  ·
   obtain ⟨b2, hv9, h⟩ := bnd_some h
   refine .skip (.then (.block (.sr [] mixed (.mv rfl (.cons (.mulW .none (.int (by decide)) (.s rfl)) rfl (.asi (.cons (.re hv9 (.assign .none (.s rfl))) rfl (.nil (.seq ?_)))))))))
   obtain ⟨j_10, h, hK10⟩ := bind_some h
   refine .thenJ (ι := (Int × (List Int))) (fun j_10 => [(7, ⟨True, rep j_10.1⟩)]) (fun j_10 => [(63, some (CPred.at s63 (rowV 3 j_10.2)))]) (fun s => j_10 = s) (.k 0 rfl (.k 1 rfl (.k 2 rfl (.k 6 rfl .nil)))) SubB.nil ?_ (fun j_10' hj10 => ?_)
   ·
    refine .block (.loopL h (fun s11_ => [(7, ⟨True, rep s11_.1⟩), (8, ⟨True, rep s11_.2.1⟩)]) (fun s11_ => [(63, some (CPred.at s63 (rowV 3 s11_.2.2)))]) (.k 7 rfl (.k 8 rfl .nil)) (.k 63 rfl .nil) (.k 0 rfl (.k 1 rfl (.k 2 rfl (.k 6 rfl .nil)))) SubB.nil (fun s11_ o_11 h hD11 => ?_))
    unfold slices_stableCmpFunc_int_L3 at h
    refine .seq (.sr [] mixed (.mv rfl (.mv rfl (.cons (.le .none (.s rfl) (.s rfl)) rfl (.nil (.cb rfl h (fun _ h => ?_) fun _ h => ?_))))))
    ·
     obtain ⟨r3, hv13, h⟩ := bind_some h
     refine .skip (.then (.block (.sr [oo, oo, oo, oo, oo, oo, oo, ([63], [63])] mixed (.mvA rfl (.mvA rfl (.mvA rfl (.mvA rfl (.consA (.addW .none (.s rfl) (.s rfl)) rfl (.mvA rfl (.mvA rfl (.consW (.callO [63] (slices_symMergeCmpFunc_int_ok hv13) (.cons (.s rfl) (.cons (.s rfl) (.cons (.s rfl) (.cons (.s rfl) (.cons (.s rfl) .nil))))) (.cons (k := 63) rfl .nil) rfl (by decide) (by decide) (by intro d h; cases h; decide)) rfl rfl ?_)))))))))))
     obtain ⟨b3, hv14, h⟩ := bnd_some h
     exact .nil (.sr [] mixed (.mv rfl (.asn rfl (.nil (.rg [] mixed (.mv rfl (.mv rfl (.cons (.mulW .none (.int (by decide)) (.s rfl)) rfl (.cons (.addW .none (.s rfl) (.s rfl)) rfl (.cons (.re hv14 (.assign .none (.s rfl))) rfl (.nil (.blkNormal (Ends.ag (some_eq h))))))))))))))
    ·
     refine .exit (.thenExit (.thenExit (.blkExit ?_)))
     replace h := hD11 _ (some_eq h)
     exact Ends.j _ (some_eq h)
   ·
    subst hj10; have h := hK10; clear hK10
    obtain ⟨m1, hv15, h⟩ := bnd_some h
    refine .seq (.sr [] mixed (.mv rfl (.mv rfl (.cons (.addW .none (.s rfl) (.s rfl)) rfl (.cons (.re hv15 (.assign .none (.s rfl))) rfl (.nil (.sr [] mixed (.mv rfl (.mv rfl (.cons (.lt .none (.s rfl) (.s rfl)) rfl (.nil ?_)))))))))))
    obtain ⟨j_16, h, hK16⟩ := bind_some h
    refine .thenJ (ι := (List Int)) (fun j_16 => []) (fun j_16 => [(63, some (CPred.at s63 (rowV 3 j_16)))]) (fun s => j_16 = s) (.k 0 rfl (.k 1 rfl (.k 2 rfl (.k 6 rfl .nil)))) SubB.nil ?_ (fun j_16' hj16 => ?_)
    ·
     refine .cb rfl h (fun _ h => ?_) fun _ h => ?_
     ·
      obtain ⟨r4, hv18, h⟩ := bind_some h
      exact .rg [oo, oo, oo, oo, oo, ([63], [63])] mixed (.mvA rfl (.mvA rfl (.mvA rfl (.mvA rfl (.mvA rfl (.consW (.callO [63] (slices_symMergeCmpFunc_int_ok hv18) (.cons (.s rfl) (.cons (.s rfl) (.cons (.s rfl) (.cons (.s rfl) (.cons (.s rfl) .nil))))) (.cons (k := 63) rfl .nil) rfl (by decide) (by decide) (by intro d h; cases h; decide)) rfl rfl (.nil (Ends.j _ (some_eq h)))))))))
     ·
      exact .skip (Ends.j _ (some_eq h))
    ·
     subst hj16; have h := hK16; clear hK16
     obtain ⟨blockSize1, hv19, h⟩ := bnd_some h
     exact .rg [] mixed (.mv rfl (.cons (.mulW .none (.s rfl) (.int (by decide))) rfl (.cons (.re hv19 (.assign .none (.s rfl))) rfl (.nil (.blkNormal (Ends.ag (some_eq h)))))))
  ·
   refine .exit (.thenExit (.thenExit (.blkExit ?_)))
   replace h := hD7 _ (some_eq h)
   obtain rfl := some_eq h
   exact Ends.ret0O (.inr rfl) [63] Tryd.results101 (by decide) (.held rfl .nil)
theorem slices_SortStableFunc_int_ok {x1 : (List Int)} {cmp1 : (Int → Int → Option Int)} {r : (List Int)} {s9 : Value} (h : slices_SortStableFunc_int x1 cmp1 = some r) : FSpecO Tryd.prog 57 [isV s9, fn2 Tryd.prog (rep (α := Int)) cmp1] [(s9, rowV 3 x1)] (anyV) [some (rowV 3 r)] := by
 unfold slices_SortStableFunc_int at h
 obtain ⟨r1, hv1, h⟩ := bind_some h
 refine FSpecO.intro (n := 9) fnok57 Tryd.func57 rfl Tryd.ntmps57 rfl (fun F => (.rg [oo, oo, ([9], []), oo, ([9], [9])] mixed (.mvA rfl (.mvA rfl (.consA (.lenO (k := 9) sl59 (.told (.s rfl) rfl)) rfl (.mvA rfl (.consW (.callO [9] (slices_stableCmpFunc_int_ok hv1) (.cons (.s rfl) (.cons (.s rfl) (.cons (.s rfl) .nil))) (.cons (k := 9) rfl .nil) rfl (by decide) (by decide) (by intro d h; cases h; decide)) rfl rfl (.nil ?_))))))))
 obtain rfl := some_eq h
 exact Ends.ret0O (.inr rfl) [9] Tryd.results57 (by decide) (.held rfl .nil)
theorem geom_Floor_ok {a1 : Int} {b1 : Int} {r : Int}  (h : geom_Floor a1 b1 = some r) : FSpec Tryd.prog 61 [rep a1, rep b1] (rep r) := by
 unfold geom_Floor at h
 obtain ⟨hn1, h⟩ := need_some h
 obtain ⟨q1, hv2, h⟩ := bnd_some h
 obtain ⟨hn3, h⟩ := need_some h
 refine FSpec.intro (n := 16) fnok61 Tryd.func61 rfl Tryd.ntmps61 rfl (fun F => (.sr [] mixed (.asi (.nil (.sr [] mixed (.mv rfl (.mv rfl (.cons (.quo .none (.s rfl) (.s rfl) (fun _ => hn1)) rfl (.cons (.re hv2 (.assign .none (.s rfl))) rfl (.nil (.seq (.sr [] mixed (.mv rfl (.mv rfl (.cons (.rem .none (.s rfl) (.s rfl) (fun _ => hn3)) rfl (.cons (.lt .none (.s rfl) (.int (by decide))) rfl (.nil ?_)))))))))))))))))
 obtain ⟨j_4, h, hK4⟩ := bind_some h
 refine .thenJ (ι := Int) (fun j_4 => [(5, ⟨True, rep j_4⟩)]) (fun j_4 => []) (fun s => j_4 = s) Sub.nil SubB.nil ?_ (fun j_4' hj4 => ?_)
 ·
  refine .cb rfl h (fun _ h => ?_) fun _ h => ?_
  ·
   obtain ⟨q2, hv6, h⟩ := bnd_some h
   exact .rg [] mixed (.mv rfl (.cons (.subW .none (.s rfl) (.int (by decide))) rfl (.cons (.re hv6 (.assign .none (.s rfl))) rfl (.nil (Ends.j _ (some_eq h))))))
  ·
   exact .skip (Ends.j _ (some_eq h))
 ·
  subst hj4; have h := hK4; clear hK4
  refine .sr [] mixed (.mv rfl (.asn rfl (.nil (.ret ?_))))
  obtain rfl := some_eq h
  exact Ends.rt Tryd.results61 rfl
set_option maxHeartbeats 4000000 in
theorem page_Spread_ok {d1 : Doc} {ids1 : (List Str)} {down1 : Bool} {r : (Doc × Int)}  (h : page_Spread d1 ids1 down1 = some r) : FSpec Tryd.prog 21 [rep d1, rep ids1, rep down1] (tup [rep r.1, rep r.2]) := by
 unfold page_Spread at h
 obtain ⟨v1, hv1, h⟩ := bnd_some h
 obtain ⟨r1, hv2, h⟩ := bind_some h
 refine FSpec.intro (n := 173) fnok21 Tryd.func21 rfl Tryd.ntmps21 rfl (fun F => (.sr [oo, oo, ([], [6]), oo] mixed (.consA (.box .none (.s rfl)) rfl (.consA (.box .none (.s rfl)) rfl (.consW (.alloc zo25 rfl) rfl rfl (.consA (.assign .none (.int (by decide))) rfl (.nil (.reB (t := 6) rfl (congrArg (cont 25) hv1) (.nameBox (t := 6) (g := 5001) rfl rfl (fun m5001 => (.sr [oo, oo, oo, oo, oo, oo, oo, ([], [8]), ([8], [8]), oo, oo] mixed (.ldA ty25 rfl (.mvA rfl (.consA (.call .none (page_selected_ok hv2) (.cons (.s rfl) (.cons (.s rfl) .nil))) rfl (.mvA rfl (.consA (.extract .none (.s rfl) rfl) rfl (.consA (.extract .none (.s rfl) rfl) rfl (.consA (.extract .none (.s rfl) rfl) rfl (.consW (.alloc zo55 rfl) rfl rfl (.consN (.store ty55 rfl rfl (.s rfl)) rfl (.asnA rfl (.asnA rfl (.nil (.freeze (t := 8) rfl rfl (.k 5001 rfl .nil) rfl (.seq (.sr [] mixed (.mv rfl (.cons (.neI .none (.s rfl) (.int (by decide))) rfl (.nil (.cb rfl h (fun _ h => ?_) fun _ h => ?_))))))))))))))))))))))))))))))
 ·
  obtain ⟨v2, hv4, h⟩ := bnd_some h
  refine .sr [oo, oo, ([5001], [5001]), oo] mixed (.consA (.re hv4 (.buildF (y := (⟨([] : (List DNode)), ([] : (List DEdge))⟩ : Doc)) .none bu25 zc25 rfl .nil .nil)) rfl (.mvA rfl (.consN (.storeAt0 (g := 5001) ty25 rfl (.s rfl) (.s rfl)) rfl (.asnA rfl (.nil (.freezeBox (g := 5001) (ts := [6]) rfl (.cons (t := 6) rfl trivial .nil) SubB.nil rfl (.ret (.thenRet ?_))))))))
  obtain rfl := some_eq h
  exact Ends.ret2 (.inl rfl) Tryd.results21 (ResOK.cellR ty25 rfl trivial Imp.refl) (ResOK.tmp rfl trivial Imp.refl)
 ·
  obtain ⟨n1, hv5, h⟩ := bnd_some h
  refine .skip (.then (.sr [] mixed (.mv rfl (.cons (.len .none sl59 (.s rfl)) rfl (.cons (.re hv5 (.assign .none (.s rfl))) rfl (.nil (.seq (.sr [] mixed (.mv rfl (.cons (.lt .none (.s rfl) (.int (by decide))) rfl (.nil (.cb rfl h (fun _ h => ?_) fun _ h => ?_))))))))))))
  ·
   obtain ⟨v3, hv7, h⟩ := bnd_some h
   refine .sr [oo, ([5001], [5001]), oo] mixed (.consA (.re hv7 (.buildF (y := (⟨([] : (List DNode)), ([] : (List DEdge))⟩ : Doc)) .none bu25 zc25 rfl .nil .nil)) rfl (.consN (.storeAt0 (g := 5001) ty25 rfl (.s rfl) (.s rfl)) rfl (.consA (.assign .none (.int (by decide))) rfl (.nil (.freezeBox (g := 5001) (ts := [6]) rfl (.cons (t := 6) rfl trivial .nil) SubB.nil rfl (.ret (.thenRet ?_)))))))
   obtain rfl := some_eq h
   exact Ends.ret2 (.inl rfl) Tryd.results21 (ResOK.cellR ty25 rfl trivial Imp.refl) (ResOK.tmp rfl trivial Imp.refl)
  ·
   refine .skip (.then (.sr [oo, ([], [12]), ([12], [12])] mixed (.consA (.makeFunc (ι := Int × (Int × Int × Int)) (pre := fun i => (fun x0 => page_Spread_1 x0 r1.1 down1) i.1 = some i.2) (Ss := fun i => [rep i.1]) (S := fun i => tup3 i.2) .none fnok55 (fun i h => page_Spread_1_ok h) (.cons (.s rfl) (.cons (.s rfl) .nil))) rfl (.consW (.alloc zr104 rfl) rfl rfl (.consN (.storeS0 (S := fn1 Tryd.prog tup3 (fun x0 => page_Spread_1 x0 r1.1 down1)) tr104 rfl rfl (.s rfl) fnv_one) rfl (.nil (.freezeKey (t := 12) (S := refS (fn1 Tryd.prog tup3 (fun x0 => page_Spread_1 x0 r1.1 down1))) rfl rfl (.k 5001 rfl .nil) rfl (fun M D w s h hms => contS_ref fnv_one h hms) ?_)))))))
   obtain ⟨order1, hv8, h⟩ := bind_some h
   refine .sr [oo, ([], [55]), ([55], [13, 55])] mixed (.mvA rfl (.consW (.callO [] (slices_Clone_int_ok hv8) (.cons (.s rfl) .nil) .nil rfl (by decide) (by decide) (by intro d h; cases h; decide)) rfl rfl (.consW (.passRow rfl (.tmp rfl)) rfl rfl (.nil (.nameRow (t := 13) (g := 5002) rfl rfl rfl (fun s5002 => (.sr [oo, oo, ([5002], [5002])] mixed (.mvA rfl (.consA (.makeFunc (ι := Int × Int × Int) (pre := fun i => (fun x0 x1 => page_Spread_2 x0 x1 (fun x0 => page_Spread_1 x0 r1.1 down1)) i.1 i.2.1 = some i.2.2) (Ss := fun i => [rep i.1, rep i.2.1]) (S := fun i => rep i.2.2) .none fnok58 (fun i h => page_Spread_2_ok h) (.cons (.s rfl) .nil)) rfl ?_)))))))))
   obtain ⟨r2, hv9, h⟩ := bind_some h
   refine .consW (.callO [5002] (slices_SortStableFunc_int_ok hv9) (.cons (.s rfl) (.cons (.s rfl) .nil)) (.cons (k := 5002) rfl .nil) rfl (by decide) (by decide) (by intro d h; cases h; decide)) rfl rfl ?_
   obtain ⟨hn10, h⟩ := need_some h
   obtain ⟨r3, hv11, h⟩ := bind_some h
   obtain ⟨hn12, h⟩ := need_some h
   obtain ⟨r4, hv13, h⟩ := bind_some h
   obtain ⟨begin1, hv14, h⟩ := bnd_some h
   obtain ⟨free1, hv15, h⟩ := bnd_some h
   obtain ⟨hn16, h⟩ := need_some h
   obtain ⟨v4, hv17, h⟩ := bnd_some h
   refine .nil (.freezeRow (g := 5002) (ts := [13]) rfl (.cons (t := 13) rfl trivial .nil) (.k 5001 rfl .nil) rfl (.sr [] mixed (.cons (.loadF .none tr104 (.s rfl)) rfl (.mv rfl (.cons (.indexAddr .none sl59 ty3 (.s rfl) (.int (by decide)) (fun _ => hn10)) rfl (.ld ty3 rfl (.cons (.callV (gx r2 0, r3) .none (.s rfl) (fun _ => hv11) (.cons (.s rfl) .nil)) rfl (.mv rfl (.cons (.extract .none (.s rfl) rfl) rfl (.cons (.extract .none (.s rfl) rfl) rfl (.cons (.extract .none (.s rfl) rfl) rfl (.asn rfl (.asn rfl (.asn rfl (.nil (.sr [] mixed (.cons (.loadF .none tr104 (.s rfl)) rfl (.mv rfl (.mv rfl (.cons (.subW .none (.s rfl) (.int (by decide))) rfl (.cons (.indexAddr .none sl59 ty3 (.s rfl) (.s rfl) (fun _ => hn12)) rfl (.ld ty3 rfl (.cons (.callV (gx r2 (W (n1 - 1)), r4) .none (.s rfl) (fun _ => hv13) (.cons (.s rfl) .nil)) rfl (.mv rfl (.cons (.extract .none (.s rfl) rfl) rfl (.cons (.extract .none (.s rfl) rfl) rfl (.cons (.extract .none (.s rfl) rfl) rfl (.asn rfl (.asn rfl (.asn rfl (.nil (.sr [] mixed (.mv rfl (.mv rfl (.cons (.addW .none (.s rfl) (.s rfl)) rfl (.cons (.re hv14 (.assign .none (.s rfl))) rfl (.nil (.sr [] mixed (.mv rfl (.mv rfl (.cons (.subW .none (.s rfl) (.s rfl)) rfl (.cons (.re hv15 (.assign .none (.s rfl))) rfl (.nil (.seq (.sr [] mixed (.mv rfl (.mv rfl (.cons (.subW .none (.s rfl) (.int (by decide))) rfl (.cons (.re hv17 (.slice .none sl59 ty3 (.s rfl) (.int (by decide)) (.s rfl) (fun _ => hn16))) rfl (.cons (.len .none sl59 (.s rfl)) rfl (.mvi (.nil ?_))))))))))))))))))))))))))))))))))))))))))))))))))))
   obtain ⟨j_18, h, hK18⟩ := bind_some h
   refine .thenJ (ι := Int) (fun j_18 => [(21, ⟨True, rep j_18⟩)]) (fun j_18 => []) (fun s => j_18 = s) (.k 5 rfl (.k 6 rfl (.k 8 rfl (.k 9 rfl (.k 11 rfl (.k 12 rfl (.k 13 rfl (.k 20 rfl .nil)))))))) (.k 5001 rfl .nil) ?_ (fun j_18' hj18 => ?_)
   ·
    refine .block (.rforL h (fun p19_ => [(90, ⟨True, rep p19_.1⟩), (21, ⟨True, rep p19_.2⟩)]) (fun p19_ => []) (.k 90 rfl (.k 21 rfl .nil)) SubB.nil (.k 5 rfl (.k 6 rfl (.k 8 rfl (.k 9 rfl (.k 11 rfl (.k 12 rfl (.k 13 rfl (.k 20 rfl (.k 88 rfl (.k 89 rfl .nil)))))))))) (.k 5001 rfl .nil) (fun p19_ o_19 h hD19 => (.sr [] mixed (.cons (.lt .none (.s rfl) (.s rfl)) rfl (.nil (.seq (.cb rfl h (fun _ h => ?_) fun _ h => ?_)))))))
    ·
     refine .skip (.then (.seq ?_))
     obtain ⟨j_21, h, hK21⟩ := bind_some h
     unfold page_Spread_L1 at h
     refine .thenJ (ι := Int) (fun j_21 => [(21, ⟨True, rep j_21⟩)]) (fun j_21 => []) (fun s => j_21 = s) (.k 5 rfl (.k 6 rfl (.k 8 rfl (.k 9 rfl (.k 11 rfl (.k 12 rfl (.k 13 rfl (.k 20 rfl (.k 88 rfl (.k 89 rfl (.k 90 rfl .nil))))))))))) (.k 5001 rfl .nil) ?_ (fun j_21' hj21 => ?_)
     ·
      obtain ⟨hn22, h⟩ := need_some h
      obtain ⟨r5, hv23, h⟩ := bind_some h
      obtain ⟨free2, hv24, h⟩ := bnd_some h
      exact .block (.sr [] mixed (.cons (.indexAddr .none sl59 ty3 (.s rfl) (.s rfl) (fun _ => hn22)) rfl (.ld ty3 rfl (.asn rfl (.nil (.sr [] mixed (.cons (.loadF .none tr104 (.s rfl)) rfl (.mv rfl (.cons (.callV (gx v4 p19_.1, r5) .none (.s rfl) (fun _ => hv23) (.cons (.s rfl) .nil)) rfl (.mv rfl (.cons (.extract .none (.s rfl) rfl) rfl (.cons (.extract .none (.s rfl) rfl) rfl (.cons (.extract .none (.s rfl) rfl) rfl (.asn rfl (.asn rfl (.asn rfl (.nil (.rg [] mixed (.mv rfl (.mv rfl (.cons (.subW .none (.s rfl) (.s rfl)) rfl (.cons (.re hv24 (.assign .none (.s rfl))) rfl (.nil (.blkNormal (Ends.j _ (some_eq h))))))))))))))))))))))))))
     ·
      subst hj21; have h := hK21; clear hK21
      exact .rg [] mixed (.cons (.addW .none (.s rfl) (.int (by decide))) rfl (.mv rfl (.nil (Ends.ag (some_eq h)))))
    ·
     refine .exit (.thenExit (.thenExit (.blkExit ?_)))
     replace h := hD19 _ (some_eq h)
     exact Ends.j _ (some_eq h)
   ·
    subst hj18; have h := hK18; clear hK18
    obtain ⟨to1, hv25, h⟩ := bnd_some h
    refine .sr [([], [105]), ([105], [27, 105])] mixed (.consW (.makeMap (K := Int) (V := Int) rfl) rfl rfl (.consW (.passRow rfl (.tmp rfl)) rfl rfl (.nil (.reB (t := 27) rfl (congrArg mapV hv25) (.nameMap (t := 27) (g := 5003) rfl rfl rfl (fun s5003 => (.seq (.sr [] mixed (.mv rfl (.cons (.len .none sl59 (.s rfl)) rfl (.mvi (.nil ?_))))))))))))
    obtain ⟨j_26, h, hK26⟩ := bind_some h
    refine .thenJ (ι := (Int × (GMap Int Int))) (fun j_26 => [(20, ⟨True, rep j_26.1⟩)]) (fun j_26 => [(5003, some (CPred.at s5003 (mapV j_26.2)))]) (fun s => j_26 = s) (.k 5 rfl (.k 6 rfl (.k 8 rfl (.k 9 rfl (.k 27 rfl .nil))))) (.k 5001 rfl .nil) ?_ (fun j_26' hj26 => ?_)
    ·
     refine .block (.rforL h (fun p27_ => [(108, ⟨True, rep p27_.1⟩), (20, ⟨True, rep p27_.2.1⟩)]) (fun p27_ => [(5003, some (CPred.at s5003 (mapV p27_.2.2)))]) (.k 108 rfl (.k 20 rfl .nil)) (.k 5003 rfl .nil) (.k 5 rfl (.k 6 rfl (.k 8 rfl (.k 9 rfl (.k 11 rfl (.k 12 rfl (.k 21 rfl (.k 27 rfl (.k 106 rfl (.k 107 rfl .nil)))))))))) (.k 5001 rfl .nil) (fun p27_ o_27 h hD27 => (.sr [] mixed (.cons (.lt .none (.s rfl) (.s rfl)) rfl (.nil (.seq (.cb rfl h (fun _ h => ?_) fun _ h => ?_)))))))
     ·
      refine .skip (.then (.seq ?_))
      obtain ⟨j_29, h, hK29⟩ := bind_some h
      unfold page_Spread_L2 at h
      refine .thenJ (ι := (Int × (GMap Int Int))) (fun j_29 => [(20, ⟨True, rep j_29.1⟩)]) (fun j_29 => [(5003, some (CPred.at s5003 (mapV j_29.2)))]) (fun s => j_29 = s) (.k 5 rfl (.k 6 rfl (.k 8 rfl (.k 9 rfl (.k 11 rfl (.k 12 rfl (.k 21 rfl (.k 27 rfl (.k 106 rfl (.k 107 rfl (.k 108 rfl .nil))))))))))) (.k 5001 rfl .nil) ?_ (fun j_29' hj29 => ?_)
      ·
       obtain ⟨hn30, h⟩ := need_some h
       obtain ⟨k1, hv31, h⟩ := bnd_some h
       obtain ⟨r6, hv32, h⟩ := bind_some h
       refine .block (.sr [] mixed (.mv rfl (.cons (.indexAddr .none sl59 ty3 (.s rfl) (.s rfl) (fun _ => hn30)) rfl (.ld ty3 rfl (.asn rfl (.cons (.re hv31 (.assign .none (.s rfl))) rfl (.nil (.sr [] mixed (.cons (.loadF .none tr104 (.s rfl)) rfl (.mv rfl (.cons (.callV (k1, r6) .none (.s rfl) (fun _ => hv32) (.cons (.s rfl) .nil)) rfl (.mv rfl (.cons (.extract .none (.s rfl) rfl) rfl (.cons (.extract .none (.s rfl) rfl) rfl (.cons (.extract .none (.s rfl) rfl) rfl (.asn rfl (.asn rfl (.asn rfl (.nil (.sr [] mixed (.mv rfl (.cons (.gt .none (.s rfl) (.int (by decide))) rfl (.mv rfl (.cons (.move (.at rfl rfl) (.s rfl)) rfl (.cons (.move (.at rfl rfl) (.s rfl)) rfl (.cons (.subW (.at rfl rfl) (.tmp rfl id) (.int (by decide))) rfl (.cons (.lt (.at rfl rfl) (.tmp rfl id) (.tmp rfl id)) rfl (.cons (.pickAnd .none (.s rfl) (.tmp rfl id)) rfl (.nil (.cb rfl h (fun _ h => ?_) fun _ h => ?_))))))))))))))))))))))))))))))
       ·
        obtain ⟨r7, hv34, h⟩ := bind_some h
        obtain ⟨to2, hv35, h⟩ := bnd_some h
        obtain ⟨begin2, hv36, h⟩ := bnd_some h
        exact .sr [oo, oo, oo, oo, oo, oo, oo, oo, oo, oo, oo, oo, ([5003], [5003])] mixed (.mvA rfl (.mvA rfl (.mvA rfl (.mvA rfl (.mvA rfl (.consA (.mulW .none (.s rfl) (.s rfl)) rfl (.mvA rfl (.consA (.subW .none (.s rfl) (.int (by decide))) rfl (.consA (.call .none (geom_Floor_ok hv34) (.cons (.s rfl) (.cons (.s rfl) .nil))) rfl (.consA (.addW .none (.s rfl) (.s rfl)) rfl (.mvA rfl (.consA (.subW .none (.s rfl) (.s rfl)) rfl (.consN (.mapUpdate (q := 5003) mo110 (.s rfl) rfl (.s rfl) (.s rfl)) rfl (.nil (.reB (t := 5003) rfl (congrArg (fun y => CPred.at s5003 (mapV y)) hv35) (.rg [] mixed (.mv rfl (.mv rfl (.cons (.addW .none (.s rfl) (.s rfl)) rfl (.cons (.re hv36 (.assign .none (.s rfl))) rfl (.nil (.blkNormal (Ends.j _ (some_eq h))))))))))))))))))))))))
       ·
        exact .skip (.blkNormal (Ends.j _ (some_eq h)))
      ·
       subst hj29; have h := hK29; clear hK29
       exact .rg [] mixed (.cons (.addW .none (.s rfl) (.int (by decide))) rfl (.mv rfl (.nil (Ends.ag (some_eq h)))))
     ·
      refine .exit (.thenExit (.thenExit (.blkExit ?_)))
      replace h := hD27 _ (some_eq h)
      exact Ends.j _ (some_eq h)
    ·
     subst hj26; have h := hK26; clear hK26
     refine .freezeAt (g := 5003) (S := rep j_26.2) (ts := [27]) rfl (.cons (t := 27) rfl trivial .nil) (.k 5001 rfl .nil) rfl (fun M D w h hms => mapV_rep h hms) (.sr [([], [33])] mixed (.consW (.nilRow (T := 102) (α := Page_step) rfl) rfl rfl (.nil (.nameRow (t := 33) (g := 5004) rfl rfl rfl (fun s5004 => (.seq (.sr [] mixed (.mv rfl (.cons (.len .none sl59 (.s rfl)) rfl (.mvi (.nil ?_)))))))))))
     obtain ⟨j_37, h, hK37⟩ := bind_some h
     refine .thenJ (ι := (List Page_step)) (fun j_37 => []) (fun j_37 => [(33, some (rowV 102 j_37))]) (fun s => j_37 = s) (.k 6 rfl (.k 8 rfl .nil)) (.k 5001 rfl .nil) ?_ (fun j_37' hj37 => ?_)
     ·
      refine .block (.anon (t := 33) (g := 5004) rfl rfl trivial rfl (.rforL h (fun p38_ => [(146, ⟨True, rep p38_.1⟩)]) (fun p38_ => [(33, some (rowV 102 p38_.2))]) (.k 146 rfl .nil) (.k 33 rfl .nil) (.k 5 rfl (.k 6 rfl (.k 8 rfl (.k 27 rfl (.k 144 rfl (.k 145 rfl .nil)))))) (.k 5001 rfl .nil) (fun p38_ o_38 h hD38 => (.nameRow (t := 33) (g := 5005) rfl rfl rfl (fun s5005 => (.sr [] mixed (.cons (.lt .none (.s rfl) (.s rfl)) rfl (.nil (.seq (.cb rfl h (fun _ h => ?_) fun _ h => ?_))))))))))
      ·
       refine .skip (.then (.seq ?_))
       obtain ⟨j_40, h, hK40⟩ := bind_some h
       unfold page_Spread_L3 at h
       refine .thenJ (ι := (List Page_step)) (fun j_40 => []) (fun j_40 => [(33, some (rowV 102 j_40))]) (fun s => j_40 = s) (.k 5 rfl (.k 6 rfl (.k 8 rfl (.k 27 rfl (.k 144 rfl (.k 145 rfl (.k 146 rfl .nil))))))) (.k 5001 rfl .nil) ?_ (fun j_40' hj40 => ?_)
       ·
        obtain ⟨hn41, h⟩ := need_some h
        obtain ⟨k2, hv42, h⟩ := bnd_some h
        obtain ⟨v5, hv43, h⟩ := bnd_some h
        refine .block (.sr [] mixed (.cons (.indexAddr .none sl59 ty3 (.s rfl) (.s rfl) (fun _ => hn41)) rfl (.ld ty3 rfl (.cons (.re hv42 (.assign .none (.s rfl))) rfl (.nil (.sr [oo, oo, oo, oo, oo, oo, ([], [36]), ([36], [36])] mixed (.mvA rfl (.consA (.buildSlice (xs := [_]) .none sl59 ty3 hz3 (.cons (.s rfl) .nil) rfl (by decide)) rfl (.mvA rfl (.mvA rfl (.consA (.lookup .none mo110 zo3 (.s rfl) (.s rfl)) rfl (.consA (.re hv43 (.buildF (y := (⟨[k2], j_26.2.getD k2 (0 : Int), (0 : Int)⟩ : Page_step)) .none bu102 zc102 rfl (.cons (.s rfl) (.cons (.s rfl) .nil)) (.cons rfl sf102_0 (.cons rfl sf102_1 .nil)))) rfl (.consW (.alloc zo102 rfl) rfl rfl (.consN (.store ty102 rfl rfl (.s rfl)) rfl (.nil (.nameBox (t := 36) (g := 5006) rfl rfl (fun m5006 => (.seq (.sr [] mixed (.ld ty4 rfl (.nil ?_)))))))))))))))))))))
        obtain ⟨j_44, h, hK44⟩ := bind_some h
        refine .thenJ (ι := Page_step) (fun j_44 => []) (fun j_44 => [(5006, some (boxAt m5006 102 j_44))]) (fun s => j_44 = s) (.k 5 rfl (.k 6 rfl (.k 8 rfl (.k 27 rfl (.k 33 rfl (.k 36 rfl (.k 144 rfl (.k 145 rfl (.k 146 rfl .nil))))))))) (.k 5001 rfl (.k 5005 rfl .nil)) ?_ (fun j_44' hj44 => ?_)
        ·
         refine .cb rfl h (fun _ h => ?_) fun _ h => ?_
         ·
          obtain ⟨v6, hv46, h⟩ := bnd_some h
          exact .rg [oo, oo, oo, oo, oo, oo, ([5006], [5006])] mixed (.mvA rfl (.consA (.buildSlice (xs := [_]) .none sl59 ty3 hz3 (.cons (.s rfl) .nil) rfl (by decide)) rfl (.mvA rfl (.mvA rfl (.consA (.lookup .none mo110 zo3 (.s rfl) (.s rfl)) rfl (.consA (.re hv46 (.buildF (y := (⟨[k2], (0 : Int), j_26.2.getD k2 (0 : Int)⟩ : Page_step)) .none bu102 zc102 rfl (.cons (.s rfl) (.cons (.s rfl) .nil)) (.cons rfl sf102_0 (.cons rfl sf102_2 .nil)))) rfl (.consN (.storeAt0 (g := 5006) ty102 rfl (.s rfl) (.s rfl)) rfl (.nil (Ends.j _ (some_eq h))))))))))
         ·
          exact .skip (Ends.j _ (some_eq h))
        ·
         subst hj44; have h := hK44; clear hK44
         obtain ⟨hn47, h⟩ := need_some h
         exact .freezeBox (g := 5006) (ts := [36]) rfl (.cons (t := 36) rfl trivial .nil) (.k 5001 rfl (.k 5005 rfl .nil)) rfl (.rg [oo, oo, oo, ([5005], [166, 5005]), ([166], [33, 166])] mixed (.mvA rfl (.ldA ty102 rfl (.consA (.buildSlice (xs := [_]) .none sl99 ty102 hz102 (.cons (.s rfl) .nil) rfl (by decide)) rfl (.consW (.append (k := 5005) rk99 rfl (.told (.s rfl) rfl) (.s rfl) hn47) rfl rfl (.consW (.passRow rfl (.tmp rfl)) rfl rfl (.nil (.blkNormal (Ends.j _ (some_eq h))))))))))
       ·
        subst hj40; have h := hK40; clear hK40
        exact .nameRow (t := 33) (g := 5007) rfl rfl rfl (fun s5007 => (.rg [] mixed (.cons (.addW .none (.s rfl) (.int (by decide))) rfl (.mv rfl (.nil (.anon (t := 33) (g := 5007) rfl rfl trivial rfl (Ends.ag (some_eq h))))))))
      ·
       refine .exit (.thenExit (.thenExit (.blkExit (.anon (t := 33) (g := 5005) rfl rfl trivial rfl ?_))))
       replace h := hD38 _ (some_eq h)
       exact Ends.j _ (some_eq h)
     ·
      subst hj37; have h := hK37; clear hK37
      obtain ⟨p1, hv48, h⟩ := bind_some h
      obtain ⟨r8, hv49, h⟩ := bind_some h
      refine .freezeRowA (t := 33) rfl rfl (.k 5001 rfl .nil) rfl (.sr [oo, oo, oo, oo, oo, ([5001], [5001]), oo] mixed (.consA (.isRef hv48 (.load .none ty55 (.s rfl))) rfl (.mvA rfl (.consA (.call .none (page_view_moved_ok hv49) (.cons (.s rfl) (.cons (.s rfl) .nil))) rfl (.consA (.extract .none (.s rfl) rfl) rfl (.consA (.extract .none (.s rfl) rfl) rfl (.consN (.storeAt0 (g := 5001) ty25 rfl (.s rfl) (.s rfl)) rfl (.asnA rfl (.nil (.freezeBox (g := 5001) (ts := [6]) rfl (.cons (t := 6) rfl trivial .nil) SubB.nil rfl (.ret ?_)))))))))))
      obtain rfl := some_eq h
      exact Ends.ret2 (.inl rfl) Tryd.results21 (ResOK.cellR ty25 rfl trivial Imp.refl) (ResOK.tmp rfl trivial Imp.refl)
theorem slices_insertionSortCmpFunc_Box_ok {data1 : (List Box)} {a1 : Int} {b1 : Int} {cmp1 : (Box → Box → Option Int)} {r : (List Box)} {s53 : Value} (h : slices_insertionSortCmpFunc_Box data1 a1 b1 cmp1 = some r) : FSpecO Tryd.prog 103 [isV s53, rep a1, rep b1, fn2 Tryd.prog (rep (α := Int)) cmp1] [(s53, rowV 41 data1)] (anyV) [some (rowV 41 r)] := by
 unfold slices_insertionSortCmpFunc_Box at h
 obtain ⟨i1, hv1, h⟩ := bnd_some h
 refine FSpecO.intro (n := 53) fnok103 Tryd.func103 rfl Tryd.ntmps103 rfl (fun F => (.sr [] mixed (.mv rfl (.cons (.addW .none (.s rfl) (.int (by decide))) rfl (.cons (.re hv1 (.assign .none (.s rfl))) rfl (.nil (.block (.loopL h (fun s2_ => [(8, ⟨True, rep s2_.1⟩)]) (fun s2_ => [(53, some (CPred.at s53 (rowV 41 s2_.2)))]) (.k 8 rfl .nil) (.k 53 rfl .nil) (.k 0 rfl (.k 1 rfl (.k 2 rfl (.k 3 rfl .nil)))) SubB.nil (fun s2_ o_2 h hD2 => ?_)))))))))
 unfold slices_insertionSortCmpFunc_Box_L1 at h
 refine .seq (.sr [] mixed (.mv rfl (.mv rfl (.cons (.lt .none (.s rfl) (.s rfl)) rfl (.nil (.cb rfl h (fun _ h => ?_) fun _ h => ?_))))))
 ·
  refine .skip (.then (.seq ?_))
  obtain ⟨j_4, h, hK4⟩ := bind_some h
  refine .thenJ (ι := (List Box)) (fun j_4 => []) (fun j_4 => [(53, some (CPred.at s53 (rowV 41 j_4)))]) (fun s => j_4 = s) (.k 0 rfl (.k 1 rfl (.k 2 rfl (.k 3 rfl (.k 8 rfl .nil))))) SubB.nil ?_ (fun j_4' hj4 => ?_)
  ·
   refine .block (.sr [] mixed (.mv rfl (.asn rfl (.nil (.block (.loopL h (fun s5_ => [(9, ⟨True, rep s5_.1⟩)]) (fun s5_ => [(53, some (CPred.at s53 (rowV 41 s5_.2)))]) (.k 9 rfl .nil) (.k 53 rfl .nil) (.k 0 rfl (.k 1 rfl (.k 2 rfl (.k 3 rfl (.k 8 rfl .nil))))) SubB.nil (fun s5_ o_5 h hD5 => ?_)))))))
   unfold slices_insertionSortCmpFunc_Box_L2 at h
   obtain ⟨hn6, h⟩ := need_some h
   obtain ⟨hn7, h⟩ := need_some h
   obtain ⟨r1, hv8, h⟩ := bind_some h
   refine .seq (.sr [oo, oo, oo, oo, oo, oo, oo, ([53], []), ([53], []), oo, oo, oo, ([53], []), ([53], []), oo, oo, oo] mixed (.mvA rfl (.mvA rfl (.consA (.gt .none (.s rfl) (.s rfl)) rfl (.mvA rfl (.consA (.move (.at rfl rfl) (.s rfl)) rfl (.consA (.move (.at rfl rfl) (.s rfl)) rfl (.consA (.move (.at rfl rfl) (.s rfl)) rfl (.consA (.indexAddrO (k := 53) (.at rfl rfl) sl51 ty41 (.tmp rfl id) rfl (.tmp rfl id) (fun hg => hn6 hg.2)) rfl (.consA (.loadElem0 (k := 53) (.at rfl rfl) ty41 (.tmp rfl id) rfl (fun hg => hn6 hg.2)) rfl (.consA (.move (.at rfl rfl) (.s rfl)) rfl (.consA (.move (.at rfl rfl) (.s rfl)) rfl (.consA (.subW (.at rfl rfl) (.tmp rfl id) (.int (by decide))) rfl (.consA (.indexAddrO (k := 53) (.at rfl rfl) sl51 ty41 (.tmp rfl id) rfl (.tmp rfl id) (fun hg => hn7 hg.2)) rfl (.consA (.loadElem0 (k := 53) (.at rfl rfl) ty41 (.tmp rfl id) rfl (fun hg => hn7 hg.2)) rfl (.consA (.callV (gx s5_.2 s5_.1, gx s5_.2 (W (s5_.1 - 1)), r1) (.at rfl rfl) (.tmp rfl id) (fun hg => gd_some hv8 (hg.2)) (.cons (.tmp rfl id) (.cons (.tmp rfl id) .nil))) rfl (.consA (.lt (.at rfl rfl) (.tmp rfl id) (.int (by decide))) rfl (.consA (.pickAnd .none (.s rfl) (.tmp rfl id)) rfl (.nil (.cb rfl h (fun _ h => ?_) fun _ h => ?_))))))))))))))))))))
   ·
    obtain ⟨hn10, h⟩ := need_some h
    obtain ⟨v1, hv11, h⟩ := bnd_some h
    obtain ⟨hn12, h⟩ := need_some h
    obtain ⟨v2, hv13, h⟩ := bnd_some h
    obtain ⟨hn14, h⟩ := need_some h
    obtain ⟨hn15, h⟩ := need_some h
    obtain ⟨data2, hv16, h⟩ := bnd_some h
    obtain ⟨j1, hv17, h⟩ := bnd_some h
    exact .skip (.then (.seq (.block (.rg [oo, oo, oo, oo, oo, oo, oo, oo, ([53], []), ([53], []), oo, oo, ([53], []), ([53], []), ([53], []), ([53], [53]), ([53], []), ([53], [53])] mixed (.mvA rfl (.mvA rfl (.mvA rfl (.mvA rfl (.consA (.subW .none (.s rfl) (.int (by decide))) rfl (.mvA rfl (.mvA rfl (.consA (.subW .none (.s rfl) (.int (by decide))) rfl (.consA (.indexAddrO (k := 53) .none sl51 ty41 (.s rfl) rfl (.s rfl) (fun _ => hn10)) rfl (.consA (.re hv11 (.loadElem0 (k := 53) .none ty41 (.s rfl) rfl (fun _ => hn10))) rfl (.mvA rfl (.mvA rfl (.consA (.indexAddrO (k := 53) .none sl51 ty41 (.s rfl) rfl (.s rfl) (fun _ => hn12)) rfl (.consA (.re hv13 (.loadElem0 (k := 53) .none ty41 (.s rfl) rfl (fun _ => hn12))) rfl (.consA (.indexAddrO (k := 53) .none sl51 ty41 (.s rfl) rfl (.s rfl) (fun _ => hn14)) rfl (.consN (.storeElem0 (k := 53) ty41 (.s rfl) rfl (.s rfl) hn14) rfl (.consA (.indexAddrO (k := 53) .none sl51 ty41 (.s rfl) rfl (.s rfl) (fun _ => hn15)) rfl (.consN (.storeElem0 (k := 53) ty41 (.s rfl) rfl (.s rfl) hn15) rfl (.nil (.blkNormal (.then (.reB (t := 53) rfl (congrArg (fun y => CPred.at s53 (rowV 41 y)) hv16) (.rg [] mixed (.mv rfl (.cons (.subW .none (.s rfl) (.int (by decide))) rfl (.cons (.re hv17 (.assign .none (.s rfl))) rfl (.nil (Ends.ag (some_eq h)))))))))))))))))))))))))))))))))
   ·
    refine .exit (.thenExit (.thenExit (.blkExit (.blkNormal ?_))))
    replace h := hD5 _ (some_eq h)
    exact Ends.j _ (some_eq h)
  ·
   subst hj4; have h := hK4; clear hK4
   obtain ⟨i2, hv18, h⟩ := bnd_some h
   exact .rg [] mixed (.mv rfl (.cons (.addW .none (.s rfl) (.int (by decide))) rfl (.cons (.re hv18 (.assign .none (.s rfl))) rfl (.nil (Ends.ag (some_eq h))))))
 ·
  refine .exit (.thenExit (.thenExit (.blkExit ?_)))
  replace h := hD2 _ (some_eq h)
  obtain rfl := some_eq h
  exact Ends.ret0O (.inr rfl) [53] Tryd.results103 (by decide) (.held rfl .nil)
theorem slices_swapRangeCmpFunc_Box_ok {data1 : (List Box)} {a1 : Int} {b1 : Int} {n1 : Int} {cmp1 : (Box → Box → Option Int)} {r : (List Box)} {s38 : Value} (h : slices_swapRangeCmpFunc_Box data1 a1 b1 n1 cmp1 = some r) : FSpecO Tryd.prog 129 [isV s38, rep a1, rep b1, rep n1, fn2 Tryd.prog (rep (α := Int)) cmp1] [(s38, rowV 41 data1)] (anyV) [some (rowV 41 r)] := by
 unfold slices_swapRangeCmpFunc_Box at h
 refine FSpecO.intro (n := 38) fnok129 Tryd.func129 rfl Tryd.ntmps129 rfl (fun F => (.sr [] mixed (.asi (.nil (.block (.loopL h (fun s1_ => [(10, ⟨True, rep s1_.1⟩)]) (fun s1_ => [(38, some (CPred.at s38 (rowV 41 s1_.2)))]) (.k 10 rfl .nil) (.k 38 rfl .nil) (.k 0 rfl (.k 1 rfl (.k 2 rfl (.k 3 rfl .nil)))) SubB.nil (fun s1_ o_1 h hD1 => ?_)))))))
 unfold slices_swapRangeCmpFunc_Box_L1 at h
 refine .seq (.sr [] mixed (.mv rfl (.mv rfl (.cons (.lt .none (.s rfl) (.s rfl)) rfl (.nil (.cb rfl h (fun _ h => ?_) fun _ h => ?_))))))
 ·
  obtain ⟨hn3, h⟩ := need_some h
  obtain ⟨v1, hv4, h⟩ := bnd_some h
  obtain ⟨hn5, h⟩ := need_some h
  obtain ⟨v2, hv6, h⟩ := bnd_some h
  obtain ⟨hn7, h⟩ := need_some h
  obtain ⟨hn8, h⟩ := need_some h
  obtain ⟨data2, hv9, h⟩ := bnd_some h
  obtain ⟨i1, hv10, h⟩ := bnd_some h
  exact .skip (.then (.seq (.block (.rg [oo, oo, oo, oo, oo, oo, oo, oo, oo, oo, oo, oo, ([38], []), ([38], []), oo, oo, oo, oo, ([38], []), ([38], []), ([38], []), ([38], [38]), ([38], []), ([38], [38])] mixed (.mvA rfl (.mvA rfl (.mvA rfl (.consA (.addW .none (.s rfl) (.s rfl)) rfl (.mvA rfl (.mvA rfl (.mvA rfl (.consA (.addW .none (.s rfl) (.s rfl)) rfl (.mvA rfl (.mvA rfl (.mvA rfl (.consA (.addW .none (.s rfl) (.s rfl)) rfl (.consA (.indexAddrO (k := 38) .none sl51 ty41 (.s rfl) rfl (.s rfl) (fun _ => hn3)) rfl (.consA (.re hv4 (.loadElem0 (k := 38) .none ty41 (.s rfl) rfl (fun _ => hn3))) rfl (.mvA rfl (.mvA rfl (.mvA rfl (.consA (.addW .none (.s rfl) (.s rfl)) rfl (.consA (.indexAddrO (k := 38) .none sl51 ty41 (.s rfl) rfl (.s rfl) (fun _ => hn5)) rfl (.consA (.re hv6 (.loadElem0 (k := 38) .none ty41 (.s rfl) rfl (fun _ => hn5))) rfl (.consA (.indexAddrO (k := 38) .none sl51 ty41 (.s rfl) rfl (.s rfl) (fun _ => hn7)) rfl (.consN (.storeElem0 (k := 38) ty41 (.s rfl) rfl (.s rfl) hn7) rfl (.consA (.indexAddrO (k := 38) .none sl51 ty41 (.s rfl) rfl (.s rfl) (fun _ => hn8)) rfl (.consN (.storeElem0 (k := 38) ty41 (.s rfl) rfl (.s rfl) hn8) rfl (.nil (.blkNormal (.then (.reB (t := 38) rfl (congrArg (fun y => CPred.at s38 (rowV 41 y)) hv9) (.rg [] mixed (.mv rfl (.cons (.addW .none (.s rfl) (.int (by decide))) rfl (.cons (.re hv10 (.assign .none (.s rfl))) rfl (.nil (Ends.ag (some_eq h)))))))))))))))))))))))))))))))))))))))
 ·
  refine .exit (.thenExit (.thenExit (.blkExit ?_)))
  replace h := hD1 _ (some_eq h)
  obtain rfl := some_eq h
  exact Ends.ret0O (.inr rfl) [38] Tryd.results129 (by decide) (.held rfl .nil)
theorem slices_rotateCmpFunc_Box_ok {data1 : (List Box)} {a1 : Int} {m1 : Int} {b1 : Int} {cmp1 : (Box → Box → Option Int)} {r : (List Box)} {s58 : Value} (h : slices_rotateCmpFunc_Box data1 a1 m1 b1 cmp1 = some r) : FSpecO Tryd.prog 118 [isV s58, rep a1, rep m1, rep b1, fn2 Tryd.prog (rep (α := Int)) cmp1] [(s58, rowV 41 data1)] (anyV) [some (rowV 41 r)] := by
 unfold slices_rotateCmpFunc_Box at h
 obtain ⟨i1, hv1, h⟩ := bnd_some h
 obtain ⟨j1, hv2, h⟩ := bnd_some h
 refine FSpecO.intro (n := 58) fnok118 Tryd.func118 rfl Tryd.ntmps118 rfl (fun F => (.sr [] mixed (.mv rfl (.mv rfl (.cons (.subW .none (.s rfl) (.s rfl)) rfl (.cons (.re hv1 (.assign .none (.s rfl))) rfl (.nil (.sr [] mixed (.mv rfl (.mv rfl (.cons (.subW .none (.s rfl) (.s rfl)) rfl (.cons (.re hv2 (.assign .none (.s rfl))) rfl (.nil (.seq ?_))))))))))))))
 obtain ⟨j_3, h, hK3⟩ := bind_some h
 refine .thenJ (ι := (Int × (List Box))) (fun j_3 => [(10, ⟨True, rep j_3.1⟩)]) (fun j_3 => [(58, some (CPred.at s58 (rowV 41 j_3.2)))]) (fun s => j_3 = s) (.k 0 rfl (.k 2 rfl (.k 4 rfl .nil))) SubB.nil ?_ (fun j_3' hj3 => ?_)
 ·
  refine .block (.loopL h (fun s4_ => [(10, ⟨True, rep s4_.1⟩), (11, ⟨True, rep s4_.2.1⟩)]) (fun s4_ => [(58, some (CPred.at s58 (rowV 41 s4_.2.2)))]) (.k 10 rfl (.k 11 rfl .nil)) (.k 58 rfl .nil) (.k 0 rfl (.k 2 rfl (.k 4 rfl .nil))) SubB.nil (fun s4_ o_4 h hD4 => ?_))
  unfold slices_rotateCmpFunc_Box_L1 at h
  refine .seq (.sr [] mixed (.mv rfl (.mv rfl (.cons (.neI .none (.s rfl) (.s rfl)) rfl (.nil (.cb rfl h (fun _ h => ?_) fun _ h => ?_))))))
  ·
   refine .skip (.then (.block (.sr [] mixed (.mv rfl (.mv rfl (.cons (.gt .none (.s rfl) (.s rfl)) rfl (.nil (.cb rfl h (fun _ h => ?_) fun _ h => ?_))))))))
   ·
    obtain ⟨r1, hv7, h⟩ := bind_some h
    refine .sr [oo, oo, oo, oo, oo, oo, oo, ([58], [58])] mixed (.mvA rfl (.mvA rfl (.mvA rfl (.consA (.subW .none (.s rfl) (.s rfl)) rfl (.mvA rfl (.mvA rfl (.mvA rfl (.consW (.callO [58] (slices_swapRangeCmpFunc_Box_ok hv7) (.cons (.s rfl) (.cons (.s rfl) (.cons (.s rfl) (.cons (.s rfl) (.cons (.s rfl) .nil))))) (.cons (k := 58) rfl .nil) rfl (by decide) (by decide) (by intro d h; cases h; decide)) rfl rfl ?_))))))))
    obtain ⟨i2, hv8, h⟩ := bnd_some h
    exact .nil (.rg [] mixed (.mv rfl (.mv rfl (.cons (.subW .none (.s rfl) (.s rfl)) rfl (.cons (.re hv8 (.assign .none (.s rfl))) rfl (.nil (.blkNormal (Ends.ag (some_eq h)))))))))
   ·
    obtain ⟨r2, hv9, h⟩ := bind_some h
    refine .sr [oo, oo, oo, oo, oo, oo, oo, oo, oo, oo, oo, ([58], [58])] mixed (.mvA rfl (.mvA rfl (.mvA rfl (.consA (.subW .none (.s rfl) (.s rfl)) rfl (.mvA rfl (.mvA rfl (.consA (.addW .none (.s rfl) (.s rfl)) rfl (.mvA rfl (.consA (.subW .none (.s rfl) (.s rfl)) rfl (.mvA rfl (.mvA rfl (.consW (.callO [58] (slices_swapRangeCmpFunc_Box_ok hv9) (.cons (.s rfl) (.cons (.s rfl) (.cons (.s rfl) (.cons (.s rfl) (.cons (.s rfl) .nil))))) (.cons (k := 58) rfl .nil) rfl (by decide) (by decide) (by intro d h; cases h; decide)) rfl rfl ?_))))))))))))
    obtain ⟨j2, hv10, h⟩ := bnd_some h
    exact .nil (.rg [] mixed (.mv rfl (.mv rfl (.cons (.subW .none (.s rfl) (.s rfl)) rfl (.cons (.re hv10 (.assign .none (.s rfl))) rfl (.nil (.blkNormal (Ends.ag (some_eq h)))))))))
  ·
   refine .exit (.thenExit (.thenExit (.blkExit ?_)))
   replace h := hD4 _ (some_eq h)
   exact Ends.j _ (some_eq h)
 ·
  subst hj3; have h := hK3; clear hK3
  obtain ⟨r3, hv11, h⟩ := bind_some h
  refine .rg [oo, oo, oo, oo, oo, oo, oo, ([58], [58])] mixed (.mvA rfl (.mvA rfl (.mvA rfl (.consA (.subW .none (.s rfl) (.s rfl)) rfl (.mvA rfl (.mvA rfl (.mvA rfl (.consW (.callO [58] (slices_swapRangeCmpFunc_Box_ok hv11) (.cons (.s rfl) (.cons (.s rfl) (.cons (.s rfl) (.cons (.s rfl) (.cons (.s rfl) .nil))))) (.cons (k := 58) rfl .nil) rfl (by decide) (by decide) (by intro d h; cases h; decide)) rfl rfl (.nil ?_)))))))))
  obtain rfl := some_eq h
  exact Ends.ret0O (.inr rfl) [58] Tryd.results118 (by decide) (.held rfl .nil)
set_option maxHeartbeats 4000000 in
theorem slices_symMergeCmpFunc_Box_okS {self : ((List Box) × Int × Int × Int × (Box → Box → Option Int)) → Option (List Box)} (hself : ∀ {s220 : Value} (x : ((List Box) × Int × Int × Int × (Box → Box → Option Int))) (r : (List Box)), self x = some r → FSpecO Tryd.prog 104 [isV s220, rep x.2.1, rep x.2.2.1, rep x.2.2.2.1, fn2 Tryd.prog (rep (α := Int)) x.2.2.2.2] [(s220, rowV 41 x.1)] (anyV) [some (rowV 41 r)]) {s220 : Value} {x : ((List Box) × Int × Int × Int × (Box → Box → Option Int))} {r : (List Box)} (h : slices_symMergeCmpFunc_Box_body self x = some r) : FSpecO Tryd.prog 104 [isV s220, rep x.2.1, rep x.2.2.1, rep x.2.2.2.1, fn2 Tryd.prog (rep (α := Int)) x.2.2.2.2] [(s220, rowV 41 x.1)] (anyV) [some (rowV 41 r)] := by
 unfold slices_symMergeCmpFunc_Box_body at h
 refine FSpecO.intro (n := 220) fnok104 Tryd.func104 rfl Tryd.ntmps104 rfl (fun F => (.seq (.sr [] mixed (.mv rfl (.mv rfl (.cons (.subW .none (.s rfl) (.s rfl)) rfl (.cons (.eqI .none (.s rfl) (.int (by decide))) rfl (.nil ?_))))))))
 obtain ⟨o_1, h, hK1⟩ := bindR_some h
 refine .thenJ (ι := Unit) (fun j_1 => []) (fun j_1 => []) (fun s => o_1 = Res.nx s) (.k 0 rfl (.k 1 rfl (.k 2 rfl (.k 3 rfl (.k 4 rfl .nil))))) (.k 220 rfl .nil) ?_ (fun j_1 hj1 => ?_)
 ·
  refine .cb rfl h (fun _ h => ?_) fun _ h => ?_
  ·
   refine .sr [] mixed (.mv rfl (.asn rfl (.nil (.sr [] mixed (.mv rfl (.asn rfl (.nil (.seq ?_))))))))
   obtain ⟨j_3, h, hK3⟩ := bind_some h
   refine .thenJ (ι := Int) (fun j_3 => [(10, ⟨True, rep j_3⟩)]) (fun j_3 => []) (fun s => j_3 = s) (.k 0 rfl (.k 1 rfl .nil)) (.k 220 rfl .nil) ?_ (fun j_3' hj3 => ?_)
   ·
    refine .block (.loopL h (fun s4_ => [(10, ⟨True, rep s4_.1⟩), (11, ⟨True, rep s4_.2⟩)]) (fun s4_ => []) (.k 10 rfl (.k 11 rfl .nil)) SubB.nil (.k 0 rfl (.k 1 rfl (.k 4 rfl .nil))) (.k 220 rfl .nil) (fun s4_ o_4 h hD4 => ?_))
    unfold slices_symMergeCmpFunc_Box_L1 at h
    refine .seq (.sr [] mixed (.mv rfl (.mv rfl (.cons (.lt .none (.s rfl) (.s rfl)) rfl (.nil (.cb rfl h (fun _ h => ?_) fun _ h => ?_))))))
    ·
     obtain ⟨h1, hv6, h⟩ := bnd_some h
     obtain ⟨hn7, h⟩ := need_some h
     obtain ⟨hn8, h⟩ := need_some h
     obtain ⟨r1, hv9, h⟩ := bind_some h
     refine .skip (.then (.block (.sr [] mixed (.mv rfl (.mv rfl (.cons (.addW .none (.s rfl) (.s rfl)) rfl (.cons (.toK .none (by kernel_rfl) Tryd.underlying160 (.s rfl)) rfl (.cons (.kshr .none (.s rfl) .ki (fun _ => by decide)) rfl (.cons (.toInt .none (by kernel_rfl) Tryd.underlying3 (.s rfl)) rfl (.cons (.re hv6 (.assign .none (.s rfl))) rfl (.nil (.sr [oo, oo, oo, ([220], []), ([220], []), oo, oo, ([220], []), ([220], []), oo, oo] mixed (.mvA rfl (.mvA rfl (.mvA rfl (.consA (.indexAddrO (k := 220) .none sl51 ty41 (.s rfl) rfl (.s rfl) (fun _ => hn7)) rfl (.consA (.loadElem0 (k := 220) .none ty41 (.s rfl) rfl (fun _ => hn7)) rfl (.mvA rfl (.mvA rfl (.consA (.indexAddrO (k := 220) .none sl51 ty41 (.s rfl) rfl (.s rfl) (fun _ => hn8)) rfl (.consA (.loadElem0 (k := 220) .none ty41 (.s rfl) rfl (fun _ => hn8)) rfl (.consA (.callV (gx x.1 h1, gx x.1 x.2.1, r1) .none (.s rfl) (fun _ => hv9) (.cons (.s rfl) (.cons (.s rfl) .nil))) rfl (.consA (.lt .none (.s rfl) (.int (by decide))) rfl (.nil (.cb rfl h (fun _ h => ?_) fun _ h => ?_)))))))))))))))))))))))))
     ·
      obtain ⟨i1, hv11, h⟩ := bnd_some h
      exact .rg [] mixed (.mv rfl (.cons (.addW .none (.s rfl) (.int (by decide))) rfl (.cons (.re hv11 (.assign .none (.s rfl))) rfl (.nil (.blkNormal (Ends.ag (some_eq h)))))))
     ·
      exact .rg [] mixed (.mv rfl (.asn rfl (.nil (.blkNormal (Ends.ag (some_eq h))))))
    ·
     refine .exit (.thenExit (.thenExit (.blkExit ?_)))
     replace h := hD4 _ (some_eq h)
     exact Ends.j _ (some_eq h)
   ·
    subst hj3; have h := hK3; clear hK3
    refine .seq (.sr [] mixed (.mv rfl (.asn rfl (.nil ?_))))
    obtain ⟨j_12, h, hK12⟩ := bind_some h
    refine .thenJ (ι := (List Box)) (fun j_12 => []) (fun j_12 => [(220, some (CPred.at s220 (rowV 41 j_12)))]) (fun s => j_12 = s) Sub.nil SubB.nil ?_ (fun j_12' hj12 => ?_)
    ·
     refine .block (.loopL h (fun s13_ => [(13, ⟨True, rep s13_.1⟩)]) (fun s13_ => [(220, some (CPred.at s220 (rowV 41 s13_.2)))]) (.k 13 rfl .nil) (.k 220 rfl .nil) (.k 0 rfl (.k 10 rfl .nil)) SubB.nil (fun s13_ o_13 h hD13 => ?_))
     unfold slices_symMergeCmpFunc_Box_L2 at h
     refine .seq (.sr [] mixed (.mv rfl (.mv rfl (.cons (.subW .none (.s rfl) (.int (by decide))) rfl (.cons (.lt .none (.s rfl) (.s rfl)) rfl (.nil (.cb rfl h (fun _ h => ?_) fun _ h => ?_)))))))
     ·
      obtain ⟨hn15, h⟩ := need_some h
      obtain ⟨v1, hv16, h⟩ := bnd_some h
      obtain ⟨hn17, h⟩ := need_some h
      obtain ⟨v2, hv18, h⟩ := bnd_some h
      obtain ⟨hn19, h⟩ := need_some h
      obtain ⟨hn20, h⟩ := need_some h
      obtain ⟨data2, hv21, h⟩ := bnd_some h
      obtain ⟨k1, hv22, h⟩ := bnd_some h
      exact .skip (.then (.seq (.block (.rg [oo, oo, oo, oo, oo, oo, oo, oo, ([220], []), ([220], []), oo, oo, ([220], []), ([220], []), ([220], []), ([220], [220]), ([220], []), ([220], [220])] mixed (.mvA rfl (.mvA rfl (.mvA rfl (.mvA rfl (.consA (.addW .none (.s rfl) (.int (by decide))) rfl (.mvA rfl (.mvA rfl (.consA (.addW .none (.s rfl) (.int (by decide))) rfl (.consA (.indexAddrO (k := 220) .none sl51 ty41 (.s rfl) rfl (.s rfl) (fun _ => hn15)) rfl (.consA (.re hv16 (.loadElem0 (k := 220) .none ty41 (.s rfl) rfl (fun _ => hn15))) rfl (.mvA rfl (.mvA rfl (.consA (.indexAddrO (k := 220) .none sl51 ty41 (.s rfl) rfl (.s rfl) (fun _ => hn17)) rfl (.consA (.re hv18 (.loadElem0 (k := 220) .none ty41 (.s rfl) rfl (fun _ => hn17))) rfl (.consA (.indexAddrO (k := 220) .none sl51 ty41 (.s rfl) rfl (.s rfl) (fun _ => hn19)) rfl (.consN (.storeElem0 (k := 220) ty41 (.s rfl) rfl (.s rfl) hn19) rfl (.consA (.indexAddrO (k := 220) .none sl51 ty41 (.s rfl) rfl (.s rfl) (fun _ => hn20)) rfl (.consN (.storeElem0 (k := 220) ty41 (.s rfl) rfl (.s rfl) hn20) rfl (.nil (.blkNormal (.then (.reB (t := 220) rfl (congrArg (fun y => CPred.at s220 (rowV 41 y)) hv21) (.rg [] mixed (.mv rfl (.cons (.addW .none (.s rfl) (.int (by decide))) rfl (.cons (.re hv22 (.assign .none (.s rfl))) rfl (.nil (Ends.ag (some_eq h)))))))))))))))))))))))))))))))))
     ·
      refine .exit (.thenExit (.thenExit (.blkExit ?_)))
      replace h := hD13 _ (some_eq h)
      exact Ends.j _ (some_eq h)
    ·
     subst hj12; have h := hK12; clear hK12
     refine .ret (.thenRet ?_)
     replace h := resb_ab hK1 (some_eq h)
     obtain rfl := some_eq h
     exact Ends.ret0O (.inl rfl) [220] Tryd.results104 (by decide) (.held rfl .nil)
  ·
   exact .skip (Ends.j _ (some_eq h))
 ·
  have h := resb_nx hK1 hj1
  refine .seq (.sr [] mixed (.mv rfl (.mv rfl (.cons (.subW .none (.s rfl) (.s rfl)) rfl (.cons (.eqI .none (.s rfl) (.int (by decide))) rfl (.nil ?_))))))
  obtain ⟨o_23, h, hK23⟩ := bindR_some h
  refine .thenJ (ι := Unit) (fun j_23 => []) (fun j_23 => []) (fun s => o_23 = Res.nx s) (.k 0 rfl (.k 1 rfl (.k 2 rfl (.k 3 rfl (.k 4 rfl .nil))))) (.k 220 rfl .nil) ?_ (fun j_23 hj23 => ?_)
  ·
   refine .cb rfl h (fun _ h => ?_) fun _ h => ?_
   ·
    refine .sr [] mixed (.mv rfl (.asn rfl (.nil (.sr [] mixed (.mv rfl (.asn rfl (.nil (.seq ?_))))))))
    obtain ⟨j_25, h, hK25⟩ := bind_some h
    refine .thenJ (ι := Int) (fun j_25 => [(14, ⟨True, rep j_25⟩)]) (fun j_25 => []) (fun s => j_25 = s) (.k 0 rfl (.k 2 rfl .nil)) (.k 220 rfl .nil) ?_ (fun j_25' hj25 => ?_)
    ·
     refine .block (.loopL h (fun s26_ => [(14, ⟨True, rep s26_.1⟩), (15, ⟨True, rep s26_.2⟩)]) (fun s26_ => []) (.k 14 rfl (.k 15 rfl .nil)) SubB.nil (.k 0 rfl (.k 2 rfl (.k 4 rfl .nil))) (.k 220 rfl .nil) (fun s26_ o_26 h hD26 => ?_))
     unfold slices_symMergeCmpFunc_Box_L3 at h
     refine .seq (.sr [] mixed (.mv rfl (.mv rfl (.cons (.lt .none (.s rfl) (.s rfl)) rfl (.nil (.cb rfl h (fun _ h => ?_) fun _ h => ?_))))))
     ·
      obtain ⟨h2, hv28, h⟩ := bnd_some h
      obtain ⟨hn29, h⟩ := need_some h
      obtain ⟨hn30, h⟩ := need_some h
      obtain ⟨r2, hv31, h⟩ := bind_some h
      refine .skip (.then (.block (.sr [] mixed (.mv rfl (.mv rfl (.cons (.addW .none (.s rfl) (.s rfl)) rfl (.cons (.toK .none (by kernel_rfl) Tryd.underlying160 (.s rfl)) rfl (.cons (.kshr .none (.s rfl) .ki (fun _ => by decide)) rfl (.cons (.toInt .none (by kernel_rfl) Tryd.underlying3 (.s rfl)) rfl (.cons (.re hv28 (.assign .none (.s rfl))) rfl (.nil (.sr [oo, oo, oo, ([220], []), ([220], []), oo, oo, ([220], []), ([220], []), oo, oo, oo] mixed (.mvA rfl (.mvA rfl (.mvA rfl (.consA (.indexAddrO (k := 220) .none sl51 ty41 (.s rfl) rfl (.s rfl) (fun _ => hn29)) rfl (.consA (.loadElem0 (k := 220) .none ty41 (.s rfl) rfl (fun _ => hn29)) rfl (.mvA rfl (.mvA rfl (.consA (.indexAddrO (k := 220) .none sl51 ty41 (.s rfl) rfl (.s rfl) (fun _ => hn30)) rfl (.consA (.loadElem0 (k := 220) .none ty41 (.s rfl) rfl (fun _ => hn30)) rfl (.consA (.callV (gx x.1 x.2.2.1, gx x.1 h2, r2) .none (.s rfl) (fun _ => hv31) (.cons (.s rfl) (.cons (.s rfl) .nil))) rfl (.consA (.lt .none (.s rfl) (.int (by decide))) rfl (.consA (.not .none (.s rfl)) rfl (.nil (.cb rfl h (fun _ h => ?_) fun _ h => ?_))))))))))))))))))))))))))
      ·
       obtain ⟨i2, hv33, h⟩ := bnd_some h
       exact .rg [] mixed (.mv rfl (.cons (.addW .none (.s rfl) (.int (by decide))) rfl (.cons (.re hv33 (.assign .none (.s rfl))) rfl (.nil (.blkNormal (Ends.ag (some_eq h)))))))
      ·
       exact .rg [] mixed (.mv rfl (.asn rfl (.nil (.blkNormal (Ends.ag (some_eq h))))))
     ·
      refine .exit (.thenExit (.thenExit (.blkExit ?_)))
      replace h := hD26 _ (some_eq h)
      exact Ends.j _ (some_eq h)
    ·
     subst hj25; have h := hK25; clear hK25
     refine .seq (.sr [] mixed (.mv rfl (.asn rfl (.nil ?_))))
     obtain ⟨j_34, h, hK34⟩ := bind_some h
     refine .thenJ (ι := (List Box)) (fun j_34 => []) (fun j_34 => [(220, some (CPred.at s220 (rowV 41 j_34)))]) (fun s => j_34 = s) Sub.nil SubB.nil ?_ (fun j_34' hj34 => ?_)
     ·
      refine .block (.loopL h (fun s35_ => [(17, ⟨True, rep s35_.1⟩)]) (fun s35_ => [(220, some (CPred.at s220 (rowV 41 s35_.2)))]) (.k 17 rfl .nil) (.k 220 rfl .nil) (.k 0 rfl (.k 14 rfl .nil)) SubB.nil (fun s35_ o_35 h hD35 => ?_))
      unfold slices_symMergeCmpFunc_Box_L4 at h
      refine .seq (.sr [] mixed (.mv rfl (.mv rfl (.cons (.gt .none (.s rfl) (.s rfl)) rfl (.nil (.cb rfl h (fun _ h => ?_) fun _ h => ?_))))))
      ·
       obtain ⟨hn37, h⟩ := need_some h
       obtain ⟨v3, hv38, h⟩ := bnd_some h
       obtain ⟨hn39, h⟩ := need_some h
       obtain ⟨v4, hv40, h⟩ := bnd_some h
       obtain ⟨hn41, h⟩ := need_some h
       obtain ⟨hn42, h⟩ := need_some h
       obtain ⟨data3, hv43, h⟩ := bnd_some h
       obtain ⟨k2, hv44, h⟩ := bnd_some h
       exact .skip (.then (.seq (.block (.rg [oo, oo, oo, oo, oo, oo, oo, oo, ([220], []), ([220], []), oo, oo, ([220], []), ([220], []), ([220], []), ([220], [220]), ([220], []), ([220], [220])] mixed (.mvA rfl (.mvA rfl (.mvA rfl (.mvA rfl (.consA (.subW .none (.s rfl) (.int (by decide))) rfl (.mvA rfl (.mvA rfl (.consA (.subW .none (.s rfl) (.int (by decide))) rfl (.consA (.indexAddrO (k := 220) .none sl51 ty41 (.s rfl) rfl (.s rfl) (fun _ => hn37)) rfl (.consA (.re hv38 (.loadElem0 (k := 220) .none ty41 (.s rfl) rfl (fun _ => hn37))) rfl (.mvA rfl (.mvA rfl (.consA (.indexAddrO (k := 220) .none sl51 ty41 (.s rfl) rfl (.s rfl) (fun _ => hn39)) rfl (.consA (.re hv40 (.loadElem0 (k := 220) .none ty41 (.s rfl) rfl (fun _ => hn39))) rfl (.consA (.indexAddrO (k := 220) .none sl51 ty41 (.s rfl) rfl (.s rfl) (fun _ => hn41)) rfl (.consN (.storeElem0 (k := 220) ty41 (.s rfl) rfl (.s rfl) hn41) rfl (.consA (.indexAddrO (k := 220) .none sl51 ty41 (.s rfl) rfl (.s rfl) (fun _ => hn42)) rfl (.consN (.storeElem0 (k := 220) ty41 (.s rfl) rfl (.s rfl) hn42) rfl (.nil (.blkNormal (.then (.reB (t := 220) rfl (congrArg (fun y => CPred.at s220 (rowV 41 y)) hv43) (.rg [] mixed (.mv rfl (.cons (.subW .none (.s rfl) (.int (by decide))) rfl (.cons (.re hv44 (.assign .none (.s rfl))) rfl (.nil (Ends.ag (some_eq h)))))))))))))))))))))))))))))))))
      ·
       refine .exit (.thenExit (.thenExit (.blkExit ?_)))
       replace h := hD35 _ (some_eq h)
       exact Ends.j _ (some_eq h)
     ·
      subst hj34; have h := hK34; clear hK34
      refine .ret (.thenRet ?_)
      replace h := resb_ab hK23 (some_eq h)
      obtain rfl := some_eq h
      exact Ends.ret0O (.inl rfl) [220] Tryd.results104 (by decide) (.held rfl .nil)
   ·
    exact .skip (Ends.j _ (some_eq h))
  ·
   have h := resb_nx hK23 hj23
   obtain ⟨mid1, hv45, h⟩ := bnd_some h
   obtain ⟨n1, hv46, h⟩ := bnd_some h
   refine .sr [] mixed (.mv rfl (.mv rfl (.cons (.addW .none (.s rfl) (.s rfl)) rfl (.cons (.toK .none (by kernel_rfl) Tryd.underlying160 (.s rfl)) rfl (.cons (.kshr .none (.s rfl) .ki (fun _ => by decide)) rfl (.cons (.toInt .none (by kernel_rfl) Tryd.underlying3 (.s rfl)) rfl (.cons (.re hv45 (.assign .none (.s rfl))) rfl (.nil (.sr [] mixed (.mv rfl (.mv rfl (.cons (.addW .none (.s rfl) (.s rfl)) rfl (.cons (.re hv46 (.assign .none (.s rfl))) rfl (.nil (.sr [] mixed (.asi (.asi (.nil (.seq (.sr [] mixed (.mv rfl (.mv rfl (.cons (.gt .none (.s rfl) (.s rfl)) rfl (.nil ?_))))))))))))))))))))))))
   obtain ⟨j_47, h, hK47⟩ := bind_some h
   refine .thenJ (ι := (Int × Int)) (fun j_47 => [(20, ⟨True, rep j_47.1⟩), (21, ⟨True, rep j_47.2⟩)]) (fun j_47 => []) (fun s => j_47 = s) (.k 0 rfl (.k 1 rfl (.k 2 rfl (.k 3 rfl (.k 4 rfl (.k 18 rfl (.k 19 rfl .nil))))))) (.k 220 rfl .nil) ?_ (fun j_47' hj47 => ?_)
   ·
    refine .cb rfl h (fun _ h => ?_) fun _ h => ?_
    ·
     obtain ⟨start1, hv49, h⟩ := bnd_some h
     exact .sr [] mixed (.mv rfl (.mv rfl (.cons (.subW .none (.s rfl) (.s rfl)) rfl (.cons (.re hv49 (.assign .none (.s rfl))) rfl (.nil (.rg [] mixed (.mv rfl (.asn rfl (.nil (Ends.j _ (some_eq h)))))))))))
    ·
     exact .sr [] mixed (.mv rfl (.asn rfl (.nil (.rg [] mixed (.mv rfl (.asn rfl (.nil (Ends.j _ (some_eq h)))))))))
   ·
    subst hj47; have h := hK47; clear hK47
    refine .sr [] mixed (.mv rfl (.cons (.subW .none (.s rfl) (.int (by decide))) rfl (.asn rfl (.nil (.seq ?_)))))
    obtain ⟨j_50, h, hK50⟩ := bind_some h
    refine .thenJ (ι := Int) (fun j_50 => [(20, ⟨True, rep j_50⟩)]) (fun j_50 => []) (fun s => j_50 = s) (.k 0 rfl (.k 1 rfl (.k 2 rfl (.k 3 rfl (.k 4 rfl (.k 18 rfl (.k 19 rfl .nil))))))) (.k 220 rfl .nil) ?_ (fun j_50' hj50 => ?_)
    ·
     refine .block (.loopL h (fun s51_ => [(20, ⟨True, rep s51_.1⟩), (21, ⟨True, rep s51_.2⟩)]) (fun s51_ => []) (.k 20 rfl (.k 21 rfl .nil)) SubB.nil (.k 0 rfl (.k 1 rfl (.k 2 rfl (.k 3 rfl (.k 4 rfl (.k 18 rfl (.k 19 rfl (.k 22 rfl .nil)))))))) (.k 220 rfl .nil) (fun s51_ o_51 h hD51 => ?_))
     unfold slices_symMergeCmpFunc_Box_L5 at h
     refine .seq (.sr [] mixed (.mv rfl (.mv rfl (.cons (.lt .none (.s rfl) (.s rfl)) rfl (.nil (.cb rfl h (fun _ h => ?_) fun _ h => ?_))))))
     ·
      obtain ⟨c1, hv53, h⟩ := bnd_some h
      obtain ⟨hn54, h⟩ := need_some h
      obtain ⟨hn55, h⟩ := need_some h
      obtain ⟨r3, hv56, h⟩ := bind_some h
      refine .skip (.then (.block (.sr [] mixed (.mv rfl (.mv rfl (.cons (.addW .none (.s rfl) (.s rfl)) rfl (.cons (.toK .none (by kernel_rfl) Tryd.underlying160 (.s rfl)) rfl (.cons (.kshr .none (.s rfl) .ki (fun _ => by decide)) rfl (.cons (.toInt .none (by kernel_rfl) Tryd.underlying3 (.s rfl)) rfl (.cons (.re hv53 (.assign .none (.s rfl))) rfl (.nil (.sr [oo, oo, oo, oo, oo, ([220], []), ([220], []), oo, oo, ([220], []), ([220], []), oo, oo, oo] mixed (.mvA rfl (.mvA rfl (.mvA rfl (.mvA rfl (.consA (.subW .none (.s rfl) (.s rfl)) rfl (.consA (.indexAddrO (k := 220) .none sl51 ty41 (.s rfl) rfl (.s rfl) (fun _ => hn54)) rfl (.consA (.loadElem0 (k := 220) .none ty41 (.s rfl) rfl (fun _ => hn54)) rfl (.mvA rfl (.mvA rfl (.consA (.indexAddrO (k := 220) .none sl51 ty41 (.s rfl) rfl (.s rfl) (fun _ => hn55)) rfl (.consA (.loadElem0 (k := 220) .none ty41 (.s rfl) rfl (fun _ => hn55)) rfl (.consA (.callV (gx x.1 (W ((W (n1 - 1)) - c1)), gx x.1 c1, r3) .none (.s rfl) (fun _ => hv56) (.cons (.s rfl) (.cons (.s rfl) .nil))) rfl (.consA (.lt .none (.s rfl) (.int (by decide))) rfl (.consA (.not .none (.s rfl)) rfl (.nil (.cb rfl h (fun _ h => ?_) fun _ h => ?_))))))))))))))))))))))))))))
      ·
       obtain ⟨start2, hv58, h⟩ := bnd_some h
       exact .rg [] mixed (.mv rfl (.cons (.addW .none (.s rfl) (.int (by decide))) rfl (.cons (.re hv58 (.assign .none (.s rfl))) rfl (.nil (.blkNormal (Ends.ag (some_eq h)))))))
      ·
       exact .rg [] mixed (.mv rfl (.asn rfl (.nil (.blkNormal (Ends.ag (some_eq h))))))
     ·
      refine .exit (.thenExit (.thenExit (.blkExit ?_)))
      replace h := hD51 _ (some_eq h)
      exact Ends.j _ (some_eq h)
    ·
     subst hj50; have h := hK50; clear hK50
     obtain ⟨end1, hv59, h⟩ := bnd_some h
     refine .sr [] mixed (.mv rfl (.mv rfl (.cons (.subW .none (.s rfl) (.s rfl)) rfl (.cons (.re hv59 (.assign .none (.s rfl))) rfl (.nil (.seq (.sr [] mixed (.mv rfl (.mv rfl (.cons (.lt .none (.s rfl) (.s rfl)) rfl (.mv rfl (.cons (.move (.at rfl rfl) (.s rfl)) rfl (.cons (.move (.at rfl rfl) (.s rfl)) rfl (.cons (.lt (.at rfl rfl) (.tmp rfl id) (.tmp rfl id)) rfl (.cons (.pickAnd .none (.s rfl) (.tmp rfl id)) rfl (.nil ?_))))))))))))))))
     obtain ⟨j_60, h, hK60⟩ := bind_some h
     refine .thenJ (ι := (List Box)) (fun j_60 => []) (fun j_60 => [(220, some (CPred.at s220 (rowV 41 j_60)))]) (fun s => j_60 = s) (.k 0 rfl (.k 1 rfl (.k 3 rfl (.k 4 rfl (.k 18 rfl (.k 20 rfl (.k 24 rfl .nil))))))) SubB.nil ?_ (fun j_60' hj60 => ?_)
     ·
      refine .cb rfl h (fun _ h => ?_) fun _ h => ?_
      ·
       obtain ⟨r4, hv62, h⟩ := bind_some h
       exact .rg [oo, oo, oo, oo, oo, ([220], [220])] mixed (.mvA rfl (.mvA rfl (.mvA rfl (.mvA rfl (.mvA rfl (.consW (.callO [220] (slices_rotateCmpFunc_Box_ok hv62) (.cons (.s rfl) (.cons (.s rfl) (.cons (.s rfl) (.cons (.s rfl) (.cons (.s rfl) .nil))))) (.cons (k := 220) rfl .nil) rfl (by decide) (by decide) (by intro d h; cases h; decide)) rfl rfl (.nil (Ends.j _ (some_eq h)))))))))
      ·
       exact .skip (Ends.j _ (some_eq h))
     ·
      subst hj60; have h := hK60; clear hK60
      refine .seq (.sr [] mixed (.mv rfl (.mv rfl (.cons (.lt .none (.s rfl) (.s rfl)) rfl (.mv rfl (.cons (.move (.at rfl rfl) (.s rfl)) rfl (.cons (.move (.at rfl rfl) (.s rfl)) rfl (.cons (.lt (.at rfl rfl) (.tmp rfl id) (.tmp rfl id)) rfl (.cons (.pickAnd .none (.s rfl) (.tmp rfl id)) rfl (.nil ?_))))))))))
      obtain ⟨j_63, h, hK63⟩ := bind_some h
      refine .thenJ (ι := (List Box)) (fun j_63 => []) (fun j_63 => [(220, some (CPred.at s220 (rowV 41 j_63)))]) (fun s => j_63 = s) (.k 0 rfl (.k 3 rfl (.k 4 rfl (.k 18 rfl (.k 24 rfl .nil))))) SubB.nil ?_ (fun j_63' hj63 => ?_)
      ·
       refine .cb rfl h (fun _ h => ?_) fun _ h => ?_
       ·
        obtain ⟨r5, hv65, h⟩ := bind_some h
        exact .rg [oo, oo, oo, oo, oo, ([220], [220])] mixed (.mvA rfl (.mvA rfl (.mvA rfl (.mvA rfl (.mvA rfl (.consW (.callO [220] (hself _ _ hv65) (.cons (.s rfl) (.cons (.s rfl) (.cons (.s rfl) (.cons (.s rfl) (.cons (.s rfl) .nil))))) (.cons (k := 220) rfl .nil) rfl (by decide) (by decide) (by intro d h; cases h; decide)) rfl rfl (.nil (Ends.j _ (some_eq h)))))))))
       ·
        exact .skip (Ends.j _ (some_eq h))
      ·
       subst hj63; have h := hK63; clear hK63
       refine .sr [] mixed (.mv rfl (.mv rfl (.cons (.lt .none (.s rfl) (.s rfl)) rfl (.mv rfl (.cons (.move (.at rfl rfl) (.s rfl)) rfl (.cons (.move (.at rfl rfl) (.s rfl)) rfl (.cons (.lt (.at rfl rfl) (.tmp rfl id) (.tmp rfl id)) rfl (.cons (.pickAnd .none (.s rfl) (.tmp rfl id)) rfl (.nil (.cb rfl h (fun _ h => ?_) fun _ h => ?_))))))))))
       ·
        obtain ⟨r6, hv67, h⟩ := bind_some h
        refine .rg [oo, oo, oo, oo, oo, ([220], [220])] mixed (.mvA rfl (.mvA rfl (.mvA rfl (.mvA rfl (.mvA rfl (.consW (.callO [220] (hself _ _ hv67) (.cons (.s rfl) (.cons (.s rfl) (.cons (.s rfl) (.cons (.s rfl) (.cons (.s rfl) .nil))))) (.cons (k := 220) rfl .nil) rfl (by decide) (by decide) (by intro d h; cases h; decide)) rfl rfl (.nil ?_)))))))
        obtain rfl := some_eq h
        exact Ends.ret0O (.inr rfl) [220] Tryd.results104 (by decide) (.held rfl .nil)
       ·
        refine .skip ?_
        obtain rfl := some_eq h
        exact Ends.ret0O (.inr rfl) [220] Tryd.results104 (by decide) (.held rfl .nil)
theorem slices_symMergeCmpFunc_Box_okN : ∀ (k : Nat) {s220 : Value} (x : ((List Box) × Int × Int × Int × (Box → Box → Option Int))) (r : (List Box)) (h : fixN slices_symMergeCmpFunc_Box_body k x = some r), FSpecO Tryd.prog 104 [isV s220, rep x.2.1, rep x.2.2.1, rep x.2.2.2.1, fn2 Tryd.prog (rep (α := Int)) x.2.2.2.2] [(s220, rowV 41 x.1)] (anyV) [some (rowV 41 r)]
 | 0, _, x, r, h => by simp [fixN] at h
 | k + 1, _, x, r, h => slices_symMergeCmpFunc_Box_okS (slices_symMergeCmpFunc_Box_okN k) h
theorem slices_symMergeCmpFunc_Box_ok {data1 : (List Box)} {a1 : Int} {m1 : Int} {b1 : Int} {cmp1 : (Box → Box → Option Int)} {r : (List Box)} {s220 : Value} (h : slices_symMergeCmpFunc_Box data1 a1 m1 b1 cmp1 = some r) : FSpecO Tryd.prog 104 [isV s220, rep a1, rep m1, rep b1, fn2 Tryd.prog (rep (α := Int)) cmp1] [(s220, rowV 41 data1)] (anyV) [some (rowV 41 r)] :=
 let ⟨k, hk⟩ := fixp_some h
 slices_symMergeCmpFunc_Box_okN k (data1, a1, m1, b1, cmp1) r hk
theorem slices_stableCmpFunc_Box_ok {data1 : (List Box)} {n1 : Int} {cmp1 : (Box → Box → Option Int)} {r : (List Box)} {s63 : Value} (h : slices_stableCmpFunc_Box data1 n1 cmp1 = some r) : FSpecO Tryd.prog 62 [isV s63, rep n1, fn2 Tryd.prog (rep (α := Int)) cmp1] [(s63, rowV 41 data1)] (anyV) [some (rowV 41 r)] := by
 unfold slices_stableCmpFunc_Box at h
 refine FSpecO.intro (n := 63) fnok62 Tryd.func62 rfl Tryd.ntmps62 rfl (fun F => (.sr [] mixed (.asi (.nil (.sr [] mixed (.mv rfl (.asi (.asn rfl (.nil (.seq ?_))))))))))
 obtain ⟨j_1, h, hK1⟩ := bind_some h
 refine .thenJ (ι := (Int × (List Box))) (fun j_1 => [(7, ⟨True, rep j_1.1⟩)]) (fun j_1 => [(63, some (CPred.at s63 (rowV 41 j_1.2)))]) (fun s => j_1 = s) (.k 0 rfl (.k 1 rfl (.k 2 rfl (.k 6 rfl .nil)))) SubB.nil ?_ (fun j_1' hj1 => ?_)
 ·
  refine .block (.loopL h (fun s2_ => [(7, ⟨True, rep s2_.1⟩), (8, ⟨True, rep s2_.2.1⟩)]) (fun s2_ => [(63, some (CPred.at s63 (rowV 41 s2_.2.2)))]) (.k 7 rfl (.k 8 rfl .nil)) (.k 63 rfl .nil) (.k 0 rfl (.k 1 rfl (.k 2 rfl (.k 6 rfl .nil)))) SubB.nil (fun s2_ o_2 h hD2 => ?_))
  unfold slices_stableCmpFunc_Box_L1 at h
  refine .seq (.sr [] mixed (.mv rfl (.mv rfl (.cons (.le .none (.s rfl) (.s rfl)) rfl (.nil (.cb rfl h (fun _ h => ?_) fun _ h => ?_))))))
  ·
   obtain ⟨r1, hv4, h⟩ := bind_some h
   refine .skip (.then (.block (.sr [oo, oo, oo, oo, ([63], [63])] mixed (.mvA rfl (.mvA rfl (.mvA rfl (.mvA rfl (.consW (.callO [63] (slices_insertionSortCmpFunc_Box_ok hv4) (.cons (.s rfl) (.cons (.s rfl) (.cons (.s rfl) (.cons (.s rfl) .nil)))) (.cons (k := 63) rfl .nil) rfl (by decide) (by decide) (by intro d h; cases h; decide)) rfl rfl ?_))))))))
   obtain ⟨b1, hv5, h⟩ := bnd_some h
   exact .nil (.sr [] mixed (.mv rfl (.asn rfl (.nil (.rg [] mixed (.mv rfl (.mv rfl (.cons (.addW .none (.s rfl) (.s rfl)) rfl (.cons (.re hv5 (.assign .none (.s rfl))) rfl (.nil (.blkNormal (Ends.ag (some_eq h)))))))))))))
  ·
   refine .exit (.thenExit (.thenExit (.blkExit ?_)))
   replace h := hD2 _ (some_eq h)
   exact Ends.j _ (some_eq h)
 ·
  subst hj1; have h := hK1; clear hK1
  obtain ⟨r2, hv6, h⟩ := bind_some h
  refine .sr [oo, oo, oo, oo, ([63], [63])] mixed (.mvA rfl (.mvA rfl (.mvA rfl (.mvA rfl (.consW (.callO [63] (slices_insertionSortCmpFunc_Box_ok hv6) (.cons (.s rfl) (.cons (.s rfl) (.cons (.s rfl) (.cons (.s rfl) .nil)))) (.cons (k := 63) rfl .nil) rfl (by decide) (by decide) (by intro d h; cases h; decide)) rfl rfl (.nil (.block (.loopL h (fun s7_ => [(6, ⟨True, rep s7_.1⟩)]) (fun s7_ => [(63, some (CPred.at s63 (rowV 41 s7_.2)))]) (.k 6 rfl .nil) (.k 63 rfl .nil) (.k 0 rfl (.k 1 rfl (.k 2 rfl .nil))) SubB.nil (fun s7_ o_7 h hD7 => ?_)))))))))
  unfold slices_stableCmpFunc_Box_L2 at h
  refine .seq (.sr [] mixed (.mv rfl (.mv rfl (.cons (.lt .none (.s rfl) (.s rfl)) rfl (.nil (.cb rfl h (fun _ h => ?_) fun _ h => ?_))))))
  ·
   obtain ⟨b2, hv9, h⟩ := bnd_some h
   refine .skip (.then (.block (.sr [] mixed (.mv rfl (.cons (.mulW .none (.int (by decide)) (.s rfl)) rfl (.asi (.cons (.re hv9 (.assign .none (.s rfl))) rfl (.nil (.seq ?_)))))))))
   obtain ⟨j_10, h, hK10⟩ := bind_some h
   refine .thenJ (ι := (Int × (List Box))) (fun j_10 => [(7, ⟨True, rep j_10.1⟩)]) (fun j_10 => [(63, some (CPred.at s63 (rowV 41 j_10.2)))]) (fun s => j_10 = s) (.k 0 rfl (.k 1 rfl (.k 2 rfl (.k 6 rfl .nil)))) SubB.nil ?_ (fun j_10' hj10 => ?_)
   ·
    refine .block (.loopL h (fun s11_ => [(7, ⟨True, rep s11_.1⟩), (8, ⟨True, rep s11_.2.1⟩)]) (fun s11_ => [(63, some (CPred.at s63 (rowV 41 s11_.2.2)))]) (.k 7 rfl (.k 8 rfl .nil)) (.k 63 rfl .nil) (.k 0 rfl (.k 1 rfl (.k 2 rfl (.k 6 rfl .nil)))) SubB.nil (fun s11_ o_11 h hD11 => ?_))
    unfold slices_stableCmpFunc_Box_L3 at h
    refine .seq (.sr [] mixed (.mv rfl (.mv rfl (.cons (.le .none (.s rfl) (.s rfl)) rfl (.nil (.cb rfl h (fun _ h => ?_) fun _ h => ?_))))))
    ·
     obtain ⟨r3, hv13, h⟩ := bind_some h
     refine .skip (.then (.block (.sr [oo, oo, oo, oo, oo, oo, oo, ([63], [63])] mixed (.mvA rfl (.mvA rfl (.mvA rfl (.mvA rfl (.consA (.addW .none (.s rfl) (.s rfl)) rfl (.mvA rfl (.mvA rfl (.consW (.callO [63] (slices_symMergeCmpFunc_Box_ok hv13) (.cons (.s rfl) (.cons (.s rfl) (.cons (.s rfl) (.cons (.s rfl) (.cons (.s rfl) .nil))))) (.cons (k := 63) rfl .nil) rfl (by decide) (by decide) (by intro d h; cases h; decide)) rfl rfl ?_)))))))))))
     obtain ⟨b3, hv14, h⟩ := bnd_some h
     exact .nil (.sr [] mixed (.mv rfl (.asn rfl (.nil (.rg [] mixed (.mv rfl (.mv rfl (.cons (.mulW .none (.int (by decide)) (.s rfl)) rfl (.cons (.addW .none (.s rfl) (.s rfl)) rfl (.cons (.re hv14 (.assign .none (.s rfl))) rfl (.nil (.blkNormal (Ends.ag (some_eq h))))))))))))))
    ·
     refine .exit (.thenExit (.thenExit (.blkExit ?_)))
     replace h := hD11 _ (some_eq h)
     exact Ends.j _ (some_eq h)
   ·
    subst hj10; have h := hK10; clear hK10
    obtain ⟨m1, hv15, h⟩ := bnd_some h
    refine .seq (.sr [] mixed (.mv rfl (.mv rfl (.cons (.addW .none (.s rfl) (.s rfl)) rfl (.cons (.re hv15 (.assign .none (.s rfl))) rfl (.nil (.sr [] mixed (.mv rfl (.mv rfl (.cons (.lt .none (.s rfl) (.s rfl)) rfl (.nil ?_)))))))))))
    obtain ⟨j_16, h, hK16⟩ := bind_some h
    refine .thenJ (ι := (List Box)) (fun j_16 => []) (fun j_16 => [(63, some (CPred.at s63 (rowV 41 j_16)))]) (fun s => j_16 = s) (.k 0 rfl (.k 1 rfl (.k 2 rfl (.k 6 rfl .nil)))) SubB.nil ?_ (fun j_16' hj16 => ?_)
    ·
     refine .cb rfl h (fun _ h => ?_) fun _ h => ?_
     ·
      obtain ⟨r4, hv18, h⟩ := bind_some h
      exact .rg [oo, oo, oo, oo, oo, ([63], [63])] mixed (.mvA rfl (.mvA rfl (.mvA rfl (.mvA rfl (.mvA rfl (.consW (.callO [63] (slices_symMergeCmpFunc_Box_ok hv18) (.cons (.s rfl) (.cons (.s rfl) (.cons (.s rfl) (.cons (.s rfl) (.cons (.s rfl) .nil))))) (.cons (k := 63) rfl .nil) rfl (by decide) (by decide) (by intro d h; cases h; decide)) rfl rfl (.nil (Ends.j _ (some_eq h)))))))))
     ·
      exact .skip (Ends.j _ (some_eq h))
    ·
     subst hj16; have h := hK16; clear hK16
     obtain ⟨blockSize1, hv19, h⟩ := bnd_some h
     exact .rg [] mixed (.mv rfl (.cons (.mulW .none (.s rfl) (.int (by decide))) rfl (.cons (.re hv19 (.assign .none (.s rfl))) rfl (.nil (.blkNormal (Ends.ag (some_eq h)))))))
  ·
   refine .exit (.thenExit (.thenExit (.blkExit ?_)))
   replace h := hD7 _ (some_eq h)
   obtain rfl := some_eq h
   exact Ends.ret0O (.inr rfl) [63] Tryd.results62 (by decide) (.held rfl .nil)
theorem slices_SortStableFunc_Box_ok {x1 : (List Box)} {cmp1 : (Box → Box → Option Int)} {r : (List Box)} {s9 : Value} (h : slices_SortStableFunc_Box x1 cmp1 = some r) : FSpecO Tryd.prog 22 [isV s9, fn2 Tryd.prog (rep (α := Int)) cmp1] [(s9, rowV 41 x1)] (anyV) [some (rowV 41 r)] := by
 unfold slices_SortStableFunc_Box at h
 obtain ⟨r1, hv1, h⟩ := bind_some h
 refine FSpecO.intro (n := 9) fnok22 Tryd.func22 rfl Tryd.ntmps22 rfl (fun F => (.rg [oo, oo, ([9], []), oo, ([9], [9])] mixed (.mvA rfl (.mvA rfl (.consA (.lenO (k := 9) sl51 (.told (.s rfl) rfl)) rfl (.mvA rfl (.consW (.callO [9] (slices_stableCmpFunc_Box_ok hv1) (.cons (.s rfl) (.cons (.s rfl) (.cons (.s rfl) .nil))) (.cons (k := 9) rfl .nil) rfl (by decide) (by decide) (by intro d h; cases h; decide)) rfl rfl (.nil ?_))))))))
 obtain rfl := some_eq h
 exact Ends.ret0O (.inr rfl) [9] Tryd.results22 (by decide) (.held rfl .nil)
theorem top_TopSelections_2_ok {a1 : Box} {b1 : Box} {r : Int}  (h : top_TopSelections_2 a1 b1 = some r) : FSpec Tryd.prog 23 [rep a1, rep b1] (rep r) := by
 unfold top_TopSelections_2 at h
 refine FSpec.intro (n := 18) fnok23 Tryd.func23 rfl Tryd.ntmps23 rfl (fun F => (.sr [] mixed (.cons (.box .none (.s rfl)) rfl (.cons (.box .none (.s rfl)) rfl (.asi (.nil (.sr [] mixed (.fa fd41_0 hfd41_0 rfl (.ld ty3 rfl (.cons (.mulW .none (.int (by decide)) (.s rfl)) rfl (.fa fd41_2 hfd41_2 rfl (.ld ty3 rfl (.cons (.addW .none (.s rfl) (.s rfl)) rfl (.fa fd41_0 hfd41_0 rfl (.ld ty3 rfl (.cons (.mulW .none (.int (by decide)) (.s rfl)) rfl (.cons (.subW .none (.s rfl) (.s rfl)) rfl (.fa fd41_2 hfd41_2 rfl (.ld ty3 rfl (.cons (.subW .none (.s rfl) (.s rfl)) rfl (.asn rfl (.nil (.ret ?_)))))))))))))))))))))))
 obtain rfl := some_eq h
 exact Ends.rt Tryd.results23 rfl
set_option maxHeartbeats 4000000 in
theorem top_TopSelections_ok {d1 : Doc} {ids1 : (List Str)} {how1 : Int} {down1 : Bool} {r : Bool}  (h : top_TopSelections d1 ids1 how1 down1 = some r) : FSpec Tryd.prog 5 [rep d1, rep ids1, rep how1, rep down1] (rep r) := by
 unfold top_TopSelections at h
 obtain ⟨r1, hv1, h⟩ := bind_some h
 refine FSpec.intro (n := 186) fnok5 Tryd.func5 rfl Tryd.ntmps5 rfl (fun F => (.sr [] mixed (.cons (.box .none (.s rfl)) rfl (.cons (.box .none (.s rfl)) rfl (.cons (.assign .none .bool) rfl (.nil (.seq (.sr [] mixed (.cons (.buildF (y := (⟨Str.nil, (0 : Int), (⟨(0 : Int), (0 : Int), (0 : Int), (0 : Int)⟩ : Box), Str.nil, Str.nil, Str.nil, false⟩ : DNode)) .none bu43 zc43 rfl .nil .nil) rfl (.cons (.buildSlice (xs := [_]) .none sl22 ty43 hz43 (.cons (.s rfl) .nil) rfl (by decide)) rfl (.cons (.buildF (y := (⟨[(⟨Str.nil, (0 : Int), (⟨(0 : Int), (0 : Int), (0 : Int), (0 : Int)⟩ : Box), Str.nil, Str.nil, Str.nil, false⟩ : DNode)], ([] : (List DEdge))⟩ : Doc)) .none bu25 zc25 rfl (.cons (.s rfl) .nil) (.cons rfl sf25_0 .nil)) rfl (.cons (.call .none (page_Check_ok hv1) (.cons (.s rfl) .nil)) rfl (.cons (.neI .none (.s rfl) (.int (by decide))) rfl (.nil (.cb rfl h (fun _ h => ?_) fun _ h => ?_)))))))))))))))
 ·
  refine .sr [] mixed (.cons (.assign .none .bool) rfl (.nil (.ret (.thenRet ?_))))
  obtain rfl := some_eq h
  exact Ends.rt Tryd.results5 rfl
 ·
  obtain ⟨r2, hv3, h⟩ := bind_some h
  refine .skip (.then (.sr [] mixed (.ld ty25 rfl (.mv rfl (.cons (.call .none (page_Roots_ok hv3) (.cons (.s rfl) (.cons (.s rfl) .nil))) rfl (.mv rfl (.cons (.extract .none (.s rfl) rfl) rfl (.cons (.extract .none (.s rfl) rfl) rfl (.asn rfl (.asn rfl (.nil (.seq (.sr [] mixed (.mv rfl (.cons (.neI .none (.s rfl) (.int (by decide))) rfl (.mv rfl (.cons (.move (.at rfl rfl) (.s rfl)) rfl (.cons (.len (.at rfl rfl) sl35 (.tmp rfl id)) rfl (.cons (.eqI (.at rfl rfl) (.tmp rfl id) (.int (by decide))) rfl (.cons (.pickOr .none (.s rfl) (.tmp rfl id)) rfl (.nil (.cb rfl h (fun _ h => ?_) fun _ h => ?_))))))))))))))))))))))
  ·
   refine .sr [] mixed (.mv rfl (.cons (.len .none sl35 (.s rfl)) rfl (.cons (.eqI .none (.s rfl) (.int (by decide))) rfl (.asn rfl (.nil (.ret (.thenRet ?_)))))))
   obtain rfl := some_eq h
   exact Ends.rt Tryd.results5 rfl
  ·
   refine .skip (.then (.sr [] mixed (.cons (.makeFunc (ι := Box × Int) (pre := fun i => (fun x0 => top_TopSelections_1 x0 how1) i.1 = some i.2) (Ss := fun i => [rep i.1]) (S := fun i => rep i.2) .none fnok18 (fun i h => top_TopSelections_1_ok h) (.cons (.s rfl) .nil)) rfl ?_)))
   obtain ⟨r3, hv5, h⟩ := bind_some h
   refine .asn rfl (.nil (.seq (.sr [oo, oo, oo, oo, oo, oo, oo, ([], [12]), ([12], [12]), oo] mixed (.ldA ty25 rfl (.mvA rfl (.ldA ty3 rfl (.consA (.call .none (page_Align_ok hv5) (.cons (.s rfl) (.cons (.s rfl) (.cons (.s rfl) .nil)))) rfl (.mvA rfl (.consA (.extract .none (.s rfl) rfl) rfl (.consA (.extract .none (.s rfl) rfl) rfl (.consW (.alloc zo25 rfl) rfl rfl (.consN (.store ty25 rfl rfl (.s rfl)) rfl (.asnA rfl (.nil (.freeze (t := 12) rfl rfl SubB.nil rfl (.sr [] mixed (.mv rfl (.cons (.eqI .none (.s rfl) (.int (by decide))) rfl (.nil ?_)))))))))))))))))))
   obtain ⟨o_6, h, hK6⟩ := bindR_some h
   refine .thenJ (ι := Unit) (fun j_6 => []) (fun j_6 => []) (fun s => o_6 = Res.nx s) (.k 1 rfl (.k 3 rfl (.k 4 rfl (.k 9 rfl .nil)))) SubB.nil ?_ (fun j_6 hj6 => ?_)
   ·
    refine .cb rfl h (fun _ h => ?_) fun _ h => ?_
    ·
     obtain ⟨hn8, h⟩ := need_some h
     obtain ⟨r4, hv9, h⟩ := bind_some h
     refine .sr [oo, oo, oo, oo, oo, oo, oo, oo, ([], [14]), ([14], [14]), oo] mixed (.ldA ty25 rfl (.mvA rfl (.consA (.indexAddr .none sl35 ty9 (.s rfl) (.int (by decide)) (fun _ => hn8)) rfl (.ldA ty9 rfl (.consA (.call .none (page_BoxOf_ok hv9) (.cons (.s rfl) (.cons (.s rfl) .nil))) rfl (.mvA rfl (.consA (.extract .none (.s rfl) rfl) rfl (.consA (.extract .none (.s rfl) rfl) rfl (.consW (.alloc zo41 rfl) rfl rfl (.consN (.store ty41 rfl rfl (.s rfl)) rfl (.asnA rfl (.nil (.freeze (t := 14) rfl rfl SubB.nil rfl (.sr [] mixed (.mv rfl (.cons (.len .none sl35 (.s rfl)) rfl (.mvi (.nil (.block (.rforEL h (fun p10_ => [(71, ⟨True, rep p10_.1⟩)]) (fun p10_ => []) (.k 71 rfl .nil) SubB.nil (.k 1 rfl (.k 3 rfl (.k 4 rfl (.k 6 rfl (.k 9 rfl (.k 11 rfl (.k 12 rfl (.k 14 rfl (.k 15 rfl (.k 69 rfl (.k 70 rfl .nil))))))))))) SubB.nil (fun p10_ o_10 h hD10 => (.sr [] mixed (.cons (.lt .none (.s rfl) (.s rfl)) rfl (.nil (.seq (.cb rfl h (fun _ h => ?_) fun _ h => ?_))))))))))))))))))))))))))
     ·
      refine .skip (.then (.seq ?_))
      obtain ⟨o_12, h, hK12⟩ := bindD_some h
      unfold top_TopSelections_L1 at h
      refine .thenJ (ι := Unit) (fun j_12 => []) (fun j_12 => []) (fun s => o_12 = Res.nx s) (.k 1 rfl (.k 3 rfl (.k 4 rfl (.k 6 rfl (.k 9 rfl (.k 11 rfl (.k 12 rfl (.k 14 rfl (.k 15 rfl (.k 69 rfl (.k 70 rfl (.k 71 rfl .nil)))))))))))) SubB.nil ?_ (fun j_12 hj12 => ?_)
      ·
       obtain ⟨hn13, h⟩ := need_some h
       obtain ⟨r5, hv14, h⟩ := bind_some h
       obtain ⟨r6, hv15, h⟩ := bind_some h
       obtain ⟨r7, hv16, h⟩ := bind_some h
       refine .block (.sr [] mixed (.cons (.indexAddr .none sl35 ty9 (.s rfl) (.s rfl) (fun _ => hn13)) rfl (.ld ty9 rfl (.asn rfl (.nil (.sr [oo, oo, oo, oo, oo, oo, ([], [18]), ([18], [18]), oo] mixed (.ldA ty25 rfl (.mvA rfl (.consA (.call .none (page_BoxOf_ok hv14) (.cons (.s rfl) (.cons (.s rfl) .nil))) rfl (.mvA rfl (.consA (.extract .none (.s rfl) rfl) rfl (.consA (.extract .none (.s rfl) rfl) rfl (.consW (.alloc zo41 rfl) rfl rfl (.consN (.store ty41 rfl rfl (.s rfl)) rfl (.asnA rfl (.nil (.freeze (t := 18) rfl rfl SubB.nil rfl (.sr [] mixed (.mv rfl (.cons (.neI .none (.s rfl) (.int (by decide))) rfl (.mv rfl (.cons (.move (.at rfl rfl) (.s rfl)) rfl (.cons (.neI (.at rfl rfl) (.tmp rfl id) (.int (by decide))) rfl (.cons (.pickOr .none (.s rfl) (.tmp rfl id)) rfl (.mv rfl (.cons (.move (.at rfl rfl) (.s rfl)) rfl (.cons (.load (.at rfl rfl) ty41 (.s rfl)) rfl (.cons (.callV (r5.1, r6) (.at rfl rfl) (.tmp rfl id) (fun hg => gd_some hv15 ((notT hg.2))) (.cons (.tmp rfl id) .nil)) rfl (.cons (.move (.at rfl rfl) (.s rfl)) rfl (.cons (.load (.at rfl rfl) ty41 (.s rfl)) rfl (.cons (.callV (r4.1, r7) (.at rfl rfl) (.tmp rfl id) (fun hg => gd_some hv16 ((notT hg.2))) (.cons (.tmp rfl id) .nil)) rfl (.cons (.neI (.at rfl rfl) (.tmp rfl id) (.tmp rfl id)) rfl (.cons (.pickOr .none (.s rfl) (.tmp rfl id)) rfl (.nil (.cb rfl h (fun _ h => ?_) fun _ h => ?_)))))))))))))))))))))))))))))))))))
       ·
        refine .sr [] mixed (.cons (.assign .none .bool) rfl (.nil (.ret (.blkRet (.thenRet (.thenRet (.blkRet (.thenRet ?_))))))))
        replace h := resd_ab hK12 (some_eq h)
        replace h := hD10 _ (some_eq h)
        replace h := resb_ab hK6 (some_eq h)
        obtain rfl := some_eq h
        exact Ends.rt Tryd.results5 rfl
       ·
        exact .skip (.blkNormal (Ends.j _ (some_eq h)))
      ·
       have h := resd_nx hK12 hj12
       exact .rg [] mixed (.cons (.addW .none (.s rfl) (.int (by decide))) rfl (.mv rfl (.nil (Ends.ag (some_eq h)))))
     ·
      refine .exit (.thenExit (.thenExit (.blkExit ?_)))
      replace h := hD10 _ (some_eq h)
      exact Ends.j _ (some_eq h)
    ·
     exact .skip (Ends.j _ (some_eq h))
   ·
    have h := resb_nx hK6 hj6
    obtain ⟨r8, hv18, h⟩ := bind_some h
    refine .sr [oo, oo, oo, oo, oo, oo, oo, ([], [20]), ([20], [20]), oo] mixed (.ldA ty25 rfl (.mvA rfl (.mvA rfl (.consA (.call .none (page_Spread_ok hv18) (.cons (.s rfl) (.cons (.s rfl) (.cons (.s rfl) .nil)))) rfl (.mvA rfl (.consA (.extract .none (.s rfl) rfl) rfl (.consA (.extract .none (.s rfl) rfl) rfl (.consW (.alloc zo25 rfl) rfl rfl (.consN (.store ty25 rfl rfl (.s rfl)) rfl (.asnA rfl (.nil (.freeze (t := 20) rfl rfl SubB.nil rfl (.seq (.sr [] mixed (.mv rfl (.cons (.neI .none (.s rfl) (.int (by decide))) rfl (.nil (.cb rfl h (fun _ h => ?_) fun _ h => ?_))))))))))))))))))
    ·
     refine .sr [] mixed (.cons (.assign .none .bool) rfl (.nil (.ret (.thenRet ?_))))
     obtain rfl := some_eq h
     exact Ends.rt Tryd.results5 rfl
    ·
     refine .skip (.then (.sr [([], [21])] mixed (.consW (.nilRow (T := 41) (α := Box) rfl) rfl rfl (.nil (.nameRow (t := 21) (g := 5001) rfl rfl rfl (fun s5001 => (.seq (.sr [] mixed (.mv rfl (.cons (.len .none sl35 (.s rfl)) rfl (.mvi (.nil ?_))))))))))))
     obtain ⟨o_20, h, hK20⟩ := bindR_some h
     refine .thenJ (ι := (List Box)) (fun j_20 => []) (fun j_20 => [(21, some (rowV 41 j_20))]) (fun s => o_20 = Res.nx s) Sub.nil SubB.nil ?_ (fun j_20 hj20 => ?_)
     ·
      refine .block (.anon (t := 21) (g := 5001) rfl rfl trivial rfl (.rforEL h (fun p21_ => [(108, ⟨True, rep p21_.1⟩)]) (fun p21_ => [(21, some (rowV 41 p21_.2))]) (.k 108 rfl .nil) (.k 21 rfl .nil) (.k 3 rfl (.k 20 rfl (.k 106 rfl (.k 107 rfl .nil)))) SubB.nil (fun p21_ o_21 h hD21 => (.nameRow (t := 21) (g := 5002) rfl rfl rfl (fun s5002 => (.sr [] mixed (.cons (.lt .none (.s rfl) (.s rfl)) rfl (.nil (.seq (.cb rfl h (fun _ h => ?_) fun _ h => ?_))))))))))
      ·
       refine .skip (.then (.seq ?_))
       obtain ⟨o_23, h, hK23⟩ := bindD_some h
       unfold top_TopSelections_L2 at h
       refine .thenJ (ι := (List Box)) (fun j_23 => []) (fun j_23 => [(21, some (rowV 41 j_23))]) (fun s => o_23 = Res.nx s) (.k 3 rfl (.k 20 rfl (.k 106 rfl (.k 107 rfl (.k 108 rfl .nil))))) SubB.nil ?_ (fun j_23 hj23 => ?_)
       ·
        obtain ⟨hn24, h⟩ := need_some h
        obtain ⟨r9, hv25, h⟩ := bind_some h
        refine .block (.sr [] mixed (.cons (.indexAddr .none sl35 ty9 (.s rfl) (.s rfl) (fun _ => hn24)) rfl (.ld ty9 rfl (.asn rfl (.nil (.sr [oo, oo, oo, oo, oo, oo, ([], [24]), ([24], [24]), oo] mixed (.ldA ty25 rfl (.mvA rfl (.consA (.call .none (page_BoxOf_ok hv25) (.cons (.s rfl) (.cons (.s rfl) .nil))) rfl (.mvA rfl (.consA (.extract .none (.s rfl) rfl) rfl (.consA (.extract .none (.s rfl) rfl) rfl (.consW (.alloc zo41 rfl) rfl rfl (.consN (.store ty41 rfl rfl (.s rfl)) rfl (.asnA rfl (.nil (.nameBox (t := 24) (g := 5003) rfl rfl (fun m5003 => (.seq (.sr [] mixed (.mv rfl (.nil ?_))))))))))))))))))))))
        obtain ⟨j_26, h, hK26⟩ := bind_some h
        refine .thenJ (ι := Box) (fun j_26 => []) (fun j_26 => [(5003, some (boxAt m5003 41 j_26))]) (fun s => j_26 = s) (.k 3 rfl (.k 20 rfl (.k 21 rfl (.k 24 rfl (.k 25 rfl (.k 106 rfl (.k 107 rfl (.k 108 rfl .nil)))))))) (.k 5002 rfl .nil) ?_ (fun j_26' hj26 => ?_)
        ·
         refine .cb rfl h (fun _ h => ?_) fun _ h => ?_
         ·
          obtain ⟨v1, hv28, h⟩ := bnd_some h
          exact .rg [oo, ([5003], []), oo, ([5003], []), oo, ([5003], []), oo, ([5003], []), oo, ([5003], [5003])] mixed (.consA (.fieldPtr .none fd41_1 (.s rfl)) rfl (.consA (.loadAt (k := 5003) .none ty3 rfl (.s rfl) hfd41_1) rfl (.consA (.fieldPtr .none fd41_0 (.s rfl)) rfl (.consA (.loadAt (k := 5003) .none ty3 rfl (.s rfl) hfd41_0) rfl (.consA (.fieldPtr .none fd41_3 (.s rfl)) rfl (.consA (.loadAt (k := 5003) .none ty3 rfl (.s rfl) hfd41_3) rfl (.consA (.fieldPtr .none fd41_2 (.s rfl)) rfl (.consA (.loadAt (k := 5003) .none ty3 rfl (.s rfl) hfd41_2) rfl (.consA (.re hv28 (.buildF (y := (⟨r9.1.Y, r9.1.X, r9.1.H, r9.1.W_⟩ : Box)) .none bu41 zc41 rfl (.cons (.s rfl) (.cons (.s rfl) (.cons (.s rfl) (.cons (.s rfl) .nil)))) (.cons rfl sf41_0 (.cons rfl sf41_1 (.cons rfl sf41_2 (.cons rfl sf41_3 .nil)))))) rfl (.consN (.storeAt0 (g := 5003) ty41 rfl (.s rfl) (.s rfl)) rfl (.nil (Ends.j _ (some_eq h)))))))))))))
         ·
          exact .skip (Ends.j _ (some_eq h))
        ·
         subst hj26; have h := hK26; clear hK26
         obtain ⟨hn29, h⟩ := need_some h
         obtain ⟨l1, hv30, h⟩ := bnd_some h
         refine .freezeBox (g := 5003) (ts := [24]) rfl (.cons (t := 24) rfl trivial .nil) (.k 5002 rfl .nil) rfl (.sr [oo, oo, oo, ([5002], [131, 5002]), ([131], [21, 131])] mixed (.mvA rfl (.ldA ty41 rfl (.consA (.buildSlice (xs := [_]) .none sl51 ty41 hz41 (.cons (.s rfl) .nil) rfl (by decide)) rfl (.consW (.append (k := 5002) rk51 rfl (.told (.s rfl) rfl) (.s rfl) hn29) rfl rfl (.consW (.passRow rfl (.tmp rfl)) rfl rfl (.nil (.reB (t := 21) rfl (congrArg (rowV 41) hv30) (.nameRow (t := 21) (g := 5004) rfl rfl rfl (fun s5004 => (.sr [] mixed (.mv rfl (.cons (.neI .none (.s rfl) (.int (by decide))) rfl (.nil (.cb rfl h (fun _ h => ?_) fun _ h => ?_)))))))))))))))
         ·
          refine .sr [] mixed (.cons (.assign .none .bool) rfl (.nil (.ret (.blkRet (.thenRet (.thenRet (.blkRet (.thenRet ?_))))))))
          replace h := resd_ab hK23 (some_eq h)
          replace h := hD21 _ (some_eq h)
          replace h := resb_ab hK20 (some_eq h)
          obtain rfl := some_eq h
          exact Ends.rt Tryd.results5 rfl
         ·
          exact .skip (.blkNormal (.anon (t := 21) (g := 5004) rfl rfl trivial rfl (Ends.j _ (some_eq h))))
       ·
        have h := resd_nx hK23 hj23
        exact .nameRow (t := 21) (g := 5005) rfl rfl rfl (fun s5005 => (.rg [] mixed (.cons (.addW .none (.s rfl) (.int (by decide))) rfl (.mv rfl (.nil (.anon (t := 21) (g := 5005) rfl rfl trivial rfl (Ends.ag (some_eq h))))))))
      ·
       refine .exit (.thenExit (.thenExit (.blkExit (.anon (t := 21) (g := 5002) rfl rfl trivial rfl ?_))))
       replace h := hD21 _ (some_eq h)
       exact Ends.j _ (some_eq h)
     ·
      have h := resb_nx hK20 hj20
      obtain ⟨r10, hv32, h⟩ := bind_some h
      refine .nameRow (t := 21) (g := 5006) rfl rfl rfl (fun s5006 => (.sr [] mixed (.asi (.asi (.nil (.sr [oo, ([5006], [5006])] mixed (.mvA rfl (.consW (.callO [5006] (slices_SortStableFunc_Box_ok hv32) (.cons (.s rfl) (.cons (Opd.func (ι := Box × Box × Int) (pre := fun i => top_TopSelections_2 i.1 i.2.1 = some i.2.2) (Ss := fun i => [rep i.1, rep i.2.1]) (S := fun i => rep i.2.2) fnok23 (fun i h => top_TopSelections_2_ok h)) .nil)) (.cons (k := 5006) rfl .nil) rfl (by decide) (by decide) (by intro d h; cases h; decide)) rfl rfl (.nil (.freezeRow (g := 5006) (ts := [21]) rfl (.cons (t := 21) rfl trivial .nil) SubB.nil rfl (.seq (.sr [] mixed (.asi (.nil ?_))))))))))))))
      obtain ⟨j_33, h, hK33⟩ := bind_some h
      refine .thenJ (ι := (Int × Int)) (fun j_33 => [(26, ⟨True, rep j_33.1⟩), (27, ⟨True, rep j_33.2⟩)]) (fun j_33 => []) (fun s => j_33 = s) Sub.nil SubB.nil ?_ (fun j_33' hj33 => ?_)
      ·
       refine .block (.loopL h (fun s34_ => [(26, ⟨True, rep s34_.1⟩), (27, ⟨True, rep s34_.2.1⟩), (28, ⟨True, rep s34_.2.2⟩)]) (fun s34_ => []) (.k 26 rfl (.k 27 rfl (.k 28 rfl .nil))) SubB.nil (.k 21 rfl .nil) SubB.nil (fun s34_ o_34 h hD34 => ?_))
       unfold top_TopSelections_L3 at h
       refine .seq (.sr [] mixed (.mv rfl (.mv rfl (.cons (.len .none sl51 (.s rfl)) rfl (.cons (.lt .none (.s rfl) (.s rfl)) rfl (.nil (.cb rfl h (fun _ h => ?_) fun _ h => ?_)))))))
       ·
        refine .skip (.then (.seq ?_))
        obtain ⟨j_36, h, hK36⟩ := bind_some h
        refine .thenJ (ι := (Int × Int)) (fun j_36 => [(26, ⟨True, rep j_36.1⟩), (27, ⟨True, rep j_36.2⟩)]) (fun j_36 => []) (fun s => j_36 = s) (.k 21 rfl (.k 28 rfl .nil)) SubB.nil ?_ (fun j_36' hj36 => ?_)
        ·
         obtain ⟨hn37, h⟩ := need_some h
         obtain ⟨hn38, h⟩ := need_some h
         obtain ⟨hn39, h⟩ := need_some h
         obtain ⟨gap1, hv40, h⟩ := bnd_some h
         refine .block (.sr [] mixed (.mv rfl (.mv rfl (.cons (.indexAddr .none sl51 ty41 (.s rfl) (.s rfl) (fun _ => hn37)) rfl (.fa fd41_0 hfd41_0 rfl (.ld ty3 rfl (.mv rfl (.mv rfl (.cons (.subW .none (.s rfl) (.int (by decide))) rfl (.cons (.indexAddr .none sl51 ty41 (.s rfl) (.s rfl) (fun _ => hn38)) rfl (.fa fd41_0 hfd41_0 rfl (.ld ty3 rfl (.cons (.subW .none (.s rfl) (.s rfl)) rfl (.mv rfl (.mv rfl (.cons (.subW .none (.s rfl) (.int (by decide))) rfl (.cons (.indexAddr .none sl51 ty41 (.s rfl) (.s rfl) (fun _ => hn39)) rfl (.fa fd41_2 hfd41_2 rfl (.ld ty3 rfl (.cons (.subW .none (.s rfl) (.s rfl)) rfl (.cons (.re hv40 (.assign .none (.s rfl))) rfl (.nil (.seq (.sr [] mixed (.mv rfl (.cons (.eqI .none (.s rfl) (.int (by decide))) rfl (.mv rfl (.cons (.move (.at rfl rfl) (.s rfl)) rfl (.cons (.move (.at rfl rfl) (.s rfl)) rfl (.cons (.lt (.at rfl rfl) (.tmp rfl id) (.tmp rfl id)) rfl (.cons (.pickOr .none (.s rfl) (.tmp rfl id)) rfl (.nil ?_))))))))))))))))))))))))))))))))
         obtain ⟨j_41, h, hK41⟩ := bind_some h
         refine .thenJ (ι := Int) (fun j_41 => [(26, ⟨True, rep j_41⟩)]) (fun j_41 => []) (fun s => j_41 = s) (.k 21 rfl (.k 27 rfl (.k 28 rfl (.k 29 rfl .nil)))) SubB.nil ?_ (fun j_41' hj41 => ?_)
         ·
          refine .cb rfl h (fun _ h => ?_) fun _ h => ?_
          ·
           exact .rg [] mixed (.mv rfl (.asn rfl (.nil (Ends.j _ (some_eq h)))))
          ·
           exact .skip (Ends.j _ (some_eq h))
         ·
          subst hj41; have h := hK41; clear hK41
          refine .sr [] mixed (.mv rfl (.cons (.eqI .none (.s rfl) (.int (by decide))) rfl (.mv rfl (.cons (.move (.at rfl rfl) (.s rfl)) rfl (.cons (.move (.at rfl rfl) (.s rfl)) rfl (.cons (.gt (.at rfl rfl) (.tmp rfl id) (.tmp rfl id)) rfl (.cons (.pickOr .none (.s rfl) (.tmp rfl id)) rfl (.nil (.cb rfl h (fun _ h => ?_) fun _ h => ?_)))))))))
          ·
           exact .rg [] mixed (.mv rfl (.asn rfl (.nil (.blkNormal (Ends.j _ (some_eq h))))))
          ·
           exact .skip (.blkNormal (Ends.j _ (some_eq h)))
        ·
         subst hj36; have h := hK36; clear hK36
         obtain ⟨i1, hv44, h⟩ := bnd_some h
         exact .rg [] mixed (.mv rfl (.cons (.addW .none (.s rfl) (.int (by decide))) rfl (.cons (.re hv44 (.assign .none (.s rfl))) rfl (.nil (Ends.ag (some_eq h))))))
       ·
        refine .exit (.thenExit (.thenExit (.blkExit ?_)))
        replace h := hD34 _ (some_eq h)
        exact Ends.j _ (some_eq h)
      ·
       subst hj33; have h := hK33; clear hK33
       refine .sr [] mixed (.mv rfl (.cons (.lt .none (.s rfl) (.int (by decide))) rfl (.mv rfl (.cons (.move (.at rfl rfl) (.s rfl)) rfl (.cons (.move (.at rfl rfl) (.s rfl)) rfl (.cons (.subW (.at rfl rfl) (.tmp rfl id) (.tmp rfl id)) rfl (.cons (.le (.at rfl rfl) (.tmp rfl id) (.int (by decide))) rfl (.cons (.pickOr .none (.s rfl) (.tmp rfl id)) rfl (.asn rfl (.nil (.ret ?_)))))))))))
       obtain rfl := some_eq h
       exact Ends.rt Tryd.results5 rfl
end Go.Proofs.YtclcheggnlhamaaDoor
