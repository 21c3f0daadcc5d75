/- A part of the proof. -/
import Derived.Test.YtclcheggnlhamaaGreatDoorMovWa2
set_option maxRecDepth 100000
set_option linter.unusedSimpArgs false
set_option linter.unusedVariables false
namespace Go.Proofs.YtclcheggnlhamaaGreatDoor
open Go Go.DB Go.RowKit
theorem ref_MoveBy_ok {d1 : Doc} {by1 : (GMap Str Point)} {r : (Doc × Int)}  (h : ref_MoveBy d1 by1 = some r) : FSpec Tryz.prog 56 [rep d1, rep by1] (tup [rep r.1, rep r.2]) := by
 unfold ref_MoveBy at h
 obtain ⟨v1, hv1, h⟩ := bnd_some h
 obtain ⟨r1, hv2, h⟩ := bind_some h
 obtain ⟨root1, hv3, h⟩ := bnd_some h
 refine FSpec.i Tryz.func56 rfl Tryz.ntmps56 rfl (fun F => (.sr [oo, ([], [4]), oo] mx (.cA (.box .none (.s rfl)) (.al zo25 rfl (.cA (.assign .none .i) (.nil (.reB (t := 4) rfl (congrArg (cont 25) hv1) (.nameBox (t := 4) (g := 5001) rfl rfl (fun m5001 => (.sr [oo, ([], [18]), ([], [6]), ([6, 18], [6, 18])] mx (.ldA ty25 rfl (.cW (.cO [] (ref_Copied_ok hv2) (.cons (.s rfl) .nil) .nil rfl) (.al zo25 rfl (.cN (.storeG2 (t := 18) (k := 6) (mk := (fun z1 z2 => (⟨⟨z1⟩, ⟨z2⟩⟩ : Doc_o01))) ty25 rfl rfl (by rfl) rfl rfl rfl rfl) (.nil (.nameAt (t := 6) (g := 5002) rfl rfl (isBox_deep fun _ => (isBox_deep fun _ => isBox_cont)) rfl (fun m5002 => (.open (k := 5002) (g := 5003) rfl rfl (fun s5003 => (.open (k := 5002) (g := 5004) rfl rfl (fun s5004 => (.sr [([], [19]), ([19], [7, 19])] mx (.cW (.makeMap (K := Str) (V := Str) rfl) (.cW (.passRow rfl (.tmp rfl)) (.nil (.reB (t := 7) rfl (congrArg mapV hv3) (.nameMap (t := 7) (g := 5005) rfl rfl rfl (fun s5005 => (.seq (.sn mx (.fa fd25_0 hfd25_0 rfl (.ld ty22 rfl (.ln sl22 rfl (.mvi (.nil ?_)))))))))))))))))))))))))))))))))))
 obtain ⟨o_4, h, hK4⟩ := bindR_some h
 refine .thenJ (ι := ((List DNode) × (GMap Str Str))) (fun j_4 => []) (fun j_4 => [(5003, some (CPred.at s5003 (rowV 44 j_4.1))), (5005, some (CPred.at s5005 (mapV j_4.2)))]) (fun s => o_4 = Res.nx s) (.k4 1 2 4 6 rfl rfl rfl rfl (.k 7 rfl .nil)) (.k2 5001 5002 rfl rfl (.k 5004 rfl .nil)) ?_ (fun j_4 hj4 => ?_)
 ·
  refine .block (.rforEL h (fun p5_ => [(23, ⟨True, rep p5_.1⟩)]) (fun p5_ => [(5003, some (CPred.at s5003 (rowV 44 p5_.2.1))), (5005, some (CPred.at s5005 (mapV p5_.2.2)))]) (.k 23 rfl .nil) (.k2 5003 5005 rfl rfl .nil) (.k4 1 2 4 6 rfl rfl rfl rfl (.k2 7 21 rfl rfl (.k 22 rfl .nil))) (.k2 5001 5002 rfl rfl (.k 5004 rfl .nil)) (fun p5_ o_5 h hD5 => (.sn mx (.lt rfl rfl (.nil (.seq (.cb rfl h (fun _ h => ?_) fun _ h => ?_)))))))
  ·
   refine .skip (.then (.seq ?_))
   obtain ⟨o_7, h, hK7⟩ := bindD_some h
   unfold ref_MoveBy_L1 at h
   refine .thenJ (ι := ((List DNode) × (GMap Str Str))) (fun j_7 => []) (fun j_7 => [(5003, some (CPred.at s5003 (rowV 44 j_7.1))), (5005, some (CPred.at s5005 (mapV j_7.2)))]) (fun s => o_7 = Res.nx s) (.k4 1 2 4 6 rfl rfl rfl rfl (.k4 7 21 22 23 rfl rfl rfl rfl .nil)) (.k2 5001 5002 rfl rfl (.k 5004 rfl .nil)) ?_ (fun j_7 hj7 => ?_)
   ·
    obtain ⟨hn8, h⟩ := need_some h
    obtain ⟨v2, hv9, h⟩ := bnd_some h
    refine .block (.sr [oo, oo, oo, ([], [9]), oo, ([9], [9])] mx (.mvA rfl (.ixA sl22 ty44 rfl rfl hn8 (.rlA hv9 ty44 rfl (.al zo44 rfl (.asnA rfl (.st ty44 rfl rfl rfl (.nil (.freeze (t := 9) rfl rfl (.k2 5001 5002 rfl rfl (.k2 5003 5004 rfl rfl (.k 5005 rfl .nil))) rfl (.sr [oo, ([], [29])] mx (.mvA rfl (.cW (.rangeMap Tryz.underlying84 rfl (.s rfl)) (.nil (.nameAt (t := 29) (g := 5006) rfl rfl isBox_iterF rfl (fun m5006 => (.block (.listsF (q := 5006) rfl (fun hf10 => (.mrangeEL h hf10 (fun p10_ => []) (fun p10_ => [(5006, some (CPred.at (ptr m5006 0) (iterF by1 p10_.1))), (5003, some (CPred.at s5003 (rowV 44 p10_.2.1))), (5005, some (CPred.at s5005 (mapV p10_.2.2)))]) Sub.nil (.k2 5006 5003 rfl rfl (.k 5005 rfl .nil)) (.k4 1 2 4 6 rfl rfl rfl rfl (.k4 7 8 9 21 rfl rfl rfl rfl (.k2 22 23 rfl rfl (.k 29 rfl .nil)))) (.k2 5001 5002 rfl rfl (.k 5004 rfl .nil)) (fun p10_ H10 => (.sr [([5006], [30, 5006]), ([30], [31, 30])] mx (.cW (.nextF (k := 5006) rfl rfl (.s rfl)) (.cW (.nextedOk (d := 30) rfl rfl) (.nil (.openNext (t := 31) (k := 5006) rfl rfl rfl (fun o10_ ho10 => ?_))))))))))))))))))))))))))
    obtain ⟨out10_, h, hD10⟩ := H10 o10_ ho10
    refine .againM (fun s' hs' => ⟨o10_, ho10, h.trans (congrArg some hs')⟩) (.seq ?_)
    cases o10_ with
    | some x10_ =>
     replace h := mstepE_some h
     refine .condT (t := 31) rfl trivial rfl (.skip (.then ?_))
     obtain ⟨o_11, h, hK11⟩ := bindD_some h
     unfold ref_MoveBy_L2 at h
     refine .tailJ (ι := ((List DNode) × (GMap Str Str))) (fun j_11 => []) (fun j_11 => [(5003, some (CPred.at s5003 (rowV 44 j_11.1))), (5005, some (CPred.at s5005 (mapV j_11.2)))]) (fun s => o_11 = Res.nx s) (.k4 1 2 4 6 rfl rfl rfl rfl (.k4 7 8 9 21 rfl rfl rfl rfl (.k2 22 23 rfl rfl (.k 29 rfl .nil)))) (.k2 5001 5002 rfl rfl (.k2 5004 5006 rfl rfl .nil)) ?_ (fun j_11 hj11 => ?_)
     ·
      obtain ⟨r2, hv12, h⟩ := bind_some h
      refine .block (.sr [([5006], []), oo, oo, ([], [11]), oo, ([11], [11])] mx (.cA (.entryF (k := 5006) (p := p10_.1) (y := x10_) rfl (.s rfl)) (.exA rfl rfl (.exA rfl rfl (.al zo27 rfl (.asnA rfl (.st ty27 rfl rfl rfl (.nil (.freeze (t := 11) rfl rfl (.k2 5001 5002 rfl rfl (.k2 5003 5004 rfl rfl (.k2 5005 5006 rfl rfl .nil))) rfl (.seq (.sn mx (.fa fd44_0 hfd44_0 rfl (.ld ty9 rfl (.mv rfl (.c (.neS .none (eqAt_str Tryz.underlying9) (.s rfl) (.s rfl)) (.mv rfl (.c (.load (.at rfl rfl) ty25 (.s rfl)) (.fg fd44_0 hfd44_0 rfl rfl rfl (.lg ty9 rfl rfl rfl (.mg rfl rfl rfl (.c (.callIf (.at rfl rfl) fnok19 (fun hg => ref_IsBelow_ok ((fun hg => gd_some hv12 (hg.2)) hg)) (.cons (.tmp rfl id) (.cons (.tmp rfl id) (.cons (.tmp rfl id) .nil))) (fun h => h)) (.c (.not (.at rfl rfl) (.tmp rfl id)) (.pa rfl rfl (.nil (.cb rfl h (fun _ h => ?_) fun _ h => ?_)))))))))))))))))))))))))
      ·
       exact .exit (.thenExit (.blkExit (Ends.j _ (some_eq h))))
      ·
       refine .skip (.then (.seq (.sn mx (.fa fd44_6 hfd44_6 rfl (.ld ty4 rfl (.mv rfl (.c (.load (.at rfl rfl) ty27 (.s rfl)) (.c (.buildF (y := (⟨(0 : Int), (0 : Int)⟩ : Point)) (.at rfl rfl) bu27 zc27 rfl .nil .nil) (.c (.neS (.at rfl rfl) eq27 (.tmp rfl id) (.tmp rfl id)) (.pa rfl rfl (.nil (.cb rfl h (fun _ h => ?_) fun _ h => ?_))))))))))))
       ·
        obtain ⟨v3, hv15, h⟩ := bnd_some h
        refine .sr [oo, ([5001], [5001]), oo] mx (.cA (.re hv15 (.buildF (y := (⟨([] : (List DNode)), ([] : (List DEdge))⟩ : Doc)) .none bu25 zc25 rfl .nil .nil)) (.s0 5001 ty25 rfl rfl rfl (.cA (.assign .none .i) (.nil (.fb 5001 [4] rfl (.cons (t := 4) rfl trivial .nil) (.ret (.thenRet (.blkRet (.thenRet (.thenRet (.blkRet (.blkRet (.thenRet (.thenRet (.blkRet (.thenRet ?_))))))))))))))))
        replace h := resd_ab hK11 (some_eq h)
        replace h := hD10 _ (some_eq h)
        replace h := resd_ab hK7 (some_eq h)
        replace h := hD5 _ (some_eq h)
        replace h := resb_ab hK4 (some_eq h)
        obtain rfl := some_eq h
        exact Ends.r2 Tryz.results56 ty25 rfl rfl
       ·
        obtain ⟨root2, hv16, h⟩ := bnd_some h
        refine .skip (.then (.sr [oo, oo, oo, oo, ([5005], [5005])] mx (.mvA rfl (.faA fd44_0 hfd44_0 rfl (.ldA ty9 rfl (.mvA rfl (.cN (.mapUpdate (q := 5005) mo171 (.s rfl) rfl (.s rfl) (.s rfl)) (.nil (.reB (t := 5005) rfl (congrArg (fun y => CPred.at s5005 (mapV y)) hv16) (.sn mx (.fa fd44_1 hfd44_1 rfl (.ld ty3 rfl (.nei rfl (.nil (.cb rfl h (fun _ h => ?_) fun _ h => ?_)))))))))))))))
        ·
         obtain ⟨hn18, h⟩ := need_some h
         obtain ⟨v4, hv19, h⟩ := bnd_some h
         obtain ⟨hn20, h⟩ := need_some h
         obtain ⟨c1, hv21, h⟩ := bnd_some h
         obtain ⟨hn22, h⟩ := need_some h
         obtain ⟨v5, hv23, h⟩ := bnd_some h
         obtain ⟨hn24, h⟩ := need_some h
         exact .sr [oo, ([5002], []), oo, ([5003], []), ([5003], []), ([5003], []), ([5003], []), oo, oo, oo, ([5003], []), ([5003], []), ([5003], []), ([5003], [5003])] mx (.cA (.fieldPtr .none fd25_0 (.s rfl)) (.cA (.loadAt (k := 5002) .none tr22 rfl (.s rfl) hv_Doc_o01_0) (.mvA rfl (.ixO 5003 sl22 ty44 rfl rfl rfl hn18 (.fe 5003 fd44_2 rfl rfl hn18 (.fe 5003 fd29_0 rfl rfl hn18 (.cA (.loadElem (k := 5003) .none ty3 (.s rfl) rfl (HasField.comp (o2 := 0) hfd44_2 hfd29_0) (fun _ => hn18)) (.faA fd27_0 hfd27_0 rfl (.ldA ty3 rfl (.cA (.re hv19 (.addW .none (.s rfl) (.s rfl))) (.ixO 5003 sl22 ty44 rfl rfl rfl hn20 (.fe 5003 fd44_2 rfl rfl hn20 (.fe 5003 fd29_0 rfl rfl hn20 (.cN (.storeElem (k := 5003) ty3 (.s rfl) rfl (SetField.comp (o2 := 0) hfd44_2 sf44_2 sf29_0) (.s rfl) hn20) (.nil (.reB (t := 5003) rfl (congrArg (fun y => CPred.at s5003 (rowV 44 y)) hv21) (.rg [oo, ([5002], []), oo, ([5003], []), ([5003], []), ([5003], []), ([5003], []), oo, oo, oo, ([5003], []), ([5003], []), ([5003], []), ([5003], [5003])] mx (.cA (.fieldPtr .none fd25_0 (.s rfl)) (.cA (.loadAt (k := 5002) .none tr22 rfl (.s rfl) hv_Doc_o01_0) (.mvA rfl (.ixO 5003 sl22 ty44 rfl rfl rfl hn22 (.fe 5003 fd44_2 rfl rfl hn22 (.fe 5003 fd29_1 rfl rfl hn22 (.cA (.loadElem (k := 5003) .none ty3 (.s rfl) rfl (HasField.comp (o2 := 1) hfd44_2 hfd29_1) (fun _ => hn22)) (.faA fd27_1 hfd27_1 rfl (.ldA ty3 rfl (.cA (.re hv23 (.addW .none (.s rfl) (.s rfl))) (.ixO 5003 sl22 ty44 rfl rfl rfl hn24 (.fe 5003 fd44_2 rfl rfl hn24 (.fe 5003 fd29_1 rfl rfl hn24 (.cN (.storeElem (k := 5003) ty3 (.s rfl) rfl (SetField.comp (o2 := 1) hfd44_2 sf44_2 sf29_1) (.s rfl) hn24) (.nil (.blkNormal (Ends.j _ (some_eq h)))))))))))))))))))))))))))))))))))
        ·
         exact .skip (.blkNormal (Ends.j _ (some_eq h)))
     ·
      have h := resd_nx hK11 hj11
      exact Ends.ag (some_eq h)
    | none =>
     replace h := mstepE_none h
     refine .condF (t := 31) rfl trivial rfl (.exit (.thenExit (.thenExit (.blkExit (.blkNormal ?_)))))
     replace h := hD10 _ (some_eq h)
     exact Ends.j _ (some_eq h)
   ·
    have h := resd_nx hK7 hj7
    exact .rn mx (.adi rfl (.mv rfl (.nil (Ends.ag (some_eq h)))))
  ·
   refine .exit (.thenExit (.thenExit (.blkExit ?_)))
   replace h := hD5 _ (some_eq h)
   exact Ends.j _ (some_eq h)
 ·
  have h := resb_nx hK4 hj4
  refine .freezeAt (g := 5005) (S := rep j_4.2) (ts := [7]) rfl (.cons (t := 7) rfl trivial .nil) (.k2 5001 5002 rfl rfl (.k2 5003 5004 rfl rfl .nil)) rfl (fun M D w h hms => mapV_rep h hms) (.seq (.sn mx (.fa fd25_1 hfd25_1 rfl (.ld ty23 rfl (.ln sl23 rfl (.mvi (.nil ?_)))))))
  obtain ⟨j_25, h, hK25⟩ := bind_some h
  refine .thenJ (ι := (List DEdge)) (fun j_25 => []) (fun j_25 => [(5004, some (CPred.at s5004 (rowV 67 j_25)))]) (fun s => j_25 = s) (.k2 4 6 rfl rfl .nil) (.k2 5001 5002 rfl rfl (.k 5003 rfl .nil)) ?_ (fun j_25' hj25 => ?_)
  ·
   refine .block (.rforL h (fun p26_ => [(92, ⟨True, rep p26_.1⟩)]) (fun p26_ => [(5004, some (CPred.at s5004 (rowV 67 p26_.2)))]) (.k 92 rfl .nil) (.k 5004 rfl .nil) (.k4 1 4 6 7 rfl rfl rfl rfl (.k2 90 91 rfl rfl .nil)) (.k2 5001 5002 rfl rfl (.k 5003 rfl .nil)) (fun p26_ o_26 h hD26 => (.sn mx (.lt rfl rfl (.nil (.seq (.cb rfl h (fun _ h => ?_) fun _ h => ?_)))))))
   ·
    refine .skip (.then (.seq ?_))
    obtain ⟨j_28, h, hK28⟩ := bind_some h
    unfold ref_MoveBy_L3 at h
    refine .thenJ (ι := (List DEdge)) (fun j_28 => []) (fun j_28 => [(5004, some (CPred.at s5004 (rowV 67 j_28)))]) (fun s => j_28 = s) (.k4 1 4 6 7 rfl rfl rfl rfl (.k2 90 91 rfl rfl (.k 92 rfl .nil))) (.k2 5001 5002 rfl rfl (.k 5003 rfl .nil)) ?_ (fun j_28' hj28 => ?_)
    ·
     obtain ⟨hn29, h⟩ := need_some h
     obtain ⟨v6, hv30, h⟩ := bnd_some h
     obtain ⟨r3, hv31, h⟩ := bnd_some h
     refine .block (.sr [oo, oo, oo, ([], [13]), oo, ([13], [13])] mx (.mvA rfl (.ixA sl23 ty67 rfl rfl hn29 (.rlA hv30 ty67 rfl (.al zo67 rfl (.asnA rfl (.st ty67 rfl rfl rfl (.nil (.freeze (t := 13) rfl rfl (.k2 5001 5002 rfl rfl (.k2 5003 5004 rfl rfl .nil)) rfl (.sn mx (.mv rfl (.fa fd67_1 hfd67_1 rfl (.fa fd65_0 hfd65_0 rfl (.ld ty9 rfl (.c (.lookupOk .none mo171 zo9 (.s rfl) (.s rfl)) (.mv rfl (.ex rfl rfl (.ex rfl rfl (.ra hv31 rfl (.asn rfl (.nil (.sn mx (.mv rfl (.mv rfl (.mg rfl rfl rfl (.fg fd67_2 hfd67_2 rfl rfl rfl (.c (.fieldAddr (.at rfl rfl) fd65_0 hfd65_0 (.tmp rfl id)) (.lg ty9 rfl rfl rfl (.c (.lookup (.at rfl rfl) mo171 zo9 (.tmp rfl id) (.tmp rfl id)) (.mg rfl rfl rfl (.c (.eqS (.at rfl rfl) (eqAt_str Tryz.underlying9) (.tmp rfl id) (.tmp rfl id)) (.pa rfl rfl (.nil (.cb rfl h (fun _ h => ?_) fun _ h => ?_))))))))))))))))))))))))))))))))))
     ·
      obtain ⟨r4, hv33, h⟩ := bind_some h
      obtain ⟨hn34, h⟩ := need_some h
      exact .rg [oo, ([5002], []), oo, oo, oo, oo, oo, oo, oo, oo, oo, oo, oo, oo, ([5004], []), ([5004], []), ([5004], [5004])] mx (.cA (.fieldPtr .none fd25_1 (.s rfl)) (.cA (.loadAt (k := 5002) .none tr23 rfl (.s rfl) hv_Doc_o01_1) (.mvA rfl (.faA fd67_3 hfd67_3 rfl (.ldA ty59 rfl (.mvA rfl (.mvA rfl (.cA (.lookup .none mo84 zo27 (.s rfl) (.s rfl)) (.cA (.fieldV (proj := Point.X) .none ft27_0 ty3 hfd27_0 rfl (.s rfl)) (.mvA rfl (.mvA rfl (.cA (.lookup .none mo84 zo27 (.s rfl) (.s rfl)) (.cA (.fieldV (proj := Point.Y) .none ft27_1 ty3 hfd27_1 rfl (.s rfl)) (.cA (.call .none (ref_shifted_ok hv33) (.cons (.s rfl) (.cons (.s rfl) (.cons (.s rfl) .nil)))) (.ixO 5004 sl23 ty67 rfl rfl rfl hn34 (.fe 5004 fd67_3 rfl rfl hn34 (.cN (.storeElem (k := 5004) ty59 (.s rfl) rfl sf67_3 (.s rfl) hn34) (.nil (.blkNormal (Ends.j _ (some_eq h)))))))))))))))))))))
     ·
      exact .skip (.blkNormal (Ends.j _ (some_eq h)))
    ·
     subst hj28; have h := hK28; clear hK28
     exact .rn mx (.adi rfl (.mv rfl (.nil (Ends.ag (some_eq h)))))
   ·
    refine .exit (.thenExit (.thenExit (.blkExit ?_)))
    replace h := hD26 _ (some_eq h)
    exact Ends.j _ (some_eq h)
  ·
   subst hj25; have h := hK25; clear hK25
   refine .close (k := 5002) (g := 5004) (fun z => cont 25 (⟨⟨s5003⟩, ⟨z⟩⟩ : Doc_o01)) rfl rfl rfl (.close (k := 5002) (g := 5003) (fun z => deep (fun z0 => cont 25 (⟨⟨z⟩, ⟨z0⟩⟩ : Doc_o01)) (rowV 67 j_25)) rfl rfl rfl (.freezeAt (g := 5002) (S := ref ({ r1 with Nodes := j_4.1, Edges := j_25 } : Doc)) (ts := [6]) rfl (.cons (t := 6) rfl trivial .nil) (.k 5001 rfl .nil) rfl (fun M D w h hms => deep_ref2 (mk := (fun s1_ s2_ => (⟨⟨s1_⟩, ⟨s2_⟩⟩ : Doc_o01))) (y := ({ r1 with Nodes := j_4.1, Edges := j_25 } : Doc)) frzRow frzRow rfl (fun M s1_ s2_ cs w hc g1 g2 => by obtain ⟨c0, q0, e0, h0, h1⟩ := hc; exact ⟨c0, q0, e0, raw_cells rfl rfl h0 g1, raw_cells rfl rfl h1 g2⟩) M D w h hms) ?_))
   obtain ⟨e1, hv35, h⟩ := bind_some h
   refine .seq (.sn mx (.ld ty25 rfl (.c (.call .none (ref_DocError_ok hv35) (.cons (.s rfl) .nil)) (.asn rfl (.nil (.sn mx (.mv rfl (.nei rfl (.nil (.cb rfl h (fun _ h => ?_) fun _ h => ?_))))))))))
   ·
    obtain ⟨v7, hv37, h⟩ := bnd_some h
    refine .sr [oo, oo, ([5001], [5001]), oo] mx (.cA (.re hv37 (.buildF (y := (⟨([] : (List DNode)), ([] : (List DEdge))⟩ : Doc)) .none bu25 zc25 rfl .nil .nil)) (.mvA rfl (.s0 5001 ty25 rfl rfl rfl (.asnA rfl (.nil (.fb 5001 [4] rfl (.cons (t := 4) rfl trivial .nil) (.ret (.thenRet ?_))))))))
    obtain rfl := some_eq h
    exact Ends.r2 Tryz.results56 ty25 rfl rfl
   ·
    obtain ⟨v8, hv38, h⟩ := bnd_some h
    refine .skip (.then (.sr [oo, ([5001], [5001]), oo] mx (.rlA hv38 ty25 rfl (.s0 5001 ty25 rfl rfl rfl (.cA (.assign .none .i) (.nil (.fb 5001 [4] rfl (.cons (t := 4) rfl trivial .nil) (.ret ?_))))))))
    obtain rfl := some_eq h
    exact Ends.r2 Tryz.results56 ty25 rfl rfl
theorem slices_insertionSortCmpFunc_entry_ok {data1 : (List Ref_entry)} {a1 : Int} {b1 : Int} {cmp1 : (Ref_entry → Ref_entry → Option Int)} {r : (List Ref_entry)} {s53 : Value} (h : slices_insertionSortCmpFunc_entry data1 a1 b1 cmp1 = some r) : FSpecO Tryz.prog 201 [isV s53, rep a1, rep b1, fn2 Tryz.prog (rep (α := Int)) cmp1] [(s53, rowV 175 data1)] (anyV) [some (rowV 175 r)] := by
 unfold slices_insertionSortCmpFunc_entry at h
 obtain ⟨i1, hv1, h⟩ := bnd_some h
 refine FSpecO.i Tryz.func201 rfl Tryz.ntmps201 rfl (fun F => (.sn mx (.mv rfl (.adi rfl (.ra hv1 rfl (.nil (.block (.loopL h (fun s2_ => [(8, ⟨True, rep s2_.1⟩)]) (fun s2_ => [(53, some (CPred.at s53 (rowV 175 s2_.2)))]) (.k 8 rfl .nil) (.k 53 rfl .nil) (.k4 0 1 2 3 rfl rfl rfl rfl .nil) SubB.nil (fun s2_ o_2 h hD2 => ?_)))))))))
 unfold slices_insertionSortCmpFunc_entry_L1 at h
 refine .seq (.sn mx (.mv rfl (.mv rfl (.lt rfl rfl (.nil (.cb rfl h (fun _ h => ?_) fun _ h => ?_))))))
 ·
  refine .skip (.then (.seq ?_))
  obtain ⟨j_4, h, hK4⟩ := bind_some h
  refine .thenJ (ι := (List Ref_entry)) (fun j_4 => []) (fun j_4 => [(53, some (CPred.at s53 (rowV 175 j_4)))]) (fun s => j_4 = s) (.k4 0 1 2 3 rfl rfl rfl rfl (.k 8 rfl .nil)) SubB.nil ?_ (fun j_4' hj4 => ?_)
  ·
   refine .block (.sn mx (.mv rfl (.asn rfl (.nil (.block (.loopL h (fun s5_ => [(9, ⟨True, rep s5_.1⟩)]) (fun s5_ => [(53, some (CPred.at s53 (rowV 175 s5_.2)))]) (.k 9 rfl .nil) (.k 53 rfl .nil) (.k4 0 1 2 3 rfl rfl rfl rfl (.k 8 rfl .nil)) SubB.nil (fun s5_ o_5 h hD5 => ?_)))))))
   unfold slices_insertionSortCmpFunc_entry_L2 at h
   obtain ⟨hn6, h⟩ := need_some h
   obtain ⟨hn7, h⟩ := need_some h
   obtain ⟨r1, hv8, h⟩ := bind_some h
   refine .seq (.sr [oo, oo, oo, oo, oo, oo, oo, ([53], []), ([53], []), oo, oo, oo, ([53], []), ([53], []), oo, oo, oo] mx (.mvA rfl (.mvA rfl (.cA (.gt .none (.s rfl) (.s rfl)) (.mvA rfl (.cA (.move (.at rfl rfl) (.s rfl)) (.cA (.move (.at rfl rfl) (.s rfl)) (.cA (.move (.at rfl rfl) (.s rfl)) (.cA (.indexAddrO (k := 53) (.at rfl rfl) sl173 ty175 (.tmp rfl id) rfl (.tmp rfl id) (fun hg => hn6 hg.2)) (.cA (.loadElem0 (k := 53) (.at rfl rfl) ty175 (.tmp rfl id) rfl (fun hg => hn6 hg.2)) (.cA (.move (.at rfl rfl) (.s rfl)) (.cA (.move (.at rfl rfl) (.s rfl)) (.cA (.subW (.at rfl rfl) (.tmp rfl id) .i) (.cA (.indexAddrO (k := 53) (.at rfl rfl) sl173 ty175 (.tmp rfl id) rfl (.tmp rfl id) (fun hg => hn7 hg.2)) (.cA (.loadElem0 (k := 53) (.at rfl rfl) ty175 (.tmp rfl id) rfl (fun hg => hn7 hg.2)) (.cA (.callV (gx s5_.2 s5_.1, gx s5_.2 (W (s5_.1 - 1)), r1) (.at rfl rfl) (.tmp rfl id) (fun hg => gd_some hv8 (hg.2)) (.cons (.tmp rfl id) (.cons (.tmp rfl id) .nil))) (.cA (.lt (.at rfl rfl) (.tmp rfl id) .i) (.cA (.pickAnd .none (.s rfl) (.tmp rfl id)) (.nil (.cb rfl h (fun _ h => ?_) fun _ h => ?_))))))))))))))))))))
   ·
    obtain ⟨hn10, h⟩ := need_some h
    obtain ⟨v1, hv11, h⟩ := bnd_some h
    obtain ⟨hn12, h⟩ := need_some h
    obtain ⟨v2, hv13, h⟩ := bnd_some h
    obtain ⟨hn14, h⟩ := need_some h
    obtain ⟨hn15, h⟩ := need_some h
    obtain ⟨data2, hv16, h⟩ := bnd_some h
    obtain ⟨j1, hv17, h⟩ := bnd_some h
    exact .skip (.then (.seq (.block (.rg [oo, oo, oo, oo, oo, oo, oo, oo, ([53], []), ([53], []), oo, oo, ([53], []), ([53], []), ([53], []), ([53], [53]), ([53], []), ([53], [53])] mx (.mvA rfl (.mvA rfl (.mvA rfl (.mvA rfl (.cA (.subW .none (.s rfl) .i) (.mvA rfl (.mvA rfl (.cA (.subW .none (.s rfl) .i) (.ixO 53 sl173 ty175 rfl rfl rfl hn10 (.cA (.re hv11 (.loadElem0 (k := 53) .none ty175 (.s rfl) rfl (fun _ => hn10))) (.mvA rfl (.mvA rfl (.ixO 53 sl173 ty175 rfl rfl rfl hn12 (.cA (.re hv13 (.loadElem0 (k := 53) .none ty175 (.s rfl) rfl (fun _ => hn12))) (.ixO 53 sl173 ty175 rfl rfl rfl hn14 (.cN (.storeElem0 (k := 53) ty175 (.s rfl) rfl (.s rfl) hn14) (.ixO 53 sl173 ty175 rfl rfl rfl hn15 (.cN (.storeElem0 (k := 53) ty175 (.s rfl) rfl (.s rfl) hn15) (.nil (.blkNormal (.then (.reB (t := 53) rfl (congrArg (fun y => CPred.at s53 (rowV 175 y)) hv16) (.rn mx (.mv rfl (.c (.subW .none (.s rfl) .i) (.ra hv17 rfl (.nil (Ends.ag (some_eq h)))))))))))))))))))))))))))))))))
   ·
    refine .exit (.thenExit (.thenExit (.blkExit (.blkNormal ?_))))
    replace h := hD5 _ (some_eq h)
    exact Ends.j _ (some_eq h)
  ·
   subst hj4; have h := hK4; clear hK4
   obtain ⟨i2, hv18, h⟩ := bnd_some h
   exact .rn mx (.mv rfl (.adi rfl (.ra hv18 rfl (.nil (Ends.ag (some_eq h))))))
 ·
  refine .exit (.thenExit (.thenExit (.blkExit ?_)))
  replace h := hD2 _ (some_eq h)
  obtain rfl := some_eq h
  exact Ends.ret0O (.inr rfl) [53] Tryz.results201 (by decide) (.held rfl .nil)
theorem slices_swapRangeCmpFunc_entry_ok {data1 : (List Ref_entry)} {a1 : Int} {b1 : Int} {n1 : Int} {cmp1 : (Ref_entry → Ref_entry → Option Int)} {r : (List Ref_entry)} {s38 : Value} (h : slices_swapRangeCmpFunc_entry data1 a1 b1 n1 cmp1 = some r) : FSpecO Tryz.prog 215 [isV s38, rep a1, rep b1, rep n1, fn2 Tryz.prog (rep (α := Int)) cmp1] [(s38, rowV 175 data1)] (anyV) [some (rowV 175 r)] := by
 unfold slices_swapRangeCmpFunc_entry at h
 refine FSpecO.i Tryz.func215 rfl Tryz.ntmps215 rfl (fun F => (.sn mx (.asi (.nil (.block (.loopL h (fun s1_ => [(10, ⟨True, rep s1_.1⟩)]) (fun s1_ => [(38, some (CPred.at s38 (rowV 175 s1_.2)))]) (.k 10 rfl .nil) (.k 38 rfl .nil) (.k4 0 1 2 3 rfl rfl rfl rfl .nil) SubB.nil (fun s1_ o_1 h hD1 => ?_)))))))
 unfold slices_swapRangeCmpFunc_entry_L1 at h
 refine .seq (.sn mx (.mv rfl (.mv rfl (.lt rfl rfl (.nil (.cb rfl h (fun _ h => ?_) fun _ h => ?_))))))
 ·
  obtain ⟨hn3, h⟩ := need_some h
  obtain ⟨v1, hv4, h⟩ := bnd_some h
  obtain ⟨hn5, h⟩ := need_some h
  obtain ⟨v2, hv6, h⟩ := bnd_some h
  obtain ⟨hn7, h⟩ := need_some h
  obtain ⟨hn8, h⟩ := need_some h
  obtain ⟨data2, hv9, h⟩ := bnd_some h
  obtain ⟨i1, hv10, h⟩ := bnd_some h
  exact .skip (.then (.seq (.block (.rg [oo, oo, oo, oo, oo, oo, oo, oo, oo, oo, oo, oo, ([38], []), ([38], []), oo, oo, oo, oo, ([38], []), ([38], []), ([38], []), ([38], [38]), ([38], []), ([38], [38])] mx (.mvA rfl (.mvA rfl (.mvA rfl (.addA rfl rfl (.mvA rfl (.mvA rfl (.mvA rfl (.addA rfl rfl (.mvA rfl (.mvA rfl (.mvA rfl (.addA rfl rfl (.ixO 38 sl173 ty175 rfl rfl rfl hn3 (.cA (.re hv4 (.loadElem0 (k := 38) .none ty175 (.s rfl) rfl (fun _ => hn3))) (.mvA rfl (.mvA rfl (.mvA rfl (.addA rfl rfl (.ixO 38 sl173 ty175 rfl rfl rfl hn5 (.cA (.re hv6 (.loadElem0 (k := 38) .none ty175 (.s rfl) rfl (fun _ => hn5))) (.ixO 38 sl173 ty175 rfl rfl rfl hn7 (.cN (.storeElem0 (k := 38) ty175 (.s rfl) rfl (.s rfl) hn7) (.ixO 38 sl173 ty175 rfl rfl rfl hn8 (.cN (.storeElem0 (k := 38) ty175 (.s rfl) rfl (.s rfl) hn8) (.nil (.blkNormal (.then (.reB (t := 38) rfl (congrArg (fun y => CPred.at s38 (rowV 175 y)) hv9) (.rn mx (.mv rfl (.adi rfl (.ra hv10 rfl (.nil (Ends.ag (some_eq h)))))))))))))))))))))))))))))))))))))))
 ·
  refine .exit (.thenExit (.thenExit (.blkExit ?_)))
  replace h := hD1 _ (some_eq h)
  obtain rfl := some_eq h
  exact Ends.ret0O (.inr rfl) [38] Tryz.results215 (by decide) (.held rfl .nil)
theorem slices_rotateCmpFunc_entry_ok {data1 : (List Ref_entry)} {a1 : Int} {m1 : Int} {b1 : Int} {cmp1 : (Ref_entry → Ref_entry → Option Int)} {r : (List Ref_entry)} {s58 : Value} (h : slices_rotateCmpFunc_entry data1 a1 m1 b1 cmp1 = some r) : FSpecO Tryz.prog 210 [isV s58, rep a1, rep m1, rep b1, fn2 Tryz.prog (rep (α := Int)) cmp1] [(s58, rowV 175 data1)] (anyV) [some (rowV 175 r)] := by
 unfold slices_rotateCmpFunc_entry at h
 obtain ⟨i1, hv1, h⟩ := bnd_some h
 obtain ⟨j1, hv2, h⟩ := bnd_some h
 refine FSpecO.i Tryz.func210 rfl Tryz.ntmps210 rfl (fun F => (.sn mx (.mv rfl (.mv rfl (.sub rfl rfl (.ra hv1 rfl (.nil (.sn mx (.mv rfl (.mv rfl (.sub rfl rfl (.ra hv2 rfl (.nil (.seq ?_))))))))))))))
 obtain ⟨j_3, h, hK3⟩ := bind_some h
 refine .thenJ (ι := (Int × (List Ref_entry))) (fun j_3 => [(10, ⟨True, rep j_3.1⟩)]) (fun j_3 => [(58, some (CPred.at s58 (rowV 175 j_3.2)))]) (fun s => j_3 = s) (.k2 0 2 rfl rfl (.k 4 rfl .nil)) SubB.nil ?_ (fun j_3' hj3 => ?_)
 ·
  refine .block (.loopL h (fun s4_ => [(10, ⟨True, rep s4_.1⟩), (11, ⟨True, rep s4_.2.1⟩)]) (fun s4_ => [(58, some (CPred.at s58 (rowV 175 s4_.2.2)))]) (.k2 10 11 rfl rfl .nil) (.k 58 rfl .nil) (.k2 0 2 rfl rfl (.k 4 rfl .nil)) SubB.nil (fun s4_ o_4 h hD4 => ?_))
  unfold slices_rotateCmpFunc_entry_L1 at h
  refine .seq (.sn mx (.mv rfl (.mv rfl (.c (.neI .none (.s rfl) (.s rfl)) (.nil (.cb rfl h (fun _ h => ?_) fun _ h => ?_))))))
  ·
   refine .skip (.then (.block (.sn mx (.mv rfl (.mv rfl (.c (.gt .none (.s rfl) (.s rfl)) (.nil (.cb rfl h (fun _ h => ?_) fun _ h => ?_))))))))
   ·
    obtain ⟨r1, hv7, h⟩ := bind_some h
    obtain ⟨i2, hv8, h⟩ := bnd_some h
    exact .sr [oo, oo, oo, oo, oo, oo, oo, ([58], [58])] mx (.mvA rfl (.mvA rfl (.mvA rfl (.subA rfl rfl (.mvA rfl (.mvA rfl (.mvA rfl (.cW (.cO [58] (slices_swapRangeCmpFunc_entry_ok hv7) (.cons (.s rfl) (.cons (.s rfl) (.cons (.s rfl) (.cons (.s rfl) (.cons (.s rfl) .nil))))) (.cons (k := 58) rfl .nil) rfl) (.nil (.rn mx (.mv rfl (.mv rfl (.sub rfl rfl (.ra hv8 rfl (.nil (.blkNormal (Ends.ag (some_eq h))))))))))))))))))
   ·
    obtain ⟨r2, hv9, h⟩ := bind_some h
    obtain ⟨j2, hv10, h⟩ := bnd_some h
    exact .sr [oo, oo, oo, oo, oo, oo, oo, oo, oo, oo, oo, ([58], [58])] mx (.mvA rfl (.mvA rfl (.mvA rfl (.subA rfl rfl (.mvA rfl (.mvA rfl (.addA rfl rfl (.mvA rfl (.subA rfl rfl (.mvA rfl (.mvA rfl (.cW (.cO [58] (slices_swapRangeCmpFunc_entry_ok hv9) (.cons (.s rfl) (.cons (.s rfl) (.cons (.s rfl) (.cons (.s rfl) (.cons (.s rfl) .nil))))) (.cons (k := 58) rfl .nil) rfl) (.nil (.rn mx (.mv rfl (.mv rfl (.sub rfl rfl (.ra hv10 rfl (.nil (.blkNormal (Ends.ag (some_eq h))))))))))))))))))))))
  ·
   refine .exit (.thenExit (.thenExit (.blkExit ?_)))
   replace h := hD4 _ (some_eq h)
   exact Ends.j _ (some_eq h)
 ·
  subst hj3; have h := hK3; clear hK3
  obtain ⟨r3, hv11, h⟩ := bind_some h
  refine .rg [oo, oo, oo, oo, oo, oo, oo, ([58], [58])] mx (.mvA rfl (.mvA rfl (.mvA rfl (.subA rfl rfl (.mvA rfl (.mvA rfl (.mvA rfl (.cW (.cO [58] (slices_swapRangeCmpFunc_entry_ok hv11) (.cons (.s rfl) (.cons (.s rfl) (.cons (.s rfl) (.cons (.s rfl) (.cons (.s rfl) .nil))))) (.cons (k := 58) rfl .nil) rfl) (.nil ?_)))))))))
  obtain rfl := some_eq h
  exact Ends.ret0O (.inr rfl) [58] Tryz.results210 (by decide) (.held rfl .nil)
set_option maxHeartbeats 4000000 in
theorem slices_symMergeCmpFunc_entry_okS {self : ((List Ref_entry) × Int × Int × Int × (Ref_entry → Ref_entry → Option Int)) → Option (List Ref_entry)} (hself : ∀ {s220 : Value} (x : ((List Ref_entry) × Int × Int × Int × (Ref_entry → Ref_entry → Option Int))) (r : (List Ref_entry)), self x = some r → FSpecO Tryz.prog 202 [isV s220, rep x.2.1, rep x.2.2.1, rep x.2.2.2.1, fn2 Tryz.prog (rep (α := Int)) x.2.2.2.2] [(s220, rowV 175 x.1)] (anyV) [some (rowV 175 r)]) {s220 : Value} {x : ((List Ref_entry) × Int × Int × Int × (Ref_entry → Ref_entry → Option Int))} {r : (List Ref_entry)} (h : slices_symMergeCmpFunc_entry_body self x = some r) : FSpecO Tryz.prog 202 [isV s220, rep x.2.1, rep x.2.2.1, rep x.2.2.2.1, fn2 Tryz.prog (rep (α := Int)) x.2.2.2.2] [(s220, rowV 175 x.1)] (anyV) [some (rowV 175 r)] := by
 unfold slices_symMergeCmpFunc_entry_body at h
 refine FSpecO.i Tryz.func202 rfl Tryz.ntmps202 rfl (fun F => (.seq (.sn mx (.mv rfl (.mv rfl (.sub rfl rfl (.eqi rfl (.nil ?_))))))))
 obtain ⟨o_1, h, hK1⟩ := bindR_some h
 refine .tJ (fun s => o_1 = Res.nx s) (.k4 0 1 2 3 rfl rfl rfl rfl (.k 4 rfl .nil)) (.k 220 rfl .nil) ?_ (fun j_1 hj1 => ?_)
 ·
  refine .cb rfl h (fun _ h => ?_) fun _ h => ?_
  ·
   refine .sn mx (.mv rfl (.asn rfl (.nil (.sn mx (.mv rfl (.asn rfl (.nil (.seq ?_))))))))
   obtain ⟨j_3, h, hK3⟩ := bind_some h
   refine .thenJ (ι := Int) (fun j_3 => [(10, ⟨True, rep j_3⟩)]) (fun j_3 => []) (fun s => j_3 = s) (.k2 0 1 rfl rfl .nil) (.k 220 rfl .nil) ?_ (fun j_3' hj3 => ?_)
   ·
    refine .block (.loopL h (fun s4_ => [(10, ⟨True, rep s4_.1⟩), (11, ⟨True, rep s4_.2⟩)]) (fun s4_ => []) (.k2 10 11 rfl rfl .nil) SubB.nil (.k2 0 1 rfl rfl (.k 4 rfl .nil)) (.k 220 rfl .nil) (fun s4_ o_4 h hD4 => ?_))
    unfold slices_symMergeCmpFunc_entry_L1 at h
    refine .seq (.sn mx (.mv rfl (.mv rfl (.lt rfl rfl (.nil (.cb rfl h (fun _ h => ?_) fun _ h => ?_))))))
    ·
     obtain ⟨h1, hv6, h⟩ := bnd_some h
     obtain ⟨hn7, h⟩ := need_some h
     obtain ⟨hn8, h⟩ := need_some h
     obtain ⟨r1, hv9, h⟩ := bind_some h
     refine .skip (.then (.block (.sn mx (.mv rfl (.mv rfl (.add rfl rfl (.c (.toK .none (by kernel_rfl) Tryz.underlying233 (.s rfl)) (.c (.kshr .none (.s rfl) .ki (fun _ => by decide)) (.c (.toInt .none (by kernel_rfl) Tryz.underlying3 (.s rfl)) (.ra hv6 rfl (.nil (.sr [oo, oo, oo, ([220], []), ([220], []), oo, oo, ([220], []), ([220], []), oo, oo] mx (.mvA rfl (.mvA rfl (.mvA rfl (.ixO 220 sl173 ty175 rfl rfl rfl hn7 (.cA (.loadElem0 (k := 220) .none ty175 (.s rfl) rfl (fun _ => hn7)) (.mvA rfl (.mvA rfl (.ixO 220 sl173 ty175 rfl rfl rfl hn8 (.cA (.loadElem0 (k := 220) .none ty175 (.s rfl) rfl (fun _ => hn8)) (.cA (.callV (gx x.1 h1, gx x.1 x.2.1, r1) .none (.s rfl) (fun _ => hv9) (.cons (.s rfl) (.cons (.s rfl) .nil))) (.cA (.lt .none (.s rfl) .i) (.nil (.cb rfl h (fun _ h => ?_) fun _ h => ?_)))))))))))))))))))))))))
     ·
      obtain ⟨i1, hv11, h⟩ := bnd_some h
      exact .rn mx (.mv rfl (.adi rfl (.ra hv11 rfl (.nil (.blkNormal (Ends.ag (some_eq h)))))))
     ·
      exact .rn mx (.mv rfl (.asn rfl (.nil (.blkNormal (Ends.ag (some_eq h))))))
    ·
     refine .exit (.thenExit (.thenExit (.blkExit ?_)))
     replace h := hD4 _ (some_eq h)
     exact Ends.j _ (some_eq h)
   ·
    subst hj3; have h := hK3; clear hK3
    refine .seq (.sn mx (.mv rfl (.asn rfl (.nil ?_))))
    obtain ⟨j_12, h, hK12⟩ := bind_some h
    refine .thenJ (ι := (List Ref_entry)) (fun j_12 => []) (fun j_12 => [(220, some (CPred.at s220 (rowV 175 j_12)))]) (fun s => j_12 = s) Sub.nil SubB.nil ?_ (fun j_12' hj12 => ?_)
    ·
     refine .block (.loopL h (fun s13_ => [(13, ⟨True, rep s13_.1⟩)]) (fun s13_ => [(220, some (CPred.at s220 (rowV 175 s13_.2)))]) (.k 13 rfl .nil) (.k 220 rfl .nil) (.k2 0 10 rfl rfl .nil) SubB.nil (fun s13_ o_13 h hD13 => ?_))
     unfold slices_symMergeCmpFunc_entry_L2 at h
     refine .seq (.sn mx (.mv rfl (.mv rfl (.c (.subW .none (.s rfl) .i) (.lt rfl rfl (.nil (.cb rfl h (fun _ h => ?_) fun _ h => ?_)))))))
     ·
      obtain ⟨hn15, h⟩ := need_some h
      obtain ⟨v1, hv16, h⟩ := bnd_some h
      obtain ⟨hn17, h⟩ := need_some h
      obtain ⟨v2, hv18, h⟩ := bnd_some h
      obtain ⟨hn19, h⟩ := need_some h
      obtain ⟨hn20, h⟩ := need_some h
      obtain ⟨data2, hv21, h⟩ := bnd_some h
      obtain ⟨k1, hv22, h⟩ := bnd_some h
      exact .skip (.then (.seq (.block (.rg [oo, oo, oo, oo, oo, oo, oo, oo, ([220], []), ([220], []), oo, oo, ([220], []), ([220], []), ([220], []), ([220], [220]), ([220], []), ([220], [220])] mx (.mvA rfl (.mvA rfl (.mvA rfl (.mvA rfl (.cA (.addW .none (.s rfl) .i) (.mvA rfl (.mvA rfl (.cA (.addW .none (.s rfl) .i) (.ixO 220 sl173 ty175 rfl rfl rfl hn15 (.cA (.re hv16 (.loadElem0 (k := 220) .none ty175 (.s rfl) rfl (fun _ => hn15))) (.mvA rfl (.mvA rfl (.ixO 220 sl173 ty175 rfl rfl rfl hn17 (.cA (.re hv18 (.loadElem0 (k := 220) .none ty175 (.s rfl) rfl (fun _ => hn17))) (.ixO 220 sl173 ty175 rfl rfl rfl hn19 (.cN (.storeElem0 (k := 220) ty175 (.s rfl) rfl (.s rfl) hn19) (.ixO 220 sl173 ty175 rfl rfl rfl hn20 (.cN (.storeElem0 (k := 220) ty175 (.s rfl) rfl (.s rfl) hn20) (.nil (.blkNormal (.then (.reB (t := 220) rfl (congrArg (fun y => CPred.at s220 (rowV 175 y)) hv21) (.rn mx (.mv rfl (.adi rfl (.ra hv22 rfl (.nil (Ends.ag (some_eq h)))))))))))))))))))))))))))))))))
     ·
      refine .exit (.thenExit (.thenExit (.blkExit ?_)))
      replace h := hD13 _ (some_eq h)
      exact Ends.j _ (some_eq h)
    ·
     subst hj12; have h := hK12; clear hK12
     refine .ret (.thenRet ?_)
     replace h := resb_ab hK1 (some_eq h)
     obtain rfl := some_eq h
     exact Ends.ret0O (.inl rfl) [220] Tryz.results202 (by decide) (.held rfl .nil)
  ·
   exact .skip (Ends.j _ (some_eq h))
 ·
  have h := resb_nx hK1 hj1
  refine .seq (.sn mx (.mv rfl (.mv rfl (.sub rfl rfl (.eqi rfl (.nil ?_))))))
  obtain ⟨o_23, h, hK23⟩ := bindR_some h
  refine .tJ (fun s => o_23 = Res.nx s) (.k4 0 1 2 3 rfl rfl rfl rfl (.k 4 rfl .nil)) (.k 220 rfl .nil) ?_ (fun j_23 hj23 => ?_)
  ·
   refine .cb rfl h (fun _ h => ?_) fun _ h => ?_
   ·
    refine .sn mx (.mv rfl (.asn rfl (.nil (.sn mx (.mv rfl (.asn rfl (.nil (.seq ?_))))))))
    obtain ⟨j_25, h, hK25⟩ := bind_some h
    refine .thenJ (ι := Int) (fun j_25 => [(14, ⟨True, rep j_25⟩)]) (fun j_25 => []) (fun s => j_25 = s) (.k2 0 2 rfl rfl .nil) (.k 220 rfl .nil) ?_ (fun j_25' hj25 => ?_)
    ·
     refine .block (.loopL h (fun s26_ => [(14, ⟨True, rep s26_.1⟩), (15, ⟨True, rep s26_.2⟩)]) (fun s26_ => []) (.k2 14 15 rfl rfl .nil) SubB.nil (.k2 0 2 rfl rfl (.k 4 rfl .nil)) (.k 220 rfl .nil) (fun s26_ o_26 h hD26 => ?_))
     unfold slices_symMergeCmpFunc_entry_L3 at h
     refine .seq (.sn mx (.mv rfl (.mv rfl (.lt rfl rfl (.nil (.cb rfl h (fun _ h => ?_) fun _ h => ?_))))))
     ·
      obtain ⟨h2, hv28, h⟩ := bnd_some h
      obtain ⟨hn29, h⟩ := need_some h
      obtain ⟨hn30, h⟩ := need_some h
      obtain ⟨r2, hv31, h⟩ := bind_some h
      refine .skip (.then (.block (.sn mx (.mv rfl (.mv rfl (.add rfl rfl (.c (.toK .none (by kernel_rfl) Tryz.underlying233 (.s rfl)) (.c (.kshr .none (.s rfl) .ki (fun _ => by decide)) (.c (.toInt .none (by kernel_rfl) Tryz.underlying3 (.s rfl)) (.ra hv28 rfl (.nil (.sr [oo, oo, oo, ([220], []), ([220], []), oo, oo, ([220], []), ([220], []), oo, oo, oo] mx (.mvA rfl (.mvA rfl (.mvA rfl (.ixO 220 sl173 ty175 rfl rfl rfl hn29 (.cA (.loadElem0 (k := 220) .none ty175 (.s rfl) rfl (fun _ => hn29)) (.mvA rfl (.mvA rfl (.ixO 220 sl173 ty175 rfl rfl rfl hn30 (.cA (.loadElem0 (k := 220) .none ty175 (.s rfl) rfl (fun _ => hn30)) (.cA (.callV (gx x.1 x.2.2.1, gx x.1 h2, r2) .none (.s rfl) (fun _ => hv31) (.cons (.s rfl) (.cons (.s rfl) .nil))) (.cA (.lt .none (.s rfl) .i) (.cA (.not .none (.s rfl)) (.nil (.cb rfl h (fun _ h => ?_) fun _ h => ?_))))))))))))))))))))))))))
      ·
       obtain ⟨i2, hv33, h⟩ := bnd_some h
       exact .rn mx (.mv rfl (.adi rfl (.ra hv33 rfl (.nil (.blkNormal (Ends.ag (some_eq h)))))))
      ·
       exact .rn mx (.mv rfl (.asn rfl (.nil (.blkNormal (Ends.ag (some_eq h))))))
     ·
      refine .exit (.thenExit (.thenExit (.blkExit ?_)))
      replace h := hD26 _ (some_eq h)
      exact Ends.j _ (some_eq h)
    ·
     subst hj25; have h := hK25; clear hK25
     refine .seq (.sn mx (.mv rfl (.asn rfl (.nil ?_))))
     obtain ⟨j_34, h, hK34⟩ := bind_some h
     refine .thenJ (ι := (List Ref_entry)) (fun j_34 => []) (fun j_34 => [(220, some (CPred.at s220 (rowV 175 j_34)))]) (fun s => j_34 = s) Sub.nil SubB.nil ?_ (fun j_34' hj34 => ?_)
     ·
      refine .block (.loopL h (fun s35_ => [(17, ⟨True, rep s35_.1⟩)]) (fun s35_ => [(220, some (CPred.at s220 (rowV 175 s35_.2)))]) (.k 17 rfl .nil) (.k 220 rfl .nil) (.k2 0 14 rfl rfl .nil) SubB.nil (fun s35_ o_35 h hD35 => ?_))
      unfold slices_symMergeCmpFunc_entry_L4 at h
      refine .seq (.sn mx (.mv rfl (.mv rfl (.c (.gt .none (.s rfl) (.s rfl)) (.nil (.cb rfl h (fun _ h => ?_) fun _ h => ?_))))))
      ·
       obtain ⟨hn37, h⟩ := need_some h
       obtain ⟨v3, hv38, h⟩ := bnd_some h
       obtain ⟨hn39, h⟩ := need_some h
       obtain ⟨v4, hv40, h⟩ := bnd_some h
       obtain ⟨hn41, h⟩ := need_some h
       obtain ⟨hn42, h⟩ := need_some h
       obtain ⟨data3, hv43, h⟩ := bnd_some h
       obtain ⟨k2, hv44, h⟩ := bnd_some h
       exact .skip (.then (.seq (.block (.rg [oo, oo, oo, oo, oo, oo, oo, oo, ([220], []), ([220], []), oo, oo, ([220], []), ([220], []), ([220], []), ([220], [220]), ([220], []), ([220], [220])] mx (.mvA rfl (.mvA rfl (.mvA rfl (.mvA rfl (.cA (.subW .none (.s rfl) .i) (.mvA rfl (.mvA rfl (.cA (.subW .none (.s rfl) .i) (.ixO 220 sl173 ty175 rfl rfl rfl hn37 (.cA (.re hv38 (.loadElem0 (k := 220) .none ty175 (.s rfl) rfl (fun _ => hn37))) (.mvA rfl (.mvA rfl (.ixO 220 sl173 ty175 rfl rfl rfl hn39 (.cA (.re hv40 (.loadElem0 (k := 220) .none ty175 (.s rfl) rfl (fun _ => hn39))) (.ixO 220 sl173 ty175 rfl rfl rfl hn41 (.cN (.storeElem0 (k := 220) ty175 (.s rfl) rfl (.s rfl) hn41) (.ixO 220 sl173 ty175 rfl rfl rfl hn42 (.cN (.storeElem0 (k := 220) ty175 (.s rfl) rfl (.s rfl) hn42) (.nil (.blkNormal (.then (.reB (t := 220) rfl (congrArg (fun y => CPred.at s220 (rowV 175 y)) hv43) (.rn mx (.mv rfl (.c (.subW .none (.s rfl) .i) (.ra hv44 rfl (.nil (Ends.ag (some_eq h)))))))))))))))))))))))))))))))))
      ·
       refine .exit (.thenExit (.thenExit (.blkExit ?_)))
       replace h := hD35 _ (some_eq h)
       exact Ends.j _ (some_eq h)
     ·
      subst hj34; have h := hK34; clear hK34
      refine .ret (.thenRet ?_)
      replace h := resb_ab hK23 (some_eq h)
      obtain rfl := some_eq h
      exact Ends.ret0O (.inl rfl) [220] Tryz.results202 (by decide) (.held rfl .nil)
   ·
    exact .skip (Ends.j _ (some_eq h))
  ·
   have h := resb_nx hK23 hj23
   obtain ⟨mid1, hv45, h⟩ := bnd_some h
   obtain ⟨n1, hv46, h⟩ := bnd_some h
   refine .sn mx (.mv rfl (.mv rfl (.add rfl rfl (.c (.toK .none (by kernel_rfl) Tryz.underlying233 (.s rfl)) (.c (.kshr .none (.s rfl) .ki (fun _ => by decide)) (.c (.toInt .none (by kernel_rfl) Tryz.underlying3 (.s rfl)) (.ra hv45 rfl (.nil (.sn mx (.mv rfl (.mv rfl (.add rfl rfl (.ra hv46 rfl (.nil (.sn mx (.asi (.asi (.nil (.seq (.sn mx (.mv rfl (.mv rfl (.c (.gt .none (.s rfl) (.s rfl)) (.nil ?_))))))))))))))))))))))))
   obtain ⟨j_47, h, hK47⟩ := bind_some h
   refine .thenJ (ι := (Int × Int)) (fun j_47 => [(20, ⟨True, rep j_47.1⟩), (21, ⟨True, rep j_47.2⟩)]) (fun j_47 => []) (fun s => j_47 = s) (.k4 0 1 2 3 rfl rfl rfl rfl (.k2 4 18 rfl rfl (.k 19 rfl .nil))) (.k 220 rfl .nil) ?_ (fun j_47' hj47 => ?_)
   ·
    refine .cb rfl h (fun _ h => ?_) fun _ h => ?_
    ·
     obtain ⟨start1, hv49, h⟩ := bnd_some h
     exact .sn mx (.mv rfl (.mv rfl (.sub rfl rfl (.ra hv49 rfl (.nil (.rn mx (.mv rfl (.asn rfl (.nil (Ends.j _ (some_eq h)))))))))))
    ·
     exact .sn mx (.mv rfl (.asn rfl (.nil (.rn mx (.mv rfl (.asn rfl (.nil (Ends.j _ (some_eq h)))))))))
   ·
    subst hj47; have h := hK47; clear hK47
    refine .sn mx (.mv rfl (.c (.subW .none (.s rfl) .i) (.asn rfl (.nil (.seq ?_)))))
    obtain ⟨j_50, h, hK50⟩ := bind_some h
    refine .thenJ (ι := Int) (fun j_50 => [(20, ⟨True, rep j_50⟩)]) (fun j_50 => []) (fun s => j_50 = s) (.k4 0 1 2 3 rfl rfl rfl rfl (.k2 4 18 rfl rfl (.k 19 rfl .nil))) (.k 220 rfl .nil) ?_ (fun j_50' hj50 => ?_)
    ·
     refine .block (.loopL h (fun s51_ => [(20, ⟨True, rep s51_.1⟩), (21, ⟨True, rep s51_.2⟩)]) (fun s51_ => []) (.k2 20 21 rfl rfl .nil) SubB.nil (.k4 0 1 2 3 rfl rfl rfl rfl (.k4 4 18 19 22 rfl rfl rfl rfl .nil)) (.k 220 rfl .nil) (fun s51_ o_51 h hD51 => ?_))
     unfold slices_symMergeCmpFunc_entry_L5 at h
     refine .seq (.sn mx (.mv rfl (.mv rfl (.lt rfl rfl (.nil (.cb rfl h (fun _ h => ?_) fun _ h => ?_))))))
     ·
      obtain ⟨c1, hv53, h⟩ := bnd_some h
      obtain ⟨hn54, h⟩ := need_some h
      obtain ⟨hn55, h⟩ := need_some h
      obtain ⟨r3, hv56, h⟩ := bind_some h
      refine .skip (.then (.block (.sn mx (.mv rfl (.mv rfl (.add rfl rfl (.c (.toK .none (by kernel_rfl) Tryz.underlying233 (.s rfl)) (.c (.kshr .none (.s rfl) .ki (fun _ => by decide)) (.c (.toInt .none (by kernel_rfl) Tryz.underlying3 (.s rfl)) (.ra hv53 rfl (.nil (.sr [oo, oo, oo, oo, oo, ([220], []), ([220], []), oo, oo, ([220], []), ([220], []), oo, oo, oo] mx (.mvA rfl (.mvA rfl (.mvA rfl (.mvA rfl (.subA rfl rfl (.ixO 220 sl173 ty175 rfl rfl rfl hn54 (.cA (.loadElem0 (k := 220) .none ty175 (.s rfl) rfl (fun _ => hn54)) (.mvA rfl (.mvA rfl (.ixO 220 sl173 ty175 rfl rfl rfl hn55 (.cA (.loadElem0 (k := 220) .none ty175 (.s rfl) rfl (fun _ => hn55)) (.cA (.callV (gx x.1 (W ((W (n1 - 1)) - c1)), gx x.1 c1, r3) .none (.s rfl) (fun _ => hv56) (.cons (.s rfl) (.cons (.s rfl) .nil))) (.cA (.lt .none (.s rfl) .i) (.cA (.not .none (.s rfl)) (.nil (.cb rfl h (fun _ h => ?_) fun _ h => ?_))))))))))))))))))))))))))))
      ·
       obtain ⟨start2, hv58, h⟩ := bnd_some h
       exact .rn mx (.mv rfl (.adi rfl (.ra hv58 rfl (.nil (.blkNormal (Ends.ag (some_eq h)))))))
      ·
       exact .rn mx (.mv rfl (.asn rfl (.nil (.blkNormal (Ends.ag (some_eq h))))))
     ·
      refine .exit (.thenExit (.thenExit (.blkExit ?_)))
      replace h := hD51 _ (some_eq h)
      exact Ends.j _ (some_eq h)
    ·
     subst hj50; have h := hK50; clear hK50
     obtain ⟨end1, hv59, h⟩ := bnd_some h
     refine .sn mx (.mv rfl (.mv rfl (.sub rfl rfl (.ra hv59 rfl (.nil (.seq (.sn mx (.mv rfl (.mv rfl (.lt rfl rfl (.mv rfl (.mg rfl rfl rfl (.mg rfl rfl rfl (.c (.lt (.at rfl rfl) (.tmp rfl id) (.tmp rfl id)) (.pa rfl rfl (.nil ?_))))))))))))))))
     obtain ⟨j_60, h, hK60⟩ := bind_some h
     refine .thenJ (ι := (List Ref_entry)) (fun j_60 => []) (fun j_60 => [(220, some (CPred.at s220 (rowV 175 j_60)))]) (fun s => j_60 = s) (.k4 0 1 3 4 rfl rfl rfl rfl (.k2 18 20 rfl rfl (.k 24 rfl .nil))) SubB.nil ?_ (fun j_60' hj60 => ?_)
     ·
      refine .cb rfl h (fun _ h => ?_) fun _ h => ?_
      ·
       obtain ⟨r4, hv62, h⟩ := bind_some h
       exact .rg [oo, oo, oo, oo, oo, ([220], [220])] mx (.mvA rfl (.mvA rfl (.mvA rfl (.mvA rfl (.mvA rfl (.cW (.cO [220] (slices_rotateCmpFunc_entry_ok hv62) (.cons (.s rfl) (.cons (.s rfl) (.cons (.s rfl) (.cons (.s rfl) (.cons (.s rfl) .nil))))) (.cons (k := 220) rfl .nil) rfl) (.nil (Ends.j _ (some_eq h)))))))))
      ·
       exact .skip (Ends.j _ (some_eq h))
     ·
      subst hj60; have h := hK60; clear hK60
      refine .seq (.sn mx (.mv rfl (.mv rfl (.lt rfl rfl (.mv rfl (.mg rfl rfl rfl (.mg rfl rfl rfl (.c (.lt (.at rfl rfl) (.tmp rfl id) (.tmp rfl id)) (.pa rfl rfl (.nil ?_))))))))))
      obtain ⟨j_63, h, hK63⟩ := bind_some h
      refine .thenJ (ι := (List Ref_entry)) (fun j_63 => []) (fun j_63 => [(220, some (CPred.at s220 (rowV 175 j_63)))]) (fun s => j_63 = s) (.k4 0 3 4 18 rfl rfl rfl rfl (.k 24 rfl .nil)) SubB.nil ?_ (fun j_63' hj63 => ?_)
      ·
       refine .cb rfl h (fun _ h => ?_) fun _ h => ?_
       ·
        obtain ⟨r5, hv65, h⟩ := bind_some h
        exact .rg [oo, oo, oo, oo, oo, ([220], [220])] mx (.mvA rfl (.mvA rfl (.mvA rfl (.mvA rfl (.mvA rfl (.cW (.cO [220] (hself _ _ hv65) (.cons (.s rfl) (.cons (.s rfl) (.cons (.s rfl) (.cons (.s rfl) (.cons (.s rfl) .nil))))) (.cons (k := 220) rfl .nil) rfl) (.nil (Ends.j _ (some_eq h)))))))))
       ·
        exact .skip (Ends.j _ (some_eq h))
      ·
       subst hj63; have h := hK63; clear hK63
       refine .sn mx (.mv rfl (.mv rfl (.lt rfl rfl (.mv rfl (.mg rfl rfl rfl (.mg rfl rfl rfl (.c (.lt (.at rfl rfl) (.tmp rfl id) (.tmp rfl id)) (.pa rfl rfl (.nil (.cb rfl h (fun _ h => ?_) fun _ h => ?_))))))))))
       ·
        obtain ⟨r6, hv67, h⟩ := bind_some h
        refine .rg [oo, oo, oo, oo, oo, ([220], [220])] mx (.mvA rfl (.mvA rfl (.mvA rfl (.mvA rfl (.mvA rfl (.cW (.cO [220] (hself _ _ hv67) (.cons (.s rfl) (.cons (.s rfl) (.cons (.s rfl) (.cons (.s rfl) (.cons (.s rfl) .nil))))) (.cons (k := 220) rfl .nil) rfl) (.nil ?_)))))))
        obtain rfl := some_eq h
        exact Ends.ret0O (.inr rfl) [220] Tryz.results202 (by decide) (.held rfl .nil)
       ·
        refine .skip ?_
        obtain rfl := some_eq h
        exact Ends.ret0O (.inr rfl) [220] Tryz.results202 (by decide) (.held rfl .nil)
theorem slices_symMergeCmpFunc_entry_okN : ∀ (k : Nat) {s220 : Value} (x : ((List Ref_entry) × Int × Int × Int × (Ref_entry → Ref_entry → Option Int))) (r : (List Ref_entry)) (h : fixN slices_symMergeCmpFunc_entry_body k x = some r), FSpecO Tryz.prog 202 [isV s220, rep x.2.1, rep x.2.2.1, rep x.2.2.2.1, fn2 Tryz.prog (rep (α := Int)) x.2.2.2.2] [(s220, rowV 175 x.1)] (anyV) [some (rowV 175 r)]
 | 0, _, x, r, h => by simp [fixN] at h
 | k + 1, _, x, r, h => slices_symMergeCmpFunc_entry_okS (slices_symMergeCmpFunc_entry_okN k) h
theorem slices_symMergeCmpFunc_entry_ok {data1 : (List Ref_entry)} {a1 : Int} {m1 : Int} {b1 : Int} {cmp1 : (Ref_entry → Ref_entry → Option Int)} {r : (List Ref_entry)} {s220 : Value} (h : slices_symMergeCmpFunc_entry data1 a1 m1 b1 cmp1 = some r) : FSpecO Tryz.prog 202 [isV s220, rep a1, rep m1, rep b1, fn2 Tryz.prog (rep (α := Int)) cmp1] [(s220, rowV 175 data1)] (anyV) [some (rowV 175 r)] :=
 let ⟨k, hk⟩ := fixp_some h
 slices_symMergeCmpFunc_entry_okN k (data1, a1, m1, b1, cmp1) r hk
theorem slices_stableCmpFunc_entry_ok {data1 : (List Ref_entry)} {n1 : Int} {cmp1 : (Ref_entry → Ref_entry → Option Int)} {r : (List Ref_entry)} {s63 : Value} (h : slices_stableCmpFunc_entry data1 n1 cmp1 = some r) : FSpecO Tryz.prog 182 [isV s63, rep n1, fn2 Tryz.prog (rep (α := Int)) cmp1] [(s63, rowV 175 data1)] (anyV) [some (rowV 175 r)] := by
 unfold slices_stableCmpFunc_entry at h
 refine FSpecO.i Tryz.func182 rfl Tryz.ntmps182 rfl (fun F => (.sn mx (.asi (.nil (.sn mx (.mv rfl (.asi (.asn rfl (.nil (.seq ?_))))))))))
 obtain ⟨j_1, h, hK1⟩ := bind_some h
 refine .thenJ (ι := (Int × (List Ref_entry))) (fun j_1 => [(7, ⟨True, rep j_1.1⟩)]) (fun j_1 => [(63, some (CPred.at s63 (rowV 175 j_1.2)))]) (fun s => j_1 = s) (.k4 0 1 2 6 rfl rfl rfl rfl .nil) SubB.nil ?_ (fun j_1' hj1 => ?_)
 ·
  refine .block (.loopL h (fun s2_ => [(7, ⟨True, rep s2_.1⟩), (8, ⟨True, rep s2_.2.1⟩)]) (fun s2_ => [(63, some (CPred.at s63 (rowV 175 s2_.2.2)))]) (.k2 7 8 rfl rfl .nil) (.k 63 rfl .nil) (.k4 0 1 2 6 rfl rfl rfl rfl .nil) SubB.nil (fun s2_ o_2 h hD2 => ?_))
  unfold slices_stableCmpFunc_entry_L1 at h
  refine .seq (.sn mx (.mv rfl (.mv rfl (.c (.le .none (.s rfl) (.s rfl)) (.nil (.cb rfl h (fun _ h => ?_) fun _ h => ?_))))))
  ·
   obtain ⟨r1, hv4, h⟩ := bind_some h
   obtain ⟨b1, hv5, h⟩ := bnd_some h
   exact .skip (.then (.block (.sr [oo, oo, oo, oo, ([63], [63])] mx (.mvA rfl (.mvA rfl (.mvA rfl (.mvA rfl (.cW (.cO [63] (slices_insertionSortCmpFunc_entry_ok hv4) (.cons (.s rfl) (.cons (.s rfl) (.cons (.s rfl) (.cons (.s rfl) .nil)))) (.cons (k := 63) rfl .nil) rfl) (.nil (.sn mx (.mv rfl (.asn rfl (.nil (.rn mx (.mv rfl (.mv rfl (.add rfl rfl (.ra hv5 rfl (.nil (.blkNormal (Ends.ag (some_eq h))))))))))))))))))))))
  ·
   refine .exit (.thenExit (.thenExit (.blkExit ?_)))
   replace h := hD2 _ (some_eq h)
   exact Ends.j _ (some_eq h)
 ·
  subst hj1; have h := hK1; clear hK1
  obtain ⟨r2, hv6, h⟩ := bind_some h
  refine .sr [oo, oo, oo, oo, ([63], [63])] mx (.mvA rfl (.mvA rfl (.mvA rfl (.mvA rfl (.cW (.cO [63] (slices_insertionSortCmpFunc_entry_ok hv6) (.cons (.s rfl) (.cons (.s rfl) (.cons (.s rfl) (.cons (.s rfl) .nil)))) (.cons (k := 63) rfl .nil) rfl) (.nil (.block (.loopL h (fun s7_ => [(6, ⟨True, rep s7_.1⟩)]) (fun s7_ => [(63, some (CPred.at s63 (rowV 175 s7_.2)))]) (.k 6 rfl .nil) (.k 63 rfl .nil) (.k2 0 1 rfl rfl (.k 2 rfl .nil)) SubB.nil (fun s7_ o_7 h hD7 => ?_)))))))))
  unfold slices_stableCmpFunc_entry_L2 at h
  refine .seq (.sn mx (.mv rfl (.mv rfl (.lt rfl rfl (.nil (.cb rfl h (fun _ h => ?_) fun _ h => ?_))))))
  ·
   obtain ⟨b2, hv9, h⟩ := bnd_some h
   refine .skip (.then (.block (.sn mx (.mv rfl (.c (.mulW .none .i (.s rfl)) (.asi (.ra hv9 rfl (.nil (.seq ?_)))))))))
   obtain ⟨j_10, h, hK10⟩ := bind_some h
   refine .thenJ (ι := (Int × (List Ref_entry))) (fun j_10 => [(7, ⟨True, rep j_10.1⟩)]) (fun j_10 => [(63, some (CPred.at s63 (rowV 175 j_10.2)))]) (fun s => j_10 = s) (.k4 0 1 2 6 rfl rfl rfl rfl .nil) SubB.nil ?_ (fun j_10' hj10 => ?_)
   ·
    refine .block (.loopL h (fun s11_ => [(7, ⟨True, rep s11_.1⟩), (8, ⟨True, rep s11_.2.1⟩)]) (fun s11_ => [(63, some (CPred.at s63 (rowV 175 s11_.2.2)))]) (.k2 7 8 rfl rfl .nil) (.k 63 rfl .nil) (.k4 0 1 2 6 rfl rfl rfl rfl .nil) SubB.nil (fun s11_ o_11 h hD11 => ?_))
    unfold slices_stableCmpFunc_entry_L3 at h
    refine .seq (.sn mx (.mv rfl (.mv rfl (.c (.le .none (.s rfl) (.s rfl)) (.nil (.cb rfl h (fun _ h => ?_) fun _ h => ?_))))))
    ·
     obtain ⟨r3, hv13, h⟩ := bind_some h
     obtain ⟨b3, hv14, h⟩ := bnd_some h
     exact .skip (.then (.block (.sr [oo, oo, oo, oo, oo, oo, oo, ([63], [63])] mx (.mvA rfl (.mvA rfl (.mvA rfl (.mvA rfl (.addA rfl rfl (.mvA rfl (.mvA rfl (.cW (.cO [63] (slices_symMergeCmpFunc_entry_ok hv13) (.cons (.s rfl) (.cons (.s rfl) (.cons (.s rfl) (.cons (.s rfl) (.cons (.s rfl) .nil))))) (.cons (k := 63) rfl .nil) rfl) (.nil (.sn mx (.mv rfl (.asn rfl (.nil (.rn mx (.mv rfl (.mv rfl (.c (.mulW .none .i (.s rfl)) (.add rfl rfl (.ra hv14 rfl (.nil (.blkNormal (Ends.ag (some_eq h))))))))))))))))))))))))))
    ·
     refine .exit (.thenExit (.thenExit (.blkExit ?_)))
     replace h := hD11 _ (some_eq h)
     exact Ends.j _ (some_eq h)
   ·
    subst hj10; have h := hK10; clear hK10
    obtain ⟨m1, hv15, h⟩ := bnd_some h
    refine .seq (.sn mx (.mv rfl (.mv rfl (.add rfl rfl (.ra hv15 rfl (.nil (.sn mx (.mv rfl (.mv rfl (.lt rfl rfl (.nil ?_)))))))))))
    obtain ⟨j_16, h, hK16⟩ := bind_some h
    refine .thenJ (ι := (List Ref_entry)) (fun j_16 => []) (fun j_16 => [(63, some (CPred.at s63 (rowV 175 j_16)))]) (fun s => j_16 = s) (.k4 0 1 2 6 rfl rfl rfl rfl .nil) SubB.nil ?_ (fun j_16' hj16 => ?_)
    ·
     refine .cb rfl h (fun _ h => ?_) fun _ h => ?_
     ·
      obtain ⟨r4, hv18, h⟩ := bind_some h
      exact .rg [oo, oo, oo, oo, oo, ([63], [63])] mx (.mvA rfl (.mvA rfl (.mvA rfl (.mvA rfl (.mvA rfl (.cW (.cO [63] (slices_symMergeCmpFunc_entry_ok hv18) (.cons (.s rfl) (.cons (.s rfl) (.cons (.s rfl) (.cons (.s rfl) (.cons (.s rfl) .nil))))) (.cons (k := 63) rfl .nil) rfl) (.nil (Ends.j _ (some_eq h)))))))))
     ·
      exact .skip (Ends.j _ (some_eq h))
    ·
     subst hj16; have h := hK16; clear hK16
     obtain ⟨blockSize1, hv19, h⟩ := bnd_some h
     exact .rn mx (.mv rfl (.c (.mulW .none (.s rfl) .i) (.ra hv19 rfl (.nil (.blkNormal (Ends.ag (some_eq h)))))))
  ·
   refine .exit (.thenExit (.thenExit (.blkExit ?_)))
   replace h := hD7 _ (some_eq h)
   obtain rfl := some_eq h
   exact Ends.ret0O (.inr rfl) [63] Tryz.results182 (by decide) (.held rfl .nil)
theorem slices_SortStableFunc_entry_ok {x1 : (List Ref_entry)} {cmp1 : (Ref_entry → Ref_entry → Option Int)} {r : (List Ref_entry)} {s9 : Value} (h : slices_SortStableFunc_entry x1 cmp1 = some r) : FSpecO Tryz.prog 135 [isV s9, fn2 Tryz.prog (rep (α := Int)) cmp1] [(s9, rowV 175 x1)] (anyV) [some (rowV 175 r)] := by
 unfold slices_SortStableFunc_entry at h
 obtain ⟨r1, hv1, h⟩ := bind_some h
 refine FSpecO.i Tryz.func135 rfl Tryz.ntmps135 rfl (fun F => (.rg [oo, oo, ([9], []), oo, ([9], [9])] mx (.mvA rfl (.mvA rfl (.cA (.lenO (k := 9) sl173 (.told (.s rfl) rfl)) (.mvA rfl (.cW (.cO [9] (slices_stableCmpFunc_entry_ok hv1) (.cons (.s rfl) (.cons (.s rfl) (.cons (.s rfl) .nil))) (.cons (k := 9) rfl .nil) rfl) (.nil ?_))))))))
 obtain rfl := some_eq h
 exact Ends.ret0O (.inr rfl) [9] Tryz.results135 (by decide) (.held rfl .nil)
theorem ref_SpreadBy_1_ok {a1 : Ref_entry} {b1 : Ref_entry} {r : Int}  (h : ref_SpreadBy_1 a1 b1 = some r) : FSpec Tryz.prog 136 [rep a1, rep b1] (rep r) := by
 unfold ref_SpreadBy_1 at h
 obtain ⟨r1, hv1, h⟩ := bind_some h
 refine FSpec.i Tryz.func136 rfl Tryz.ntmps136 rfl (fun F => (.sn mx (.c (.box .none (.s rfl)) (.c (.box .none (.s rfl)) (.asi (.nil (.sn mx (.fa fd175_1 hfd175_1 rfl (.ld ty3 rfl (.fa fd175_1 hfd175_1 rfl (.ld ty3 rfl (.sub rfl rfl (.fa fd175_2 hfd175_2 rfl (.ld ty3 rfl (.fa fd175_2 hfd175_2 rfl (.ld ty3 rfl (.sub rfl rfl (.c (.buildSlice (xs := [_, _]) .none sl118 ty3 hz3 (.cons (.s rfl) (.cons (.s rfl) .nil)) rfl (by decide)) (.c (.call .none (cmp_Or_int_ok hv1) (.cons (.s rfl) .nil)) (.asn rfl (.nil (.ret ?_))))))))))))))))))))))
 obtain rfl := some_eq h
 exact Ends.rt Tryz.results136 rfl
theorem ref_SpreadBy_ok {d1 : Doc} {ids1 : (List Str)} {down1 : Bool} {r : ((GMap Str Point) × Int)}  (h : ref_SpreadBy d1 ids1 down1 = some r) : FSpec Tryz.prog 57 [rep d1, rep ids1, rep down1] (tup [rep r.1, rep r.2]) := by
 unfold ref_SpreadBy at h
 obtain ⟨r1, hv1, h⟩ := bind_some h
 refine FSpec.i Tryz.func57 rfl Tryz.ntmps57 rfl (fun F => (.sn mx (.c (.box .none (.s rfl)) (.c (.assign .none (.const (x := (GMap.nil : (GMap Str Point))) (fun M w => ⟨_, map_zero, rfl⟩))) (.asi (.nil (.sr [([], [8])] mx (.cW (.nilRow (T := 175) (α := Ref_entry) rfl) (.nil (.nameRow (t := 8) (g := 5001) rfl rfl rfl (fun s5001 => (.seq (.sn mx (.ld ty25 rfl (.mv rfl (.c (.call .none (ref_RootsOf_ok hv1) (.cons (.s rfl) (.cons (.s rfl) .nil))) (.ln sl39 rfl (.mvi (.nil ?_)))))))))))))))))))
 obtain ⟨j_2, h, hK2⟩ := bind_some h
 refine .thenJ (ι := (List Ref_entry)) (fun j_2 => []) (fun j_2 => [(8, some (rowV 175 j_2))]) (fun s => j_2 = s) (.k 2 rfl .nil) SubB.nil ?_ (fun j_2' hj2 => ?_)
 ·
  refine .block (.anon (t := 8) (g := 5001) rfl rfl trivial rfl (.rforL h (fun p3_ => [(26, ⟨True, rep p3_.1⟩)]) (fun p3_ => [(8, some (rowV 175 p3_.2))]) (.k 26 rfl .nil) (.k 8 rfl .nil) (.k4 2 3 24 25 rfl rfl rfl rfl .nil) SubB.nil (fun p3_ o_3 h hD3 => (.nameRow (t := 8) (g := 5002) rfl rfl rfl (fun s5002 => (.sn mx (.lt rfl rfl (.nil (.seq (.cb rfl h (fun _ h => ?_) fun _ h => ?_))))))))))
  ·
   refine .skip (.then (.seq ?_))
   obtain ⟨j_5, h, hK5⟩ := bind_some h
   unfold ref_SpreadBy_L1 at h
   refine .thenJ (ι := (List Ref_entry)) (fun j_5 => []) (fun j_5 => [(8, some (rowV 175 j_5))]) (fun s => j_5 = s) (.k4 2 3 24 25 rfl rfl rfl rfl (.k 26 rfl .nil)) SubB.nil ?_ (fun j_5' hj5 => ?_)
   ·
    obtain ⟨hn6, h⟩ := need_some h
    obtain ⟨id1, hv7, h⟩ := bnd_some h
    obtain ⟨r2, hv8, h⟩ := bind_some h
    obtain ⟨v1, hv9, h⟩ := bnd_some h
    refine .block (.sn mx (.ix sl39 ty9 rfl rfl hn6 (.ld ty9 rfl (.ra hv7 rfl (.nil (.sr [oo, oo, oo, oo, oo, oo, ([], [11]), ([11], [11]), oo] mx (.ldA ty25 rfl (.mvA rfl (.cA (.call .none (ref_BoxOfNode_ok hv8) (.cons (.s rfl) (.cons (.s rfl) .nil))) (.mvA rfl (.exA rfl rfl (.exA rfl rfl (.al zo29 rfl (.st ty29 rfl rfl rfl (.asnA rfl (.nil (.freeze (t := 11) rfl rfl (.k 5002 rfl .nil) rfl (.sr [oo, oo, oo, oo, oo, oo, oo, oo, ([], [13]), ([13], [13])] mx (.mvA rfl (.faA fd29_0 hfd29_0 rfl (.ldA ty3 rfl (.faA fd29_1 hfd29_1 rfl (.ldA ty3 rfl (.faA fd29_2 hfd29_2 rfl (.ldA ty3 rfl (.cA (.re hv9 (.buildF (y := (⟨id1, r2.1.X, r2.1.Y, r2.1.W_⟩ : Ref_entry)) .none bu175 zc175 rfl (.cons (.s rfl) (.cons (.s rfl) (.cons (.s rfl) (.cons (.s rfl) .nil)))) (.cons rfl sf175_0 (.cons rfl sf175_1 (.cons rfl sf175_2 (.cons rfl sf175_3 .nil)))))) (.al zo175 rfl (.st ty175 rfl rfl rfl (.nil (.nameBox (t := 13) (g := 5003) rfl rfl (fun m5003 => (.seq (.sn mx (.mv rfl (.nil ?_)))))))))))))))))))))))))))))))))))
    obtain ⟨j_10, h, hK10⟩ := bind_some h
    refine .thenJ (ι := Ref_entry) (fun j_10 => []) (fun j_10 => [(5003, some (boxAt m5003 175 j_10))]) (fun s => j_10 = s) (.k4 2 3 8 13 rfl rfl rfl rfl (.k2 24 25 rfl rfl (.k 26 rfl .nil))) (.k 5002 rfl .nil) ?_ (fun j_10' hj10 => ?_)
    ·
     refine .cb rfl h (fun _ h => ?_) fun _ h => ?_
     ·
      obtain ⟨v2, hv12, h⟩ := bnd_some h
      exact .rg [oo, oo, oo, oo, oo, oo, oo, oo, ([5003], [5003])] mx (.mvA rfl (.faA fd29_1 hfd29_1 rfl (.ldA ty3 rfl (.faA fd29_0 hfd29_0 rfl (.ldA ty3 rfl (.faA fd29_3 hfd29_3 rfl (.ldA ty3 rfl (.cA (.re hv12 (.buildF (y := (⟨id1, r2.1.Y, r2.1.X, r2.1.H⟩ : Ref_entry)) .none bu175 zc175 rfl (.cons (.s rfl) (.cons (.s rfl) (.cons (.s rfl) (.cons (.s rfl) .nil)))) (.cons rfl sf175_0 (.cons rfl sf175_1 (.cons rfl sf175_2 (.cons rfl sf175_3 .nil)))))) (.s0 5003 ty175 rfl rfl rfl (.nil (Ends.j _ (some_eq h))))))))))))
     ·
      exact .skip (Ends.j _ (some_eq h))
    ·
     subst hj10; have h := hK10; clear hK10
     obtain ⟨hn13, h⟩ := need_some h
     exact .freezeBox (g := 5003) (ts := [13]) rfl (.cons (t := 13) rfl trivial .nil) (.k 5002 rfl .nil) rfl (.rg [oo, oo, oo, ([5002], [56, 5002]), ([56], [8, 56])] mx (.mvA rfl (.ldA ty175 rfl (.cA (.buildSlice (xs := [_]) .none sl173 ty175 hz175 (.cons (.s rfl) .nil) rfl (by decide)) (.cW (.append (k := 5002) rk173 rfl (.told (.s rfl) rfl) (.s rfl) hn13) (.cW (.passRow rfl (.tmp rfl)) (.nil (.blkNormal (Ends.j _ (some_eq h))))))))))
   ·
    subst hj5; have h := hK5; clear hK5
    exact .nameRow (t := 8) (g := 5004) rfl rfl rfl (fun s5004 => (.rn mx (.adi rfl (.mv rfl (.nil (.anon (t := 8) (g := 5004) rfl rfl trivial rfl (Ends.ag (some_eq h))))))))
  ·
   refine .exit (.thenExit (.thenExit (.blkExit (.anon (t := 8) (g := 5002) rfl rfl trivial rfl ?_))))
   replace h := hD3 _ (some_eq h)
   exact Ends.j _ (some_eq h)
 ·
  subst hj2; have h := hK2; clear hK2
  refine .nameRow (t := 8) (g := 5005) rfl rfl rfl (fun s5005 => (.seq (.sr [oo, ([5005], []), oo] mx (.mvA rfl (.cA (.lenO (k := 5005) sl173 (.told (.s rfl) rfl)) (.cA (.lt .none (.s rfl) .i) (.nil (.cb rfl h (fun _ h => ?_) fun _ h => ?_))))))))
  ·
   refine .sn mx (.c (.assign .none (.const (x := (GMap.nil : (GMap Str Point))) (fun M w => ⟨_, map_zero, rfl⟩))) (.asi (.nil (.ret (.thenRet ?_)))))
   obtain rfl := some_eq h
   exact Ends.ret2 (.inl rfl) Tryz.results57 (ResOK.tmp rfl trivial Imp.refl) (ResOK.tmp rfl trivial Imp.refl)
  ·
   obtain ⟨r3, hv15, h⟩ := bind_some h
   refine .skip (.then (.sr [oo, ([5005], [5005])] mx (.mvA rfl (.cW (.cO [5005] (slices_SortStableFunc_entry_ok hv15) (.cons (.s rfl) (.cons (Opd.func (ι := Ref_entry × Ref_entry × Int) (pre := fun i => ref_SpreadBy_1 i.1 i.2.1 = some i.2.2) (Ss := fun i => [rep i.1, rep i.2.1]) (S := fun i => rep i.2.2) fnok136 (fun i h => ref_SpreadBy_1_ok h)) .nil)) (.cons (k := 5005) rfl .nil) rfl) ?_))))
   obtain ⟨hn16, h⟩ := need_some h
   obtain ⟨hn17, h⟩ := need_some h
   obtain ⟨begin1, hv18, h⟩ := bnd_some h
   obtain ⟨hn19, h⟩ := need_some h
   obtain ⟨free1, hv20, h⟩ := bnd_some h
   obtain ⟨hn21, h⟩ := need_some h
   obtain ⟨v3, hv22, h⟩ := bnd_some h
   refine .nil (.freezeRow (g := 5005) (ts := [8]) rfl (.cons (t := 8) rfl trivial .nil) SubB.nil rfl (.sn mx (.mv rfl (.c (.indexAddr .none sl173 ty175 (.s rfl) .i (fun _ => hn16)) (.fa fd175_1 hfd175_1 rfl (.ld ty3 rfl (.mv rfl (.c (.indexAddr .none sl173 ty175 (.s rfl) .i (fun _ => hn17)) (.fa fd175_3 hfd175_3 rfl (.ld ty3 rfl (.add rfl rfl (.ra hv18 rfl (.nil (.sn mx (.mv rfl (.mv rfl (.ln sl173 rfl (.c (.subW .none (.s rfl) .i) (.ix sl173 ty175 rfl rfl hn19 (.fa fd175_1 hfd175_1 rfl (.ld ty3 rfl (.mv rfl (.sub rfl rfl (.ra hv20 rfl (.nil (.seq (.sn mx (.mv rfl (.mv rfl (.ln sl173 rfl (.c (.subW .none (.s rfl) .i) (.c (.re hv22 (.slice .none sl173 ty175 (.s rfl) .i (.s rfl) (fun _ => hn21))) (.ln sl173 rfl (.mvi (.nil ?_)))))))))))))))))))))))))))))))))))
   obtain ⟨j_23, h, hK23⟩ := bind_some h
   refine .thenJ (ι := Int) (fun j_23 => [(15, ⟨True, rep j_23⟩)]) (fun j_23 => []) (fun s => j_23 = s) (.k2 2 8 rfl rfl (.k 14 rfl .nil)) SubB.nil ?_ (fun j_23' hj23 => ?_)
   ·
    refine .block (.rforL h (fun p24_ => [(87, ⟨True, rep p24_.1⟩), (15, ⟨True, rep p24_.2⟩)]) (fun p24_ => []) (.k2 87 15 rfl rfl .nil) SubB.nil (.k4 2 8 14 85 rfl rfl rfl rfl (.k 86 rfl .nil)) SubB.nil (fun p24_ o_24 h hD24 => (.sn mx (.lt rfl rfl (.nil (.seq (.cb rfl h (fun _ h => ?_) fun _ h => ?_)))))))
    ·
     refine .skip (.then (.seq ?_))
     obtain ⟨j_26, h, hK26⟩ := bind_some h
     unfold ref_SpreadBy_L2 at h
     refine .thenJ (ι := Int) (fun j_26 => [(15, ⟨True, rep j_26⟩)]) (fun j_26 => []) (fun s => j_26 = s) (.k4 2 8 14 85 rfl rfl rfl rfl (.k2 86 87 rfl rfl .nil)) SubB.nil ?_ (fun j_26' hj26 => ?_)
     ·
      obtain ⟨hn27, h⟩ := need_some h
      obtain ⟨v4, hv28, h⟩ := bnd_some h
      obtain ⟨free2, hv29, h⟩ := bnd_some h
      exact .block (.sr [oo, oo, ([], [17]), ([17], [17])] mx (.ixA sl173 ty175 rfl rfl hn27 (.rlA hv28 ty175 rfl (.al zo175 rfl (.st ty175 rfl rfl rfl (.nil (.freeze (t := 17) rfl rfl SubB.nil rfl (.rn mx (.mv rfl (.fa fd175_3 hfd175_3 rfl (.ld ty3 rfl (.sub rfl rfl (.ra hv29 rfl (.nil (.blkNormal (Ends.j _ (some_eq h)))))))))))))))))
     ·
      subst hj26; have h := hK26; clear hK26
      exact .rn mx (.adi rfl (.mv rfl (.nil (Ends.ag (some_eq h)))))
    ·
     refine .exit (.thenExit (.thenExit (.blkExit ?_)))
     replace h := hD24 _ (some_eq h)
     exact Ends.j _ (some_eq h)
   ·
    subst hj23; have h := hK23; clear hK23
    obtain ⟨by1, hv30, h⟩ := bnd_some h
    refine .sr [([], [96]), ([96], [18, 96])] mx (.cW (.makeMap (K := Str) (V := Point) rfl) (.cW (.passRow rfl (.tmp rfl)) (.nil (.reB (t := 18) rfl (congrArg mapV hv30) (.nameMap (t := 18) (g := 5006) rfl rfl rfl (fun s5006 => (.seq (.sn mx (.mv rfl (.ln sl173 rfl (.mvi (.nil ?_))))))))))))
    obtain ⟨j_31, h, hK31⟩ := bind_some h
    refine .thenJ (ι := (Int × (GMap Str Point))) (fun j_31 => [(14, ⟨True, rep j_31.1⟩)]) (fun j_31 => [(5006, some (CPred.at s5006 (mapV j_31.2)))]) (fun s => j_31 = s) (.k 18 rfl .nil) SubB.nil ?_ (fun j_31' hj31 => ?_)
    ·
     refine .block (.rforL h (fun p32_ => [(99, ⟨True, rep p32_.1⟩), (14, ⟨True, rep p32_.2.1⟩)]) (fun p32_ => [(5006, some (CPred.at s5006 (mapV p32_.2.2)))]) (.k2 99 14 rfl rfl .nil) (.k 5006 rfl .nil) (.k4 2 8 15 18 rfl rfl rfl rfl (.k2 97 98 rfl rfl .nil)) SubB.nil (fun p32_ o_32 h hD32 => (.sn mx (.lt rfl rfl (.nil (.seq (.cb rfl h (fun _ h => ?_) fun _ h => ?_)))))))
     ·
      refine .skip (.then (.seq ?_))
      obtain ⟨j_34, h, hK34⟩ := bind_some h
      unfold ref_SpreadBy_L3 at h
      refine .thenJ (ι := (Int × (GMap Str Point))) (fun j_34 => [(14, ⟨True, rep j_34.1⟩)]) (fun j_34 => [(5006, some (CPred.at s5006 (mapV j_34.2)))]) (fun s => j_34 = s) (.k4 2 8 15 18 rfl rfl rfl rfl (.k2 97 98 rfl rfl (.k 99 rfl .nil))) SubB.nil ?_ (fun j_34' hj34 => ?_)
      ·
       obtain ⟨hn35, h⟩ := need_some h
       obtain ⟨v5, hv36, h⟩ := bnd_some h
       refine .block (.sr [oo, oo, oo, ([], [20]), oo, ([20], [20])] mx (.mvA rfl (.ixA sl173 ty175 rfl rfl hn35 (.rlA hv36 ty175 rfl (.al zo175 rfl (.asnA rfl (.st ty175 rfl rfl rfl (.nil (.freeze (t := 20) rfl rfl (.k 5006 rfl .nil) rfl (.sn mx (.asi (.nil (.seq (.sn mx (.mv rfl (.c (.gt .none (.s rfl) .i) (.mv rfl (.mg rfl rfl rfl (.c (.addW (.at rfl rfl) (.tmp rfl id) .i) (.mg rfl rfl rfl (.c (.len (.at rfl rfl) sl173 (.tmp rfl id)) (.c (.lt (.at rfl rfl) (.tmp rfl id) (.tmp rfl id)) (.pa rfl rfl (.nil ?_))))))))))))))))))))))))
       obtain ⟨j_37, h, hK37⟩ := bind_some h
       refine .thenJ (ι := (Int × Int)) (fun j_37 => [(14, ⟨True, rep j_37.1⟩), (21, ⟨True, rep j_37.2⟩)]) (fun j_37 => []) (fun s => j_37 = s) (.k4 2 8 15 18 rfl rfl rfl rfl (.k4 20 97 98 99 rfl rfl rfl rfl .nil)) (.k 5006 rfl .nil) ?_ (fun j_37' hj37 => ?_)
       ·
        refine .cb rfl h (fun _ h => ?_) fun _ h => ?_
        ·
         obtain ⟨r4, hv39, h⟩ := bind_some h
         obtain ⟨step1, hv40, h⟩ := bnd_some h
         obtain ⟨begin2, hv41, h⟩ := bnd_some h
         exact .sn mx (.mv rfl (.mv rfl (.mv rfl (.c (.mulW .none (.s rfl) (.s rfl)) (.mv rfl (.ln sl173 rfl (.c (.subW .none (.s rfl) .i) (.c (.call .none (ref_Down_ok hv39) (.cons (.s rfl) (.cons (.s rfl) .nil))) (.add rfl rfl (.fa fd175_1 hfd175_1 rfl (.ld ty3 rfl (.sub rfl rfl (.ra hv40 rfl (.nil (.rn mx (.mv rfl (.fa fd175_3 hfd175_3 rfl (.ld ty3 rfl (.add rfl rfl (.ra hv41 rfl (.nil (Ends.j _ (some_eq h)))))))))))))))))))))))
        ·
         exact .skip (Ends.j _ (some_eq h))
       ·
        subst hj37; have h := hK37; clear hK37
        obtain ⟨by2, hv42, h⟩ := bnd_some h
        refine .sr [oo, oo, oo, oo, oo, ([5006], [5006])] mx (.mvA rfl (.faA fd175_0 hfd175_0 rfl (.ldA ty9 rfl (.mvA rfl (.cA (.buildF (y := (⟨j_37.2, (0 : Int)⟩ : Point)) .none bu27 zc27 rfl (.cons (.s rfl) .nil) (.cons rfl sf27_0 .nil)) (.cN (.mapUpdate (q := 5006) mo84 (.s rfl) rfl (.s rfl) (.s rfl)) (.nil (.reB (t := 5006) rfl (congrArg (fun y => CPred.at s5006 (mapV y)) hv42) (.sn mx (.mv rfl (.nil (.cb rfl h (fun _ h => ?_) fun _ h => ?_))))))))))))
        ·
         exact .rg [oo, oo, oo, oo, oo, ([5006], [5006])] mx (.mvA rfl (.faA fd175_0 hfd175_0 rfl (.ldA ty9 rfl (.mvA rfl (.cA (.buildF (y := (⟨(0 : Int), j_37.2⟩ : Point)) .none bu27 zc27 rfl (.cons (.s rfl) .nil) (.cons rfl sf27_1 .nil)) (.cN (.mapUpdate (q := 5006) mo84 (.s rfl) rfl (.s rfl) (.s rfl)) (.nil (.blkNormal (Ends.j _ (some_eq h))))))))))
        ·
         exact .skip (.blkNormal (Ends.j _ (some_eq h)))
      ·
       subst hj34; have h := hK34; clear hK34
       exact .rn mx (.adi rfl (.mv rfl (.nil (Ends.ag (some_eq h)))))
     ·
      refine .exit (.thenExit (.thenExit (.blkExit ?_)))
      replace h := hD32 _ (some_eq h)
      exact Ends.j _ (some_eq h)
    ·
     subst hj31; have h := hK31; clear hK31
     refine .freezeAt (g := 5006) (S := rep j_31.2) (ts := [18]) rfl (.cons (t := 18) rfl trivial .nil) SubB.nil rfl (fun M D w h hms => mapV_rep h hms) (.sn mx (.mv rfl (.asn rfl (.asi (.nil (.ret ?_))))))
     obtain rfl := some_eq h
     exact Ends.ret2 (.inl rfl) Tryz.results57 (ResOK.tmp rfl trivial Imp.refl) (ResOK.tmp rfl trivial Imp.refl)
theorem law_MovesMatch_ok {d1 : Doc} {ids1 : (List Str)} {dx1 : Int} {dy1 : Int} {how1 : Int} {down1 : Bool} {r : Bool}  (h : law_MovesMatch d1 ids1 dx1 dy1 how1 down1 = some r) : FSpec Tryz.prog 5 [rep d1, rep ids1, rep dx1, rep dy1, rep how1, rep down1] (rep r) := by
 unfold law_MovesMatch at h
 obtain ⟨own1, hv1, h⟩ := bind_some h
 obtain ⟨r1, hv2, h⟩ := bind_some h
 obtain ⟨r2, hv3, h⟩ := bind_some h
 refine FSpec.i Tryz.func5 rfl Tryz.ntmps5 rfl (fun F => (.sn mx (.c (.box .none (.s rfl)) (.c (.box .none (.s rfl)) (.asb (.nil (.sn mx (.ld ty25 rfl (.ld ty39 rfl (.c (.call .none (law_selected_ok hv1) (.cons (.s rfl) (.cons (.s rfl) .nil))) (.asn rfl (.nil (.sn mx (.ld ty25 rfl (.ld ty39 rfl (.c (.call .none (page_Roots_ok hv2) (.cons (.s rfl) (.cons (.s rfl) .nil))) (.mv rfl (.ex rfl rfl (.ex rfl rfl (.asn rfl (.asn rfl (.nil (.seq (.sn mx (.c (.call .none (law_pages_ok hv3) .nil) (.c (.not .none (.s rfl)) (.mv rfl (.mg rfl rfl rfl (.mg rfl rfl rfl (.mg rfl rfl rfl (.c (.makeFunc (ι := (List Str)) (pre := fun i => (law_MovesMatch_1 d1 ids1)  = some i) (Ss := fun i => []) (S := fun i => rep i) (.at rfl rfl) fnok49 (fun i h => law_MovesMatch_1_ok h) (.cons (.s rfl) (.cons (.s rfl) .nil))) ?_)))))))))))))))))))))))))))))))
 obtain ⟨r3, hv4, h⟩ := bind_some h
 refine .c (.callIf (.at rfl rfl) fnok17 (fun hg => law_lists_string_ok ((fun hg => gd_some hv4 ((notT hg.2))) hg)) (.cons (.tmp rfl id) (.cons (.tmp rfl id) (.cons (.tmp rfl id) (.cons (.tmp rfl id) .nil)))) (fun h => h)) (.c (.not (.at rfl rfl) (.tmp rfl id)) (.po rfl rfl (.nil (.cb rfl h (fun _ h => ?_) fun _ h => ?_))))
 ·
  refine .sn mx (.asb (.nil (.ret (.thenRet ?_))))
  obtain rfl := some_eq h
  exact Ends.rt Tryz.results5 rfl
 ·
  obtain ⟨r4, hv6, h⟩ := bind_some h
  obtain ⟨r5, hv7, h⟩ := bind_some h
  obtain ⟨r6, hv8, h⟩ := bind_some h
  refine .skip (.then (.sr [oo, oo, oo, oo, oo, oo, oo, oo, ([], [16]), ([16], [16]), oo] mx (.ldA ty25 rfl (.ldA ty39 rfl (.mvA rfl (.mvA rfl (.cA (.call .none (page_Move_ok hv6) (.cons (.s rfl) (.cons (.s rfl) (.cons (.s rfl) (.cons (.s rfl) .nil))))) (.mvA rfl (.exA rfl rfl (.exA rfl rfl (.al zo25 rfl (.st ty25 rfl rfl rfl (.asnA rfl (.nil (.freeze (t := 16) rfl rfl SubB.nil rfl (.sr [oo, oo, oo, oo, oo, oo, oo, ([], [17]), ([17], [17]), oo] mx (.ldA ty25 rfl (.ldA ty39 rfl (.mvA rfl (.cA (.call .none (page_Align_ok hv7) (.cons (.s rfl) (.cons (.s rfl) (.cons (.s rfl) .nil)))) (.mvA rfl (.exA rfl rfl (.exA rfl rfl (.al zo25 rfl (.st ty25 rfl rfl rfl (.asnA rfl (.nil (.freeze (t := 17) rfl rfl SubB.nil rfl (.sr [oo, oo, oo, oo, oo, oo, oo, ([], [19]), ([19], [19]), oo] mx (.ldA ty25 rfl (.ldA ty39 rfl (.mvA rfl (.cA (.call .none (page_Spread_ok hv8) (.cons (.s rfl) (.cons (.s rfl) (.cons (.s rfl) .nil)))) (.mvA rfl (.exA rfl rfl (.exA rfl rfl (.al zo25 rfl (.st ty25 rfl rfl rfl (.asnA rfl (.nil (.freeze (t := 19) rfl rfl SubB.nil rfl (.seq (.sn mx (.mv rfl (.nei rfl (.nil (.cb rfl h (fun _ h => ?_) fun _ h => ?_)))))))))))))))))))))))))))))))))))))))))))))))
  ·
   obtain ⟨r7, hv10, h⟩ := bind_some h
   obtain ⟨r8, hv11, h⟩ := bind_some h
   refine .sn mx (.ld ty25 rfl (.mv rfl (.mv rfl (.ld ty25 rfl (.c (.call .none (law_docIs_ok hv10) (.cons (.s rfl) (.cons (.s rfl) (.cons (.s rfl) (.cons (.s rfl) .nil))))) (.mv rfl (.c (.load (.at rfl rfl) ty25 (.s rfl)) (.mg rfl rfl rfl (.mg rfl rfl rfl (.c (.load (.at rfl rfl) ty25 (.s rfl)) (.c (.callIf (.at rfl rfl) fnok43 (fun hg => law_docIs_ok ((fun hg => gd_some hv11 (hg.2)) hg)) (.cons (.tmp rfl id) (.cons (.tmp rfl id) (.cons (.tmp rfl id) (.cons (.tmp rfl id) .nil)))) (fun h => h)) ?_)))))))))))
   obtain ⟨r9, hv12, h⟩ := bind_some h
   refine .pa rfl rfl (.mv rfl (.c (.load (.at rfl rfl) ty25 (.s rfl)) (.mg rfl rfl rfl (.mg rfl rfl rfl (.c (.load (.at rfl rfl) ty25 (.s rfl)) (.c (.callIf (.at rfl rfl) fnok43 (fun hg => law_docIs_ok ((fun hg => gd_some hv12 (hg.2)) hg)) (.cons (.tmp rfl id) (.cons (.tmp rfl id) (.cons (.tmp rfl id) (.cons (.tmp rfl id) .nil)))) (fun h => h)) (.pa rfl rfl (.asn rfl (.nil (.ret (.thenRet ?_)))))))))))
   obtain rfl := some_eq h
   exact Ends.rt Tryz.results5 rfl
  ·
   obtain ⟨r10, hv13, h⟩ := bind_some h
   obtain ⟨r11, hv14, h⟩ := bind_some h
   refine .skip (.then (.sr [oo, oo, oo, oo, oo, oo, oo, oo, ([], [21]), ([21], [21]), oo] mx (.ldA ty25 rfl (.ldA ty39 rfl (.mvA rfl (.mvA rfl (.cA (.call .none (ref_MoveAll_ok hv13) (.cons (.s rfl) (.cons (.s rfl) (.cons (.s rfl) (.cons (.s rfl) .nil))))) (.mvA rfl (.exA rfl rfl (.exA rfl rfl (.al zo25 rfl (.st ty25 rfl rfl rfl (.asnA rfl (.nil (.freeze (t := 21) rfl rfl SubB.nil rfl (.seq (.sn mx (.ld ty25 rfl (.mv rfl (.mv rfl (.ld ty25 rfl (.c (.call .none (law_docIs_ok hv14) (.cons (.s rfl) (.cons (.s rfl) (.cons (.s rfl) (.cons (.s rfl) .nil))))) (.c (.not .none (.s rfl)) (.nil (.cb rfl h (fun _ h => ?_) fun _ h => ?_)))))))))))))))))))))))))
   ·
    refine .sn mx (.asb (.nil (.ret (.thenRet ?_))))
    obtain rfl := some_eq h
    exact Ends.rt Tryz.results5 rfl
   ·
    obtain ⟨r12, hv16, h⟩ := bind_some h
    obtain ⟨right1, hv17, h⟩ := bnd_some h
    refine .skip (.then (.sn mx (.ld ty25 rfl (.ld ty39 rfl (.mv rfl (.c (.call .none (ref_AlignBy_ok hv16) (.cons (.s rfl) (.cons (.s rfl) (.cons (.s rfl) .nil)))) (.mv rfl (.ex rfl rfl (.ex rfl rfl (.asn rfl (.asn rfl (.nil (.sr [([], [24])] mx (.al zo25 rfl (.nil (.reB (t := 24) rfl (congrArg (cont 25) hv17) (.nameBox (t := 24) (g := 5001) rfl rfl (fun m5001 => (.seq (.sn mx (.mv rfl (.eqi rfl (.nil ?_)))))))))))))))))))))))
    obtain ⟨j_18, h, hK18⟩ := bind_some h
    refine .thenJ (ι := (Int × Doc)) (fun j_18 => [(22, ⟨True, rep j_18.1⟩)]) (fun j_18 => [(5001, some (boxAt m5001 25 j_18.2))]) (fun s => j_18 = s) (.k4 5 6 7 17 rfl rfl rfl rfl (.k4 18 19 20 24 rfl rfl rfl rfl .nil)) SubB.nil ?_ (fun j_18' hj18 => ?_)
    ·
     refine .cb rfl h (fun _ h => ?_) fun _ h => ?_
     ·
      obtain ⟨r13, hv20, h⟩ := bind_some h
      exact .rg [oo, oo, oo, oo, oo, oo, ([5001], [5001]), oo] mx (.ldA ty25 rfl (.mvA rfl (.cA (.call .none (ref_MoveBy_ok hv20) (.cons (.s rfl) (.cons (.s rfl) .nil))) (.mvA rfl (.exA rfl rfl (.exA rfl rfl (.s0 5001 ty25 rfl rfl rfl (.asnA rfl (.nil (Ends.j _ (some_eq h)))))))))))
     ·
      exact .skip (Ends.j _ (some_eq h))
    ·
     subst hj18; have h := hK18; clear hK18
     obtain ⟨r14, hv21, h⟩ := bind_some h
     refine .seq (.sr [oo, oo, oo, ([5001], []), oo, oo] mx (.ldA ty25 rfl (.mvA rfl (.mvA rfl (.cA (.loadAt0 (k := 5001) .none ty25 rfl (.s rfl)) (.cA (.call .none (law_docIs_ok hv21) (.cons (.s rfl) (.cons (.s rfl) (.cons (.s rfl) (.cons (.s rfl) .nil))))) (.cA (.not .none (.s rfl)) (.nil (.cb rfl h (fun _ h => ?_) fun _ h => ?_)))))))))
     ·
      refine .sn mx (.asb (.nil (.ret (.thenRet ?_))))
      obtain rfl := some_eq h
      exact Ends.rt Tryz.results5 rfl
     ·
      obtain ⟨r15, hv23, h⟩ := bind_some h
      refine .skip (.then (.sn mx (.ld ty25 rfl (.ld ty39 rfl (.mv rfl (.c (.call .none (ref_SpreadBy_ok hv23) (.cons (.s rfl) (.cons (.s rfl) (.cons (.s rfl) .nil)))) (.mv rfl (.ex rfl rfl (.ex rfl rfl (.asn rfl (.asn rfl (.nil (.seq (.sn mx (.mv rfl (.eqi rfl (.nil ?_)))))))))))))))))
      obtain ⟨j_24, h, hK24⟩ := bind_some h
      refine .thenJ (ι := (Int × Doc)) (fun j_24 => [(22, ⟨True, rep j_24.1⟩)]) (fun j_24 => [(5001, some (boxAt m5001 25 j_24.2))]) (fun s => j_24 = s) (.k2 19 20 rfl rfl (.k 24 rfl .nil)) SubB.nil ?_ (fun j_24' hj24 => ?_)
      ·
       refine .cb rfl h (fun _ h => ?_) fun _ h => ?_
       ·
        obtain ⟨r16, hv26, h⟩ := bind_some h
        exact .rg [oo, oo, oo, oo, oo, oo, ([5001], [5001]), oo] mx (.ldA ty25 rfl (.mvA rfl (.cA (.call .none (ref_MoveBy_ok hv26) (.cons (.s rfl) (.cons (.s rfl) .nil))) (.mvA rfl (.exA rfl rfl (.exA rfl rfl (.s0 5001 ty25 rfl rfl rfl (.asnA rfl (.nil (Ends.j _ (some_eq h)))))))))))
       ·
        exact .skip (Ends.j _ (some_eq h))
      ·
       subst hj24; have h := hK24; clear hK24
       obtain ⟨r17, hv27, h⟩ := bind_some h
       refine .fb 5001 [24] rfl (.cons (t := 24) rfl trivial .nil) (.sn mx (.ld ty25 rfl (.mv rfl (.mv rfl (.ld ty25 rfl (.c (.call .none (law_docIs_ok hv27) (.cons (.s rfl) (.cons (.s rfl) (.cons (.s rfl) (.cons (.s rfl) .nil))))) (.asn rfl (.nil (.ret ?_)))))))))
       obtain rfl := some_eq h
       exact Ends.rt Tryz.results5 rfl
end Go.Proofs.YtclcheggnlhamaaGreatDoor
