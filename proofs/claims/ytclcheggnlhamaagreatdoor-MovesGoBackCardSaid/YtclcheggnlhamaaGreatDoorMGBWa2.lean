/-
  The walks: what a function computes is what its plain function says (printed by a program of one's own).
-/
import Derived.Test.YtclcheggnlhamaaGreatDoorMGBWa1
set_option maxRecDepth 100000
set_option linter.unusedSimpArgs false
set_option linter.unusedVariables false
namespace Go.Proofs.YtclcheggnlhamaaGreatDoor
open Go Go.DB Go.RowKit

theorem page_selected_ok {d1 : Doc} {ids1 : (List Str)} {r : ((Option Page_view) × (List Int) × Int)}  (h : page_selected d1 ids1 = some r) : FSpec Tryz.prog 99 [rep d1, rep ids1] (tup [rep r.1, rep r.2.1, rep r.2.2]) := by
 unfold page_selected at h
 obtain ⟨r1, hv1, h⟩ := bind_some h
 refine FSpec.i Tryz.func99 rfl Tryz.ntmps99 rfl (fun F => (.sn mx (.c (.box .none (.s rfl)) (.c (.assign .none (.const (x := (none : (Option Page_view))) (fun M w => ⟨_, ptr_zero, rfl⟩))) (.c (.assign .none (.const (x := ([] : (List Int))) (fun M w => ⟨_, ⟨none, 0, rfl, Nat.le_refl _, by decide, rfl⟩, rfl⟩))) (.asi (.nil (.sn mx (.ld ty25 rfl (.c (.call .none (page_look_ok hv1) (.cons (.s rfl) .nil)) (.mv rfl (.ex rfl rfl (.ex rfl rfl (.asn rfl (.asn rfl (.nil (.seq (.sn mx (.mv rfl (.nei rfl (.nil (.cb rfl h (fun _ h => ?_) fun _ h => ?_))))))))))))))))))))))
 ·
  refine .sn mx (.mv rfl (.c (.assign .none (.const (x := (none : (Option Page_view))) (fun M w => ⟨_, ptr_zero, rfl⟩))) (.c (.assign .none (.const (x := ([] : (List Int))) (fun M w => ⟨_, ⟨none, 0, rfl, Nat.le_refl _, by decide, rfl⟩, rfl⟩))) (.asn rfl (.nil (.ret (.thenRet ?_)))))))
  obtain rfl := some_eq h
  exact Ends.ret3 (.inl rfl) Tryz.results99 (ResOK.tmp rfl trivial Imp.refl) (ResOK.tmp rfl trivial Imp.refl) (ResOK.tmp rfl trivial Imp.refl)
 ·
  obtain ⟨v1, hv3, h⟩ := bnd_some h
  obtain ⟨hn4, h⟩ := need_some h
  obtain ⟨chosen1, hv5, h⟩ := bnd_some h
  obtain ⟨v2, hv6, h⟩ := bind_some h
  refine .skip (.then (.sr [oo, oo, oo, ([], [31]), ([31], [9, 31])] mx (.faA fd25_0 hfd25_0 rfl (.ldA ty22 rfl (.cA (.re hv3 (.len .none sl22 (.s rfl))) (.cW (.makeSlice rk112 zo4 rfl (.s rfl) (.s rfl) hn4) (.cW (.passRow rfl (.tmp rfl)) (.nil (.reB (t := 9) rfl (congrArg (rowV 4) hv5) (.nameRow (t := 9) (g := 5001) rfl rfl rfl (fun s5001 => (.seq (.sn mx (.mv rfl (.ln sl39 rfl (.mvi (.nil (.isRef (t := 7) hv6 rfl trivial ?_))))))))))))))))))
  obtain ⟨o_7, h, hK7⟩ := bindR_some h
  refine .thenJ (ι := (List Bool)) (fun j_7 => []) (fun j_7 => [(5001, some (CPred.at s5001 (rowV 4 j_7)))]) (fun s => o_7 = Res.nx s) (.k2 2 7 rfl rfl (.k 9 rfl .nil)) SubB.nil ?_ (fun j_7 hj7 => ?_)
  ·
   refine .block (.rforEL h (fun p8_ => [(34, ⟨True, rep p8_.1⟩)]) (fun p8_ => [(5001, some (CPred.at s5001 (rowV 4 p8_.2)))]) (.k 34 rfl .nil) (.k 5001 rfl .nil) (.k4 2 7 9 32 rfl rfl rfl rfl (.k 33 rfl .nil)) SubB.nil (fun p8_ o_8 h hD8 => (.sn mx (.lt rfl rfl (.nil (.seq (.cb rfl h (fun _ h => ?_) fun _ h => ?_)))))))
   ·
    refine .skip (.then (.seq ?_))
    obtain ⟨o_10, h, hK10⟩ := bindD_some h
    unfold page_selected_L1 at h
    refine .thenJ (ι := (List Bool)) (fun j_10 => []) (fun j_10 => [(5001, some (CPred.at s5001 (rowV 4 j_10)))]) (fun s => o_10 = Res.nx s) (.k4 2 7 9 32 rfl rfl rfl rfl (.k2 33 34 rfl rfl .nil)) SubB.nil ?_ (fun j_10 hj10 => ?_)
    ·
     obtain ⟨hn11, h⟩ := need_some h
     obtain ⟨k1, hv12, h⟩ := bnd_some h
     refine .block (.sn mx (.ix sl39 ty9 rfl rfl hn11 (.ld ty9 rfl (.asn rfl (.nil (.sn mx (.mv rfl (.c (.nilCheckR .none (.s rfl)) (.fa fd148_1 hfd148_1 rfl (.ld ty145 rfl (.mv rfl (.c (.lookupOk .none mo145 zo3 (.s rfl) (.s rfl)) (.mv rfl (.ex rfl rfl (.ex rfl rfl (.ra hv12 rfl (.asn rfl (.nil (.seq (.block (.sn mx (.mv rfl (.c (.not .none (.s rfl)) (.asn rfl (.nil (.cb rfl h (fun _ h => ?_) fun _ h => ?_))))))))))))))))))))))))))
     ·
      refine .sn mx (.c (.assign .none (.const (x := (none : (Option Page_view))) (fun M w => ⟨_, ptr_zero, rfl⟩))) (.c (.assign .none (.const (x := ([] : (List Int))) (fun M w => ⟨_, ⟨none, 0, rfl, Nat.le_refl _, by decide, rfl⟩, rfl⟩))) (.asi (.nil (.ret (.blkRet (.thenRet (.blkRet (.thenRet (.thenRet (.blkRet (.thenRet ?_))))))))))))
      replace h := resd_ab hK10 (some_eq h)
      replace h := hD8 _ (some_eq h)
      replace h := resb_ab hK7 (some_eq h)
      obtain rfl := some_eq h
      exact Ends.ret3 (.inl rfl) Tryz.results99 (ResOK.tmp rfl trivial Imp.refl) (ResOK.tmp rfl trivial Imp.refl) (ResOK.tmp rfl trivial Imp.refl)
     ·
      obtain ⟨hn14, h⟩ := need_some h
      refine .sr [oo, oo, ([5001], []), ([5001], []), oo] mx (.mvA rfl (.mvA rfl (.ixO 5001 sl112 ty4 rfl rfl rfl hn14 (.cA (.loadElem0 (k := 5001) .none ty4 (.s rfl) rfl (fun _ => hn14)) (.asnA rfl (.nil (.cb rfl h (fun _ h => ?_) fun _ h => ?_)))))))
      ·
       refine .sn mx (.c (.assign .none (.const (x := (none : (Option Page_view))) (fun M w => ⟨_, ptr_zero, rfl⟩))) (.c (.assign .none (.const (x := ([] : (List Int))) (fun M w => ⟨_, ⟨none, 0, rfl, Nat.le_refl _, by decide, rfl⟩, rfl⟩))) (.asi (.nil (.ret (.blkRet (.thenRet (.blkRet (.thenRet (.thenRet (.blkRet (.thenRet ?_))))))))))))
       replace h := resd_ab hK10 (some_eq h)
       replace h := hD8 _ (some_eq h)
       replace h := resb_ab hK7 (some_eq h)
       obtain rfl := some_eq h
       exact Ends.ret3 (.inl rfl) Tryz.results99 (ResOK.tmp rfl trivial Imp.refl) (ResOK.tmp rfl trivial Imp.refl) (ResOK.tmp rfl trivial Imp.refl)
      ·
       obtain ⟨hn16, h⟩ := need_some h
       exact .skip (.blkNormal (.then (.rg [oo, oo, ([5001], []), ([5001], [5001])] mx (.mvA rfl (.mvA rfl (.ixO 5001 sl112 ty4 rfl rfl rfl hn16 (.cN (.storeElem0 (k := 5001) ty4 (.s rfl) rfl .bool hn16) (.nil (.blkNormal (Ends.j _ (some_eq h)))))))))))
    ·
     have h := resd_nx hK10 hj10
     exact .rn mx (.adi rfl (.mv rfl (.nil (Ends.ag (some_eq h)))))
   ·
    refine .exit (.thenExit (.thenExit (.blkExit ?_)))
    replace h := hD8 _ (some_eq h)
    exact Ends.j _ (some_eq h)
  ·
   have h := resb_nx hK7 hj7
   refine .freezeRow (g := 5001) (ts := [9]) rfl (.cons (t := 9) rfl trivial .nil) SubB.nil rfl (.sr [([], [14])] mx (.cW (.nilRow (T := 3) (α := Int) rfl) (.nil (.nameRow (t := 14) (g := 5002) rfl rfl rfl (fun s5002 => (.seq (.sn mx (.fa fd25_0 hfd25_0 rfl (.ld ty22 rfl (.ln sl22 rfl (.mvi (.nil ?_))))))))))))
   obtain ⟨j_17, h, hK17⟩ := bind_some h
   refine .thenJ (ι := (List Int)) (fun j_17 => []) (fun j_17 => [(14, some (rowV 3 j_17))]) (fun s => j_17 = s) (.k 7 rfl .nil) SubB.nil ?_ (fun j_17' hj17 => ?_)
   ·
    refine .block (.anon (t := 14) (g := 5002) rfl rfl trivial rfl (.rforL h (fun p18_ => [(62, ⟨True, rep p18_.1⟩)]) (fun p18_ => [(14, some (rowV 3 p18_.2))]) (.k 62 rfl .nil) (.k 14 rfl .nil) (.k4 2 7 9 60 rfl rfl rfl rfl (.k 61 rfl .nil)) SubB.nil (fun p18_ o_18 h hD18 => (.nameRow (t := 14) (g := 5003) rfl rfl rfl (fun s5003 => (.sn mx (.lt rfl rfl (.nil (.seq (.cb rfl h (fun _ h => ?_) fun _ h => ?_))))))))))
    ·
     refine .skip (.then (.seq ?_))
     obtain ⟨j_20, h, hK20⟩ := bind_some h
     unfold page_selected_L2 at h
     refine .thenJ (ι := (List Int)) (fun j_20 => []) (fun j_20 => [(14, some (rowV 3 j_20))]) (fun s => j_20 = s) (.k4 2 7 9 60 rfl rfl rfl rfl (.k2 61 62 rfl rfl .nil)) SubB.nil ?_ (fun j_20' hj20 => ?_)
     ·
      obtain ⟨hn21, h⟩ := need_some h
      obtain ⟨v3, hv22, h⟩ := bnd_some h
      refine .block (.sr [oo, oo, oo, ([], [16]), oo, ([16], [16])] mx (.mvA rfl (.ixA sl22 ty44 rfl rfl hn21 (.rlA hv22 ty44 rfl (.al zo44 rfl (.asnA rfl (.st ty44 rfl rfl rfl (.nil (.freeze (t := 16) rfl rfl (.k 5003 rfl .nil) rfl (.sn mx (.asb (.nil (.seq (.sr [oo, ([], [18]), ([18], [18])] mx (.ldA ty44 rfl (.al zo44 rfl (.st ty44 rfl rfl rfl (.nil (.nameBox (t := 18) (g := 5004) rfl rfl (fun m5004 => ?_))))))))))))))))))))
      obtain ⟨j_23, h, hK23⟩ := bind_some h
      refine .thenJ (ι := Bool) (fun j_23 => [(17, ⟨True, rep j_23⟩)]) (fun j_23 => []) (fun s => j_23 = s) (.k4 2 7 9 14 rfl rfl rfl rfl (.k4 15 60 61 62 rfl rfl rfl rfl .nil)) (.k 5003 rfl .nil) ?_ (fun j_23' hj23 => ?_)
      ·
       refine .block (.anon (t := 18) (g := 5004) rfl rfl trivial rfl (.loopL h (fun s24_ => [(17, ⟨True, rep s24_.1⟩)]) (fun s24_ => [(18, some (cont 44 s24_.2))]) (.k 17 rfl .nil) (.k 18 rfl .nil) (.k4 2 7 9 14 rfl rfl rfl rfl (.k4 15 60 61 62 rfl rfl rfl rfl .nil)) (.k 5003 rfl .nil) (fun s24_ o_24 h hD24 => ?_)))
       unfold page_selected_L3 at h
       refine .nameBox (t := 18) (g := 5005) rfl rfl (fun m5005 => (.seq (.sr [oo, ([5005], []), oo] mx (.cA (.fieldPtr .none fd44_5 (.s rfl)) (.cA (.loadAt (k := 5005) .none ty9 rfl (.s rfl) hfd44_5) (.cA (.neS .none (eqAt_str Tryz.underlying9) (.s rfl) (.str (l := []) (by decide))) (.nil (.cb rfl h (fun _ h => ?_) fun _ h => ?_))))))))
       ·
        obtain ⟨k2, hv26, h⟩ := bnd_some h
        obtain ⟨hn27, h⟩ := need_some h
        obtain ⟨under1, hv28, h⟩ := bnd_some h
        obtain ⟨hn29, h⟩ := need_some h
        obtain ⟨v4, hv30, h⟩ := bnd_some h
        exact .skip (.then (.seq (.block (.sr [oo, oo, oo, oo, oo, ([5005], []), oo, oo] mx (.mvA rfl (.cA (.nilCheckR .none (.s rfl)) (.faA fd148_1 hfd148_1 rfl (.ldA ty145 rfl (.cA (.fieldPtr .none fd44_5 (.s rfl)) (.cA (.loadAt (k := 5005) .none ty9 rfl (.s rfl) hfd44_5) (.cA (.lookup .none mo145 zo3 (.s rfl) (.s rfl)) (.cA (.re hv26 (.assign .none (.s rfl))) (.nil (.sn mx (.mv rfl (.mv rfl (.mg rfl rfl rfl (.mg rfl rfl rfl (.c (.indexAddr (.at rfl rfl) sl112 ty4 (.tmp rfl id) (.tmp rfl id) (fun hg => hn27 hg.2)) (.lg ty4 rfl rfl rfl (.po rfl rfl (.ra hv28 rfl (.nil (.rg [oo, oo, oo, oo, oo, ([5005], [5005])] mx (.faA fd25_0 hfd25_0 rfl (.ldA ty22 rfl (.mvA rfl (.ixA sl22 ty44 rfl rfl hn29 (.rlA hv30 ty44 rfl (.s0 5005 ty44 rfl rfl rfl (.nil (.blkNormal (.then (.freezeBox (g := 5005) (ts := [18]) rfl (.cons (t := 18) rfl trivial .nil) (.k 5003 rfl .nil) rfl (.sn mx (.ld ty44 rfl (.nil (.rg [([], [18]), ([18], [18])] mx (.al zo44 rfl (.st ty44 rfl rfl rfl (.nil (Ends.ag (some_eq h)))))))))))))))))))))))))))))))))))))))))))
       ·
        refine .exit (.thenExit (.thenExit (.blkExit ?_)))
        replace h := hD24 _ (some_eq h)
        exact Ends.j _ (some_eq h)
      ·
       subst hj23; have h := hK23; clear hK23
       obtain ⟨hn31, h⟩ := need_some h
       refine .sn mx (.mv rfl (.mv rfl (.ix sl112 ty4 rfl rfl hn31 (.ld ty4 rfl (.mv rfl (.mg rfl rfl rfl (.c (.not (.at rfl rfl) (.tmp rfl id)) (.pa rfl rfl (.nil (.cb rfl h (fun _ h => ?_) fun _ h => ?_))))))))))
       ·
        obtain ⟨hn33, h⟩ := need_some h
        exact .rg [oo, oo, oo, ([5003], [102, 5003]), ([102], [14, 102])] mx (.mvA rfl (.mvA rfl (.cA (.buildSlice (xs := [_]) .none sl118 ty3 hz3 (.cons (.s rfl) .nil) rfl (by decide)) (.cW (.append (k := 5003) rk118 rfl (.told (.s rfl) rfl) (.s rfl) hn33) (.cW (.passRow rfl (.tmp rfl)) (.nil (.blkNormal (Ends.j _ (some_eq h)))))))))
       ·
        exact .skip (.blkNormal (.anon (t := 14) (g := 5003) rfl rfl trivial rfl (Ends.j _ (some_eq h))))
     ·
      subst hj20; have h := hK20; clear hK20
      exact .nameRow (t := 14) (g := 5006) rfl rfl rfl (fun s5006 => (.rn mx (.adi rfl (.mv rfl (.nil (.anon (t := 14) (g := 5006) rfl rfl trivial rfl (Ends.ag (some_eq h))))))))
    ·
     refine .exit (.thenExit (.thenExit (.blkExit (.anon (t := 14) (g := 5003) rfl rfl trivial rfl ?_))))
     replace h := hD18 _ (some_eq h)
     exact Ends.j _ (some_eq h)
   ·
    subst hj17; have h := hK17; clear hK17
    refine .freezeRowA (t := 14) rfl rfl SubB.nil rfl (.sn mx (.mv rfl (.mv rfl (.asn rfl (.asn rfl (.asi (.nil (.ret ?_))))))))
    obtain rfl := some_eq h
    exact Ends.ret3 (.inl rfl) Tryz.results99 (ResOK.tmp rfl trivial Imp.refSome) (ResOK.tmp rfl trivial Imp.refl) (ResOK.tmp rfl trivial Imp.refl)

theorem page_view_below_okS {self : (Page_view × Int × (List Bool)) → Option (List Bool)} (hself : ∀ {s35 : Value} (x : (Page_view × Int × (List Bool))) (r : (List Bool)), self x = some r → FSpecO Tryz.prog 78 [ref x.1, rep x.2.1, isV s35] [(s35, rowV 4 x.2.2)] (anyV) [some (rowV 4 r)]) {s35 : Value} {x : (Page_view × Int × (List Bool))} {r : (List Bool)} (h : page_view_below_body self x = some r) : FSpecO Tryz.prog 78 [ref x.1, rep x.2.1, isV s35] [(s35, rowV 4 x.2.2)] (anyV) [some (rowV 4 r)] := by
 unfold page_view_below_body at h
 obtain ⟨hn1, h⟩ := need_some h
 obtain ⟨marks2, hv2, h⟩ := bnd_some h
 obtain ⟨hn3, h⟩ := need_some h
 obtain ⟨v2, hv4, h⟩ := bnd_some h
 refine FSpecO.i Tryz.func78 rfl Tryz.ntmps78 rfl (fun F => (.sr [oo, oo, ([35], []), ([35], [35])] mx (.mvA rfl (.mvA rfl (.ixO 35 sl112 ty4 rfl rfl rfl hn1 (.cN (.storeElem0 (k := 35) ty4 (.s rfl) rfl .bool hn1) (.nil (.reB (t := 35) rfl (congrArg (fun y => CPred.at s35 (rowV 4 y)) hv2) (.sn mx (.mv rfl (.c (.nilCheckR .none (.s rfl)) (.fa fd148_2 hfd148_2 rfl (.ld ty146 rfl (.mv rfl (.c (.nilCheckR .none (.s rfl)) (.fa fd148_0 hfd148_0 rfl (.fa fd25_0 hfd25_0 rfl (.ld ty22 rfl (.mv rfl (.ix sl22 ty44 rfl rfl hn3 (.fa fd44_0 hfd44_0 rfl (.ld ty9 rfl (.c (.re hv4 (.lookup .none mo146 zo118 (.s rfl) (.s rfl))) (.ln sl118 rfl (.mvi (.nil ?_))))))))))))))))))))))))))
 obtain ⟨j_5, h, hK5⟩ := bind_some h
 refine .tailJ (ι := (List Bool)) (fun j_5 => []) (fun j_5 => [(35, some (CPred.at s35 (rowV 4 j_5)))]) (fun s => j_5 = s) (.k 2 rfl .nil) SubB.nil ?_ (fun j_5' hj5 => ?_)
 ·
  refine .block (.rforL h (fun p6_ => [(26, ⟨True, rep p6_.1⟩)]) (fun p6_ => [(35, some (CPred.at s35 (rowV 4 p6_.2)))]) (.k 26 rfl .nil) (.k 35 rfl .nil) (.k4 0 2 24 25 rfl rfl rfl rfl .nil) SubB.nil (fun p6_ o_6 h hD6 => (.sn mx (.lt rfl rfl (.nil (.seq (.cb rfl h (fun _ h => ?_) fun _ h => ?_)))))))
  ·
   refine .skip (.then (.seq ?_))
   obtain ⟨j_8, h, hK8⟩ := bind_some h
   unfold page_view_below_L1 at h
   refine .thenJ (ι := (List Bool)) (fun j_8 => []) (fun j_8 => [(35, some (CPred.at s35 (rowV 4 j_8)))]) (fun s => j_8 = s) (.k4 0 2 24 25 rfl rfl rfl rfl (.k 26 rfl .nil)) SubB.nil ?_ (fun j_8' hj8 => ?_)
   ·
    obtain ⟨hn9, h⟩ := need_some h
    obtain ⟨r1, hv10, h⟩ := bind_some h
    exact .block (.sn mx (.ix sl118 ty3 rfl rfl hn9 (.ld ty3 rfl (.asn rfl (.nil (.rg [oo, oo, oo, ([35], [35])] mx (.mvA rfl (.mvA rfl (.mvA rfl (.cW (.cO [35] (hself _ _ hv10) (.cons (.s rfl) (.cons (.s rfl) (.cons (.s rfl) .nil))) (.cons (k := 35) rfl .nil) rfl) (.nil (.blkNormal (Ends.j _ (some_eq h))))))))))))))
   ·
    subst hj8; have h := hK8; clear hK8
    exact .rn mx (.adi rfl (.mv rfl (.nil (Ends.ag (some_eq h)))))
  ·
   refine .exit (.thenExit (.thenExit (.blkExit ?_)))
   replace h := hD6 _ (some_eq h)
   exact Ends.j _ (some_eq h)
 ·
  subst hj5; have h := hK5; clear hK5
  obtain rfl := some_eq h
  exact Ends.ret0O (.inr rfl) [35] Tryz.results78 (by decide) (.held rfl .nil)
theorem page_view_below_okN : ∀ (k : Nat) {s35 : Value} (x : (Page_view × Int × (List Bool))) (r : (List Bool)) (h : fixN page_view_below_body k x = some r), FSpecO Tryz.prog 78 [ref x.1, rep x.2.1, isV s35] [(s35, rowV 4 x.2.2)] (anyV) [some (rowV 4 r)]
 | 0, _, x, r, h => by simp [fixN] at h
 | k + 1, _, x, r, h => page_view_below_okS (page_view_below_okN k) h
theorem page_view_below_ok {v1 : Page_view} {k1 : Int} {marks1 : (List Bool)} {r : (List Bool)} {s35 : Value} (h : page_view_below v1 k1 marks1 = some r) : FSpecO Tryz.prog 78 [ref v1, rep k1, isV s35] [(s35, rowV 4 marks1)] (anyV) [some (rowV 4 r)] :=
 let ⟨k, hk⟩ := fixp_some h
 page_view_below_okN k (v1, k1, marks1) r hk

theorem page_view_marks_ok {v1 : Page_view} {s1 : Page_step} {r : (List Bool)}  (h : page_view_marks v1 s1 = some r) : FSpec Tryz.prog 178 [ref v1, rep s1] (rep r) := by
 unfold page_view_marks at h
 obtain ⟨v2, hv1, h⟩ := bnd_some h
 obtain ⟨hn2, h⟩ := need_some h
 obtain ⟨marks1, hv3, h⟩ := bnd_some h
 refine FSpec.i Tryz.func178 rfl Tryz.ntmps178 rfl (fun F => (.sn mx (.c (.box .none (.s rfl)) (.c (.assign .none (.const (x := ([] : (List Bool))) (fun M w => ⟨_, ⟨none, 0, rfl, Nat.le_refl _, by decide, rfl⟩, rfl⟩))) (.nil (.sr [oo, oo, oo, oo, oo, oo, ([], [14]), ([14], [5, 14])] mx (.mvA rfl (.cA (.nilCheckR .none (.s rfl)) (.faA fd148_0 hfd148_0 rfl (.faA fd25_0 hfd25_0 rfl (.ldA ty22 rfl (.cA (.re hv1 (.len .none sl22 (.s rfl))) (.cW (.makeSlice rk112 zo4 rfl (.s rfl) (.s rfl) hn2) (.cW (.passRow rfl (.tmp rfl)) (.nil (.reB (t := 5) rfl (congrArg (rowV 4) hv3) (.nameRow (t := 5) (g := 5001) rfl rfl rfl (fun s5001 => (.seq (.sn mx (.fa fd159_0 hfd159_0 rfl (.ld ty118 rfl (.ln sl118 rfl (.mvi (.nil ?_)))))))))))))))))))))))))
 obtain ⟨j_4, h, hK4⟩ := bind_some h
 refine .thenJ (ι := (List Bool)) (fun j_4 => []) (fun j_4 => [(5001, some (CPred.at s5001 (rowV 4 j_4)))]) (fun s => j_4 = s) (.k 5 rfl .nil) SubB.nil ?_ (fun j_4' hj4 => ?_)
 ·
  refine .block (.rforL h (fun p5_ => [(18, ⟨True, rep p5_.1⟩)]) (fun p5_ => [(5001, some (CPred.at s5001 (rowV 4 p5_.2)))]) (.k 18 rfl .nil) (.k 5001 rfl .nil) (.k4 0 5 16 17 rfl rfl rfl rfl .nil) SubB.nil (fun p5_ o_5 h hD5 => (.sn mx (.lt rfl rfl (.nil (.seq (.cb rfl h (fun _ h => ?_) fun _ h => ?_)))))))
  ·
   refine .skip (.then (.seq ?_))
   obtain ⟨j_7, h, hK7⟩ := bind_some h
   unfold page_view_marks_L1 at h
   refine .thenJ (ι := (List Bool)) (fun j_7 => []) (fun j_7 => [(5001, some (CPred.at s5001 (rowV 4 j_7)))]) (fun s => j_7 = s) (.k4 0 5 16 17 rfl rfl rfl rfl (.k 18 rfl .nil)) SubB.nil ?_ (fun j_7' hj7 => ?_)
   ·
    obtain ⟨hn8, h⟩ := need_some h
    obtain ⟨r1, hv9, h⟩ := bind_some h
    exact .block (.sn mx (.ix sl118 ty3 rfl rfl hn8 (.ld ty3 rfl (.asn rfl (.nil (.rg [oo, oo, oo, ([5001], [5001])] mx (.mvA rfl (.mvA rfl (.mvA rfl (.cW (.cO [5001] (page_view_below_ok hv9) (.cons (.s rfl) (.cons (.s rfl) (.cons (.s rfl) .nil))) (.cons (k := 5001) rfl .nil) rfl) (.nil (.blkNormal (Ends.j _ (some_eq h))))))))))))))
   ·
    subst hj7; have h := hK7; clear hK7
    exact .rn mx (.adi rfl (.mv rfl (.nil (Ends.ag (some_eq h)))))
  ·
   refine .exit (.thenExit (.thenExit (.blkExit ?_)))
   replace h := hD5 _ (some_eq h)
   exact Ends.j _ (some_eq h)
 ·
  subst hj4; have h := hK4; clear hK4
  refine .freezeRow (g := 5001) (ts := [5]) rfl (.cons (t := 5) rfl trivial .nil) SubB.nil rfl (.sn mx (.mv rfl (.asn rfl (.nil (.ret ?_)))))
  obtain rfl := some_eq h
  exact Ends.rt Tryz.results178 rfl

theorem page_far_ok {n1 : Int} {r : Bool}  (h : page_far n1 = some r) : FSpec Tryz.prog 110 [rep n1] (rep r) := by
 unfold page_far at h
 refine FSpec.i Tryz.func110 rfl Tryz.ntmps110 rfl (fun F => (.sn mx (.asb (.nil (.sn mx (.mv rfl (.c (.lt .none (.s rfl) .i) (.mv rfl (.mg rfl rfl rfl (.c (.gt (.at rfl rfl) (.tmp rfl id) .i) (.po rfl rfl (.asn rfl (.nil (.ret ?_))))))))))))))
 obtain rfl := some_eq h
 exact Ends.rt Tryz.results110 rfl

theorem slices_Clone_Node_ok {s1 : (List DNode)} {r : (List DNode)}  (h : slices_Clone_Node s1 = some r) : FSpecO Tryz.prog 167 [rep s1] [] (anyV) [some (rowV 44 r)] := by
 unfold slices_Clone_Node at h
 refine FSpecO.i Tryz.func167 rfl Tryz.ntmps167 rfl (fun F => (.sn mx (.c (.assign .none (.const (x := ([] : (List DNode))) (fun M w => ⟨_, ⟨none, 0, rfl, Nat.le_refl _, by decide, rfl⟩, rfl⟩))) (.nil (.seq (.sn mx (.mv rfl (.c (.eqNil .none sl22 (.s rfl)) (.nil (.condNil (t := 4) rfl trivial (fun hb1 => ?_) ?_))))))))))
 ·
  replace h := nilc_t h hb1
  refine .sr [([], [2])] mx (.cW (.nilRow (T := 44) (α := DNode) rfl) (.nil (.nameRow (t := 2) (g := 5001) rfl rfl rfl (fun s5001 => (.ret (.thenRet (.anon (t := 2) (g := 5001) rfl rfl trivial rfl ?_)))))))
  obtain rfl := some_eq h
  exact Ends.ret1O (.inl rfl) [2] Tryz.results167 (by decide) (.res rfl rfl) (ResOK.tmp rfl trivial (fun _ _ _ _ => trivial))
 ·
  replace h := nilc_f h
  obtain ⟨hn2, h⟩ := need_some h
  obtain ⟨v1, hv3, h⟩ := bnd_some h
  refine .skip (.then (.sr [([], [5]), oo, ([5], [7, 5]), ([7], [2, 7])] mx (.cW (.buildSliceO (xs := []) rfl sl22 ty44 hz44 .nil rfl (by decide)) (.mvA rfl (.cW (.append (k := 5) rk22 rfl (.tmp rfl) (.s rfl) hn2) (.cW (.passRow rfl (.tmp rfl)) (.nil (.reB (t := 2) rfl (congrArg (rowV 44) hv3) (.nameRow (t := 2) (g := 5002) rfl rfl rfl (fun s5002 => (.ret (.anon (t := 2) (g := 5002) rfl rfl trivial rfl ?_))))))))))))
  obtain rfl := some_eq h
  exact Ends.ret1O (.inl rfl) [2] Tryz.results167 (by decide) (.res rfl rfl) (ResOK.tmp rfl trivial (fun _ _ _ _ => trivial))

theorem slices_Clone_Edge_ok {s1 : (List DEdge)} {r : (List DEdge)}  (h : slices_Clone_Edge s1 = some r) : FSpecO Tryz.prog 168 [rep s1] [] (anyV) [some (rowV 67 r)] := by
 unfold slices_Clone_Edge at h
 refine FSpecO.i Tryz.func168 rfl Tryz.ntmps168 rfl (fun F => (.sn mx (.c (.assign .none (.const (x := ([] : (List DEdge))) (fun M w => ⟨_, ⟨none, 0, rfl, Nat.le_refl _, by decide, rfl⟩, rfl⟩))) (.nil (.seq (.sn mx (.mv rfl (.c (.eqNil .none sl23 (.s rfl)) (.nil (.condNil (t := 4) rfl trivial (fun hb1 => ?_) ?_))))))))))
 ·
  replace h := nilc_t h hb1
  refine .sr [([], [2])] mx (.cW (.nilRow (T := 67) (α := DEdge) rfl) (.nil (.nameRow (t := 2) (g := 5001) rfl rfl rfl (fun s5001 => (.ret (.thenRet (.anon (t := 2) (g := 5001) rfl rfl trivial rfl ?_)))))))
  obtain rfl := some_eq h
  exact Ends.ret1O (.inl rfl) [2] Tryz.results168 (by decide) (.res rfl rfl) (ResOK.tmp rfl trivial (fun _ _ _ _ => trivial))
 ·
  replace h := nilc_f h
  obtain ⟨hn2, h⟩ := need_some h
  obtain ⟨v1, hv3, h⟩ := bnd_some h
  refine .skip (.then (.sr [([], [5]), oo, ([5], [7, 5]), ([7], [2, 7])] mx (.cW (.buildSliceO (xs := []) rfl sl23 ty67 hz67 .nil rfl (by decide)) (.mvA rfl (.cW (.append (k := 5) rk23 rfl (.tmp rfl) (.s rfl) hn2) (.cW (.passRow rfl (.tmp rfl)) (.nil (.reB (t := 2) rfl (congrArg (rowV 67) hv3) (.nameRow (t := 2) (g := 5002) rfl rfl rfl (fun s5002 => (.ret (.anon (t := 2) (g := 5002) rfl rfl trivial rfl ?_))))))))))))
  obtain rfl := some_eq h
  exact Ends.ret1O (.inl rfl) [2] Tryz.results168 (by decide) (.res rfl rfl) (ResOK.tmp rfl trivial (fun _ _ _ _ => trivial))

theorem slices_Clone_Point_ok {s1 : (List Point)} {r : (List Point)}  (h : slices_Clone_Point s1 = some r) : FSpecO Tryz.prog 169 [rep s1] [] (anyV) [some (rowV 27 r)] := by
 unfold slices_Clone_Point at h
 refine FSpecO.i Tryz.func169 rfl Tryz.ntmps169 rfl (fun F => (.sn mx (.c (.assign .none (.const (x := ([] : (List Point))) (fun M w => ⟨_, ⟨none, 0, rfl, Nat.le_refl _, by decide, rfl⟩, rfl⟩))) (.nil (.seq (.sn mx (.mv rfl (.c (.eqNil .none sl59 (.s rfl)) (.nil (.condNil (t := 4) rfl trivial (fun hb1 => ?_) ?_))))))))))
 ·
  replace h := nilc_t h hb1
  refine .sr [([], [2])] mx (.cW (.nilRow (T := 27) (α := Point) rfl) (.nil (.nameRow (t := 2) (g := 5001) rfl rfl rfl (fun s5001 => (.ret (.thenRet (.anon (t := 2) (g := 5001) rfl rfl trivial rfl ?_)))))))
  obtain rfl := some_eq h
  exact Ends.ret1O (.inl rfl) [2] Tryz.results169 (by decide) (.res rfl rfl) (ResOK.tmp rfl trivial (fun _ _ _ _ => trivial))
 ·
  replace h := nilc_f h
  obtain ⟨hn2, h⟩ := need_some h
  obtain ⟨v1, hv3, h⟩ := bnd_some h
  refine .skip (.then (.sr [([], [5]), oo, ([5], [7, 5]), ([7], [2, 7])] mx (.cW (.buildSliceO (xs := []) rfl sl59 ty27 hz27 .nil rfl (by decide)) (.mvA rfl (.cW (.append (k := 5) rk59 rfl (.tmp rfl) (.s rfl) hn2) (.cW (.passRow rfl (.tmp rfl)) (.nil (.reB (t := 2) rfl (congrArg (rowV 27) hv3) (.nameRow (t := 2) (g := 5002) rfl rfl rfl (fun s5002 => (.ret (.anon (t := 2) (g := 5002) rfl rfl trivial rfl ?_))))))))))))
  obtain rfl := some_eq h
  exact Ends.ret1O (.inl rfl) [2] Tryz.results169 (by decide) (.res rfl rfl) (ResOK.tmp rfl trivial (fun _ _ _ _ => trivial))

theorem page_cloned_ok {d1 : Doc} {r : Doc}  (h : page_cloned d1 = some r) : FSpecO Tryz.prog 100 [rep d1] [] (anyV) [some (deep (fun z0 => deep (fun z1 => valV (⟨⟨z0⟩, ⟨z1⟩⟩ : Doc_o01)) (rowV 67 r.Edges)) (rowV 44 r.Nodes))] := by
 unfold page_cloned at h
 obtain ⟨v1, hv1, h⟩ := bnd_some h
 obtain ⟨r1, hv2, h⟩ := bind_some h
 obtain ⟨r2, hv3, h⟩ := bind_some h
 refine FSpecO.i Tryz.func100 rfl Tryz.ntmps100 rfl (fun F => (.sr [([], [1]), ([], [2])] mx (.cW (.boxO rfl (.s rfl)) (.al zo25 rfl (.nil (.reB (t := 2) rfl (congrArg (cont 25) hv1) (.nameBox (t := 1) (g := 5001) rfl rfl (fun m5001 => (.nameBox (t := 2) (g := 5002) rfl rfl (fun m5002 => (.sr [oo, ([5001], []), ([], [6]), oo, ([5001], []), ([], [9]), oo, ([5001, 6], [5001, 6]), oo, ([5001, 9], [5001, 9])] mx (.cA (.fieldPtr .none fd25_0 (.s rfl)) (.cA (.loadAt (k := 5001) .none ty22 rfl (.s rfl) hfd25_0) (.cW (.cO [] (slices_Clone_Node_ok hv2) (.cons (.s rfl) .nil) .nil rfl) (.cA (.fieldPtr .none fd25_1 (.s rfl)) (.cA (.loadAt (k := 5001) .none ty23 rfl (.s rfl) hfd25_1) (.cW (.cO [] (slices_Clone_Edge_ok hv3) (.cons (.s rfl) .nil) .nil rfl) (.cA (.fieldPtr .none fd25_0 (.s rfl)) (.cN (.storeRowF (k := 5001) (t := 6) (off := 0) (set := fun s => (⟨⟨s⟩, d1.Edges⟩ : Doc_o0)) ty22 rfl (.s rfl) (by decide) (fun M s cs w hc hs => by obtain ⟨c0, q0, e0, h0, h1⟩ := hc; obtain ⟨v, _, hv⟩ := cells_one rfl rfl h0; exact sv_Doc_o0_0.2 M (⟨⟨v⟩, d1.Edges⟩ : Doc_o0) ⟨s⟩ cs [s] w ⟨c0, q0, e0, hv, h1⟩ hs) rfl rfl) (.cA (.fieldPtr .none fd25_1 (.s rfl)) (.cN (.storeRowD (k := 5001) (t := 9) (off := 1) (mk := fun z => (⟨⟨z⟩, d1.Edges⟩ : Doc_o0)) (set := fun s z => (⟨⟨z⟩, ⟨s⟩⟩ : Doc_o01)) ty23 rfl (.s rfl) (by decide) (fun M z s cs w hc hs => by obtain ⟨c0, q0, e0, h0, h1⟩ := hc; obtain ⟨v, _, hv⟩ := cells_one rfl rfl h1; exact sv_Doc_o01_1.2 M (⟨⟨z⟩, ⟨v⟩⟩ : Doc_o01) ⟨s⟩ cs [s] w ⟨c0, q0, e0, h0, hv⟩ hs) rfl rfl) (.nil (.open (k := 5001) (g := 5003) rfl rfl (fun s5003 => (.open (k := 5001) (g := 5004) rfl rfl (fun s5004 => (.seq (.sr [oo, ([5001], []), ([5003], []), oo] mx (.cA (.fieldPtr .none fd25_1 (.s rfl)) (.cA (.loadAt (k := 5001) .none tr23 rfl (.s rfl) hv_Doc_o01_1) ?_))))))))))))))))))))))))))))))
 refine .cA (.lenO (k := 5003) sl23 (.told (.s rfl) rfl)) (.cA (.move .none .i) (.nil ?_))
 obtain ⟨j_4, h, hK4⟩ := bind_some h
 refine .thenJ (ι := (List DEdge)) (fun j_4 => []) (fun j_4 => [(5003, some (CPred.at s5003 (rowV 67 j_4)))]) (fun s => j_4 = s) (.k2 1 2 rfl rfl .nil) (.k2 5001 5002 rfl rfl (.k 5004 rfl .nil)) ?_ (fun j_4' hj4 => ?_)
 ·
  refine .block (.rforL h (fun p5_ => [(15, ⟨True, rep p5_.1⟩)]) (fun p5_ => [(5003, some (CPred.at s5003 (rowV 67 p5_.2)))]) (.k 15 rfl .nil) (.k 5003 rfl .nil) (.k2 1 2 rfl rfl (.k 14 rfl .nil)) (.k2 5001 5002 rfl rfl (.k 5004 rfl .nil)) (fun p5_ o_5 h hD5 => (.sn mx (.lt rfl rfl (.nil (.seq (.cb rfl h (fun _ h => ?_) fun _ h => ?_)))))))
  ·
   refine .skip (.then (.seq ?_))
   obtain ⟨j_7, h, hK7⟩ := bind_some h
   unfold page_cloned_L1 at h
   refine .thenJ (ι := (List DEdge)) (fun j_7 => []) (fun j_7 => [(5003, some (CPred.at s5003 (rowV 67 j_7)))]) (fun s => j_7 = s) (.k4 1 2 14 15 rfl rfl rfl rfl .nil) (.k2 5001 5002 rfl rfl (.k 5004 rfl .nil)) ?_ (fun j_7' hj7 => ?_)
   ·
    obtain ⟨hn8, h⟩ := need_some h
    obtain ⟨r3, hv9, h⟩ := bind_some h
    obtain ⟨hn10, h⟩ := need_some h
    exact .block (.sn mx (.mv rfl (.asn rfl (.nil (.rg [oo, ([5001], []), oo, oo, ([5001], []), oo, ([5003], []), ([5003], []), ([5003], []), oo, ([5003], []), ([5003], []), ([5003], [5003])] mx (.cA (.fieldPtr .none fd25_1 (.s rfl)) (.cA (.loadAt (k := 5001) .none tr23 rfl (.s rfl) hv_Doc_o01_1) (.mvA rfl (.cA (.fieldPtr .none fd25_1 (.s rfl)) (.cA (.loadAt (k := 5001) .none tr23 rfl (.s rfl) hv_Doc_o01_1) (.mvA rfl (.ixO 5003 sl23 ty67 rfl rfl rfl hn8 (.fe 5003 fd67_3 rfl rfl hn8 (.cA (.loadElem (k := 5003) .none ty59 (.s rfl) rfl hfd67_3 (fun _ => hn8)) (.cA (.call .none (slices_Clone_Point_ok hv9).frz (.cons (.s rfl) .nil)) (.ixO 5003 sl23 ty67 rfl rfl rfl hn10 (.fe 5003 fd67_3 rfl rfl hn10 (.cN (.storeElem (k := 5003) ty59 (.s rfl) rfl sf67_3 (.s rfl) hn10) (.nil (.blkNormal (Ends.j _ (some_eq h))))))))))))))))))))))
   ·
    subst hj7; have h := hK7; clear hK7
    exact .rn mx (.adi rfl (.mv rfl (.nil (Ends.ag (some_eq h)))))
  ·
   refine .exit (.thenExit (.thenExit (.blkExit ?_)))
   replace h := hD5 _ (some_eq h)
   exact Ends.j _ (some_eq h)
 ·
  subst hj4; have h := hK4; clear hK4
  refine .sr [([5001], []), ([5002], [5002])] mx (.cA (.loadAt0 (k := 5001) .none tyv_Doc_o01 rfl (.s rfl)) (.cN (.storeAtH (g := 5002) tyv_Doc_o01 (by rfl) rfl (.s rfl) (.s rfl)) (.nil (.ret (.close (k := 5002) (g := 5003) (fun z => cont 25 (⟨⟨s5004⟩, ⟨z⟩⟩ : Doc_o01)) rfl rfl rfl (.close (k := 5002) (g := 5004) (fun z => deep (fun z0 => cont 25 (⟨⟨z⟩, ⟨z0⟩⟩ : Doc_o01)) (rowV 67 j_4)) rfl rfl rfl ?_))))))
  obtain rfl := some_eq h
  exact Ends.ret1S (K := 5002) (.inl rfl) tyv_Doc_o01 Tryz.results100 rfl trivial rfl

theorem page_cloned_fz {d1 : Doc} {r : Doc} (h : page_cloned d1 = some r) : FSpec Tryz.prog 100 [rep d1] (rep r) :=
 (page_cloned_ok h).frzG (fun M D v w h hms => deep_val2 (mk := (fun s1_ s2_ => (⟨⟨s1_⟩, ⟨s2_⟩⟩ : Doc_o01))) (y := (r : Doc)) frzRow frzRow rfl (fun M s1_ s2_ cs w hc g1 g2 => by obtain ⟨c0, q0, e0, h0, h1⟩ := hc; exact ⟨c0, q0, e0, raw_cells rfl rfl h0 g1, raw_cells rfl rfl h1 g2⟩) M D v w h hms)

theorem page_cloned_deep_ok {d1 : Doc} {r : Doc}  (h : page_cloned d1 = some r) : FSpecO Tryz.prog 100 [rep d1] [] (anyV) [some (deep (fun z0 => deep (fun z1 => valV (⟨⟨z0⟩, ⟨z1⟩⟩ : Doc_o01)) (rowD 67 27 mk_DEdge_o3 DEdge.Bends [] r.Edges)) (rowV 44 r.Nodes))] := by
 unfold page_cloned at h
 obtain ⟨v1, hv1, h⟩ := bnd_some h
 obtain ⟨r1, hv2, h⟩ := bind_some h
 obtain ⟨r2, hv3, h⟩ := bind_some h
 refine FSpecO.i Tryz.func100 rfl Tryz.ntmps100 rfl (fun F => (.sr [([], [1]), ([], [2])] mx (.cW (.boxO rfl (.s rfl)) (.al zo25 rfl (.nil (.reB (t := 2) rfl (congrArg (cont 25) hv1) (.nameBox (t := 1) (g := 5001) rfl rfl (fun m5001 => (.nameBox (t := 2) (g := 5002) rfl rfl (fun m5002 => (.sr [oo, ([5001], []), ([], [6]), oo, ([5001], []), ([], [9]), oo, ([5001, 6], [5001, 6]), oo, ([5001, 9], [5001, 9])] mx (.cA (.fieldPtr .none fd25_0 (.s rfl)) (.cA (.loadAt (k := 5001) .none ty22 rfl (.s rfl) hfd25_0) (.cW (.cO [] (slices_Clone_Node_ok hv2) (.cons (.s rfl) .nil) .nil rfl) (.cA (.fieldPtr .none fd25_1 (.s rfl)) (.cA (.loadAt (k := 5001) .none ty23 rfl (.s rfl) hfd25_1) (.cW (.cO [] (slices_Clone_Edge_ok hv3) (.cons (.s rfl) .nil) .nil rfl) (.cA (.fieldPtr .none fd25_0 (.s rfl)) (.cN (.storeRowF (k := 5001) (t := 6) (off := 0) (set := fun s => (⟨⟨s⟩, d1.Edges⟩ : Doc_o0)) ty22 rfl (.s rfl) (by decide) (fun M s cs w hc hs => by obtain ⟨c0, q0, e0, h0, h1⟩ := hc; obtain ⟨v, _, hv⟩ := cells_one rfl rfl h0; exact sv_Doc_o0_0.2 M (⟨⟨v⟩, d1.Edges⟩ : Doc_o0) ⟨s⟩ cs [s] w ⟨c0, q0, e0, hv, h1⟩ hs) rfl rfl) (.cA (.fieldPtr .none fd25_1 (.s rfl)) (.cN (.storeRowD (k := 5001) (t := 9) (off := 1) (mk := fun z => (⟨⟨z⟩, d1.Edges⟩ : Doc_o0)) (set := fun s z => (⟨⟨z⟩, ⟨s⟩⟩ : Doc_o01)) ty23 rfl (.s rfl) (by decide) (fun M z s cs w hc hs => by obtain ⟨c0, q0, e0, h0, h1⟩ := hc; obtain ⟨v, _, hv⟩ := cells_one rfl rfl h1; exact sv_Doc_o01_1.2 M (⟨⟨z⟩, ⟨v⟩⟩ : Doc_o01) ⟨s⟩ cs [s] w ⟨c0, q0, e0, h0, hv⟩ hs) rfl rfl) (.nil (.open (k := 5001) (g := 5003) rfl rfl (fun s5003 => (.open (k := 5001) (g := 5004) rfl rfl (fun s5004 => (.seq (.sr [oo, ([5001], []), ([5003], []), oo] mx (.cA (.fieldPtr .none fd25_1 (.s rfl)) (.cA (.loadAt (k := 5001) .none tr23 rfl (.s rfl) hv_Doc_o01_1) ?_))))))))))))))))))))))))))))))
 refine .cA (.lenO (k := 5003) sl23 (.told (.s rfl) rfl)) (.cA (.move .none .i) (.nil (.tellK (k := 5003) (C' := CPred.at s5003 (rowP 67 27 mk_DEdge_o3 DEdge.Bends r2.length 0 r2)) rfl (fun M D v w h => by have h' : (rowV 67 r2).p M D s5003 w := h; exact rowP_of rfl parts_mk_DEdge_o3 h') ?_)))
 obtain ⟨j_4, h, hK4⟩ := bind_some h
 refine .thenJ (ι := (List DEdge)) (fun j_4 => []) (fun j_4 => [(5003, some (CPred.at s5003 (rowD 67 27 mk_DEdge_o3 DEdge.Bends [] j_4)))]) (fun s => j_4 = s) (.k2 1 2 rfl rfl .nil) (.k2 5001 5002 rfl rfl (.k 5004 rfl .nil)) ?_ (fun j_4' hj4 => ?_)
 ·
  refine .block (.rforL h (fun p5_ => [(15, ⟨True, rep p5_.1⟩)]) (fun p5_ => [(5003, some (CPred.at s5003 (rowP 67 27 mk_DEdge_o3 DEdge.Bends r2.length p5_.1.toNat p5_.2)))]) (.k 15 rfl .nil) (.k 5003 rfl .nil) (.k2 1 2 rfl rfl (.k 14 rfl .nil)) (.k2 5001 5002 rfl rfl (.k 5004 rfl .nil)) (fun p5_ o_5 h hD5 => (.sn mx (.lt rfl rfl (.nil (.seq (.cb rfl h (fun hb6 h => ?_) fun hb6 h => ?_)))))))
  ·
   refine .skip (.then (.seq ?_))
   obtain ⟨j_7, h, hK7⟩ := bind_some h
   unfold page_cloned_L1 at h
   have hnP : inR p5_.2 p5_.1 := (need_some h).1
   refine .thenJ (ι := (List DEdge)) (fun j_7 => []) (fun j_7 => [(5003, some (CPred.at s5003 (rowP 67 27 mk_DEdge_o3 DEdge.Bends r2.length (p5_.1.toNat + 1) j_7)))]) (fun s => j_7 = s) (.k4 1 2 14 15 rfl rfl rfl rfl .nil) (.k2 5001 5002 rfl rfl (.k 5004 rfl .nil)) ?_ (fun j_7' hj7 => ?_)
   ·
    obtain ⟨hn8, h⟩ := need_some h
    obtain ⟨r3, hv9, h⟩ := bind_some h
    obtain ⟨hn10, h⟩ := need_some h
    exact .block (.sn mx (.mv rfl (.asn rfl (.nil (.rg [oo, ([5001], []), oo, oo, ([5001], []), oo, ([5003], []), ([5003], []), ([5003], []), ([], [27]), ([5003], []), ([5003], []), ([5003, 27], [5003, 27])] mx (.cA (.fieldPtr .none fd25_1 (.s rfl)) (.cA (.loadAt (k := 5001) .none tr23 rfl (.s rfl) hv_Doc_o01_1) (.mvA rfl (.cA (.fieldPtr .none fd25_1 (.s rfl)) (.cA (.loadAt (k := 5001) .none tr23 rfl (.s rfl) hv_Doc_o01_1) (.mvA rfl (.cA (.indexAddrP (k := 5003) sl23 tyv_DEdge_o3 (.s rfl) rfl (.s rfl) hn8) (.cA (.fieldElemP (k := 5003) fd67_3 (.s rfl) rfl hn8) (.cA (.loadElemP (k := 5003) tr59 (.s rfl) rfl hv_DEdge_o3_3 (fun _ _ => rfl) hn8 (Nat.le_refl _)) (.cW (.cO [] (slices_Clone_Point_ok hv9) (.cons (.s rfl) .nil) .nil rfl) (.cA (.indexAddrP (k := 5003) sl23 tyv_DEdge_o3 (.s rfl) rfl (.s rfl) hn10) (.cA (.fieldElemP (k := 5003) fd67_3 (.s rfl) rfl hn10) (.cN (.storeElemP (k := 5003) (t := 27) { gx p5_.2 p5_.1 with Bends := r3 } ty59 (.s rfl) rfl sv_DEdge_o3_3 rfl hn10 rfl (fun _ _ => rfl) rfl) (.nil (.blkNormal (Ends.j _ (some_eq h))))))))))))))))))))))
   ·
    subst hj7; have h := hK7; clear hK7
    exact .tellK (k := 5003) (C' := CPred.at s5003 (rowP 67 27 mk_DEdge_o3 DEdge.Bends r2.length (W (p5_.1 + 1)).toNat j_7)) rfl (fun M D v w h => by have h' : (rowP 67 27 mk_DEdge_o3 DEdge.Bends r2.length (p5_.1.toNat + 1) j_7).p M D s5003 w := h; exact rowP_succ hnP.1 (by simpa using hb6) h') (.rn mx (.adi rfl (.mv rfl (.nil (Ends.ag (some_eq h))))))
  ·
   refine .exit (.thenExit (.thenExit (.blkExit ?_)))
   replace h := hD5 _ (some_eq h)
   exact .tellK (k := 5003) (C' := CPred.at s5003 (rowD 67 27 mk_DEdge_o3 DEdge.Bends [] p5_.2)) rfl (fun M D v w h => by have h' : (rowP 67 27 mk_DEdge_o3 DEdge.Bends r2.length p5_.1.toNat p5_.2).p M D s5003 w := h; exact rowP_all (by have := of_decide_eq_false hb6; omega) h') (Ends.j _ (some_eq h))
 ·
  subst hj4; have h := hK4; clear hK4
  refine .sr [([5001], []), ([5002], [5002])] mx (.cA (.loadAt0 (k := 5001) .none tyv_Doc_o01 rfl (.s rfl)) (.cN (.storeAtH (g := 5002) tyv_Doc_o01 (by rfl) rfl (.s rfl) (.s rfl)) (.nil (.ret (.close (k := 5002) (g := 5003) (fun z => cont 25 (⟨⟨s5004⟩, ⟨z⟩⟩ : Doc_o01)) rfl rfl rfl (.close (k := 5002) (g := 5004) (fun z => deep (fun z0 => cont 25 (⟨⟨z⟩, ⟨z0⟩⟩ : Doc_o01)) (rowD 67 27 mk_DEdge_o3 DEdge.Bends [] j_4)) rfl rfl rfl ?_))))))
  obtain rfl := some_eq h
  exact Ends.ret1S (K := 5002) (.inl rfl) tyv_Doc_o01 Tryz.results100 rfl trivial rfl


theorem page_view_shift_ok {v1 : Page_view} {d1 : Doc} {marks1 : (List Bool)} {dx1 : Int} {dy1 : Int} {r : ((List DNode) × (List DEdge))} {s119 : Value} {s120 : Value} (h : page_view_shift v1 d1 marks1 dx1 dy1 = some r) : FSpecO Tryz.prog 179 [ref v1, rep (⟨⟨s119⟩, ⟨s120⟩⟩ : Doc_o01), rep marks1, rep dx1, rep dy1] [(s119, rowV 44 d1.Nodes), (s120, rowD 67 27 mk_DEdge_o3 DEdge.Bends [] d1.Edges)] (anyV) [some (rowV 44 r.1), some (rowD 67 27 mk_DEdge_o3 DEdge.Bends [] r.2)] := by
 unfold page_view_shift at h
 refine FSpecO.i Tryz.func179 rfl Tryz.ntmps179 rfl (fun F => (.sr [([], [6])] mx (.cW (.boxO rfl (.s rfl)) (.nil (.nameAt (t := 6) (g := 5001) rfl rfl isBox_cont rfl (fun m5001 => (.seq (.sr [oo, ([5001], []), ([119], []), oo] mx (.cA (.fieldPtr .none fd25_0 (.s rfl)) (.cA (.loadAt (k := 5001) .none tr22 rfl (.s rfl) hv_Doc_o01_0) (.cA (.lenO (k := 119) sl22 (.told (.s rfl) rfl)) (.cA (.move .none .i) (.nil ?_)))))))))))))
 obtain ⟨j_1, h, hK1⟩ := bind_some h
 refine .thenJ (ι := (List DNode)) (fun j_1 => []) (fun j_1 => [(119, some (CPred.at s119 (rowV 44 j_1)))]) (fun s => j_1 = s) (.k4 0 2 3 4 rfl rfl rfl rfl (.k 6 rfl .nil)) (.k2 120 5001 rfl rfl .nil) ?_ (fun j_1' hj1 => ?_)
 ·
  refine .block (.rforL h (fun p2_ => [(18, ⟨True, rep p2_.1⟩)]) (fun p2_ => [(119, some (CPred.at s119 (rowV 44 p2_.2)))]) (.k 18 rfl .nil) (.k 119 rfl .nil) (.k4 0 2 3 4 rfl rfl rfl rfl (.k2 6 17 rfl rfl .nil)) (.k2 120 5001 rfl rfl .nil) (fun p2_ o_2 h hD2 => (.sn mx (.lt rfl rfl (.nil (.seq (.cb rfl h (fun _ h => ?_) fun _ h => ?_)))))))
  ·
   refine .skip (.then (.seq ?_))
   obtain ⟨j_4, h, hK4⟩ := bind_some h
   unfold page_view_shift_L1 at h
   refine .thenJ (ι := (List DNode)) (fun j_4 => []) (fun j_4 => [(119, some (CPred.at s119 (rowV 44 j_4)))]) (fun s => j_4 = s) (.k4 0 2 3 4 rfl rfl rfl rfl (.k2 6 17 rfl rfl (.k 18 rfl .nil))) (.k2 120 5001 rfl rfl .nil) ?_ (fun j_4' hj4 => ?_)
   ·
    obtain ⟨hn5, h⟩ := need_some h
    obtain ⟨hn6, h⟩ := need_some h
    refine .block (.sn mx (.mv rfl (.asn rfl (.nil (.sr [oo, ([5001], []), oo, ([119], []), oo] mx (.cA (.fieldPtr .none fd25_0 (.s rfl)) (.cA (.loadAt (k := 5001) .none tr22 rfl (.s rfl) hv_Doc_o01_0) (.mvA rfl (.ixO 119 sl22 ty44 rfl rfl rfl hn5 (.asnA rfl (.nil (.sr [oo, oo, oo, oo, oo, oo, ([119], []), ([119], []), ([119], []), oo, oo] mx (.mvA rfl (.mvA rfl (.ixA sl112 ty4 rfl rfl hn6 (.ldA ty4 rfl (.mvA rfl (.cA (.move (.at rfl rfl) (.s rfl)) (.cA (.nilCheckE (k := 119) (.at rfl rfl) (.tmp rfl id) rfl (fun _ => hn5)) (.cA (.fieldElem (k := 119) (.at rfl rfl) fd44_1 (.tmp rfl id) rfl (fun _ => hn5)) (.cA (.loadElem (k := 119) (.at rfl rfl) ty3 (.tmp rfl id) rfl hfd44_1 (fun _ => hn5)) (.cA (.neI (.at rfl rfl) (.tmp rfl id) .i) (.cA (.pickAnd .none (.s rfl) (.tmp rfl id)) (.nil (.cb rfl h (fun _ h => ?_) fun _ h => ?_)))))))))))))))))))))))))
    ·
     obtain ⟨v2, hv8, h⟩ := bnd_some h
     obtain ⟨v3, hv9, h⟩ := bnd_some h
     obtain ⟨hn10, h⟩ := need_some h
     obtain ⟨hn11, h⟩ := need_some h
     obtain ⟨hn12, h⟩ := need_some h
     obtain ⟨hn13, h⟩ := need_some h
     exact .rg [oo, oo, oo, ([119], []), ([119], []), ([119], []), ([119], []), oo, oo, oo, ([119], []), ([119], []), ([119], []), ([119], []), oo, oo, ([119], []), ([119], []), ([119], []), ([119], [119]), ([119], []), ([119], []), ([119], []), ([119], [119])] mx (.mvA rfl (.mvA rfl (.mvA rfl (.cA (.nilCheckE (k := 119) .none (.s rfl) rfl (fun _ => hn5)) (.fe 119 fd44_2 rfl rfl hn5 (.fe 119 fd29_0 rfl rfl hn5 (.cA (.loadElem (k := 119) .none ty3 (.s rfl) rfl (HasField.comp (o2 := 0) hfd44_2 hfd29_0) (fun _ => hn5)) (.mvA rfl (.cA (.re hv8 (.addW .none (.s rfl) (.s rfl))) (.mvA rfl (.cA (.nilCheckE (k := 119) .none (.s rfl) rfl (fun _ => hn5)) (.fe 119 fd44_2 rfl rfl hn5 (.fe 119 fd29_1 rfl rfl hn5 (.cA (.loadElem (k := 119) .none ty3 (.s rfl) rfl (HasField.comp (o2 := 1) hfd44_2 hfd29_1) (fun _ => hn5)) (.mvA rfl (.cA (.re hv9 (.addW .none (.s rfl) (.s rfl))) (.cA (.nilCheckE (k := 119) .none (.s rfl) rfl (fun _ => hn5)) (.fe 119 fd44_2 rfl rfl hn5 (.fe 119 fd29_0 rfl rfl hn5 (.cN (.storeElem (k := 119) ty3 (.s rfl) rfl (SetField.comp (o2 := 0) hfd44_2 sf44_2 sf29_0) (.s rfl) hn5) (.cA (.nilCheckE (k := 119) .none (.s rfl) rfl (fun _ => hn10)) (.fe 119 fd44_2 rfl rfl hn11 (.fe 119 fd29_1 rfl rfl hn12 (.cN (.storeElem (k := 119) ty3 (.s rfl) rfl (SetField.comp (o2 := 1) hfd44_2 sf44_2 sf29_1) (.s rfl) hn13) (.nil (.blkNormal (Ends.j _ (some_eq h))))))))))))))))))))))))))))
    ·
     exact .skip (.blkNormal (Ends.j _ (some_eq h)))
   ·
    subst hj4; have h := hK4; clear hK4
    exact .rn mx (.adi rfl (.mv rfl (.nil (Ends.ag (some_eq h)))))
  ·
   refine .exit (.thenExit (.thenExit (.blkExit ?_)))
   replace h := hD2 _ (some_eq h)
   exact Ends.j _ (some_eq h)
 ·
  subst hj1; have h := hK1; clear hK1
  refine .sr [oo, ([5001], []), ([120], []), oo] mx (.cA (.fieldPtr .none fd25_1 (.s rfl)) (.cA (.loadAt (k := 5001) .none tr23 rfl (.s rfl) hv_Doc_o01_1) (.cA (.lenD (k := 120) sl23 (.s rfl) rfl) (.cA (.move .none .i) (.nil ?_)))))
  obtain ⟨j_14, h, hK14⟩ := bind_some h
  refine .tailJ (ι := (List DEdge)) (fun j_14 => []) (fun j_14 => [(120, some (CPred.at s120 (rowD 67 27 mk_DEdge_o3 DEdge.Bends [] j_14)))]) (fun s => j_14 = s) (.k 60 rfl .nil) (.k 119 rfl .nil) ?_ (fun j_14' hj14 => ?_)
  ·
   refine .block (.rforL h (fun p15_ => [(62, ⟨True, rep p15_.1⟩)]) (fun p15_ => [(120, some (CPred.at s120 (rowD 67 27 mk_DEdge_o3 DEdge.Bends [] p15_.2)))]) (.k 62 rfl .nil) (.k 120 rfl .nil) (.k4 0 2 3 4 rfl rfl rfl rfl (.k2 60 61 rfl rfl .nil)) (.k 119 rfl .nil) (fun p15_ o_15 h hD15 => (.sn mx (.lt rfl rfl (.nil (.seq (.cb rfl h (fun _ h => ?_) fun _ h => ?_)))))))
   ·
    refine .skip (.then (.seq ?_))
    obtain ⟨j_17, h, hK17⟩ := bind_some h
    unfold page_view_shift_L2 at h
    refine .thenJ (ι := (List DEdge)) (fun j_17 => []) (fun j_17 => [(120, some (CPred.at s120 (rowD 67 27 mk_DEdge_o3 DEdge.Bends [] j_17)))]) (fun s => j_17 = s) (.k4 0 2 3 4 rfl rfl rfl rfl (.k2 60 61 rfl rfl (.k 62 rfl .nil))) (.k 119 rfl .nil) ?_ (fun j_17' hj17 => ?_)
    ·
     obtain ⟨hn18, h⟩ := need_some h
     obtain ⟨hn19, h⟩ := need_some h
     obtain ⟨c1, hv20, h⟩ := bnd_some h
     obtain ⟨hn21, h⟩ := need_some h
     obtain ⟨hn22, h⟩ := need_some h
     refine .block (.seq (.openD (k := 120) (g := 5002) (i := p15_.1) rfl rfl hn18 noHole (fun s5002 => (.rg [([120], []), ([120], []), ([], [13]), ([13], [13])] mx (.cA (.indexAddrD (k := 120) sl23 tyv_DEdge_o3 (.s rfl) rfl (.s rfl) hn19) (.cA (.loadElemD (k := 120) (proj := fun x => x) (y := (⟨(gx p15_.2 p15_.1).Id, (gx p15_.2 p15_.1).From, (gx p15_.2 p15_.1).To, ⟨s5002⟩, (gx p15_.2 p15_.1).Text, (gx p15_.2 p15_.1).Class⟩ : DEdge_o3)) (z := s5002) tyv_DEdge_o3 (.s rfl) rfl .id hn19 (by simp) rfl) (.al zo67 rfl (.cN (.storeH tyv_DEdge_o3 rfl (by rfl) rfl (.s rfl)) (.nil (.then (.reB (t := 5002) rfl (congrArg (fun y => CPred.at s5002 (rowV 27 y)) hv20) (.nameAt (t := 13) (g := 5003) rfl rfl isBox_cont rfl (fun m5003 => (.sr [oo, oo, oo, oo, oo, oo, oo, ([5003], []), oo, oo, oo, oo, oo, oo, oo, oo, oo, oo, oo, ([5003], []), oo, oo, oo, oo] mx (.mvA rfl (.mvA rfl (.cA (.nilCheckR .none (.s rfl)) (.faA fd148_1 hfd148_1 rfl (.ldA ty145 rfl (.cA (.fieldPtr .none fd67_1 (.s rfl)) (.cA (.fieldPtr .none fd65_0 (.s rfl)) (.cA (.loadAt (k := 5003) .none ty9 rfl (.s rfl) (HasField.comp (o2 := 0) hv_DEdge_o3_1 hfd65_0)) (.cA (.lookup .none mo145 zo3 (.s rfl) (.s rfl)) (.ixA sl112 ty4 rfl rfl hn21 (.ldA ty4 rfl (.mvA rfl (.cA (.move (.at rfl rfl) (.s rfl)) (.cA (.move (.at rfl rfl) (.s rfl)) (.cA (.nilCheckR (.at rfl rfl) (.tmp rfl id)) (.cA (.fieldAddr (.at rfl rfl) fd148_1 hfd148_1 (.tmp rfl id)) (.cA (.load (.at rfl rfl) ty145 (.tmp rfl id)) (.cA (.fieldPtr (.at rfl rfl) fd67_2 (.s rfl)) (.cA (.fieldPtr (.at rfl rfl) fd65_0 (.tmp rfl id)) (.cA (.loadAt (k := 5003) (.at rfl rfl) ty9 rfl (.tmp rfl id) (HasField.comp (o2 := 0) hv_DEdge_o3_2 hfd65_0)) (.cA (.lookup (.at rfl rfl) mo145 zo3 (.tmp rfl id) (.tmp rfl id)) (.cA (.indexAddr (.at rfl rfl) sl112 ty4 (.tmp rfl id) (.tmp rfl id) (fun hg => hn22 hg.2)) ?_))))))))))))))))))))))))))))))))))))
     refine .cA (.load (.at rfl rfl) ty4 (.tmp rfl id)) (.cA (.pickAnd .none (.s rfl) (.tmp rfl id)) (.nil (.cb rfl h (fun _ h => ?_) fun _ h => ?_)))
     ·
      refine .sr [oo, ([5003], []), ([5002], []), oo] mx (.cA (.fieldPtr .none fd67_3 (.s rfl)) (.cA (.loadAt (k := 5003) .none tr59 rfl (.s rfl) hv_DEdge_o3_3) (.cA (.lenO (k := 5002) sl59 (.told (.s rfl) rfl)) (.cA (.move .none .i) (.nil ?_)))))
      obtain ⟨j_24, h, hK24⟩ := bind_some h
      refine .tailJ (ι := (List Point)) (fun j_24 => []) (fun j_24 => [(5002, some (CPred.at s5002 (rowV 27 j_24)))]) (fun s => j_24 = s) (.k4 0 2 3 4 rfl rfl rfl rfl (.k4 13 60 61 62 rfl rfl rfl rfl .nil)) (.k2 119 120 rfl rfl (.k 5003 rfl .nil)) ?_ (fun j_24' hj24 => ?_)
      ·
       refine .block (.rforL h (fun p25_ => [(93, ⟨True, rep p25_.1⟩)]) (fun p25_ => [(5002, some (CPred.at s5002 (rowV 27 p25_.2)))]) (.k 93 rfl .nil) (.k 5002 rfl .nil) (.k4 0 2 3 4 rfl rfl rfl rfl (.k4 13 60 61 62 rfl rfl rfl rfl (.k 92 rfl .nil))) (.k2 119 120 rfl rfl (.k 5003 rfl .nil)) (fun p25_ o_25 h hD25 => (.sn mx (.lt rfl rfl (.nil (.seq (.cb rfl h (fun _ h => ?_) fun _ h => ?_)))))))
       ·
        refine .skip (.then (.seq ?_))
        obtain ⟨j_27, h, hK27⟩ := bind_some h
        unfold page_view_shift_L3 at h
        refine .thenJ (ι := (List Point)) (fun j_27 => []) (fun j_27 => [(5002, some (CPred.at s5002 (rowV 27 j_27)))]) (fun s => j_27 = s) (.k4 0 2 3 4 rfl rfl rfl rfl (.k4 13 60 61 62 rfl rfl rfl rfl (.k2 92 93 rfl rfl .nil))) (.k2 119 120 rfl rfl (.k 5003 rfl .nil)) ?_ (fun j_27' hj27 => ?_)
        ·
         obtain ⟨hn28, h⟩ := need_some h
         obtain ⟨hn29, h⟩ := need_some h
         obtain ⟨v4, hv30, h⟩ := bnd_some h
         obtain ⟨hn31, h⟩ := need_some h
         exact .block (.sn mx (.mv rfl (.asn rfl (.nil (.rg [oo, ([5003], []), oo, oo, ([5003], []), oo, ([5002], []), ([5002], []), ([5002], []), oo, oo, oo, ([5003], []), oo, ([5002], []), ([5002], []), ([5002], []), oo, oo, oo, ([5002], []), ([5002], [5002])] mx (.cA (.fieldPtr .none fd67_3 (.s rfl)) (.cA (.loadAt (k := 5003) .none tr59 rfl (.s rfl) hv_DEdge_o3_3) (.mvA rfl (.cA (.fieldPtr .none fd67_3 (.s rfl)) (.cA (.loadAt (k := 5003) .none tr59 rfl (.s rfl) hv_DEdge_o3_3) (.mvA rfl (.ixO 5002 sl59 ty27 rfl rfl rfl hn28 (.fe 5002 fd27_0 rfl rfl hn28 (.cA (.loadElem (k := 5002) .none ty3 (.s rfl) rfl hfd27_0 (fun _ => hn28)) (.mvA rfl (.addA rfl rfl (.cA (.fieldPtr .none fd67_3 (.s rfl)) (.cA (.loadAt (k := 5003) .none tr59 rfl (.s rfl) hv_DEdge_o3_3) (.mvA rfl (.ixO 5002 sl59 ty27 rfl rfl rfl hn29 (.fe 5002 fd27_1 rfl rfl hn29 (.cA (.loadElem (k := 5002) .none ty3 (.s rfl) rfl hfd27_1 (fun _ => hn29)) (.mvA rfl (.addA rfl rfl (.cA (.re hv30 (.buildF (y := (⟨W (((gx p25_.2 p25_.1).X) + dx1), W (((gx p25_.2 p25_.1).Y) + dy1)⟩ : Point)) .none bu27 zc27 rfl (.cons (.s rfl) (.cons (.s rfl) .nil)) (.cons rfl sf27_0 (.cons rfl sf27_1 .nil)))) (.ixO 5002 sl59 ty27 rfl rfl rfl hn31 (.cN (.storeElem0 (k := 5002) ty27 (.s rfl) rfl (.s rfl) hn31) (.nil (.blkNormal (Ends.j _ (some_eq h)))))))))))))))))))))))))))))))
        ·
         subst hj27; have h := hK27; clear hK27
         exact .rn mx (.adi rfl (.mv rfl (.nil (Ends.ag (some_eq h)))))
       ·
        refine .exit (.thenExit (.thenExit (.blkExit ?_)))
        replace h := hD25 _ (some_eq h)
        exact Ends.j _ (some_eq h)
      ·
       subst hj24; have h := hK24; clear hK24
       exact .blkNormal (.closeD (k := 120) (g := 5002) ({ gx p15_.2 p15_.1 with Bends := j_24 }) rfl rfl rfl hn18 noHole (fun _ => rfl) rfl (Ends.j _ (some_eq h)))
     ·
      exact .skip (.blkNormal (.closeD (k := 120) (g := 5002) ({ gx p15_.2 p15_.1 with Bends := c1 }) rfl rfl rfl hn18 noHole (fun _ => rfl) rfl (Ends.j _ (some_eq h))))
    ·
     subst hj17; have h := hK17; clear hK17
     exact .rn mx (.adi rfl (.mv rfl (.nil (Ends.ag (some_eq h)))))
   ·
    refine .exit (.thenExit (.thenExit (.blkExit ?_)))
    replace h := hD15 _ (some_eq h)
    exact Ends.j _ (some_eq h)
  ·
   subst hj14; have h := hK14; clear hK14
   obtain rfl := some_eq h
   exact Ends.ret0O (.inr rfl) [119, 120] Tryz.results179 (by decide) (.held rfl (.held rfl .nil))

theorem page_view_moved_ok {v1 : Page_view} {steps1 : (List Page_step)} {r : (Doc × Int)}  (h : page_view_moved v1 steps1 = some r) : FSpec Tryz.prog 124 [ref v1, rep steps1] (tup [rep r.1, rep r.2]) := by
 unfold page_view_moved at h
 obtain ⟨v2, hv1, h⟩ := bnd_some h
 refine FSpec.i Tryz.func124 rfl Tryz.ntmps124 rfl (fun F => (.sr [([], [4]), oo] mx (.al zo25 rfl (.cA (.assign .none .i) (.nil (.reB (t := 4) rfl (congrArg (cont 25) hv1) (.nameBox (t := 4) (g := 5001) rfl rfl (fun m5001 => (.seq (.sn mx (.mv rfl (.ln sl160 rfl (.mvi (.nil ?_))))))))))))))
 obtain ⟨o_2, h, hK2⟩ := bindR_some h
 refine .tJ (fun s => o_2 = Res.nx s) (.k2 0 1 rfl rfl (.k 4 rfl .nil)) (.k 5001 rfl .nil) ?_ (fun j_2 hj2 => ?_)
 ·
  refine .block (.rforEL h (fun p3_ => [(19, ⟨True, rep p3_.1⟩)]) (fun p3_ => []) (.k 19 rfl .nil) SubB.nil (.k4 0 1 4 17 rfl rfl rfl rfl (.k 18 rfl .nil)) (.k 5001 rfl .nil) (fun p3_ o_3 h hD3 => (.sn mx (.lt rfl rfl (.nil (.seq (.cb rfl h (fun _ h => ?_) fun _ h => ?_)))))))
  ·
   refine .skip (.then (.seq ?_))
   obtain ⟨o_5, h, hK5⟩ := bindD_some h
   unfold page_view_moved_L1 at h
   refine .tJ (fun s => o_5 = Res.nx s) (.k4 0 1 4 17 rfl rfl rfl rfl (.k2 18 19 rfl rfl .nil)) (.k 5001 rfl .nil) ?_ (fun j_5 hj5 => ?_)
   ·
    obtain ⟨hn6, h⟩ := need_some h
    obtain ⟨v3, hv7, h⟩ := bnd_some h
    refine .block (.sr [oo, oo, ([], [7]), ([7], [7])] mx (.ixA sl160 ty159 rfl rfl hn6 (.rlA hv7 ty159 rfl (.al zo159 rfl (.st ty159 rfl rfl rfl (.nil (.freeze (t := 7) rfl rfl (.k 5001 rfl .nil) rfl (.seq (.sn mx (.fa fd159_1 hfd159_1 rfl (.ld ty3 rfl (.eqi rfl (.mv rfl (.fg fd159_2 hfd159_2 rfl rfl rfl (.lg ty3 rfl rfl rfl (.c (.eqI (.at rfl rfl) (.tmp rfl id) .i) (.pa rfl rfl (.nil (.cb rfl h (fun _ h => ?_) fun _ h => ?_)))))))))))))))))))
    ·
     exact .exit (.thenExit (.blkExit (Ends.j _ (some_eq h))))
    ·
     obtain ⟨marks1, hv9, h⟩ := bind_some h
     refine .skip (.then (.sn mx (.mv rfl (.ld ty159 rfl (.c (.call .none (page_view_marks_ok hv9) (.cons (.s rfl) (.cons (.s rfl) .nil))) (.asn rfl (.nil (.sn mx (.mv rfl (.c (.nilCheckR .none (.s rfl)) (.fa fd148_0 hfd148_0 rfl (.fa fd25_0 hfd25_0 rfl (.ld ty22 rfl (.ln sl22 rfl (.mvi (.nil (.block (.rforEL h (fun p10_ => [(40, ⟨True, rep p10_.1⟩)]) (fun p10_ => []) (.k 40 rfl .nil) SubB.nil (.k4 0 1 4 8 rfl rfl rfl rfl (.k4 17 18 19 38 rfl rfl rfl rfl (.k 39 rfl .nil))) (.k 5001 rfl .nil) (fun p10_ o_10 h hD10 => (.sn mx (.lt rfl rfl (.nil (.seq (.cb rfl h (fun _ h => ?_) fun _ h => ?_))))))))))))))))))))))))
     ·
      refine .skip (.then (.seq ?_))
      obtain ⟨o_12, h, hK12⟩ := bindD_some h
      unfold page_view_moved_L2 at h
      refine .tJ (fun s => o_12 = Res.nx s) (.k4 0 1 4 8 rfl rfl rfl rfl (.k4 17 18 19 38 rfl rfl rfl rfl (.k2 39 40 rfl rfl .nil))) (.k 5001 rfl .nil) ?_ (fun j_12 hj12 => ?_)
      ·
       obtain ⟨hn13, h⟩ := need_some h
       obtain ⟨v4, hv14, h⟩ := bnd_some h
       obtain ⟨hn15, h⟩ := need_some h
       refine .block (.sr [oo, oo, oo, ([], [10]), oo, ([10], [10])] mx (.mvA rfl (.ixA sl22 ty44 rfl rfl hn13 (.rlA hv14 ty44 rfl (.al zo44 rfl (.asnA rfl (.st ty44 rfl rfl rfl (.nil (.freeze (t := 10) rfl rfl (.k 5001 rfl .nil) rfl (.sn mx (.mv rfl (.mv rfl (.ix sl112 ty4 rfl rfl hn15 (.ld ty4 rfl (.mv rfl (.fg fd44_6 hfd44_6 rfl rfl rfl (.lg ty4 rfl rfl rfl (.pa rfl rfl (.nil (.cb rfl h (fun _ h => ?_) fun _ h => ?_))))))))))))))))))))
       ·
        obtain ⟨v5, hv17, h⟩ := bnd_some h
        refine .sr [oo, ([5001], [5001]), oo] mx (.cA (.re hv17 (.buildF (y := (⟨([] : (List DNode)), ([] : (List DEdge))⟩ : Doc)) .none bu25 zc25 rfl .nil .nil)) (.s0 5001 ty25 rfl rfl rfl (.cA (.assign .none .i) (.nil (.fb 5001 [4] rfl (.cons (t := 4) rfl trivial .nil) (.ret (.blkRet (.thenRet (.thenRet (.blkRet (.blkRet (.thenRet (.thenRet (.blkRet (.thenRet ?_)))))))))))))))
        replace h := resd_ab hK12 (some_eq h)
        replace h := hD10 _ (some_eq h)
        replace h := resd_ab hK5 (some_eq h)
        replace h := hD3 _ (some_eq h)
        replace h := resb_ab hK2 (some_eq h)
        obtain rfl := some_eq h
        exact Ends.r2 Tryz.results124 ty25 rfl rfl
       ·
        exact .skip (.blkNormal (Ends.j _ (some_eq h)))
      ·
       have h := resd_nx hK12 hj12
       exact .rn mx (.adi rfl (.mv rfl (.nil (Ends.ag (some_eq h)))))
     ·
      refine .exit (.thenExit (.thenExit (.blkExit (.blkNormal ?_))))
      replace h := hD10 _ (some_eq h)
      exact Ends.j _ (some_eq h)
   ·
    have h := resd_nx hK5 hj5
    exact .rn mx (.adi rfl (.mv rfl (.nil (Ends.ag (some_eq h)))))
  ·
   refine .exit (.thenExit (.thenExit (.blkExit ?_)))
   replace h := hD3 _ (some_eq h)
   exact Ends.j _ (some_eq h)
 ·
  have h := resb_nx hK2 hj2
  refine .seq (.sn mx (.mv rfl (.ln sl160 rfl (.mvi (.nil ?_)))))
  obtain ⟨o_18, h, hK18⟩ := bindR_some h
  refine .tJ (fun s => o_18 = Res.nx s) (.k2 0 1 rfl rfl (.k 4 rfl .nil)) (.k 5001 rfl .nil) ?_ (fun j_18 hj18 => ?_)
  ·
   refine .block (.rforEL h (fun p19_ => [(58, ⟨True, rep p19_.1⟩)]) (fun p19_ => []) (.k 58 rfl .nil) SubB.nil (.k4 0 1 4 56 rfl rfl rfl rfl (.k 57 rfl .nil)) (.k 5001 rfl .nil) (fun p19_ o_19 h hD19 => (.sn mx (.lt rfl rfl (.nil (.seq (.cb rfl h (fun _ h => ?_) fun _ h => ?_)))))))
   ·
    refine .skip (.then (.seq ?_))
    obtain ⟨o_21, h, hK21⟩ := bindD_some h
    unfold page_view_moved_L3 at h
    refine .tJ (fun s => o_21 = Res.nx s) (.k4 0 1 4 56 rfl rfl rfl rfl (.k2 57 58 rfl rfl .nil)) (.k 5001 rfl .nil) ?_ (fun j_21 hj21 => ?_)
    ·
     obtain ⟨hn22, h⟩ := need_some h
     obtain ⟨v6, hv23, h⟩ := bnd_some h
     obtain ⟨r1, hv24, h⟩ := bind_some h
     obtain ⟨r2, hv25, h⟩ := bind_some h
     refine .block (.sr [oo, oo, ([], [12]), ([12], [12])] mx (.ixA sl160 ty159 rfl rfl hn22 (.rlA hv23 ty159 rfl (.al zo159 rfl (.st ty159 rfl rfl rfl (.nil (.freeze (t := 12) rfl rfl (.k 5001 rfl .nil) rfl (.sn mx (.fa fd159_1 hfd159_1 rfl (.ld ty3 rfl (.c (.call .none (page_far_ok hv24) (.cons (.s rfl) .nil)) (.mv rfl (.fg fd159_2 hfd159_2 rfl rfl rfl (.lg ty3 rfl rfl rfl (.c (.callIf (.at rfl rfl) fnok110 (fun hg => page_far_ok ((fun hg => gd_some hv25 ((notT hg.2))) hg)) (.cons (.tmp rfl id) .nil) (fun h => h)) (.po rfl rfl (.nil (.cb rfl h (fun _ h => ?_) fun _ h => ?_))))))))))))))))))
     ·
      obtain ⟨v7, hv27, h⟩ := bnd_some h
      refine .sr [oo, ([5001], [5001]), oo] mx (.cA (.re hv27 (.buildF (y := (⟨([] : (List DNode)), ([] : (List DEdge))⟩ : Doc)) .none bu25 zc25 rfl .nil .nil)) (.s0 5001 ty25 rfl rfl rfl (.cA (.assign .none .i) (.nil (.fb 5001 [4] rfl (.cons (t := 4) rfl trivial .nil) (.ret (.blkRet (.thenRet (.thenRet (.blkRet (.thenRet ?_)))))))))))
      replace h := resd_ab hK21 (some_eq h)
      replace h := hD19 _ (some_eq h)
      replace h := resb_ab hK18 (some_eq h)
      obtain rfl := some_eq h
      exact Ends.r2 Tryz.results124 ty25 rfl rfl
     ·
      exact .skip (.blkNormal (Ends.j _ (some_eq h)))
    ·
     have h := resd_nx hK21 hj21
     exact .rn mx (.adi rfl (.mv rfl (.nil (Ends.ag (some_eq h)))))
   ·
    refine .exit (.thenExit (.thenExit (.blkExit ?_)))
    replace h := hD19 _ (some_eq h)
    exact Ends.j _ (some_eq h)
  ·
   have h := resb_nx hK18 hj18
   obtain ⟨r3, hv28, h⟩ := bind_some h
   refine .sr [oo, oo, oo, oo, ([], [76]), ([], [13]), ([13, 76], [13, 76])] mx (.mvA rfl (.cA (.nilCheckR .none (.s rfl)) (.faA fd148_0 hfd148_0 rfl (.ldA ty25 rfl (.cW (.cO [] (page_cloned_deep_ok hv28) (.cons (.s rfl) .nil) .nil rfl) (.al zo25 rfl (.cN (.storeG2 (t := 76) (k := 13) (mk := (fun z1 z2 => (⟨⟨z1⟩, ⟨z2⟩⟩ : Doc_o01))) ty25 rfl rfl (by rfl) rfl rfl rfl rfl) (.nil (.nameAt (t := 13) (g := 5002) rfl rfl (isBox_deep fun _ => (isBox_deep fun _ => isBox_cont)) rfl (fun m5002 => (.open (k := 5002) (g := 5003) rfl rfl (fun s5003 => (.open (k := 5002) (g := 5004) rfl rfl (fun s5004 => (.seq (.sn mx (.mv rfl (.ln sl160 rfl (.mvi (.nil ?_))))))))))))))))))))
   obtain ⟨j_29, h, hK29⟩ := bind_some h
   refine .thenJ (ι := ((List DNode) × (List DEdge))) (fun j_29 => []) (fun j_29 => [(5003, some (CPred.at s5003 (rowV 44 j_29.1))), (5004, some (CPred.at s5004 (rowD 67 27 mk_DEdge_o3 DEdge.Bends [] j_29.2)))]) (fun s => j_29 = s) (.k2 4 13 rfl rfl .nil) (.k2 5001 5002 rfl rfl .nil) ?_ (fun j_29' hj29 => ?_)
   ·
    refine .block (.rforL h (fun p30_ => [(79, ⟨True, rep p30_.1⟩)]) (fun p30_ => [(5003, some (CPred.at s5003 (rowV 44 p30_.2.1))), (5004, some (CPred.at s5004 (rowD 67 27 mk_DEdge_o3 DEdge.Bends [] p30_.2.2)))]) (.k 79 rfl .nil) (.k2 5003 5004 rfl rfl .nil) (.k4 0 4 13 77 rfl rfl rfl rfl (.k 78 rfl .nil)) (.k2 5001 5002 rfl rfl .nil) (fun p30_ o_30 h hD30 => (.sn mx (.lt rfl rfl (.nil (.seq (.cb rfl h (fun _ h => ?_) fun _ h => ?_)))))))
    ·
     refine .skip (.then (.seq ?_))
     obtain ⟨j_32, h, hK32⟩ := bind_some h
     unfold page_view_moved_L4 at h
     refine .thenJ (ι := ((List DNode) × (List DEdge))) (fun j_32 => []) (fun j_32 => [(5003, some (CPred.at s5003 (rowV 44 j_32.1))), (5004, some (CPred.at s5004 (rowD 67 27 mk_DEdge_o3 DEdge.Bends [] j_32.2)))]) (fun s => j_32 = s) (.k4 0 4 13 77 rfl rfl rfl rfl (.k2 78 79 rfl rfl .nil)) (.k2 5001 5002 rfl rfl .nil) ?_ (fun j_32' hj32 => ?_)
     ·
      obtain ⟨hn33, h⟩ := need_some h
      obtain ⟨v8, hv34, h⟩ := bnd_some h
      obtain ⟨r4, hv35, h⟩ := bind_some h
      obtain ⟨r5, hv36, h⟩ := bind_some h
      exact .block (.sr [oo, oo, ([], [15]), ([15], [15])] mx (.ixA sl160 ty159 rfl rfl hn33 (.rlA hv34 ty159 rfl (.al zo159 rfl (.st ty159 rfl rfl rfl (.nil (.freeze (t := 15) rfl rfl (.k2 5001 5002 rfl rfl (.k2 5003 5004 rfl rfl .nil)) rfl (.rg [oo, ([5002], []), oo, oo, oo, oo, oo, oo, oo, ([5003, 5004], [5003, 5004])] mx (.mvA rfl (.cA (.loadAt0 (k := 5002) .none tyv_Doc_o01 rfl (.s rfl)) (.mvA rfl (.ldA ty159 rfl (.cA (.call .none (page_view_marks_ok hv35) (.cons (.s rfl) (.cons (.s rfl) .nil))) (.faA fd159_1 hfd159_1 rfl (.ldA ty3 rfl (.faA fd159_2 hfd159_2 rfl (.ldA ty3 rfl (.cW (.cO [5003, 5004] (page_view_shift_ok hv36) (.cons (.s rfl) (.cons (.s rfl) (.cons (.s rfl) (.cons (.s rfl) (.cons (.s rfl) .nil))))) (.cons (k := 5003) rfl (.cons (k := 5004) rfl .nil)) rfl) (.nil (.blkNormal (Ends.j _ (some_eq h))))))))))))))))))))))
     ·
      subst hj32; have h := hK32; clear hK32
      exact .rn mx (.adi rfl (.mv rfl (.nil (Ends.ag (some_eq h)))))
    ·
     refine .exit (.thenExit (.thenExit (.blkExit ?_)))
     replace h := hD30 _ (some_eq h)
     exact Ends.j _ (some_eq h)
   ·
    subst hj29; have h := hK29; clear hK29
    refine .close (k := 5002) (g := 5004) (fun z => cont 25 (⟨⟨s5003⟩, ⟨z⟩⟩ : Doc_o01)) rfl rfl rfl (.close (k := 5002) (g := 5003) (fun z => deep (fun z0 => cont 25 (⟨⟨z⟩, ⟨z0⟩⟩ : Doc_o01)) (rowD 67 27 mk_DEdge_o3 DEdge.Bends [] j_29.2)) rfl rfl rfl (.freezeAt (g := 5002) (S := ref ({ r3 with Nodes := j_29.1, Edges := j_29.2 } : Doc)) (ts := [13]) rfl (.cons (t := 13) rfl trivial .nil) (.k 5001 rfl .nil) rfl (fun M D w h hms => deep_ref2 (mk := (fun s1_ s2_ => (⟨⟨s1_⟩, ⟨s2_⟩⟩ : Doc_o01))) (y := ({ r3 with Nodes := j_29.1, Edges := j_29.2 } : Doc)) frzRow frz_mk_DEdge_o3 rfl (fun M s1_ s2_ cs w hc g1 g2 => by obtain ⟨c0, q0, e0, h0, h1⟩ := hc; exact ⟨c0, q0, e0, raw_cells rfl rfl h0 g1, raw_cells rfl rfl h1 g2⟩) M D w h hms) ?_))
    obtain ⟨e1, hv37, h⟩ := bind_some h
    refine .seq (.sn mx (.ld ty25 rfl (.c (.call .none (page_Check_ok hv37) (.cons (.s rfl) .nil)) (.asn rfl (.nil (.sn mx (.mv rfl (.nei rfl (.nil (.cb rfl h (fun _ h => ?_) fun _ h => ?_))))))))))
    ·
     obtain ⟨v9, hv39, h⟩ := bnd_some h
     refine .sr [oo, oo, ([5001], [5001]), oo] mx (.cA (.re hv39 (.buildF (y := (⟨([] : (List DNode)), ([] : (List DEdge))⟩ : Doc)) .none bu25 zc25 rfl .nil .nil)) (.mvA rfl (.s0 5001 ty25 rfl rfl rfl (.asnA rfl (.nil (.fb 5001 [4] rfl (.cons (t := 4) rfl trivial .nil) (.ret (.thenRet ?_))))))))
     obtain rfl := some_eq h
     exact Ends.r2 Tryz.results124 ty25 rfl rfl
    ·
     obtain ⟨v10, hv40, h⟩ := bnd_some h
     refine .skip (.then (.sr [oo, ([5001], [5001]), oo] mx (.rlA hv40 ty25 rfl (.s0 5001 ty25 rfl rfl rfl (.cA (.assign .none .i) (.nil (.fb 5001 [4] rfl (.cons (t := 4) rfl trivial .nil) (.ret ?_))))))))
     obtain rfl := some_eq h
     exact Ends.r2 Tryz.results124 ty25 rfl rfl

theorem page_Move_ok {d1 : Doc} {ids1 : (List Str)} {dx1 : Int} {dy1 : Int} {r : (Doc × Int)}  (h : page_Move d1 ids1 dx1 dy1 = some r) : FSpec Tryz.prog 51 [rep d1, rep ids1, rep dx1, rep dy1] (tup [rep r.1, rep r.2]) := by
 unfold page_Move at h
 obtain ⟨v1, hv1, h⟩ := bnd_some h
 obtain ⟨r1, hv2, h⟩ := bind_some h
 refine FSpec.i Tryz.func51 rfl Tryz.ntmps51 rfl (fun F => (.sr [oo, ([], [8]), oo] mx (.cA (.box .none (.s rfl)) (.al zo25 rfl (.cA (.assign .none .i) (.nil (.reB (t := 8) rfl (congrArg (cont 25) hv1) (.nameBox (t := 8) (g := 5001) rfl rfl (fun m5001 => (.sn mx (.ld ty25 rfl (.mv rfl (.c (.call .none (page_selected_ok hv2) (.cons (.s rfl) (.cons (.s rfl) .nil))) (.mv rfl (.ex rfl rfl (.ex rfl rfl (.ex rfl rfl (.asn rfl (.asn rfl (.asn rfl (.nil (.seq (.sn mx (.mv rfl (.nei rfl (.nil (.cb rfl h (fun _ h => ?_) fun _ h => ?_)))))))))))))))))))))))))))
 ·
  obtain ⟨v2, hv4, h⟩ := bnd_some h
  refine .sr [oo, oo, ([5001], [5001]), oo] mx (.cA (.re hv4 (.buildF (y := (⟨([] : (List DNode)), ([] : (List DEdge))⟩ : Doc)) .none bu25 zc25 rfl .nil .nil)) (.mvA rfl (.s0 5001 ty25 rfl rfl rfl (.asnA rfl (.nil (.fb 5001 [8] rfl (.cons (t := 8) rfl trivial .nil) (.ret (.thenRet ?_))))))))
  obtain rfl := some_eq h
  exact Ends.r2 Tryz.results51 ty25 rfl rfl
 ·
  obtain ⟨v3, hv5, h⟩ := bind_some h
  obtain ⟨r2, hv6, h⟩ := bind_some h
  refine .skip (.then (.seq (.isRef (t := 10) hv5 rfl trivial (.rg [oo, oo, oo, oo, oo, oo, oo, oo, oo, ([5001], [5001]), oo] mx (.mvA rfl (.mvA rfl (.mvA rfl (.mvA rfl (.cA (.buildF (y := (⟨r1.2.1, dx1, dy1⟩ : Page_step)) .none bu159 zc159 rfl (.cons (.s rfl) (.cons (.s rfl) (.cons (.s rfl) .nil))) (.cons rfl sf159_0 (.cons rfl sf159_1 (.cons rfl sf159_2 .nil)))) (.cA (.buildSlice (xs := [_]) .none sl160 ty159 hz159 (.cons (.s rfl) .nil) rfl (by decide)) (.cA (.call .none (page_view_moved_ok hv6) (.cons (.s rfl) (.cons (.s rfl) .nil))) (.exA rfl rfl (.exA rfl rfl (.s0 5001 ty25 rfl rfl rfl (.asnA rfl (.nil (.then (.fb 5001 [8] rfl (.cons (t := 8) rfl trivial .nil) (.ret ?_)))))))))))))))))))
  obtain rfl := some_eq h
  exact Ends.r2 Tryz.results51 ty25 rfl rfl

theorem slices_Equal_Node_ok {s1_1 : (List DNode)} {s2_1 : (List DNode)} {r : Bool}  (h : slices_Equal_Node s1_1 s2_1 = some r) : FSpec Tryz.prog 138 [rep s1_1, rep s2_1] (rep r) := by
 unfold slices_Equal_Node at h
 refine FSpec.i Tryz.func138 rfl Tryz.ntmps138 rfl (fun F => (.sn mx (.asb (.nil (.seq (.sn mx (.mv rfl (.ln sl22 rfl (.mv rfl (.ln sl22 rfl (.c (.neI .none (.s rfl) (.s rfl)) (.nil (.cb rfl h (fun _ h => ?_) fun _ h => ?_)))))))))))))
 ·
  refine .sn mx (.asb (.nil (.ret (.thenRet ?_))))
  obtain rfl := some_eq h
  exact Ends.rt Tryz.results138 rfl
 ·
  refine .skip (.then (.seq (.sn mx (.mv rfl (.ln sl22 rfl (.mvi (.nil ?_)))))))
  obtain ⟨o_2, h, hK2⟩ := bindR_some h
  refine .tJ (fun s => o_2 = Res.nx s) Sub.nil SubB.nil ?_ (fun j_2 hj2 => ?_)
  ·
   refine .block (.rforEL h (fun p3_ => [(13, ⟨True, rep p3_.1⟩)]) (fun p3_ => []) (.k 13 rfl .nil) SubB.nil (.k2 0 1 rfl rfl (.k 12 rfl .nil)) SubB.nil (fun p3_ o_3 h hD3 => (.sn mx (.lt rfl rfl (.nil (.seq (.cb rfl h (fun _ h => ?_) fun _ h => ?_)))))))
   ·
    refine .skip (.then (.seq ?_))
    obtain ⟨o_5, h, hK5⟩ := bindD_some h
    unfold slices_Equal_Node_L1 at h
    refine .tJ (fun s => o_5 = Res.nx s) (.k4 0 1 12 13 rfl rfl rfl rfl .nil) SubB.nil ?_ (fun j_5 hj5 => ?_)
    ·
     obtain ⟨hn6, h⟩ := need_some h
     obtain ⟨hn7, h⟩ := need_some h
     refine .block (.sn mx (.mv rfl (.asn rfl (.nil (.sn mx (.mv rfl (.mv rfl (.ix sl22 ty44 rfl rfl hn6 (.ld ty44 rfl (.mv rfl (.mv rfl (.ix sl22 ty44 rfl rfl hn7 (.ld ty44 rfl (.c (.neS .none eqa44 (.s rfl) (.s rfl)) (.nil (.cb rfl h (fun _ h => ?_) fun _ h => ?_))))))))))))))))
     ·
      refine .sn mx (.asb (.nil (.ret (.blkRet (.thenRet (.thenRet (.blkRet (.thenRet ?_))))))))
      replace h := resd_ab hK5 (some_eq h)
      replace h := hD3 _ (some_eq h)
      replace h := resb_ab hK2 (some_eq h)
      obtain rfl := some_eq h
      exact Ends.rt Tryz.results138 rfl
     ·
      exact .skip (.blkNormal (Ends.j _ (some_eq h)))
    ·
     have h := resd_nx hK5 hj5
     exact .rn mx (.adi rfl (.mv rfl (.nil (Ends.ag (some_eq h)))))
   ·
    refine .exit (.thenExit (.thenExit (.blkExit ?_)))
    replace h := hD3 _ (some_eq h)
    exact Ends.j _ (some_eq h)
  ·
   have h := resb_nx hK2 hj2
   refine .sn mx (.asb (.nil (.ret ?_)))
   obtain rfl := some_eq h
   exact Ends.rt Tryz.results138 rfl

theorem slices_EqualFunc_Edge_ok {s1_1 : (List DEdge)} {s2_1 : (List DEdge)} {eq1 : (DEdge → DEdge → Option Bool)} {r : Bool}  (h : slices_EqualFunc_Edge s1_1 s2_1 eq1 = some r) : FSpec Tryz.prog 139 [rep s1_1, rep s2_1, fn2 Tryz.prog (rep (α := Bool)) eq1] (rep r) := by
 unfold slices_EqualFunc_Edge at h
 refine FSpec.i Tryz.func139 rfl Tryz.ntmps139 rfl (fun F => (.sn mx (.asb (.nil (.seq (.sn mx (.mv rfl (.ln sl23 rfl (.mv rfl (.ln sl23 rfl (.c (.neI .none (.s rfl) (.s rfl)) (.nil (.cb rfl h (fun _ h => ?_) fun _ h => ?_)))))))))))))
 ·
  refine .sn mx (.asb (.nil (.ret (.thenRet ?_))))
  obtain rfl := some_eq h
  exact Ends.rt Tryz.results139 rfl
 ·
  refine .skip (.then (.seq (.sn mx (.mv rfl (.ln sl23 rfl (.mvi (.nil ?_)))))))
  obtain ⟨o_2, h, hK2⟩ := bindR_some h
  refine .tJ (fun s => o_2 = Res.nx s) Sub.nil SubB.nil ?_ (fun j_2 hj2 => ?_)
  ·
   refine .block (.rforEL h (fun p3_ => [(17, ⟨True, rep p3_.1⟩)]) (fun p3_ => []) (.k 17 rfl .nil) SubB.nil (.k4 1 2 15 16 rfl rfl rfl rfl .nil) SubB.nil (fun p3_ o_3 h hD3 => (.sn mx (.lt rfl rfl (.nil (.seq (.cb rfl h (fun _ h => ?_) fun _ h => ?_)))))))
   ·
    refine .skip (.then (.seq ?_))
    obtain ⟨o_5, h, hK5⟩ := bindD_some h
    unfold slices_EqualFunc_Edge_L1 at h
    refine .tJ (fun s => o_5 = Res.nx s) (.k4 1 2 15 16 rfl rfl rfl rfl (.k 17 rfl .nil)) SubB.nil ?_ (fun j_5 hj5 => ?_)
    ·
     obtain ⟨hn6, h⟩ := need_some h
     obtain ⟨v1, hv7, h⟩ := bnd_some h
     obtain ⟨hn8, h⟩ := need_some h
     obtain ⟨v2, hv9, h⟩ := bnd_some h
     obtain ⟨r1, hv10, h⟩ := bind_some h
     refine .block (.sr [oo, oo, oo, ([], [8]), oo, ([8], [8])] mx (.mvA rfl (.ixA sl23 ty67 rfl rfl hn6 (.rlA hv7 ty67 rfl (.al zo67 rfl (.asnA rfl (.st ty67 rfl rfl rfl (.nil (.freeze (t := 8) rfl rfl SubB.nil rfl (.sr [oo, oo, oo, oo, ([], [9]), ([9], [9])] mx (.mvA rfl (.mvA rfl (.ixA sl23 ty67 rfl rfl hn8 (.rlA hv9 ty67 rfl (.al zo67 rfl (.st ty67 rfl rfl rfl (.nil (.freeze (t := 9) rfl rfl SubB.nil rfl (.sn mx (.mv rfl (.ld ty67 rfl (.ld ty67 rfl (.c (.callV (v1, v2, r1) .none (.s rfl) (fun _ => hv10) (.cons (.s rfl) (.cons (.s rfl) .nil))) (.c (.not .none (.s rfl)) (.nil (.cb rfl h (fun _ h => ?_) fun _ h => ?_))))))))))))))))))))))))))
     ·
      refine .sn mx (.asb (.nil (.ret (.blkRet (.thenRet (.thenRet (.blkRet (.thenRet ?_))))))))
      replace h := resd_ab hK5 (some_eq h)
      replace h := hD3 _ (some_eq h)
      replace h := resb_ab hK2 (some_eq h)
      obtain rfl := some_eq h
      exact Ends.rt Tryz.results139 rfl
     ·
      exact .skip (.blkNormal (Ends.j _ (some_eq h)))
    ·
     have h := resd_nx hK5 hj5
     exact .rn mx (.adi rfl (.mv rfl (.nil (Ends.ag (some_eq h)))))
   ·
    refine .exit (.thenExit (.thenExit (.blkExit ?_)))
    replace h := hD3 _ (some_eq h)
    exact Ends.j _ (some_eq h)
  ·
   have h := resb_nx hK2 hj2
   refine .sn mx (.asb (.nil (.ret ?_)))
   obtain rfl := some_eq h
   exact Ends.rt Tryz.results139 rfl

theorem slices_Equal_Point_ok {s1_1 : (List Point)} {s2_1 : (List Point)} {r : Bool}  (h : slices_Equal_Point s1_1 s2_1 = some r) : FSpec Tryz.prog 96 [rep s1_1, rep s2_1] (rep r) := by
 unfold slices_Equal_Point at h
 refine FSpec.i Tryz.func96 rfl Tryz.ntmps96 rfl (fun F => (.sn mx (.asb (.nil (.seq (.sn mx (.mv rfl (.ln sl59 rfl (.mv rfl (.ln sl59 rfl (.c (.neI .none (.s rfl) (.s rfl)) (.nil (.cb rfl h (fun _ h => ?_) fun _ h => ?_)))))))))))))
 ·
  refine .sn mx (.asb (.nil (.ret (.thenRet ?_))))
  obtain rfl := some_eq h
  exact Ends.rt Tryz.results96 rfl
 ·
  refine .skip (.then (.seq (.sn mx (.mv rfl (.ln sl59 rfl (.mvi (.nil ?_)))))))
  obtain ⟨o_2, h, hK2⟩ := bindR_some h
  refine .tJ (fun s => o_2 = Res.nx s) Sub.nil SubB.nil ?_ (fun j_2 hj2 => ?_)
  ·
   refine .block (.rforEL h (fun p3_ => [(13, ⟨True, rep p3_.1⟩)]) (fun p3_ => []) (.k 13 rfl .nil) SubB.nil (.k2 0 1 rfl rfl (.k 12 rfl .nil)) SubB.nil (fun p3_ o_3 h hD3 => (.sn mx (.lt rfl rfl (.nil (.seq (.cb rfl h (fun _ h => ?_) fun _ h => ?_)))))))
   ·
    refine .skip (.then (.seq ?_))
    obtain ⟨o_5, h, hK5⟩ := bindD_some h
    unfold slices_Equal_Point_L1 at h
    refine .tJ (fun s => o_5 = Res.nx s) (.k4 0 1 12 13 rfl rfl rfl rfl .nil) SubB.nil ?_ (fun j_5 hj5 => ?_)
    ·
     obtain ⟨hn6, h⟩ := need_some h
     obtain ⟨hn7, h⟩ := need_some h
     refine .block (.sn mx (.mv rfl (.asn rfl (.nil (.sn mx (.mv rfl (.mv rfl (.ix sl59 ty27 rfl rfl hn6 (.ld ty27 rfl (.mv rfl (.mv rfl (.ix sl59 ty27 rfl rfl hn7 (.ld ty27 rfl (.c (.neS .none eq27 (.s rfl) (.s rfl)) (.nil (.cb rfl h (fun _ h => ?_) fun _ h => ?_))))))))))))))))
     ·
      refine .sn mx (.asb (.nil (.ret (.blkRet (.thenRet (.thenRet (.blkRet (.thenRet ?_))))))))
      replace h := resd_ab hK5 (some_eq h)
      replace h := hD3 _ (some_eq h)
      replace h := resb_ab hK2 (some_eq h)
      obtain rfl := some_eq h
      exact Ends.rt Tryz.results96 rfl
     ·
      exact .skip (.blkNormal (Ends.j _ (some_eq h)))
    ·
     have h := resd_nx hK5 hj5
     exact .rn mx (.adi rfl (.mv rfl (.nil (Ends.ag (some_eq h)))))
   ·
    refine .exit (.thenExit (.thenExit (.blkExit ?_)))
    replace h := hD3 _ (some_eq h)
    exact Ends.j _ (some_eq h)
  ·
   have h := resb_nx hK2 hj2
   refine .sn mx (.asb (.nil (.ret ?_)))
   obtain rfl := some_eq h
   exact Ends.rt Tryz.results96 rfl

theorem ref_SameDoc_1_ok {x1 : DEdge} {y1 : DEdge} {r : Bool}  (h : ref_SameDoc_1 x1 y1 = some r) : FSpec Tryz.prog 140 [rep x1, rep y1] (rep r) := by
 unfold ref_SameDoc_1 at h
 obtain ⟨r1, hv1, h⟩ := bind_some h
 refine FSpec.i Tryz.func140 rfl Tryz.ntmps140 rfl (fun F => (.sn mx (.c (.box .none (.s rfl)) (.c (.box .none (.s rfl)) (.asb (.nil (.sn mx (.fa fd67_0 hfd67_0 rfl (.ld ty9 rfl (.fa fd67_0 hfd67_0 rfl (.ld ty9 rfl (.c (.eqS .none (eqAt_str Tryz.underlying9) (.s rfl) (.s rfl)) (.mv rfl (.fg fd67_1 hfd67_1 rfl rfl rfl (.lg ty65 rfl rfl rfl (.fg fd67_1 hfd67_1 rfl rfl rfl (.lg ty65 rfl rfl rfl (.c (.eqS (.at rfl rfl) eqa65 (.tmp rfl id) (.tmp rfl id)) (.pa rfl rfl (.mv rfl (.fg fd67_2 hfd67_2 rfl rfl rfl (.lg ty65 rfl rfl rfl (.fg fd67_2 hfd67_2 rfl rfl rfl (.lg ty65 rfl rfl rfl (.c (.eqS (.at rfl rfl) eqa65 (.tmp rfl id) (.tmp rfl id)) (.pa rfl rfl (.mv rfl (.fg fd67_3 hfd67_3 rfl rfl rfl (.lg ty59 rfl rfl rfl (.fg fd67_3 hfd67_3 rfl rfl rfl (.lg ty59 rfl rfl rfl (.c (.callIf (.at rfl rfl) fnok96 (fun hg => slices_Equal_Point_ok ((fun hg => gd_some hv1 (hg.2)) hg)) (.cons (.tmp rfl id) (.cons (.tmp rfl id) .nil)) (fun h => h)) (.pa rfl rfl (.mv rfl (.fg fd67_4 hfd67_4 rfl rfl rfl (.lg ty9 rfl rfl rfl (.fg fd67_4 hfd67_4 rfl rfl rfl (.lg ty9 rfl rfl rfl (.c (.eqS (.at rfl rfl) (eqAt_str Tryz.underlying9) (.tmp rfl id) (.tmp rfl id)) (.pa rfl rfl (.mv rfl (.fg fd67_5 hfd67_5 rfl rfl rfl (.lg ty9 rfl rfl rfl (.fg fd67_5 hfd67_5 rfl rfl rfl (.lg ty9 rfl rfl rfl (.c (.eqS (.at rfl rfl) (eqAt_str Tryz.underlying9) (.tmp rfl id) (.tmp rfl id)) (.pa rfl rfl (.asn rfl (.nil (.ret ?_))))))))))))))))))))))))))))))))))))))))))))))))))
 obtain rfl := some_eq h
 exact Ends.rt Tryz.results140 rfl

theorem ref_SameDoc_ok {a1 : Doc} {b1 : Doc} {r : Bool}  (h : ref_SameDoc a1 b1 = some r) : FSpec Tryz.prog 62 [rep a1, rep b1] (rep r) := by
 unfold ref_SameDoc at h
 obtain ⟨r1, hv1, h⟩ := bind_some h
 obtain ⟨r2, hv2, h⟩ := bind_some h
 refine FSpec.i Tryz.func62 rfl Tryz.ntmps62 rfl (fun F => (.sn mx (.c (.box .none (.s rfl)) (.c (.box .none (.s rfl)) (.asb (.nil (.sn mx (.fa fd25_0 hfd25_0 rfl (.ld ty22 rfl (.fa fd25_0 hfd25_0 rfl (.ld ty22 rfl (.c (.call .none (slices_Equal_Node_ok hv1) (.cons (.s rfl) (.cons (.s rfl) .nil))) (.mv rfl (.fg fd25_1 hfd25_1 rfl rfl rfl (.lg ty23 rfl rfl rfl (.fg fd25_1 hfd25_1 rfl rfl rfl (.lg ty23 rfl rfl rfl (.c (.callIf (.at rfl rfl) fnok139 (fun hg => slices_EqualFunc_Edge_ok ((fun hg => gd_some hv2 (hg.2)) hg)) (.cons (.tmp rfl id) (.cons (.tmp rfl id) (.cons (Opd.func (ι := DEdge × DEdge × Bool) (pre := fun i => ref_SameDoc_1 i.1 i.2.1 = some i.2.2) (Ss := fun i => [rep i.1, rep i.2.1]) (S := fun i => rep i.2.2) fnok140 (fun i h => ref_SameDoc_1_ok h)) .nil))) (fun h => h)) (.pa rfl rfl (.asn rfl (.nil (.ret ?_))))))))))))))))))))))
 obtain rfl := some_eq h
 exact Ends.rt Tryz.results62 rfl

theorem page_view_box_ok {v1 : Page_view} {i1 : Int} {r : Box}  (h : page_view_box v1 i1 = some r) : FSpec Tryz.prog 70 [ref v1, rep i1] (rep r) := by
 unfold page_view_box at h
 obtain ⟨v2, hv1, h⟩ := bnd_some h
 obtain ⟨r1, hv2, h⟩ := bind_some h
 refine FSpec.i Tryz.func70 rfl Tryz.ntmps70 rfl (fun F => (.sr [([], [4])] mx (.al zo29 rfl (.nil (.reB (t := 4) rfl (congrArg (cont 29) hv1) (.nameBox (t := 4) (g := 5001) rfl rfl (fun m5001 => (.sr [oo, oo, oo, oo, oo, oo, ([], [5]), ([5], [5]), oo] mx (.mvA rfl (.mvA rfl (.cA (.call .none (page_view_boxOf_ok hv2) (.cons (.s rfl) (.cons (.s rfl) .nil))) (.mvA rfl (.exA rfl rfl (.exA rfl rfl (.al zo29 rfl (.st ty29 rfl rfl rfl (.asnA rfl (.nil (.freeze (t := 5) rfl rfl (.k 5001 rfl .nil) rfl (.sr [oo, ([5001], [5001])] mx (.ldA ty29 rfl (.s0 5001 ty29 rfl rfl rfl (.nil (.fb 5001 [4] rfl (.cons (t := 4) rfl trivial .nil) (.ret ?_)))))))))))))))))))))))))
 obtain rfl := some_eq h
 exact Ends.ret1 (.inl rfl) Tryz.results70 (ResOK.cellR ty29 rfl trivial Imp.refl)

theorem page_view_hullOf_ok {v1 : Page_view} {roots1 : (List Int)} {r : (Box × Int)}  (h : page_view_hullOf v1 roots1 = some r) : FSpec Tryz.prog 125 [ref v1, rep roots1] (tup [rep r.1, rep r.2]) := by
 unfold page_view_hullOf at h
 obtain ⟨v2, hv1, h⟩ := bnd_some h
 refine FSpec.i Tryz.func125 rfl Tryz.ntmps125 rfl (fun F => (.sr [([], [4]), oo] mx (.al zo29 rfl (.cA (.assign .none .i) (.nil (.reB (t := 4) rfl (congrArg (cont 29) hv1) (.nameBox (t := 4) (g := 5001) rfl rfl (fun m5001 => (.sr [([], [6])] mx (.cW (.nilRow (T := 29) (α := Box) rfl) (.nil (.nameRow (t := 6) (g := 5002) rfl rfl rfl (fun s5002 => (.seq (.sn mx (.mv rfl (.ln sl118 rfl (.mvi (.nil ?_)))))))))))))))))))
 obtain ⟨j_2, h, hK2⟩ := bind_some h
 refine .thenJ (ι := (List Box)) (fun j_2 => []) (fun j_2 => [(6, some (rowV 29 j_2))]) (fun s => j_2 = s) (.k 4 rfl .nil) (.k 5001 rfl .nil) ?_ (fun j_2' hj2 => ?_)
 ·
  refine .block (.anon (t := 6) (g := 5002) rfl rfl trivial rfl (.rforL h (fun p3_ => [(11, ⟨True, rep p3_.1⟩)]) (fun p3_ => [(6, some (rowV 29 p3_.2))]) (.k 11 rfl .nil) (.k 6 rfl .nil) (.k4 0 4 9 10 rfl rfl rfl rfl .nil) (.k 5001 rfl .nil) (fun p3_ o_3 h hD3 => (.nameRow (t := 6) (g := 5003) rfl rfl rfl (fun s5003 => (.sn mx (.lt rfl rfl (.nil (.seq (.cb rfl h (fun _ h => ?_) fun _ h => ?_))))))))))
  ·
   refine .skip (.then (.seq ?_))
   obtain ⟨j_5, h, hK5⟩ := bind_some h
   unfold page_view_hullOf_L1 at h
   refine .thenJ (ι := (List Box)) (fun j_5 => []) (fun j_5 => [(6, some (rowV 29 j_5))]) (fun s => j_5 = s) (.k4 0 4 9 10 rfl rfl rfl rfl (.k 11 rfl .nil)) (.k 5001 rfl .nil) ?_ (fun j_5' hj5 => ?_)
   ·
    obtain ⟨hn6, h⟩ := need_some h
    obtain ⟨r1, hv7, h⟩ := bind_some h
    obtain ⟨hn8, h⟩ := need_some h
    exact .block (.sn mx (.ix sl118 ty3 rfl rfl hn6 (.ld ty3 rfl (.asn rfl (.nil (.rg [oo, oo, oo, oo, oo, ([5003], [20, 5003]), ([20], [6, 20])] mx (.mvA rfl (.mvA rfl (.mvA rfl (.cA (.call .none (page_view_box_ok hv7) (.cons (.s rfl) (.cons (.s rfl) .nil))) (.cA (.buildSlice (xs := [_]) .none sl109 ty29 hz29 (.cons (.s rfl) .nil) rfl (by decide)) (.cW (.append (k := 5003) rk109 rfl (.told (.s rfl) rfl) (.s rfl) hn8) (.consWD (.passRow rfl (.tmp rfl)) rfl rfl (.nil (.blkNormal (Ends.j _ (some_eq h)))))))))))))))))
   ·
    subst hj5; have h := hK5; clear hK5
    exact .nameRow (t := 6) (g := 5004) rfl rfl rfl (fun s5004 => (.rn mx (.adi rfl (.mv rfl (.nil (.anon (t := 6) (g := 5004) rfl rfl trivial rfl (Ends.ag (some_eq h))))))))
  ·
   refine .exit (.thenExit (.thenExit (.blkExit (.anon (t := 6) (g := 5003) rfl rfl trivial rfl ?_))))
   replace h := hD3 _ (some_eq h)
   exact Ends.j _ (some_eq h)
 ·
  subst hj2; have h := hK2; clear hK2
  obtain ⟨r2, hv9, h⟩ := bind_some h
  refine .freezeRowA (t := 6) rfl rfl (.k 5001 rfl .nil) rfl (.sr [oo, oo, oo, oo, ([5001], [5001]), oo] mx (.mvA rfl (.cA (.call .none (geom_Hull_ok hv9) (.cons (.s rfl) .nil)) (.exA rfl rfl (.exA rfl rfl (.s0 5001 ty29 rfl rfl rfl (.asnA rfl (.nil (.fb 5001 [4] rfl (.cons (t := 4) rfl trivial .nil) (.ret ?_))))))))))
  obtain rfl := some_eq h
  exact Ends.r2 Tryz.results125 ty29 rfl rfl

theorem page_Align_ok {d1 : Doc} {ids1 : (List Str)} {how1 : Int} {r : (Doc × Int)}  (h : page_Align d1 ids1 how1 = some r) : FSpec Tryz.prog 52 [rep d1, rep ids1, rep how1] (tup [rep r.1, rep r.2]) := by
 unfold page_Align at h
 obtain ⟨v1, hv1, h⟩ := bnd_some h
 obtain ⟨r1, hv2, h⟩ := bind_some h
 refine FSpec.i Tryz.func52 rfl Tryz.ntmps52 rfl (fun F => (.sr [oo, ([], [6]), oo] mx (.cA (.box .none (.s rfl)) (.al zo25 rfl (.cA (.assign .none .i) (.nil (.reB (t := 6) rfl (congrArg (cont 25) hv1) (.nameBox (t := 6) (g := 5001) rfl rfl (fun m5001 => (.sn mx (.ld ty25 rfl (.mv rfl (.c (.call .none (page_selected_ok hv2) (.cons (.s rfl) (.cons (.s rfl) .nil))) (.mv rfl (.ex rfl rfl (.ex rfl rfl (.ex rfl rfl (.asn rfl (.asn rfl (.asn rfl (.nil (.seq (.sn mx (.mv rfl (.nei rfl (.nil (.cb rfl h (fun _ h => ?_) fun _ h => ?_)))))))))))))))))))))))))))
 ·
  obtain ⟨v2, hv4, h⟩ := bnd_some h
  refine .sr [oo, oo, ([5001], [5001]), oo] mx (.cA (.re hv4 (.buildF (y := (⟨([] : (List DNode)), ([] : (List DEdge))⟩ : Doc)) .none bu25 zc25 rfl .nil .nil)) (.mvA rfl (.s0 5001 ty25 rfl rfl rfl (.asnA rfl (.nil (.fb 5001 [6] rfl (.cons (t := 6) rfl trivial .nil) (.ret (.thenRet ?_))))))))
  obtain rfl := some_eq h
  exact Ends.r2 Tryz.results52 ty25 rfl rfl
 ·
  obtain ⟨v3, hv5, h⟩ := bind_some h
  obtain ⟨r2, hv6, h⟩ := bind_some h
  refine .skip (.then (.seq (.isRef (t := 8) hv5 rfl trivial (.rg [oo, oo, oo, oo, oo, oo, ([], [11]), ([11], [11]), oo] mx (.mvA rfl (.mvA rfl (.cA (.call .none (page_view_hullOf_ok hv6) (.cons (.s rfl) (.cons (.s rfl) .nil))) (.mvA rfl (.exA rfl rfl (.exA rfl rfl (.al zo29 rfl (.st ty29 rfl rfl rfl (.asnA rfl (.nil (.then (.freeze (t := 11) rfl rfl (.k 5001 rfl .nil) rfl (.seq (.sn mx (.mv rfl (.nei rfl (.nil (.cb rfl h (fun _ h => ?_) fun _ h => ?_))))))))))))))))))))))
  ·
   obtain ⟨v4, hv8, h⟩ := bnd_some h
   refine .sr [oo, oo, ([5001], [5001]), oo] mx (.cA (.re hv8 (.buildF (y := (⟨([] : (List DNode)), ([] : (List DEdge))⟩ : Doc)) .none bu25 zc25 rfl .nil .nil)) (.mvA rfl (.s0 5001 ty25 rfl rfl rfl (.asnA rfl (.nil (.fb 5001 [6] rfl (.cons (t := 6) rfl trivial .nil) (.ret (.thenRet ?_))))))))
   obtain rfl := some_eq h
   exact Ends.r2 Tryz.results52 ty25 rfl rfl
  ·
   refine .skip (.then (.seq (.sn mx (.mv rfl (.c (.lt .none (.s rfl) .i) (.mv rfl (.mg rfl rfl rfl (.c (.gt (.at rfl rfl) (.tmp rfl id) .i) (.po rfl rfl (.nil (.cb rfl h (fun _ h => ?_) fun _ h => ?_)))))))))))
   ·
    obtain ⟨v5, hv10, h⟩ := bnd_some h
    refine .sr [oo, ([5001], [5001]), oo] mx (.cA (.re hv10 (.buildF (y := (⟨([] : (List DNode)), ([] : (List DEdge))⟩ : Doc)) .none bu25 zc25 rfl .nil .nil)) (.s0 5001 ty25 rfl rfl rfl (.cA (.assign .none .i) (.nil (.fb 5001 [6] rfl (.cons (t := 6) rfl trivial .nil) (.ret (.thenRet ?_)))))))
    obtain rfl := some_eq h
    exact Ends.r2 Tryz.results52 ty25 rfl rfl
   ·
    refine .skip (.then (.sr [([], [12])] mx (.cW (.nilRow (T := 159) (α := Page_step) rfl) (.nil (.nameRow (t := 12) (g := 5002) rfl rfl rfl (fun s5002 => (.seq (.sn mx (.mv rfl (.ln sl118 rfl (.mvi (.nil ?_))))))))))))
    obtain ⟨j_11, h, hK11⟩ := bind_some h
    refine .thenJ (ι := (List Page_step)) (fun j_11 => []) (fun j_11 => [(12, some (rowV 159 j_11))]) (fun s => j_11 = s) (.k2 6 8 rfl rfl .nil) (.k 5001 rfl .nil) ?_ (fun j_11' hj11 => ?_)
    ·
     refine .block (.anon (t := 12) (g := 5002) rfl rfl trivial rfl (.rforL h (fun p12_ => [(47, ⟨True, rep p12_.1⟩)]) (fun p12_ => [(12, some (rowV 159 p12_.2))]) (.k 47 rfl .nil) (.k 12 rfl .nil) (.k4 2 6 8 11 rfl rfl rfl rfl (.k2 45 46 rfl rfl .nil)) (.k 5001 rfl .nil) (fun p12_ o_12 h hD12 => (.nameRow (t := 12) (g := 5003) rfl rfl rfl (fun s5003 => (.sn mx (.lt rfl rfl (.nil (.seq (.cb rfl h (fun _ h => ?_) fun _ h => ?_))))))))))
     ·
      refine .skip (.then (.seq ?_))
      obtain ⟨j_14, h, hK14⟩ := bind_some h
      unfold page_Align_L1 at h
      refine .thenJ (ι := (List Page_step)) (fun j_14 => []) (fun j_14 => [(12, some (rowV 159 j_14))]) (fun s => j_14 = s) (.k4 2 6 8 11 rfl rfl rfl rfl (.k2 45 46 rfl rfl (.k 47 rfl .nil))) (.k 5001 rfl .nil) ?_ (fun j_14' hj14 => ?_)
      ·
       obtain ⟨hn15, h⟩ := need_some h
       obtain ⟨k1, hv16, h⟩ := bnd_some h
       obtain ⟨r3, hv17, h⟩ := bind_some h
       obtain ⟨v6, hv18, h⟩ := bnd_some h
       refine .block (.sn mx (.ix sl118 ty3 rfl rfl hn15 (.ld ty3 rfl (.ra hv16 rfl (.nil (.sr [oo, oo, oo, ([], [15]), ([15], [15])] mx (.mvA rfl (.mvA rfl (.cA (.call .none (page_view_box_ok hv17) (.cons (.s rfl) (.cons (.s rfl) .nil))) (.al zo29 rfl (.st ty29 rfl rfl rfl (.nil (.freeze (t := 15) rfl rfl (.k2 5001 5003 rfl rfl .nil) rfl (.sr [oo, oo, oo, ([], [16]), ([16], [16])] mx (.mvA rfl (.cA (.buildSlice (xs := [_]) .none sl118 ty3 hz3 (.cons (.s rfl) .nil) rfl (by decide)) (.cA (.re hv18 (.buildF (y := (⟨[k1], (0 : Int), (0 : Int)⟩ : Page_step)) .none bu159 zc159 rfl (.cons (.s rfl) .nil) (.cons rfl sf159_0 .nil))) (.al zo159 rfl (.st ty159 rfl rfl rfl (.nil (.nameBox (t := 16) (g := 5004) rfl rfl (fun m5004 => (.seq (.sn mx (.mv rfl (.nil ?_))))))))))))))))))))))))))
       obtain ⟨j_19, h, hK19⟩ := bind_some h
       refine .thenJ (ι := Page_step) (fun j_19 => []) (fun j_19 => [(5004, some (boxAt m5004 159 j_19))]) (fun s => j_19 = s) (.k4 2 6 8 11 rfl rfl rfl rfl (.k4 12 16 45 46 rfl rfl rfl rfl (.k 47 rfl .nil))) (.k2 5001 5003 rfl rfl .nil) ?_ (fun j_19' hj19 => ?_)
       ·
        refine .block (.sn mx (.eqi rfl (.asn rfl (.nil (.cb rfl h (fun _ h => ?_) fun _ h => ?_)))))
        ·
         obtain ⟨v7, hv21, h⟩ := bnd_some h
         exact .rg [oo, oo, oo, oo, oo, oo, ([5004], [5004])] mx (.faA fd29_0 hfd29_0 rfl (.ldA ty3 rfl (.faA fd29_0 hfd29_0 rfl (.ldA ty3 rfl (.cA (.re hv21 (.subW .none (.s rfl) (.s rfl))) (.cA (.fieldPtr .none fd159_1 (.s rfl)) (.cN (.storeAt (g := 5004) ty3 rfl (.s rfl) sf159_1 (.s rfl)) (.nil (.blkNormal (Ends.j _ (some_eq h)))))))))))
        ·
         refine .sn mx (.eqi rfl (.asn rfl (.nil (.cb rfl h (fun _ h => ?_) fun _ h => ?_))))
         ·
          obtain ⟨v8, hv23, h⟩ := bnd_some h
          exact .rg [oo, oo, oo, oo, oo, oo, oo, oo, oo, oo, oo, oo, oo, ([5004], [5004])] mx (.faA fd29_0 hfd29_0 rfl (.ldA ty3 rfl (.faA fd29_2 hfd29_2 rfl (.ldA ty3 rfl (.faA fd29_2 hfd29_2 rfl (.ldA ty3 rfl (.subA rfl rfl (.cA (.quo .none (.s rfl) .i (fun _ => by decide)) (.addA rfl rfl (.faA fd29_0 hfd29_0 rfl (.ldA ty3 rfl (.cA (.re hv23 (.subW .none (.s rfl) (.s rfl))) (.cA (.fieldPtr .none fd159_1 (.s rfl)) (.cN (.storeAt (g := 5004) ty3 rfl (.s rfl) sf159_1 (.s rfl)) (.nil (.blkNormal (Ends.j _ (some_eq h))))))))))))))))))
         ·
          refine .sn mx (.eqi rfl (.asn rfl (.nil (.cb rfl h (fun _ h => ?_) fun _ h => ?_))))
          ·
           obtain ⟨v9, hv25, h⟩ := bnd_some h
           exact .rg [oo, oo, oo, oo, oo, oo, oo, oo, oo, oo, oo, oo, ([5004], [5004])] mx (.faA fd29_0 hfd29_0 rfl (.ldA ty3 rfl (.faA fd29_2 hfd29_2 rfl (.ldA ty3 rfl (.addA rfl rfl (.faA fd29_0 hfd29_0 rfl (.ldA ty3 rfl (.subA rfl rfl (.faA fd29_2 hfd29_2 rfl (.ldA ty3 rfl (.cA (.re hv25 (.subW .none (.s rfl) (.s rfl))) (.cA (.fieldPtr .none fd159_1 (.s rfl)) (.cN (.storeAt (g := 5004) ty3 rfl (.s rfl) sf159_1 (.s rfl)) (.nil (.blkNormal (Ends.j _ (some_eq h)))))))))))))))))
          ·
           refine .sn mx (.eqi rfl (.asn rfl (.nil (.cb rfl h (fun _ h => ?_) fun _ h => ?_))))
           ·
            obtain ⟨v10, hv27, h⟩ := bnd_some h
            exact .rg [oo, oo, oo, oo, oo, oo, ([5004], [5004])] mx (.faA fd29_1 hfd29_1 rfl (.ldA ty3 rfl (.faA fd29_1 hfd29_1 rfl (.ldA ty3 rfl (.cA (.re hv27 (.subW .none (.s rfl) (.s rfl))) (.cA (.fieldPtr .none fd159_2 (.s rfl)) (.cN (.storeAt (g := 5004) ty3 rfl (.s rfl) sf159_2 (.s rfl)) (.nil (.blkNormal (Ends.j _ (some_eq h)))))))))))
           ·
            refine .sn mx (.eqi rfl (.asn rfl (.nil (.cb rfl h (fun _ h => ?_) fun _ h => ?_))))
            ·
             obtain ⟨v11, hv29, h⟩ := bnd_some h
             exact .rg [oo, oo, oo, oo, oo, oo, oo, oo, oo, oo, oo, oo, oo, ([5004], [5004])] mx (.faA fd29_1 hfd29_1 rfl (.ldA ty3 rfl (.faA fd29_3 hfd29_3 rfl (.ldA ty3 rfl (.faA fd29_3 hfd29_3 rfl (.ldA ty3 rfl (.subA rfl rfl (.cA (.quo .none (.s rfl) .i (fun _ => by decide)) (.addA rfl rfl (.faA fd29_1 hfd29_1 rfl (.ldA ty3 rfl (.cA (.re hv29 (.subW .none (.s rfl) (.s rfl))) (.cA (.fieldPtr .none fd159_2 (.s rfl)) (.cN (.storeAt (g := 5004) ty3 rfl (.s rfl) sf159_2 (.s rfl)) (.nil (.blkNormal (Ends.j _ (some_eq h))))))))))))))))))
            ·
             obtain ⟨v12, hv30, h⟩ := bnd_some h
             exact .rg [oo, oo, oo, oo, oo, oo, oo, oo, oo, oo, oo, oo, ([5004], [5004])] mx (.faA fd29_1 hfd29_1 rfl (.ldA ty3 rfl (.faA fd29_3 hfd29_3 rfl (.ldA ty3 rfl (.addA rfl rfl (.faA fd29_1 hfd29_1 rfl (.ldA ty3 rfl (.subA rfl rfl (.faA fd29_3 hfd29_3 rfl (.ldA ty3 rfl (.cA (.re hv30 (.subW .none (.s rfl) (.s rfl))) (.cA (.fieldPtr .none fd159_2 (.s rfl)) (.cN (.storeAt (g := 5004) ty3 rfl (.s rfl) sf159_2 (.s rfl)) (.nil (.blkNormal (Ends.j _ (some_eq h)))))))))))))))))
       ·
        subst hj19; have h := hK19; clear hK19
        obtain ⟨hn31, h⟩ := need_some h
        exact .freezeBox (g := 5004) (ts := [16]) rfl (.cons (t := 16) rfl trivial .nil) (.k2 5001 5003 rfl rfl .nil) rfl (.rg [oo, oo, oo, ([5003], [133, 5003]), ([133], [12, 133])] mx (.mvA rfl (.ldA ty159 rfl (.cA (.buildSlice (xs := [_]) .none sl160 ty159 hz159 (.cons (.s rfl) .nil) rfl (by decide)) (.cW (.append (k := 5003) rk160 rfl (.told (.s rfl) rfl) (.s rfl) hn31) (.cW (.passRow rfl (.tmp rfl)) (.nil (.blkNormal (Ends.j _ (some_eq h))))))))))
      ·
       subst hj14; have h := hK14; clear hK14
       exact .nameRow (t := 12) (g := 5005) rfl rfl rfl (fun s5005 => (.rn mx (.adi rfl (.mv rfl (.nil (.anon (t := 12) (g := 5005) rfl rfl trivial rfl (Ends.ag (some_eq h))))))))
     ·
      refine .exit (.thenExit (.thenExit (.blkExit (.anon (t := 12) (g := 5003) rfl rfl trivial rfl ?_))))
      replace h := hD12 _ (some_eq h)
      exact Ends.j _ (some_eq h)
    ·
     subst hj11; have h := hK11; clear hK11
     obtain ⟨r4, hv32, h⟩ := bind_some h
     refine .freezeRowA (t := 12) rfl rfl (.k 5001 rfl .nil) rfl (.sr [oo, oo, oo, oo, oo, ([5001], [5001]), oo] mx (.mvA rfl (.mvA rfl (.cA (.call .none (page_view_moved_ok hv32) (.cons (.s rfl) (.cons (.s rfl) .nil))) (.exA rfl rfl (.exA rfl rfl (.s0 5001 ty25 rfl rfl rfl (.asnA rfl (.nil (.fb 5001 [6] rfl (.cons (t := 6) rfl trivial .nil) (.ret ?_)))))))))))
     obtain rfl := some_eq h
     exact Ends.r2 Tryz.results52 ty25 rfl rfl

theorem page_Spread_1_ok {k1 : Int} {c0_1 : (Option Page_view)} {c1_1 : Bool} {r : (Int × Int × Int)}  (h : page_Spread_1 k1 c0_1 c1_1 = some r) : FSpec Tryz.prog 126 [rep k1, ref c0_1, ref c1_1] (tup [rep r.1, rep r.2.1, rep r.2.2]) := by
 unfold page_Spread_1 at h
 obtain ⟨p1, hv1, h⟩ := bind_some h
 obtain ⟨r1, hv2, h⟩ := bind_some h
 refine FSpec.i Tryz.func126 rfl Tryz.ntmps126 rfl (fun F => (.sn mx (.asi (.asi (.asi (.nil (.sr [oo, oo, oo, ([], [7]), ([7], [7])] mx (.cA (.isRef hv1 (.load .none ty100 (.s rfl))) (.mvA rfl (.cA (.call .none (page_view_box_ok hv2) (.cons (.s rfl) (.cons (.s rfl) .nil))) (.al zo29 rfl (.st ty29 rfl rfl rfl (.nil (.freeze (t := 7) rfl rfl SubB.nil rfl (.seq (.sn mx (.ld ty4 rfl (.nil (.cb rfl h (fun _ h => ?_) fun _ h => ?_)))))))))))))))))))
 ·
  refine .sn mx (.fa fd29_1 hfd29_1 rfl (.ld ty3 rfl (.fa fd29_3 hfd29_3 rfl (.ld ty3 rfl (.fa fd29_0 hfd29_0 rfl (.ld ty3 rfl (.asn rfl (.asn rfl (.asn rfl (.nil (.ret (.thenRet ?_))))))))))))
  obtain rfl := some_eq h
  exact Ends.ret3 (.inl rfl) Tryz.results126 (ResOK.tmp rfl trivial Imp.refl) (ResOK.tmp rfl trivial Imp.refl) (ResOK.tmp rfl trivial Imp.refl)
 ·
  refine .skip (.then (.sn mx (.fa fd29_0 hfd29_0 rfl (.ld ty3 rfl (.fa fd29_2 hfd29_2 rfl (.ld ty3 rfl (.fa fd29_1 hfd29_1 rfl (.ld ty3 rfl (.asn rfl (.asn rfl (.asn rfl (.nil (.ret ?_)))))))))))))
  obtain rfl := some_eq h
  exact Ends.ret3 (.inl rfl) Tryz.results126 (ResOK.tmp rfl trivial Imp.refl) (ResOK.tmp rfl trivial Imp.refl) (ResOK.tmp rfl trivial Imp.refl)

theorem slices_Clone_int_ok {s1 : (List Int)} {r : (List Int)}  (h : slices_Clone_int s1 = some r) : FSpecO Tryz.prog 127 [rep s1] [] (anyV) [some (rowV 3 r)] := by
 unfold slices_Clone_int at h
 refine FSpecO.i Tryz.func127 rfl Tryz.ntmps127 rfl (fun F => (.sn mx (.c (.assign .none (.const (x := ([] : (List Int))) (fun M w => ⟨_, ⟨none, 0, rfl, Nat.le_refl _, by decide, rfl⟩, rfl⟩))) (.nil (.seq (.sn mx (.mv rfl (.c (.eqNil .none sl118 (.s rfl)) (.nil (.condNil (t := 4) rfl trivial (fun hb1 => ?_) ?_))))))))))
 ·
  replace h := nilc_t h hb1
  refine .sr [([], [2])] mx (.cW (.nilRow (T := 3) (α := Int) rfl) (.nil (.nameRow (t := 2) (g := 5001) rfl rfl rfl (fun s5001 => (.ret (.thenRet (.anon (t := 2) (g := 5001) rfl rfl trivial rfl ?_)))))))
  obtain rfl := some_eq h
  exact Ends.ret1O (.inl rfl) [2] Tryz.results127 (by decide) (.res rfl rfl) (ResOK.tmp rfl trivial (fun _ _ _ _ => trivial))
 ·
  replace h := nilc_f h
  obtain ⟨hn2, h⟩ := need_some h
  obtain ⟨v1, hv3, h⟩ := bnd_some h
  refine .skip (.then (.sr [([], [5]), oo, ([5], [7, 5]), ([7], [2, 7])] mx (.cW (.buildSliceO (xs := []) rfl sl118 ty3 hz3 .nil rfl (by decide)) (.mvA rfl (.cW (.append (k := 5) rk118 rfl (.tmp rfl) (.s rfl) hn2) (.cW (.passRow rfl (.tmp rfl)) (.nil (.reB (t := 2) rfl (congrArg (rowV 3) hv3) (.nameRow (t := 2) (g := 5002) rfl rfl rfl (fun s5002 => (.ret (.anon (t := 2) (g := 5002) rfl rfl trivial rfl ?_))))))))))))
  obtain rfl := some_eq h
  exact Ends.ret1O (.inl rfl) [2] Tryz.results127 (by decide) (.res rfl rfl) (ResOK.tmp rfl trivial (fun _ _ _ _ => trivial))

theorem cmp_isNaN_int_ok {x1 : Int} {r : Bool}  (h : cmp_isNaN_int x1 = some r) : FSpec Tryz.prog 181 [rep x1] (rep r) := by
 unfold cmp_isNaN_int at h
 refine FSpec.i Tryz.func181 rfl Tryz.ntmps181 rfl (fun F => (.sn mx (.asb (.nil (.sn mx (.mv rfl (.mv rfl (.c (.neI .none (.s rfl) (.s rfl)) (.asn rfl (.nil (.ret ?_)))))))))))
 obtain rfl := some_eq h
 exact Ends.rt Tryz.results181 rfl

theorem cmp_Compare_int_ok {x1 : Int} {y1 : Int} {r : Int}  (h : cmp_Compare_int x1 y1 = some r) : FSpec Tryz.prog 131 [rep x1, rep y1] (rep r) := by
 unfold cmp_Compare_int at h
 obtain ⟨xNaN1, hv1, h⟩ := bind_some h
 obtain ⟨yNaN1, hv2, h⟩ := bind_some h
 refine FSpec.i Tryz.func131 rfl Tryz.ntmps131 rfl (fun F => (.sn mx (.asi (.nil (.sn mx (.mv rfl (.c (.call .none (cmp_isNaN_int_ok hv1) (.cons (.s rfl) .nil)) (.asn rfl (.nil (.sn mx (.mv rfl (.c (.call .none (cmp_isNaN_int_ok hv2) (.cons (.s rfl) .nil)) (.asn rfl (.nil (.seq (.sn mx (.mv rfl (.nil (.cb rfl h (fun _ h => ?_) fun _ h => ?_)))))))))))))))))))
 ·
  refine .seq (.sn mx (.mv rfl (.nil (.cb rfl h (fun _ h => ?_) fun _ h => ?_))))
  ·
   refine .sn mx (.asi (.nil (.ret (.thenRet (.thenRet ?_)))))
   obtain rfl := some_eq h
   exact Ends.rt Tryz.results131 rfl
  ·
   refine .skip (.then (.sn mx (.asi (.nil (.ret (.thenRet ?_))))))
   obtain rfl := some_eq h
   exact Ends.rt Tryz.results131 rfl
 ·
  refine .skip (.then (.seq (.sn mx (.mv rfl (.nil (.cb rfl h (fun _ h => ?_) fun _ h => ?_))))))
  ·
   refine .sn mx (.asi (.nil (.ret (.thenRet ?_))))
   obtain rfl := some_eq h
   exact Ends.rt Tryz.results131 rfl
  ·
   refine .skip (.then (.seq (.sn mx (.mv rfl (.mv rfl (.lt rfl rfl (.nil (.cb rfl h (fun _ h => ?_) fun _ h => ?_))))))))
   ·
    refine .sn mx (.asi (.nil (.ret (.thenRet ?_))))
    obtain rfl := some_eq h
    exact Ends.rt Tryz.results131 rfl
   ·
    refine .skip (.then (.seq (.sn mx (.mv rfl (.mv rfl (.c (.gt .none (.s rfl) (.s rfl)) (.nil (.cb rfl h (fun _ h => ?_) fun _ h => ?_))))))))
    ·
     refine .sn mx (.asi (.nil (.ret (.thenRet ?_))))
     obtain rfl := some_eq h
     exact Ends.rt Tryz.results131 rfl
    ·
     refine .skip (.then (.sn mx (.asi (.nil (.ret ?_)))))
     obtain rfl := some_eq h
     exact Ends.rt Tryz.results131 rfl

theorem cmp_Or_int_ok {vals1 : (List Int)} {r : Int}  (h : cmp_Or_int vals1 = some r) : FSpec Tryz.prog 130 [rep vals1] (rep r) := by
 unfold cmp_Or_int at h
 refine FSpec.i Tryz.func130 rfl Tryz.ntmps130 rfl (fun F => (.sn mx (.asi (.nil (.sn mx (.asi (.nil (.seq (.sn mx (.mv rfl (.ln sl118 rfl (.mvi (.nil ?_)))))))))))))
 obtain ⟨o_1, h, hK1⟩ := bindR_some h
 refine .tJ (fun s => o_1 = Res.nx s) (.k 3 rfl .nil) SubB.nil ?_ (fun j_1 hj1 => ?_)
 ·
  refine .block (.rforEL h (fun p2_ => [(8, ⟨True, rep p2_.1⟩)]) (fun p2_ => []) (.k 8 rfl .nil) SubB.nil (.k2 3 6 rfl rfl (.k 7 rfl .nil)) SubB.nil (fun p2_ o_2 h hD2 => (.sn mx (.lt rfl rfl (.nil (.seq (.cb rfl h (fun _ h => ?_) fun _ h => ?_)))))))
  ·
   refine .skip (.then (.seq ?_))
   obtain ⟨o_4, h, hK4⟩ := bindD_some h
   unfold cmp_Or_int_L1 at h
   refine .tJ (fun s => o_4 = Res.nx s) (.k4 3 6 7 8 rfl rfl rfl rfl .nil) SubB.nil ?_ (fun j_4 hj4 => ?_)
   ·
    obtain ⟨hn5, h⟩ := need_some h
    obtain ⟨val1, hv6, h⟩ := bnd_some h
    refine .block (.sn mx (.ix sl118 ty3 rfl rfl hn5 (.ld ty3 rfl (.ra hv6 rfl (.nil (.sn mx (.mv rfl (.mv rfl (.c (.neI .none (.s rfl) (.s rfl)) (.nil (.cb rfl h (fun _ h => ?_) fun _ h => ?_)))))))))))
    ·
     refine .sn mx (.mv rfl (.asn rfl (.nil (.ret (.blkRet (.thenRet (.thenRet (.blkRet (.thenRet ?_)))))))))
     replace h := resd_ab hK4 (some_eq h)
     replace h := hD2 _ (some_eq h)
     replace h := resb_ab hK1 (some_eq h)
     obtain rfl := some_eq h
     exact Ends.rt Tryz.results130 rfl
    ·
     exact .skip (.blkNormal (Ends.j _ (some_eq h)))
   ·
    have h := resd_nx hK4 hj4
    exact .rn mx (.adi rfl (.mv rfl (.nil (Ends.ag (some_eq h)))))
  ·
   refine .exit (.thenExit (.thenExit (.blkExit ?_)))
   replace h := hD2 _ (some_eq h)
   exact Ends.j _ (some_eq h)
 ·
  have h := resb_nx hK1 hj1
  refine .sn mx (.mv rfl (.asn rfl (.nil (.ret ?_))))
  obtain rfl := some_eq h
  exact Ends.rt Tryz.results130 rfl

theorem page_Spread_2_ok {a1 : Int} {b1 : Int} {c0_1 : (Int → Option (Int × Int × Int))} {r : Int}  (h : page_Spread_2 a1 b1 c0_1 = some r) : FSpec Tryz.prog 129 [rep a1, rep b1, refS (fn1 Tryz.prog tup3 c0_1)] (rep r) := by
 unfold page_Spread_2 at h
 obtain ⟨r1, hv1, h⟩ := bind_some h
 obtain ⟨r2, hv2, h⟩ := bind_some h
 obtain ⟨r3, hv3, h⟩ := bind_some h
 obtain ⟨r4, hv4, h⟩ := bind_some h
 obtain ⟨r5, hv5, h⟩ := bind_some h
 refine FSpec.i Tryz.func129 rfl Tryz.ntmps129 rfl (fun F => (.sn mx (.asi (.nil (.sn mx (.c (.loadF .none tr162 (.s rfl)) (.mv rfl (.c (.callV (a1, r1) .none (.s rfl) (fun _ => hv1) (.cons (.s rfl) .nil)) (.mv rfl (.ex rfl rfl (.ex rfl rfl (.ex rfl rfl (.asn rfl (.asn rfl (.asn rfl (.nil (.sn mx (.c (.loadF .none tr162 (.s rfl)) (.mv rfl (.c (.callV (b1, r2) .none (.s rfl) (fun _ => hv2) (.cons (.s rfl) .nil)) (.mv rfl (.ex rfl rfl (.ex rfl rfl (.ex rfl rfl (.asn rfl (.asn rfl (.asn rfl (.nil (.sn mx (.mv rfl (.mv rfl (.c (.call .none (cmp_Compare_int_ok hv3) (.cons (.s rfl) (.cons (.s rfl) .nil))) (.mv rfl (.mv rfl (.c (.call .none (cmp_Compare_int_ok hv4) (.cons (.s rfl) (.cons (.s rfl) .nil))) (.c (.buildSlice (xs := [_, _]) .none sl118 ty3 hz3 (.cons (.s rfl) (.cons (.s rfl) .nil)) rfl (by decide)) (.c (.call .none (cmp_Or_int_ok hv5) (.cons (.s rfl) .nil)) (.asn rfl (.nil (.ret ?_))))))))))))))))))))))))))))))))))))))))
 obtain rfl := some_eq h
 exact Ends.rt Tryz.results129 rfl

theorem slices_insertionSortCmpFunc_int_ok {data1 : (List Int)} {a1 : Int} {b1 : Int} {cmp1 : (Int → Int → Option Int)} {r : (List Int)} {s53 : Value} (h : slices_insertionSortCmpFunc_int data1 a1 b1 cmp1 = some r) : FSpecO Tryz.prog 199 [isV s53, rep a1, rep b1, fn2 Tryz.prog (rep (α := Int)) cmp1] [(s53, rowV 3 data1)] (anyV) [some (rowV 3 r)] := by
 unfold slices_insertionSortCmpFunc_int at h
 obtain ⟨i1, hv1, h⟩ := bnd_some h
 refine FSpecO.i Tryz.func199 rfl Tryz.ntmps199 rfl (fun F => (.sn mx (.mv rfl (.adi rfl (.ra hv1 rfl (.nil (.block (.loopL h (fun s2_ => [(8, ⟨True, rep s2_.1⟩)]) (fun s2_ => [(53, some (CPred.at s53 (rowV 3 s2_.2)))]) (.k 8 rfl .nil) (.k 53 rfl .nil) (.k4 0 1 2 3 rfl rfl rfl rfl .nil) SubB.nil (fun s2_ o_2 h hD2 => ?_)))))))))
 unfold slices_insertionSortCmpFunc_int_L1 at h
 refine .seq (.sn mx (.mv rfl (.mv rfl (.lt rfl rfl (.nil (.cb rfl h (fun _ h => ?_) fun _ h => ?_))))))
 ·
  refine .skip (.then (.seq ?_))
  obtain ⟨j_4, h, hK4⟩ := bind_some h
  refine .thenJ (ι := (List Int)) (fun j_4 => []) (fun j_4 => [(53, some (CPred.at s53 (rowV 3 j_4)))]) (fun s => j_4 = s) (.k4 0 1 2 3 rfl rfl rfl rfl (.k 8 rfl .nil)) SubB.nil ?_ (fun j_4' hj4 => ?_)
  ·
   refine .block (.sn mx (.mv rfl (.asn rfl (.nil (.block (.loopL h (fun s5_ => [(9, ⟨True, rep s5_.1⟩)]) (fun s5_ => [(53, some (CPred.at s53 (rowV 3 s5_.2)))]) (.k 9 rfl .nil) (.k 53 rfl .nil) (.k4 0 1 2 3 rfl rfl rfl rfl (.k 8 rfl .nil)) SubB.nil (fun s5_ o_5 h hD5 => ?_)))))))
   unfold slices_insertionSortCmpFunc_int_L2 at h
   obtain ⟨hn6, h⟩ := need_some h
   obtain ⟨hn7, h⟩ := need_some h
   obtain ⟨r1, hv8, h⟩ := bind_some h
   refine .seq (.sr [oo, oo, oo, oo, oo, oo, oo, ([53], []), ([53], []), oo, oo, oo, ([53], []), ([53], []), oo, oo, oo] mx (.mvA rfl (.mvA rfl (.cA (.gt .none (.s rfl) (.s rfl)) (.mvA rfl (.cA (.move (.at rfl rfl) (.s rfl)) (.cA (.move (.at rfl rfl) (.s rfl)) (.cA (.move (.at rfl rfl) (.s rfl)) (.cA (.indexAddrO (k := 53) (.at rfl rfl) sl118 ty3 (.tmp rfl id) rfl (.tmp rfl id) (fun hg => hn6 hg.2)) (.cA (.loadElem0 (k := 53) (.at rfl rfl) ty3 (.tmp rfl id) rfl (fun hg => hn6 hg.2)) (.cA (.move (.at rfl rfl) (.s rfl)) (.cA (.move (.at rfl rfl) (.s rfl)) (.cA (.subW (.at rfl rfl) (.tmp rfl id) .i) (.cA (.indexAddrO (k := 53) (.at rfl rfl) sl118 ty3 (.tmp rfl id) rfl (.tmp rfl id) (fun hg => hn7 hg.2)) (.cA (.loadElem0 (k := 53) (.at rfl rfl) ty3 (.tmp rfl id) rfl (fun hg => hn7 hg.2)) (.cA (.callV (gx s5_.2 s5_.1, gx s5_.2 (W (s5_.1 - 1)), r1) (.at rfl rfl) (.tmp rfl id) (fun hg => gd_some hv8 (hg.2)) (.cons (.tmp rfl id) (.cons (.tmp rfl id) .nil))) (.cA (.lt (.at rfl rfl) (.tmp rfl id) .i) (.cA (.pickAnd .none (.s rfl) (.tmp rfl id)) (.nil (.cb rfl h (fun _ h => ?_) fun _ h => ?_))))))))))))))))))))
   ·
    obtain ⟨hn10, h⟩ := need_some h
    obtain ⟨v1, hv11, h⟩ := bnd_some h
    obtain ⟨hn12, h⟩ := need_some h
    obtain ⟨v2, hv13, h⟩ := bnd_some h
    obtain ⟨hn14, h⟩ := need_some h
    obtain ⟨hn15, h⟩ := need_some h
    obtain ⟨data2, hv16, h⟩ := bnd_some h
    obtain ⟨j1, hv17, h⟩ := bnd_some h
    exact .skip (.then (.seq (.block (.rg [oo, oo, oo, oo, oo, oo, oo, oo, ([53], []), ([53], []), oo, oo, ([53], []), ([53], []), ([53], []), ([53], [53]), ([53], []), ([53], [53])] mx (.mvA rfl (.mvA rfl (.mvA rfl (.mvA rfl (.cA (.subW .none (.s rfl) .i) (.mvA rfl (.mvA rfl (.cA (.subW .none (.s rfl) .i) (.ixO 53 sl118 ty3 rfl rfl rfl hn10 (.cA (.re hv11 (.loadElem0 (k := 53) .none ty3 (.s rfl) rfl (fun _ => hn10))) (.mvA rfl (.mvA rfl (.ixO 53 sl118 ty3 rfl rfl rfl hn12 (.cA (.re hv13 (.loadElem0 (k := 53) .none ty3 (.s rfl) rfl (fun _ => hn12))) (.ixO 53 sl118 ty3 rfl rfl rfl hn14 (.cN (.storeElem0 (k := 53) ty3 (.s rfl) rfl (.s rfl) hn14) (.ixO 53 sl118 ty3 rfl rfl rfl hn15 (.cN (.storeElem0 (k := 53) ty3 (.s rfl) rfl (.s rfl) hn15) (.nil (.blkNormal (.then (.reB (t := 53) rfl (congrArg (fun y => CPred.at s53 (rowV 3 y)) hv16) (.rn mx (.mv rfl (.c (.subW .none (.s rfl) .i) (.ra hv17 rfl (.nil (Ends.ag (some_eq h)))))))))))))))))))))))))))))))))
   ·
    refine .exit (.thenExit (.thenExit (.blkExit (.blkNormal ?_))))
    replace h := hD5 _ (some_eq h)
    exact Ends.j _ (some_eq h)
  ·
   subst hj4; have h := hK4; clear hK4
   obtain ⟨i2, hv18, h⟩ := bnd_some h
   exact .rn mx (.mv rfl (.adi rfl (.ra hv18 rfl (.nil (Ends.ag (some_eq h))))))
 ·
  refine .exit (.thenExit (.thenExit (.blkExit ?_)))
  replace h := hD2 _ (some_eq h)
  obtain rfl := some_eq h
  exact Ends.ret0O (.inr rfl) [53] Tryz.results199 (by decide) (.held rfl .nil)

theorem slices_swapRangeCmpFunc_int_ok {data1 : (List Int)} {a1 : Int} {b1 : Int} {n1 : Int} {cmp1 : (Int → Int → Option Int)} {r : (List Int)} {s38 : Value} (h : slices_swapRangeCmpFunc_int data1 a1 b1 n1 cmp1 = some r) : FSpecO Tryz.prog 214 [isV s38, rep a1, rep b1, rep n1, fn2 Tryz.prog (rep (α := Int)) cmp1] [(s38, rowV 3 data1)] (anyV) [some (rowV 3 r)] := by
 unfold slices_swapRangeCmpFunc_int at h
 refine FSpecO.i Tryz.func214 rfl Tryz.ntmps214 rfl (fun F => (.sn mx (.asi (.nil (.block (.loopL h (fun s1_ => [(10, ⟨True, rep s1_.1⟩)]) (fun s1_ => [(38, some (CPred.at s38 (rowV 3 s1_.2)))]) (.k 10 rfl .nil) (.k 38 rfl .nil) (.k4 0 1 2 3 rfl rfl rfl rfl .nil) SubB.nil (fun s1_ o_1 h hD1 => ?_)))))))
 unfold slices_swapRangeCmpFunc_int_L1 at h
 refine .seq (.sn mx (.mv rfl (.mv rfl (.lt rfl rfl (.nil (.cb rfl h (fun _ h => ?_) fun _ h => ?_))))))
 ·
  obtain ⟨hn3, h⟩ := need_some h
  obtain ⟨v1, hv4, h⟩ := bnd_some h
  obtain ⟨hn5, h⟩ := need_some h
  obtain ⟨v2, hv6, h⟩ := bnd_some h
  obtain ⟨hn7, h⟩ := need_some h
  obtain ⟨hn8, h⟩ := need_some h
  obtain ⟨data2, hv9, h⟩ := bnd_some h
  obtain ⟨i1, hv10, h⟩ := bnd_some h
  exact .skip (.then (.seq (.block (.rg [oo, oo, oo, oo, oo, oo, oo, oo, oo, oo, oo, oo, ([38], []), ([38], []), oo, oo, oo, oo, ([38], []), ([38], []), ([38], []), ([38], [38]), ([38], []), ([38], [38])] mx (.mvA rfl (.mvA rfl (.mvA rfl (.addA rfl rfl (.mvA rfl (.mvA rfl (.mvA rfl (.addA rfl rfl (.mvA rfl (.mvA rfl (.mvA rfl (.addA rfl rfl (.ixO 38 sl118 ty3 rfl rfl rfl hn3 (.cA (.re hv4 (.loadElem0 (k := 38) .none ty3 (.s rfl) rfl (fun _ => hn3))) (.mvA rfl (.mvA rfl (.mvA rfl (.addA rfl rfl (.ixO 38 sl118 ty3 rfl rfl rfl hn5 (.cA (.re hv6 (.loadElem0 (k := 38) .none ty3 (.s rfl) rfl (fun _ => hn5))) (.ixO 38 sl118 ty3 rfl rfl rfl hn7 (.cN (.storeElem0 (k := 38) ty3 (.s rfl) rfl (.s rfl) hn7) (.ixO 38 sl118 ty3 rfl rfl rfl hn8 (.cN (.storeElem0 (k := 38) ty3 (.s rfl) rfl (.s rfl) hn8) (.nil (.blkNormal (.then (.reB (t := 38) rfl (congrArg (fun y => CPred.at s38 (rowV 3 y)) hv9) (.rn mx (.mv rfl (.adi rfl (.ra hv10 rfl (.nil (Ends.ag (some_eq h)))))))))))))))))))))))))))))))))))))))
 ·
  refine .exit (.thenExit (.thenExit (.blkExit ?_)))
  replace h := hD1 _ (some_eq h)
  obtain rfl := some_eq h
  exact Ends.ret0O (.inr rfl) [38] Tryz.results214 (by decide) (.held rfl .nil)

theorem slices_rotateCmpFunc_int_ok {data1 : (List Int)} {a1 : Int} {m1 : Int} {b1 : Int} {cmp1 : (Int → Int → Option Int)} {r : (List Int)} {s58 : Value} (h : slices_rotateCmpFunc_int data1 a1 m1 b1 cmp1 = some r) : FSpecO Tryz.prog 209 [isV s58, rep a1, rep m1, rep b1, fn2 Tryz.prog (rep (α := Int)) cmp1] [(s58, rowV 3 data1)] (anyV) [some (rowV 3 r)] := by
 unfold slices_rotateCmpFunc_int at h
 obtain ⟨i1, hv1, h⟩ := bnd_some h
 obtain ⟨j1, hv2, h⟩ := bnd_some h
 refine FSpecO.i Tryz.func209 rfl Tryz.ntmps209 rfl (fun F => (.sn mx (.mv rfl (.mv rfl (.sub rfl rfl (.ra hv1 rfl (.nil (.sn mx (.mv rfl (.mv rfl (.sub rfl rfl (.ra hv2 rfl (.nil (.seq ?_))))))))))))))
 obtain ⟨j_3, h, hK3⟩ := bind_some h
 refine .thenJ (ι := (Int × (List Int))) (fun j_3 => [(10, ⟨True, rep j_3.1⟩)]) (fun j_3 => [(58, some (CPred.at s58 (rowV 3 j_3.2)))]) (fun s => j_3 = s) (.k2 0 2 rfl rfl (.k 4 rfl .nil)) SubB.nil ?_ (fun j_3' hj3 => ?_)
 ·
  refine .block (.loopL h (fun s4_ => [(10, ⟨True, rep s4_.1⟩), (11, ⟨True, rep s4_.2.1⟩)]) (fun s4_ => [(58, some (CPred.at s58 (rowV 3 s4_.2.2)))]) (.k2 10 11 rfl rfl .nil) (.k 58 rfl .nil) (.k2 0 2 rfl rfl (.k 4 rfl .nil)) SubB.nil (fun s4_ o_4 h hD4 => ?_))
  unfold slices_rotateCmpFunc_int_L1 at h
  refine .seq (.sn mx (.mv rfl (.mv rfl (.c (.neI .none (.s rfl) (.s rfl)) (.nil (.cb rfl h (fun _ h => ?_) fun _ h => ?_))))))
  ·
   refine .skip (.then (.block (.sn mx (.mv rfl (.mv rfl (.c (.gt .none (.s rfl) (.s rfl)) (.nil (.cb rfl h (fun _ h => ?_) fun _ h => ?_))))))))
   ·
    obtain ⟨r1, hv7, h⟩ := bind_some h
    obtain ⟨i2, hv8, h⟩ := bnd_some h
    exact .sr [oo, oo, oo, oo, oo, oo, oo, ([58], [58])] mx (.mvA rfl (.mvA rfl (.mvA rfl (.subA rfl rfl (.mvA rfl (.mvA rfl (.mvA rfl (.cW (.cO [58] (slices_swapRangeCmpFunc_int_ok hv7) (.cons (.s rfl) (.cons (.s rfl) (.cons (.s rfl) (.cons (.s rfl) (.cons (.s rfl) .nil))))) (.cons (k := 58) rfl .nil) rfl) (.nil (.rn mx (.mv rfl (.mv rfl (.sub rfl rfl (.ra hv8 rfl (.nil (.blkNormal (Ends.ag (some_eq h))))))))))))))))))
   ·
    obtain ⟨r2, hv9, h⟩ := bind_some h
    obtain ⟨j2, hv10, h⟩ := bnd_some h
    exact .sr [oo, oo, oo, oo, oo, oo, oo, oo, oo, oo, oo, ([58], [58])] mx (.mvA rfl (.mvA rfl (.mvA rfl (.subA rfl rfl (.mvA rfl (.mvA rfl (.addA rfl rfl (.mvA rfl (.subA rfl rfl (.mvA rfl (.mvA rfl (.cW (.cO [58] (slices_swapRangeCmpFunc_int_ok hv9) (.cons (.s rfl) (.cons (.s rfl) (.cons (.s rfl) (.cons (.s rfl) (.cons (.s rfl) .nil))))) (.cons (k := 58) rfl .nil) rfl) (.nil (.rn mx (.mv rfl (.mv rfl (.sub rfl rfl (.ra hv10 rfl (.nil (.blkNormal (Ends.ag (some_eq h))))))))))))))))))))))
  ·
   refine .exit (.thenExit (.thenExit (.blkExit ?_)))
   replace h := hD4 _ (some_eq h)
   exact Ends.j _ (some_eq h)
 ·
  subst hj3; have h := hK3; clear hK3
  obtain ⟨r3, hv11, h⟩ := bind_some h
  refine .rg [oo, oo, oo, oo, oo, oo, oo, ([58], [58])] mx (.mvA rfl (.mvA rfl (.mvA rfl (.subA rfl rfl (.mvA rfl (.mvA rfl (.mvA rfl (.cW (.cO [58] (slices_swapRangeCmpFunc_int_ok hv11) (.cons (.s rfl) (.cons (.s rfl) (.cons (.s rfl) (.cons (.s rfl) (.cons (.s rfl) .nil))))) (.cons (k := 58) rfl .nil) rfl) (.nil ?_)))))))))
  obtain rfl := some_eq h
  exact Ends.ret0O (.inr rfl) [58] Tryz.results209 (by decide) (.held rfl .nil)

set_option maxHeartbeats 4000000 in
theorem slices_symMergeCmpFunc_int_okS {self : ((List Int) × Int × Int × Int × (Int → Int → Option Int)) → Option (List Int)} (hself : ∀ {s220 : Value} (x : ((List Int) × Int × Int × Int × (Int → Int → Option Int))) (r : (List Int)), self x = some r → FSpecO Tryz.prog 200 [isV s220, rep x.2.1, rep x.2.2.1, rep x.2.2.2.1, fn2 Tryz.prog (rep (α := Int)) x.2.2.2.2] [(s220, rowV 3 x.1)] (anyV) [some (rowV 3 r)]) {s220 : Value} {x : ((List Int) × Int × Int × Int × (Int → Int → Option Int))} {r : (List Int)} (h : slices_symMergeCmpFunc_int_body self x = some r) : FSpecO Tryz.prog 200 [isV s220, rep x.2.1, rep x.2.2.1, rep x.2.2.2.1, fn2 Tryz.prog (rep (α := Int)) x.2.2.2.2] [(s220, rowV 3 x.1)] (anyV) [some (rowV 3 r)] := by
 unfold slices_symMergeCmpFunc_int_body at h
 refine FSpecO.i Tryz.func200 rfl Tryz.ntmps200 rfl (fun F => (.seq (.sn mx (.mv rfl (.mv rfl (.sub rfl rfl (.eqi rfl (.nil ?_))))))))
 obtain ⟨o_1, h, hK1⟩ := bindR_some h
 refine .tJ (fun s => o_1 = Res.nx s) (.k4 0 1 2 3 rfl rfl rfl rfl (.k 4 rfl .nil)) (.k 220 rfl .nil) ?_ (fun j_1 hj1 => ?_)
 ·
  refine .cb rfl h (fun _ h => ?_) fun _ h => ?_
  ·
   refine .sn mx (.mv rfl (.asn rfl (.nil (.sn mx (.mv rfl (.asn rfl (.nil (.seq ?_))))))))
   obtain ⟨j_3, h, hK3⟩ := bind_some h
   refine .thenJ (ι := Int) (fun j_3 => [(10, ⟨True, rep j_3⟩)]) (fun j_3 => []) (fun s => j_3 = s) (.k2 0 1 rfl rfl .nil) (.k 220 rfl .nil) ?_ (fun j_3' hj3 => ?_)
   ·
    refine .block (.loopL h (fun s4_ => [(10, ⟨True, rep s4_.1⟩), (11, ⟨True, rep s4_.2⟩)]) (fun s4_ => []) (.k2 10 11 rfl rfl .nil) SubB.nil (.k2 0 1 rfl rfl (.k 4 rfl .nil)) (.k 220 rfl .nil) (fun s4_ o_4 h hD4 => ?_))
    unfold slices_symMergeCmpFunc_int_L1 at h
    refine .seq (.sn mx (.mv rfl (.mv rfl (.lt rfl rfl (.nil (.cb rfl h (fun _ h => ?_) fun _ h => ?_))))))
    ·
     obtain ⟨h1, hv6, h⟩ := bnd_some h
     obtain ⟨hn7, h⟩ := need_some h
     obtain ⟨hn8, h⟩ := need_some h
     obtain ⟨r1, hv9, h⟩ := bind_some h
     refine .skip (.then (.block (.sn mx (.mv rfl (.mv rfl (.add rfl rfl (.c (.toK .none (by kernel_rfl) Tryz.underlying233 (.s rfl)) (.c (.kshr .none (.s rfl) .ki (fun _ => by decide)) (.c (.toInt .none (by kernel_rfl) Tryz.underlying3 (.s rfl)) (.ra hv6 rfl (.nil (.sr [oo, oo, oo, ([220], []), ([220], []), oo, oo, ([220], []), ([220], []), oo, oo] mx (.mvA rfl (.mvA rfl (.mvA rfl (.ixO 220 sl118 ty3 rfl rfl rfl hn7 (.cA (.loadElem0 (k := 220) .none ty3 (.s rfl) rfl (fun _ => hn7)) (.mvA rfl (.mvA rfl (.ixO 220 sl118 ty3 rfl rfl rfl hn8 (.cA (.loadElem0 (k := 220) .none ty3 (.s rfl) rfl (fun _ => hn8)) (.cA (.callV (gx x.1 h1, gx x.1 x.2.1, r1) .none (.s rfl) (fun _ => hv9) (.cons (.s rfl) (.cons (.s rfl) .nil))) (.cA (.lt .none (.s rfl) .i) (.nil (.cb rfl h (fun _ h => ?_) fun _ h => ?_)))))))))))))))))))))))))
     ·
      obtain ⟨i1, hv11, h⟩ := bnd_some h
      exact .rn mx (.mv rfl (.adi rfl (.ra hv11 rfl (.nil (.blkNormal (Ends.ag (some_eq h)))))))
     ·
      exact .rn mx (.mv rfl (.asn rfl (.nil (.blkNormal (Ends.ag (some_eq h))))))
    ·
     refine .exit (.thenExit (.thenExit (.blkExit ?_)))
     replace h := hD4 _ (some_eq h)
     exact Ends.j _ (some_eq h)
   ·
    subst hj3; have h := hK3; clear hK3
    refine .seq (.sn mx (.mv rfl (.asn rfl (.nil ?_))))
    obtain ⟨j_12, h, hK12⟩ := bind_some h
    refine .thenJ (ι := (List Int)) (fun j_12 => []) (fun j_12 => [(220, some (CPred.at s220 (rowV 3 j_12)))]) (fun s => j_12 = s) Sub.nil SubB.nil ?_ (fun j_12' hj12 => ?_)
    ·
     refine .block (.loopL h (fun s13_ => [(13, ⟨True, rep s13_.1⟩)]) (fun s13_ => [(220, some (CPred.at s220 (rowV 3 s13_.2)))]) (.k 13 rfl .nil) (.k 220 rfl .nil) (.k2 0 10 rfl rfl .nil) SubB.nil (fun s13_ o_13 h hD13 => ?_))
     unfold slices_symMergeCmpFunc_int_L2 at h
     refine .seq (.sn mx (.mv rfl (.mv rfl (.c (.subW .none (.s rfl) .i) (.lt rfl rfl (.nil (.cb rfl h (fun _ h => ?_) fun _ h => ?_)))))))
     ·
      obtain ⟨hn15, h⟩ := need_some h
      obtain ⟨v1, hv16, h⟩ := bnd_some h
      obtain ⟨hn17, h⟩ := need_some h
      obtain ⟨v2, hv18, h⟩ := bnd_some h
      obtain ⟨hn19, h⟩ := need_some h
      obtain ⟨hn20, h⟩ := need_some h
      obtain ⟨data2, hv21, h⟩ := bnd_some h
      obtain ⟨k1, hv22, h⟩ := bnd_some h
      exact .skip (.then (.seq (.block (.rg [oo, oo, oo, oo, oo, oo, oo, oo, ([220], []), ([220], []), oo, oo, ([220], []), ([220], []), ([220], []), ([220], [220]), ([220], []), ([220], [220])] mx (.mvA rfl (.mvA rfl (.mvA rfl (.mvA rfl (.cA (.addW .none (.s rfl) .i) (.mvA rfl (.mvA rfl (.cA (.addW .none (.s rfl) .i) (.ixO 220 sl118 ty3 rfl rfl rfl hn15 (.cA (.re hv16 (.loadElem0 (k := 220) .none ty3 (.s rfl) rfl (fun _ => hn15))) (.mvA rfl (.mvA rfl (.ixO 220 sl118 ty3 rfl rfl rfl hn17 (.cA (.re hv18 (.loadElem0 (k := 220) .none ty3 (.s rfl) rfl (fun _ => hn17))) (.ixO 220 sl118 ty3 rfl rfl rfl hn19 (.cN (.storeElem0 (k := 220) ty3 (.s rfl) rfl (.s rfl) hn19) (.ixO 220 sl118 ty3 rfl rfl rfl hn20 (.cN (.storeElem0 (k := 220) ty3 (.s rfl) rfl (.s rfl) hn20) (.nil (.blkNormal (.then (.reB (t := 220) rfl (congrArg (fun y => CPred.at s220 (rowV 3 y)) hv21) (.rn mx (.mv rfl (.adi rfl (.ra hv22 rfl (.nil (Ends.ag (some_eq h)))))))))))))))))))))))))))))))))
     ·
      refine .exit (.thenExit (.thenExit (.blkExit ?_)))
      replace h := hD13 _ (some_eq h)
      exact Ends.j _ (some_eq h)
    ·
     subst hj12; have h := hK12; clear hK12
     refine .ret (.thenRet ?_)
     replace h := resb_ab hK1 (some_eq h)
     obtain rfl := some_eq h
     exact Ends.ret0O (.inl rfl) [220] Tryz.results200 (by decide) (.held rfl .nil)
  ·
   exact .skip (Ends.j _ (some_eq h))
 ·
  have h := resb_nx hK1 hj1
  refine .seq (.sn mx (.mv rfl (.mv rfl (.sub rfl rfl (.eqi rfl (.nil ?_))))))
  obtain ⟨o_23, h, hK23⟩ := bindR_some h
  refine .tJ (fun s => o_23 = Res.nx s) (.k4 0 1 2 3 rfl rfl rfl rfl (.k 4 rfl .nil)) (.k 220 rfl .nil) ?_ (fun j_23 hj23 => ?_)
  ·
   refine .cb rfl h (fun _ h => ?_) fun _ h => ?_
   ·
    refine .sn mx (.mv rfl (.asn rfl (.nil (.sn mx (.mv rfl (.asn rfl (.nil (.seq ?_))))))))
    obtain ⟨j_25, h, hK25⟩ := bind_some h
    refine .thenJ (ι := Int) (fun j_25 => [(14, ⟨True, rep j_25⟩)]) (fun j_25 => []) (fun s => j_25 = s) (.k2 0 2 rfl rfl .nil) (.k 220 rfl .nil) ?_ (fun j_25' hj25 => ?_)
    ·
     refine .block (.loopL h (fun s26_ => [(14, ⟨True, rep s26_.1⟩), (15, ⟨True, rep s26_.2⟩)]) (fun s26_ => []) (.k2 14 15 rfl rfl .nil) SubB.nil (.k2 0 2 rfl rfl (.k 4 rfl .nil)) (.k 220 rfl .nil) (fun s26_ o_26 h hD26 => ?_))
     unfold slices_symMergeCmpFunc_int_L3 at h
     refine .seq (.sn mx (.mv rfl (.mv rfl (.lt rfl rfl (.nil (.cb rfl h (fun _ h => ?_) fun _ h => ?_))))))
     ·
      obtain ⟨h2, hv28, h⟩ := bnd_some h
      obtain ⟨hn29, h⟩ := need_some h
      obtain ⟨hn30, h⟩ := need_some h
      obtain ⟨r2, hv31, h⟩ := bind_some h
      refine .skip (.then (.block (.sn mx (.mv rfl (.mv rfl (.add rfl rfl (.c (.toK .none (by kernel_rfl) Tryz.underlying233 (.s rfl)) (.c (.kshr .none (.s rfl) .ki (fun _ => by decide)) (.c (.toInt .none (by kernel_rfl) Tryz.underlying3 (.s rfl)) (.ra hv28 rfl (.nil (.sr [oo, oo, oo, ([220], []), ([220], []), oo, oo, ([220], []), ([220], []), oo, oo, oo] mx (.mvA rfl (.mvA rfl (.mvA rfl (.ixO 220 sl118 ty3 rfl rfl rfl hn29 (.cA (.loadElem0 (k := 220) .none ty3 (.s rfl) rfl (fun _ => hn29)) (.mvA rfl (.mvA rfl (.ixO 220 sl118 ty3 rfl rfl rfl hn30 (.cA (.loadElem0 (k := 220) .none ty3 (.s rfl) rfl (fun _ => hn30)) (.cA (.callV (gx x.1 x.2.2.1, gx x.1 h2, r2) .none (.s rfl) (fun _ => hv31) (.cons (.s rfl) (.cons (.s rfl) .nil))) (.cA (.lt .none (.s rfl) .i) (.cA (.not .none (.s rfl)) (.nil (.cb rfl h (fun _ h => ?_) fun _ h => ?_))))))))))))))))))))))))))
      ·
       obtain ⟨i2, hv33, h⟩ := bnd_some h
       exact .rn mx (.mv rfl (.adi rfl (.ra hv33 rfl (.nil (.blkNormal (Ends.ag (some_eq h)))))))
      ·
       exact .rn mx (.mv rfl (.asn rfl (.nil (.blkNormal (Ends.ag (some_eq h))))))
     ·
      refine .exit (.thenExit (.thenExit (.blkExit ?_)))
      replace h := hD26 _ (some_eq h)
      exact Ends.j _ (some_eq h)
    ·
     subst hj25; have h := hK25; clear hK25
     refine .seq (.sn mx (.mv rfl (.asn rfl (.nil ?_))))
     obtain ⟨j_34, h, hK34⟩ := bind_some h
     refine .thenJ (ι := (List Int)) (fun j_34 => []) (fun j_34 => [(220, some (CPred.at s220 (rowV 3 j_34)))]) (fun s => j_34 = s) Sub.nil SubB.nil ?_ (fun j_34' hj34 => ?_)
     ·
      refine .block (.loopL h (fun s35_ => [(17, ⟨True, rep s35_.1⟩)]) (fun s35_ => [(220, some (CPred.at s220 (rowV 3 s35_.2)))]) (.k 17 rfl .nil) (.k 220 rfl .nil) (.k2 0 14 rfl rfl .nil) SubB.nil (fun s35_ o_35 h hD35 => ?_))
      unfold slices_symMergeCmpFunc_int_L4 at h
      refine .seq (.sn mx (.mv rfl (.mv rfl (.c (.gt .none (.s rfl) (.s rfl)) (.nil (.cb rfl h (fun _ h => ?_) fun _ h => ?_))))))
      ·
       obtain ⟨hn37, h⟩ := need_some h
       obtain ⟨v3, hv38, h⟩ := bnd_some h
       obtain ⟨hn39, h⟩ := need_some h
       obtain ⟨v4, hv40, h⟩ := bnd_some h
       obtain ⟨hn41, h⟩ := need_some h
       obtain ⟨hn42, h⟩ := need_some h
       obtain ⟨data3, hv43, h⟩ := bnd_some h
       obtain ⟨k2, hv44, h⟩ := bnd_some h
       exact .skip (.then (.seq (.block (.rg [oo, oo, oo, oo, oo, oo, oo, oo, ([220], []), ([220], []), oo, oo, ([220], []), ([220], []), ([220], []), ([220], [220]), ([220], []), ([220], [220])] mx (.mvA rfl (.mvA rfl (.mvA rfl (.mvA rfl (.cA (.subW .none (.s rfl) .i) (.mvA rfl (.mvA rfl (.cA (.subW .none (.s rfl) .i) (.ixO 220 sl118 ty3 rfl rfl rfl hn37 (.cA (.re hv38 (.loadElem0 (k := 220) .none ty3 (.s rfl) rfl (fun _ => hn37))) (.mvA rfl (.mvA rfl (.ixO 220 sl118 ty3 rfl rfl rfl hn39 (.cA (.re hv40 (.loadElem0 (k := 220) .none ty3 (.s rfl) rfl (fun _ => hn39))) (.ixO 220 sl118 ty3 rfl rfl rfl hn41 (.cN (.storeElem0 (k := 220) ty3 (.s rfl) rfl (.s rfl) hn41) (.ixO 220 sl118 ty3 rfl rfl rfl hn42 (.cN (.storeElem0 (k := 220) ty3 (.s rfl) rfl (.s rfl) hn42) (.nil (.blkNormal (.then (.reB (t := 220) rfl (congrArg (fun y => CPred.at s220 (rowV 3 y)) hv43) (.rn mx (.mv rfl (.c (.subW .none (.s rfl) .i) (.ra hv44 rfl (.nil (Ends.ag (some_eq h)))))))))))))))))))))))))))))))))
      ·
       refine .exit (.thenExit (.thenExit (.blkExit ?_)))
       replace h := hD35 _ (some_eq h)
       exact Ends.j _ (some_eq h)
     ·
      subst hj34; have h := hK34; clear hK34
      refine .ret (.thenRet ?_)
      replace h := resb_ab hK23 (some_eq h)
      obtain rfl := some_eq h
      exact Ends.ret0O (.inl rfl) [220] Tryz.results200 (by decide) (.held rfl .nil)
   ·
    exact .skip (Ends.j _ (some_eq h))
  ·
   have h := resb_nx hK23 hj23
   obtain ⟨mid1, hv45, h⟩ := bnd_some h
   obtain ⟨n1, hv46, h⟩ := bnd_some h
   refine .sn mx (.mv rfl (.mv rfl (.add rfl rfl (.c (.toK .none (by kernel_rfl) Tryz.underlying233 (.s rfl)) (.c (.kshr .none (.s rfl) .ki (fun _ => by decide)) (.c (.toInt .none (by kernel_rfl) Tryz.underlying3 (.s rfl)) (.ra hv45 rfl (.nil (.sn mx (.mv rfl (.mv rfl (.add rfl rfl (.ra hv46 rfl (.nil (.sn mx (.asi (.asi (.nil (.seq (.sn mx (.mv rfl (.mv rfl (.c (.gt .none (.s rfl) (.s rfl)) (.nil ?_))))))))))))))))))))))))
   obtain ⟨j_47, h, hK47⟩ := bind_some h
   refine .thenJ (ι := (Int × Int)) (fun j_47 => [(20, ⟨True, rep j_47.1⟩), (21, ⟨True, rep j_47.2⟩)]) (fun j_47 => []) (fun s => j_47 = s) (.k4 0 1 2 3 rfl rfl rfl rfl (.k2 4 18 rfl rfl (.k 19 rfl .nil))) (.k 220 rfl .nil) ?_ (fun j_47' hj47 => ?_)
   ·
    refine .cb rfl h (fun _ h => ?_) fun _ h => ?_
    ·
     obtain ⟨start1, hv49, h⟩ := bnd_some h
     exact .sn mx (.mv rfl (.mv rfl (.sub rfl rfl (.ra hv49 rfl (.nil (.rn mx (.mv rfl (.asn rfl (.nil (Ends.j _ (some_eq h)))))))))))
    ·
     exact .sn mx (.mv rfl (.asn rfl (.nil (.rn mx (.mv rfl (.asn rfl (.nil (Ends.j _ (some_eq h)))))))))
   ·
    subst hj47; have h := hK47; clear hK47
    refine .sn mx (.mv rfl (.c (.subW .none (.s rfl) .i) (.asn rfl (.nil (.seq ?_)))))
    obtain ⟨j_50, h, hK50⟩ := bind_some h
    refine .thenJ (ι := Int) (fun j_50 => [(20, ⟨True, rep j_50⟩)]) (fun j_50 => []) (fun s => j_50 = s) (.k4 0 1 2 3 rfl rfl rfl rfl (.k2 4 18 rfl rfl (.k 19 rfl .nil))) (.k 220 rfl .nil) ?_ (fun j_50' hj50 => ?_)
    ·
     refine .block (.loopL h (fun s51_ => [(20, ⟨True, rep s51_.1⟩), (21, ⟨True, rep s51_.2⟩)]) (fun s51_ => []) (.k2 20 21 rfl rfl .nil) SubB.nil (.k4 0 1 2 3 rfl rfl rfl rfl (.k4 4 18 19 22 rfl rfl rfl rfl .nil)) (.k 220 rfl .nil) (fun s51_ o_51 h hD51 => ?_))
     unfold slices_symMergeCmpFunc_int_L5 at h
     refine .seq (.sn mx (.mv rfl (.mv rfl (.lt rfl rfl (.nil (.cb rfl h (fun _ h => ?_) fun _ h => ?_))))))
     ·
      obtain ⟨c1, hv53, h⟩ := bnd_some h
      obtain ⟨hn54, h⟩ := need_some h
      obtain ⟨hn55, h⟩ := need_some h
      obtain ⟨r3, hv56, h⟩ := bind_some h
      refine .skip (.then (.block (.sn mx (.mv rfl (.mv rfl (.add rfl rfl (.c (.toK .none (by kernel_rfl) Tryz.underlying233 (.s rfl)) (.c (.kshr .none (.s rfl) .ki (fun _ => by decide)) (.c (.toInt .none (by kernel_rfl) Tryz.underlying3 (.s rfl)) (.ra hv53 rfl (.nil (.sr [oo, oo, oo, oo, oo, ([220], []), ([220], []), oo, oo, ([220], []), ([220], []), oo, oo, oo] mx (.mvA rfl (.mvA rfl (.mvA rfl (.mvA rfl (.subA rfl rfl (.ixO 220 sl118 ty3 rfl rfl rfl hn54 (.cA (.loadElem0 (k := 220) .none ty3 (.s rfl) rfl (fun _ => hn54)) (.mvA rfl (.mvA rfl (.ixO 220 sl118 ty3 rfl rfl rfl hn55 (.cA (.loadElem0 (k := 220) .none ty3 (.s rfl) rfl (fun _ => hn55)) (.cA (.callV (gx x.1 (W ((W (n1 - 1)) - c1)), gx x.1 c1, r3) .none (.s rfl) (fun _ => hv56) (.cons (.s rfl) (.cons (.s rfl) .nil))) (.cA (.lt .none (.s rfl) .i) (.cA (.not .none (.s rfl)) (.nil (.cb rfl h (fun _ h => ?_) fun _ h => ?_))))))))))))))))))))))))))))
      ·
       obtain ⟨start2, hv58, h⟩ := bnd_some h
       exact .rn mx (.mv rfl (.adi rfl (.ra hv58 rfl (.nil (.blkNormal (Ends.ag (some_eq h)))))))
      ·
       exact .rn mx (.mv rfl (.asn rfl (.nil (.blkNormal (Ends.ag (some_eq h))))))
     ·
      refine .exit (.thenExit (.thenExit (.blkExit ?_)))
      replace h := hD51 _ (some_eq h)
      exact Ends.j _ (some_eq h)
    ·
     subst hj50; have h := hK50; clear hK50
     obtain ⟨end1, hv59, h⟩ := bnd_some h
     refine .sn mx (.mv rfl (.mv rfl (.sub rfl rfl (.ra hv59 rfl (.nil (.seq (.sn mx (.mv rfl (.mv rfl (.lt rfl rfl (.mv rfl (.mg rfl rfl rfl (.mg rfl rfl rfl (.c (.lt (.at rfl rfl) (.tmp rfl id) (.tmp rfl id)) (.pa rfl rfl (.nil ?_))))))))))))))))
     obtain ⟨j_60, h, hK60⟩ := bind_some h
     refine .thenJ (ι := (List Int)) (fun j_60 => []) (fun j_60 => [(220, some (CPred.at s220 (rowV 3 j_60)))]) (fun s => j_60 = s) (.k4 0 1 3 4 rfl rfl rfl rfl (.k2 18 20 rfl rfl (.k 24 rfl .nil))) SubB.nil ?_ (fun j_60' hj60 => ?_)
     ·
      refine .cb rfl h (fun _ h => ?_) fun _ h => ?_
      ·
       obtain ⟨r4, hv62, h⟩ := bind_some h
       exact .rg [oo, oo, oo, oo, oo, ([220], [220])] mx (.mvA rfl (.mvA rfl (.mvA rfl (.mvA rfl (.mvA rfl (.cW (.cO [220] (slices_rotateCmpFunc_int_ok hv62) (.cons (.s rfl) (.cons (.s rfl) (.cons (.s rfl) (.cons (.s rfl) (.cons (.s rfl) .nil))))) (.cons (k := 220) rfl .nil) rfl) (.nil (Ends.j _ (some_eq h)))))))))
      ·
       exact .skip (Ends.j _ (some_eq h))
     ·
      subst hj60; have h := hK60; clear hK60
      refine .seq (.sn mx (.mv rfl (.mv rfl (.lt rfl rfl (.mv rfl (.mg rfl rfl rfl (.mg rfl rfl rfl (.c (.lt (.at rfl rfl) (.tmp rfl id) (.tmp rfl id)) (.pa rfl rfl (.nil ?_))))))))))
      obtain ⟨j_63, h, hK63⟩ := bind_some h
      refine .thenJ (ι := (List Int)) (fun j_63 => []) (fun j_63 => [(220, some (CPred.at s220 (rowV 3 j_63)))]) (fun s => j_63 = s) (.k4 0 3 4 18 rfl rfl rfl rfl (.k 24 rfl .nil)) SubB.nil ?_ (fun j_63' hj63 => ?_)
      ·
       refine .cb rfl h (fun _ h => ?_) fun _ h => ?_
       ·
        obtain ⟨r5, hv65, h⟩ := bind_some h
        exact .rg [oo, oo, oo, oo, oo, ([220], [220])] mx (.mvA rfl (.mvA rfl (.mvA rfl (.mvA rfl (.mvA rfl (.cW (.cO [220] (hself _ _ hv65) (.cons (.s rfl) (.cons (.s rfl) (.cons (.s rfl) (.cons (.s rfl) (.cons (.s rfl) .nil))))) (.cons (k := 220) rfl .nil) rfl) (.nil (Ends.j _ (some_eq h)))))))))
       ·
        exact .skip (Ends.j _ (some_eq h))
      ·
       subst hj63; have h := hK63; clear hK63
       refine .sn mx (.mv rfl (.mv rfl (.lt rfl rfl (.mv rfl (.mg rfl rfl rfl (.mg rfl rfl rfl (.c (.lt (.at rfl rfl) (.tmp rfl id) (.tmp rfl id)) (.pa rfl rfl (.nil (.cb rfl h (fun _ h => ?_) fun _ h => ?_))))))))))
       ·
        obtain ⟨r6, hv67, h⟩ := bind_some h
        refine .rg [oo, oo, oo, oo, oo, ([220], [220])] mx (.mvA rfl (.mvA rfl (.mvA rfl (.mvA rfl (.mvA rfl (.cW (.cO [220] (hself _ _ hv67) (.cons (.s rfl) (.cons (.s rfl) (.cons (.s rfl) (.cons (.s rfl) (.cons (.s rfl) .nil))))) (.cons (k := 220) rfl .nil) rfl) (.nil ?_)))))))
        obtain rfl := some_eq h
        exact Ends.ret0O (.inr rfl) [220] Tryz.results200 (by decide) (.held rfl .nil)
       ·
        refine .skip ?_
        obtain rfl := some_eq h
        exact Ends.ret0O (.inr rfl) [220] Tryz.results200 (by decide) (.held rfl .nil)
theorem slices_symMergeCmpFunc_int_okN : ∀ (k : Nat) {s220 : Value} (x : ((List Int) × Int × Int × Int × (Int → Int → Option Int))) (r : (List Int)) (h : fixN slices_symMergeCmpFunc_int_body k x = some r), FSpecO Tryz.prog 200 [isV s220, rep x.2.1, rep x.2.2.1, rep x.2.2.2.1, fn2 Tryz.prog (rep (α := Int)) x.2.2.2.2] [(s220, rowV 3 x.1)] (anyV) [some (rowV 3 r)]
 | 0, _, x, r, h => by simp [fixN] at h
 | k + 1, _, x, r, h => slices_symMergeCmpFunc_int_okS (slices_symMergeCmpFunc_int_okN k) h
theorem slices_symMergeCmpFunc_int_ok {data1 : (List Int)} {a1 : Int} {m1 : Int} {b1 : Int} {cmp1 : (Int → Int → Option Int)} {r : (List Int)} {s220 : Value} (h : slices_symMergeCmpFunc_int data1 a1 m1 b1 cmp1 = some r) : FSpecO Tryz.prog 200 [isV s220, rep a1, rep m1, rep b1, fn2 Tryz.prog (rep (α := Int)) cmp1] [(s220, rowV 3 data1)] (anyV) [some (rowV 3 r)] :=
 let ⟨k, hk⟩ := fixp_some h
 slices_symMergeCmpFunc_int_okN k (data1, a1, m1, b1, cmp1) r hk

theorem slices_stableCmpFunc_int_ok {data1 : (List Int)} {n1 : Int} {cmp1 : (Int → Int → Option Int)} {r : (List Int)} {s63 : Value} (h : slices_stableCmpFunc_int data1 n1 cmp1 = some r) : FSpecO Tryz.prog 180 [isV s63, rep n1, fn2 Tryz.prog (rep (α := Int)) cmp1] [(s63, rowV 3 data1)] (anyV) [some (rowV 3 r)] := by
 unfold slices_stableCmpFunc_int at h
 refine FSpecO.i Tryz.func180 rfl Tryz.ntmps180 rfl (fun F => (.sn mx (.asi (.nil (.sn mx (.mv rfl (.asi (.asn rfl (.nil (.seq ?_))))))))))
 obtain ⟨j_1, h, hK1⟩ := bind_some h
 refine .thenJ (ι := (Int × (List Int))) (fun j_1 => [(7, ⟨True, rep j_1.1⟩)]) (fun j_1 => [(63, some (CPred.at s63 (rowV 3 j_1.2)))]) (fun s => j_1 = s) (.k4 0 1 2 6 rfl rfl rfl rfl .nil) SubB.nil ?_ (fun j_1' hj1 => ?_)
 ·
  refine .block (.loopL h (fun s2_ => [(7, ⟨True, rep s2_.1⟩), (8, ⟨True, rep s2_.2.1⟩)]) (fun s2_ => [(63, some (CPred.at s63 (rowV 3 s2_.2.2)))]) (.k2 7 8 rfl rfl .nil) (.k 63 rfl .nil) (.k4 0 1 2 6 rfl rfl rfl rfl .nil) SubB.nil (fun s2_ o_2 h hD2 => ?_))
  unfold slices_stableCmpFunc_int_L1 at h
  refine .seq (.sn mx (.mv rfl (.mv rfl (.c (.le .none (.s rfl) (.s rfl)) (.nil (.cb rfl h (fun _ h => ?_) fun _ h => ?_))))))
  ·
   obtain ⟨r1, hv4, h⟩ := bind_some h
   obtain ⟨b1, hv5, h⟩ := bnd_some h
   exact .skip (.then (.block (.sr [oo, oo, oo, oo, ([63], [63])] mx (.mvA rfl (.mvA rfl (.mvA rfl (.mvA rfl (.cW (.cO [63] (slices_insertionSortCmpFunc_int_ok hv4) (.cons (.s rfl) (.cons (.s rfl) (.cons (.s rfl) (.cons (.s rfl) .nil)))) (.cons (k := 63) rfl .nil) rfl) (.nil (.sn mx (.mv rfl (.asn rfl (.nil (.rn mx (.mv rfl (.mv rfl (.add rfl rfl (.ra hv5 rfl (.nil (.blkNormal (Ends.ag (some_eq h))))))))))))))))))))))
  ·
   refine .exit (.thenExit (.thenExit (.blkExit ?_)))
   replace h := hD2 _ (some_eq h)
   exact Ends.j _ (some_eq h)
 ·
  subst hj1; have h := hK1; clear hK1
  obtain ⟨r2, hv6, h⟩ := bind_some h
  refine .sr [oo, oo, oo, oo, ([63], [63])] mx (.mvA rfl (.mvA rfl (.mvA rfl (.mvA rfl (.cW (.cO [63] (slices_insertionSortCmpFunc_int_ok hv6) (.cons (.s rfl) (.cons (.s rfl) (.cons (.s rfl) (.cons (.s rfl) .nil)))) (.cons (k := 63) rfl .nil) rfl) (.nil (.block (.loopL h (fun s7_ => [(6, ⟨True, rep s7_.1⟩)]) (fun s7_ => [(63, some (CPred.at s63 (rowV 3 s7_.2)))]) (.k 6 rfl .nil) (.k 63 rfl .nil) (.k2 0 1 rfl rfl (.k 2 rfl .nil)) SubB.nil (fun s7_ o_7 h hD7 => ?_)))))))))
  unfold slices_stableCmpFunc_int_L2 at h
  refine .seq (.sn mx (.mv rfl (.mv rfl (.lt rfl rfl (.nil (.cb rfl h (fun _ h => ?_) fun _ h => ?_))))))
  ·
   obtain ⟨b2, hv9, h⟩ := bnd_some h
   refine .skip (.then (.block (.sn mx (.mv rfl (.c (.mulW .none .i (.s rfl)) (.asi (.ra hv9 rfl (.nil (.seq ?_)))))))))
   obtain ⟨j_10, h, hK10⟩ := bind_some h
   refine .thenJ (ι := (Int × (List Int))) (fun j_10 => [(7, ⟨True, rep j_10.1⟩)]) (fun j_10 => [(63, some (CPred.at s63 (rowV 3 j_10.2)))]) (fun s => j_10 = s) (.k4 0 1 2 6 rfl rfl rfl rfl .nil) SubB.nil ?_ (fun j_10' hj10 => ?_)
   ·
    refine .block (.loopL h (fun s11_ => [(7, ⟨True, rep s11_.1⟩), (8, ⟨True, rep s11_.2.1⟩)]) (fun s11_ => [(63, some (CPred.at s63 (rowV 3 s11_.2.2)))]) (.k2 7 8 rfl rfl .nil) (.k 63 rfl .nil) (.k4 0 1 2 6 rfl rfl rfl rfl .nil) SubB.nil (fun s11_ o_11 h hD11 => ?_))
    unfold slices_stableCmpFunc_int_L3 at h
    refine .seq (.sn mx (.mv rfl (.mv rfl (.c (.le .none (.s rfl) (.s rfl)) (.nil (.cb rfl h (fun _ h => ?_) fun _ h => ?_))))))
    ·
     obtain ⟨r3, hv13, h⟩ := bind_some h
     obtain ⟨b3, hv14, h⟩ := bnd_some h
     exact .skip (.then (.block (.sr [oo, oo, oo, oo, oo, oo, oo, ([63], [63])] mx (.mvA rfl (.mvA rfl (.mvA rfl (.mvA rfl (.addA rfl rfl (.mvA rfl (.mvA rfl (.cW (.cO [63] (slices_symMergeCmpFunc_int_ok hv13) (.cons (.s rfl) (.cons (.s rfl) (.cons (.s rfl) (.cons (.s rfl) (.cons (.s rfl) .nil))))) (.cons (k := 63) rfl .nil) rfl) (.nil (.sn mx (.mv rfl (.asn rfl (.nil (.rn mx (.mv rfl (.mv rfl (.c (.mulW .none .i (.s rfl)) (.add rfl rfl (.ra hv14 rfl (.nil (.blkNormal (Ends.ag (some_eq h))))))))))))))))))))))))))
    ·
     refine .exit (.thenExit (.thenExit (.blkExit ?_)))
     replace h := hD11 _ (some_eq h)
     exact Ends.j _ (some_eq h)
   ·
    subst hj10; have h := hK10; clear hK10
    obtain ⟨m1, hv15, h⟩ := bnd_some h
    refine .seq (.sn mx (.mv rfl (.mv rfl (.add rfl rfl (.ra hv15 rfl (.nil (.sn mx (.mv rfl (.mv rfl (.lt rfl rfl (.nil ?_)))))))))))
    obtain ⟨j_16, h, hK16⟩ := bind_some h
    refine .thenJ (ι := (List Int)) (fun j_16 => []) (fun j_16 => [(63, some (CPred.at s63 (rowV 3 j_16)))]) (fun s => j_16 = s) (.k4 0 1 2 6 rfl rfl rfl rfl .nil) SubB.nil ?_ (fun j_16' hj16 => ?_)
    ·
     refine .cb rfl h (fun _ h => ?_) fun _ h => ?_
     ·
      obtain ⟨r4, hv18, h⟩ := bind_some h
      exact .rg [oo, oo, oo, oo, oo, ([63], [63])] mx (.mvA rfl (.mvA rfl (.mvA rfl (.mvA rfl (.mvA rfl (.cW (.cO [63] (slices_symMergeCmpFunc_int_ok hv18) (.cons (.s rfl) (.cons (.s rfl) (.cons (.s rfl) (.cons (.s rfl) (.cons (.s rfl) .nil))))) (.cons (k := 63) rfl .nil) rfl) (.nil (Ends.j _ (some_eq h)))))))))
     ·
      exact .skip (Ends.j _ (some_eq h))
    ·
     subst hj16; have h := hK16; clear hK16
     obtain ⟨blockSize1, hv19, h⟩ := bnd_some h
     exact .rn mx (.mv rfl (.c (.mulW .none (.s rfl) .i) (.ra hv19 rfl (.nil (.blkNormal (Ends.ag (some_eq h)))))))
  ·
   refine .exit (.thenExit (.thenExit (.blkExit ?_)))
   replace h := hD7 _ (some_eq h)
   obtain rfl := some_eq h
   exact Ends.ret0O (.inr rfl) [63] Tryz.results180 (by decide) (.held rfl .nil)

theorem slices_SortStableFunc_int_ok {x1 : (List Int)} {cmp1 : (Int → Int → Option Int)} {r : (List Int)} {s9 : Value} (h : slices_SortStableFunc_int x1 cmp1 = some r) : FSpecO Tryz.prog 128 [isV s9, fn2 Tryz.prog (rep (α := Int)) cmp1] [(s9, rowV 3 x1)] (anyV) [some (rowV 3 r)] := by
 unfold slices_SortStableFunc_int at h
 obtain ⟨r1, hv1, h⟩ := bind_some h
 refine FSpecO.i Tryz.func128 rfl Tryz.ntmps128 rfl (fun F => (.rg [oo, oo, ([9], []), oo, ([9], [9])] mx (.mvA rfl (.mvA rfl (.cA (.lenO (k := 9) sl118 (.told (.s rfl) rfl)) (.mvA rfl (.cW (.cO [9] (slices_stableCmpFunc_int_ok hv1) (.cons (.s rfl) (.cons (.s rfl) (.cons (.s rfl) .nil))) (.cons (k := 9) rfl .nil) rfl) (.nil ?_))))))))
 obtain rfl := some_eq h
 exact Ends.ret0O (.inr rfl) [9] Tryz.results128 (by decide) (.held rfl .nil)

theorem geom_Floor_ok {a1 : Int} {b1 : Int} {r : Int}  (h : geom_Floor a1 b1 = some r) : FSpec Tryz.prog 132 [rep a1, rep b1] (rep r) := by
 unfold geom_Floor at h
 obtain ⟨hn1, h⟩ := need_some h
 obtain ⟨q1, hv2, h⟩ := bnd_some h
 obtain ⟨hn3, h⟩ := need_some h
 refine FSpec.i Tryz.func132 rfl Tryz.ntmps132 rfl (fun F => (.sn mx (.asi (.nil (.sn mx (.mv rfl (.mv rfl (.c (.quo .none (.s rfl) (.s rfl) (fun _ => hn1)) (.ra hv2 rfl (.nil (.seq (.sn mx (.mv rfl (.mv rfl (.c (.rem .none (.s rfl) (.s rfl) (fun _ => hn3)) (.c (.lt .none (.s rfl) .i) (.nil ?_)))))))))))))))))
 obtain ⟨j_4, h, hK4⟩ := bind_some h
 refine .thenJ (ι := Int) (fun j_4 => [(5, ⟨True, rep j_4⟩)]) (fun j_4 => []) (fun s => j_4 = s) Sub.nil SubB.nil ?_ (fun j_4' hj4 => ?_)
 ·
  refine .cb rfl h (fun _ h => ?_) fun _ h => ?_
  ·
   obtain ⟨q2, hv6, h⟩ := bnd_some h
   exact .rn mx (.mv rfl (.c (.subW .none (.s rfl) .i) (.ra hv6 rfl (.nil (Ends.j _ (some_eq h))))))
  ·
   exact .skip (Ends.j _ (some_eq h))
 ·
  subst hj4; have h := hK4; clear hK4
  refine .sn mx (.mv rfl (.asn rfl (.nil (.ret ?_))))
  obtain rfl := some_eq h
  exact Ends.rt Tryz.results132 rfl

set_option maxHeartbeats 4000000 in
theorem page_Spread_ok {d1 : Doc} {ids1 : (List Str)} {down1 : Bool} {r : (Doc × Int)}  (h : page_Spread d1 ids1 down1 = some r) : FSpec Tryz.prog 53 [rep d1, rep ids1, rep down1] (tup [rep r.1, rep r.2]) := by
 unfold page_Spread at h
 obtain ⟨v1, hv1, h⟩ := bnd_some h
 obtain ⟨r1, hv2, h⟩ := bind_some h
 refine FSpec.i Tryz.func53 rfl Tryz.ntmps53 rfl (fun F => (.sr [oo, oo, ([], [6]), oo] mx (.cA (.box .none (.s rfl)) (.cA (.box .none (.s rfl)) (.al zo25 rfl (.cA (.assign .none .i) (.nil (.reB (t := 6) rfl (congrArg (cont 25) hv1) (.nameBox (t := 6) (g := 5001) rfl rfl (fun m5001 => (.sr [oo, oo, oo, oo, oo, oo, oo, ([], [8]), ([8], [8]), oo, oo] mx (.ldA ty25 rfl (.mvA rfl (.cA (.call .none (page_selected_ok hv2) (.cons (.s rfl) (.cons (.s rfl) .nil))) (.mvA rfl (.exA rfl rfl (.exA rfl rfl (.exA rfl rfl (.al zo100 rfl (.st ty100 rfl rfl rfl (.asnA rfl (.asnA rfl (.nil (.freeze (t := 8) rfl rfl (.k 5001 rfl .nil) rfl (.seq (.sn mx (.mv rfl (.nei rfl (.nil (.cb rfl h (fun _ h => ?_) fun _ h => ?_))))))))))))))))))))))))))))))
 ·
  obtain ⟨v2, hv4, h⟩ := bnd_some h
  refine .sr [oo, oo, ([5001], [5001]), oo] mx (.cA (.re hv4 (.buildF (y := (⟨([] : (List DNode)), ([] : (List DEdge))⟩ : Doc)) .none bu25 zc25 rfl .nil .nil)) (.mvA rfl (.s0 5001 ty25 rfl rfl rfl (.asnA rfl (.nil (.fb 5001 [6] rfl (.cons (t := 6) rfl trivial .nil) (.ret (.thenRet ?_))))))))
  obtain rfl := some_eq h
  exact Ends.r2 Tryz.results53 ty25 rfl rfl
 ·
  obtain ⟨n1, hv5, h⟩ := bnd_some h
  refine .skip (.then (.sn mx (.mv rfl (.ln sl118 rfl (.ra hv5 rfl (.nil (.seq (.sn mx (.mv rfl (.c (.lt .none (.s rfl) .i) (.nil (.cb rfl h (fun _ h => ?_) fun _ h => ?_))))))))))))
  ·
   obtain ⟨v3, hv7, h⟩ := bnd_some h
   refine .sr [oo, ([5001], [5001]), oo] mx (.cA (.re hv7 (.buildF (y := (⟨([] : (List DNode)), ([] : (List DEdge))⟩ : Doc)) .none bu25 zc25 rfl .nil .nil)) (.s0 5001 ty25 rfl rfl rfl (.cA (.assign .none .i) (.nil (.fb 5001 [6] rfl (.cons (t := 6) rfl trivial .nil) (.ret (.thenRet ?_)))))))
   obtain rfl := some_eq h
   exact Ends.r2 Tryz.results53 ty25 rfl rfl
  ·
   refine .skip (.then (.sr [oo, ([], [12]), ([12], [12])] mx (.cA (.makeFunc (ι := Int × (Int × Int × Int)) (pre := fun i => (fun x0 => page_Spread_1 x0 r1.1 down1) i.1 = some i.2) (Ss := fun i => [rep i.1]) (S := fun i => tup3 i.2) .none fnok126 (fun i h => page_Spread_1_ok h) (.cons (.s rfl) (.cons (.s rfl) .nil))) (.al zr162 rfl (.cN (.storeS0 (S := fn1 Tryz.prog tup3 (fun x0 => page_Spread_1 x0 r1.1 down1)) tr162 rfl rfl (.s rfl) fnv_one) (.nil (.freezeKey (t := 12) (S := refS (fn1 Tryz.prog tup3 (fun x0 => page_Spread_1 x0 r1.1 down1))) rfl rfl (.k 5001 rfl .nil) rfl (fun M D w s h hms => contS_ref fnv_one h hms) ?_)))))))
   obtain ⟨order1, hv8, h⟩ := bind_some h
   refine .sr [oo, ([], [55]), ([55], [13, 55])] mx (.mvA rfl (.cW (.cO [] (slices_Clone_int_ok hv8) (.cons (.s rfl) .nil) .nil rfl) (.cW (.passRow rfl (.tmp rfl)) (.nil (.nameRow (t := 13) (g := 5002) rfl rfl rfl (fun s5002 => (.sr [oo, oo, ([5002], [5002])] mx (.mvA rfl (.cA (.makeFunc (ι := Int × Int × Int) (pre := fun i => (fun x0 x1 => page_Spread_2 x0 x1 (fun x0 => page_Spread_1 x0 r1.1 down1)) i.1 i.2.1 = some i.2.2) (Ss := fun i => [rep i.1, rep i.2.1]) (S := fun i => rep i.2.2) .none fnok129 (fun i h => page_Spread_2_ok h) (.cons (.s rfl) .nil)) ?_)))))))))
   obtain ⟨r2, hv9, h⟩ := bind_some h
   obtain ⟨hn10, h⟩ := need_some h
   obtain ⟨r3, hv11, h⟩ := bind_some h
   obtain ⟨hn12, h⟩ := need_some h
   obtain ⟨r4, hv13, h⟩ := bind_some h
   obtain ⟨begin1, hv14, h⟩ := bnd_some h
   obtain ⟨free1, hv15, h⟩ := bnd_some h
   obtain ⟨hn16, h⟩ := need_some h
   obtain ⟨v4, hv17, h⟩ := bnd_some h
   refine .cW (.cO [5002] (slices_SortStableFunc_int_ok hv9) (.cons (.s rfl) (.cons (.s rfl) .nil)) (.cons (k := 5002) rfl .nil) rfl) (.nil (.freezeRow (g := 5002) (ts := [13]) rfl (.cons (t := 13) rfl trivial .nil) (.k 5001 rfl .nil) rfl (.sn mx (.c (.loadF .none tr162 (.s rfl)) (.mv rfl (.c (.indexAddr .none sl118 ty3 (.s rfl) .i (fun _ => hn10)) (.ld ty3 rfl (.c (.callV (gx r2 0, r3) .none (.s rfl) (fun _ => hv11) (.cons (.s rfl) .nil)) (.mv rfl (.ex rfl rfl (.ex rfl rfl (.ex rfl rfl (.asn rfl (.asn rfl (.asn rfl (.nil (.sn mx (.c (.loadF .none tr162 (.s rfl)) (.mv rfl (.mv rfl (.c (.subW .none (.s rfl) .i) (.ix sl118 ty3 rfl rfl hn12 (.ld ty3 rfl (.c (.callV (gx r2 (W (n1 - 1)), r4) .none (.s rfl) (fun _ => hv13) (.cons (.s rfl) .nil)) (.mv rfl (.ex rfl rfl (.ex rfl rfl (.ex rfl rfl (.asn rfl (.asn rfl (.asn rfl (.nil (.sn mx (.mv rfl (.mv rfl (.add rfl rfl (.ra hv14 rfl (.nil (.sn mx (.mv rfl (.mv rfl (.sub rfl rfl (.ra hv15 rfl (.nil (.seq (.sn mx (.mv rfl (.mv rfl (.c (.subW .none (.s rfl) .i) (.c (.re hv17 (.slice .none sl118 ty3 (.s rfl) .i (.s rfl) (fun _ => hn16))) (.ln sl118 rfl (.mvi (.nil ?_)))))))))))))))))))))))))))))))))))))))))))))))))))))
   obtain ⟨j_18, h, hK18⟩ := bind_some h
   refine .thenJ (ι := Int) (fun j_18 => [(21, ⟨True, rep j_18⟩)]) (fun j_18 => []) (fun s => j_18 = s) (.k4 5 6 8 9 rfl rfl rfl rfl (.k4 11 12 13 20 rfl rfl rfl rfl .nil)) (.k 5001 rfl .nil) ?_ (fun j_18' hj18 => ?_)
   ·
    refine .block (.rforL h (fun p19_ => [(90, ⟨True, rep p19_.1⟩), (21, ⟨True, rep p19_.2⟩)]) (fun p19_ => []) (.k2 90 21 rfl rfl .nil) SubB.nil (.k4 5 6 8 9 rfl rfl rfl rfl (.k4 11 12 13 20 rfl rfl rfl rfl (.k2 88 89 rfl rfl .nil))) (.k 5001 rfl .nil) (fun p19_ o_19 h hD19 => (.sn mx (.lt rfl rfl (.nil (.seq (.cb rfl h (fun _ h => ?_) fun _ h => ?_)))))))
    ·
     refine .skip (.then (.seq ?_))
     obtain ⟨j_21, h, hK21⟩ := bind_some h
     unfold page_Spread_L1 at h
     refine .thenJ (ι := Int) (fun j_21 => [(21, ⟨True, rep j_21⟩)]) (fun j_21 => []) (fun s => j_21 = s) (.k4 5 6 8 9 rfl rfl rfl rfl (.k4 11 12 13 20 rfl rfl rfl rfl (.k2 88 89 rfl rfl (.k 90 rfl .nil)))) (.k 5001 rfl .nil) ?_ (fun j_21' hj21 => ?_)
     ·
      obtain ⟨hn22, h⟩ := need_some h
      obtain ⟨r5, hv23, h⟩ := bind_some h
      obtain ⟨free2, hv24, h⟩ := bnd_some h
      exact .block (.sn mx (.ix sl118 ty3 rfl rfl hn22 (.ld ty3 rfl (.asn rfl (.nil (.sn mx (.c (.loadF .none tr162 (.s rfl)) (.mv rfl (.c (.callV (gx v4 p19_.1, r5) .none (.s rfl) (fun _ => hv23) (.cons (.s rfl) .nil)) (.mv rfl (.ex rfl rfl (.ex rfl rfl (.ex rfl rfl (.asn rfl (.asn rfl (.asn rfl (.nil (.rn mx (.mv rfl (.mv rfl (.sub rfl rfl (.ra hv24 rfl (.nil (.blkNormal (Ends.j _ (some_eq h))))))))))))))))))))))))))
     ·
      subst hj21; have h := hK21; clear hK21
      exact .rn mx (.adi rfl (.mv rfl (.nil (Ends.ag (some_eq h)))))
    ·
     refine .exit (.thenExit (.thenExit (.blkExit ?_)))
     replace h := hD19 _ (some_eq h)
     exact Ends.j _ (some_eq h)
   ·
    subst hj18; have h := hK18; clear hK18
    obtain ⟨to1, hv25, h⟩ := bnd_some h
    refine .sr [([], [105]), ([105], [27, 105])] mx (.cW (.makeMap (K := Int) (V := Int) rfl) (.cW (.passRow rfl (.tmp rfl)) (.nil (.reB (t := 27) rfl (congrArg mapV hv25) (.nameMap (t := 27) (g := 5003) rfl rfl rfl (fun s5003 => (.seq (.sn mx (.mv rfl (.ln sl118 rfl (.mvi (.nil ?_))))))))))))
    obtain ⟨j_26, h, hK26⟩ := bind_some h
    refine .thenJ (ι := (Int × (GMap Int Int))) (fun j_26 => [(20, ⟨True, rep j_26.1⟩)]) (fun j_26 => [(5003, some (CPred.at s5003 (mapV j_26.2)))]) (fun s => j_26 = s) (.k4 5 6 8 9 rfl rfl rfl rfl (.k 27 rfl .nil)) (.k 5001 rfl .nil) ?_ (fun j_26' hj26 => ?_)
    ·
     refine .block (.rforL h (fun p27_ => [(108, ⟨True, rep p27_.1⟩), (20, ⟨True, rep p27_.2.1⟩)]) (fun p27_ => [(5003, some (CPred.at s5003 (mapV p27_.2.2)))]) (.k2 108 20 rfl rfl .nil) (.k 5003 rfl .nil) (.k4 5 6 8 9 rfl rfl rfl rfl (.k4 11 12 21 27 rfl rfl rfl rfl (.k2 106 107 rfl rfl .nil))) (.k 5001 rfl .nil) (fun p27_ o_27 h hD27 => (.sn mx (.lt rfl rfl (.nil (.seq (.cb rfl h (fun _ h => ?_) fun _ h => ?_)))))))
     ·
      refine .skip (.then (.seq ?_))
      obtain ⟨j_29, h, hK29⟩ := bind_some h
      unfold page_Spread_L2 at h
      refine .thenJ (ι := (Int × (GMap Int Int))) (fun j_29 => [(20, ⟨True, rep j_29.1⟩)]) (fun j_29 => [(5003, some (CPred.at s5003 (mapV j_29.2)))]) (fun s => j_29 = s) (.k4 5 6 8 9 rfl rfl rfl rfl (.k4 11 12 21 27 rfl rfl rfl rfl (.k2 106 107 rfl rfl (.k 108 rfl .nil)))) (.k 5001 rfl .nil) ?_ (fun j_29' hj29 => ?_)
      ·
       obtain ⟨hn30, h⟩ := need_some h
       obtain ⟨k1, hv31, h⟩ := bnd_some h
       obtain ⟨r6, hv32, h⟩ := bind_some h
       refine .block (.sn mx (.mv rfl (.ix sl118 ty3 rfl rfl hn30 (.ld ty3 rfl (.asn rfl (.ra hv31 rfl (.nil (.sn mx (.c (.loadF .none tr162 (.s rfl)) (.mv rfl (.c (.callV (k1, r6) .none (.s rfl) (fun _ => hv32) (.cons (.s rfl) .nil)) (.mv rfl (.ex rfl rfl (.ex rfl rfl (.ex rfl rfl (.asn rfl (.asn rfl (.asn rfl (.nil (.sn mx (.mv rfl (.c (.gt .none (.s rfl) .i) (.mv rfl (.mg rfl rfl rfl (.mg rfl rfl rfl (.c (.subW (.at rfl rfl) (.tmp rfl id) .i) (.c (.lt (.at rfl rfl) (.tmp rfl id) (.tmp rfl id)) (.pa rfl rfl (.nil (.cb rfl h (fun _ h => ?_) fun _ h => ?_))))))))))))))))))))))))))))))
       ·
        obtain ⟨r7, hv34, h⟩ := bind_some h
        obtain ⟨to2, hv35, h⟩ := bnd_some h
        obtain ⟨begin2, hv36, h⟩ := bnd_some h
        exact .sr [oo, oo, oo, oo, oo, oo, oo, oo, oo, oo, oo, oo, ([5003], [5003])] mx (.mvA rfl (.mvA rfl (.mvA rfl (.mvA rfl (.mvA rfl (.cA (.mulW .none (.s rfl) (.s rfl)) (.mvA rfl (.cA (.subW .none (.s rfl) .i) (.cA (.call .none (geom_Floor_ok hv34) (.cons (.s rfl) (.cons (.s rfl) .nil))) (.addA rfl rfl (.mvA rfl (.subA rfl rfl (.cN (.mapUpdate (q := 5003) mo168 (.s rfl) rfl (.s rfl) (.s rfl)) (.nil (.reB (t := 5003) rfl (congrArg (fun y => CPred.at s5003 (mapV y)) hv35) (.rn mx (.mv rfl (.mv rfl (.add rfl rfl (.ra hv36 rfl (.nil (.blkNormal (Ends.j _ (some_eq h))))))))))))))))))))))))
       ·
        exact .skip (.blkNormal (Ends.j _ (some_eq h)))
      ·
       subst hj29; have h := hK29; clear hK29
       exact .rn mx (.adi rfl (.mv rfl (.nil (Ends.ag (some_eq h)))))
     ·
      refine .exit (.thenExit (.thenExit (.blkExit ?_)))
      replace h := hD27 _ (some_eq h)
      exact Ends.j _ (some_eq h)
    ·
     subst hj26; have h := hK26; clear hK26
     refine .freezeAt (g := 5003) (S := rep j_26.2) (ts := [27]) rfl (.cons (t := 27) rfl trivial .nil) (.k 5001 rfl .nil) rfl (fun M D w h hms => mapV_rep h hms) (.sr [([], [33])] mx (.cW (.nilRow (T := 159) (α := Page_step) rfl) (.nil (.nameRow (t := 33) (g := 5004) rfl rfl rfl (fun s5004 => (.seq (.sn mx (.mv rfl (.ln sl118 rfl (.mvi (.nil ?_)))))))))))
     obtain ⟨j_37, h, hK37⟩ := bind_some h
     refine .thenJ (ι := (List Page_step)) (fun j_37 => []) (fun j_37 => [(33, some (rowV 159 j_37))]) (fun s => j_37 = s) (.k2 6 8 rfl rfl .nil) (.k 5001 rfl .nil) ?_ (fun j_37' hj37 => ?_)
     ·
      refine .block (.anon (t := 33) (g := 5004) rfl rfl trivial rfl (.rforL h (fun p38_ => [(146, ⟨True, rep p38_.1⟩)]) (fun p38_ => [(33, some (rowV 159 p38_.2))]) (.k 146 rfl .nil) (.k 33 rfl .nil) (.k4 5 6 8 27 rfl rfl rfl rfl (.k2 144 145 rfl rfl .nil)) (.k 5001 rfl .nil) (fun p38_ o_38 h hD38 => (.nameRow (t := 33) (g := 5005) rfl rfl rfl (fun s5005 => (.sn mx (.lt rfl rfl (.nil (.seq (.cb rfl h (fun _ h => ?_) fun _ h => ?_))))))))))
      ·
       refine .skip (.then (.seq ?_))
       obtain ⟨j_40, h, hK40⟩ := bind_some h
       unfold page_Spread_L3 at h
       refine .thenJ (ι := (List Page_step)) (fun j_40 => []) (fun j_40 => [(33, some (rowV 159 j_40))]) (fun s => j_40 = s) (.k4 5 6 8 27 rfl rfl rfl rfl (.k2 144 145 rfl rfl (.k 146 rfl .nil))) (.k 5001 rfl .nil) ?_ (fun j_40' hj40 => ?_)
       ·
        obtain ⟨hn41, h⟩ := need_some h
        obtain ⟨k2, hv42, h⟩ := bnd_some h
        obtain ⟨v5, hv43, h⟩ := bnd_some h
        refine .block (.sn mx (.ix sl118 ty3 rfl rfl hn41 (.ld ty3 rfl (.ra hv42 rfl (.nil (.sr [oo, oo, oo, oo, oo, oo, ([], [36]), ([36], [36])] mx (.mvA rfl (.cA (.buildSlice (xs := [_]) .none sl118 ty3 hz3 (.cons (.s rfl) .nil) rfl (by decide)) (.mvA rfl (.mvA rfl (.cA (.lookup .none mo168 zo3 (.s rfl) (.s rfl)) (.cA (.re hv43 (.buildF (y := (⟨[k2], j_26.2.getD k2 (0 : Int), (0 : Int)⟩ : Page_step)) .none bu159 zc159 rfl (.cons (.s rfl) (.cons (.s rfl) .nil)) (.cons rfl sf159_0 (.cons rfl sf159_1 .nil)))) (.al zo159 rfl (.st ty159 rfl rfl rfl (.nil (.nameBox (t := 36) (g := 5006) rfl rfl (fun m5006 => (.seq (.sn mx (.ld ty4 rfl (.nil ?_)))))))))))))))))))))
        obtain ⟨j_44, h, hK44⟩ := bind_some h
        refine .thenJ (ι := Page_step) (fun j_44 => []) (fun j_44 => [(5006, some (boxAt m5006 159 j_44))]) (fun s => j_44 = s) (.k4 5 6 8 27 rfl rfl rfl rfl (.k4 33 36 144 145 rfl rfl rfl rfl (.k 146 rfl .nil))) (.k2 5001 5005 rfl rfl .nil) ?_ (fun j_44' hj44 => ?_)
        ·
         refine .cb rfl h (fun _ h => ?_) fun _ h => ?_
         ·
          obtain ⟨v6, hv46, h⟩ := bnd_some h
          exact .rg [oo, oo, oo, oo, oo, oo, ([5006], [5006])] mx (.mvA rfl (.cA (.buildSlice (xs := [_]) .none sl118 ty3 hz3 (.cons (.s rfl) .nil) rfl (by decide)) (.mvA rfl (.mvA rfl (.cA (.lookup .none mo168 zo3 (.s rfl) (.s rfl)) (.cA (.re hv46 (.buildF (y := (⟨[k2], (0 : Int), j_26.2.getD k2 (0 : Int)⟩ : Page_step)) .none bu159 zc159 rfl (.cons (.s rfl) (.cons (.s rfl) .nil)) (.cons rfl sf159_0 (.cons rfl sf159_2 .nil)))) (.s0 5006 ty159 rfl rfl rfl (.nil (Ends.j _ (some_eq h))))))))))
         ·
          exact .skip (Ends.j _ (some_eq h))
        ·
         subst hj44; have h := hK44; clear hK44
         obtain ⟨hn47, h⟩ := need_some h
         exact .freezeBox (g := 5006) (ts := [36]) rfl (.cons (t := 36) rfl trivial .nil) (.k2 5001 5005 rfl rfl .nil) rfl (.rg [oo, oo, oo, ([5005], [166, 5005]), ([166], [33, 166])] mx (.mvA rfl (.ldA ty159 rfl (.cA (.buildSlice (xs := [_]) .none sl160 ty159 hz159 (.cons (.s rfl) .nil) rfl (by decide)) (.cW (.append (k := 5005) rk160 rfl (.told (.s rfl) rfl) (.s rfl) hn47) (.cW (.passRow rfl (.tmp rfl)) (.nil (.blkNormal (Ends.j _ (some_eq h))))))))))
       ·
        subst hj40; have h := hK40; clear hK40
        exact .nameRow (t := 33) (g := 5007) rfl rfl rfl (fun s5007 => (.rn mx (.adi rfl (.mv rfl (.nil (.anon (t := 33) (g := 5007) rfl rfl trivial rfl (Ends.ag (some_eq h))))))))
      ·
       refine .exit (.thenExit (.thenExit (.blkExit (.anon (t := 33) (g := 5005) rfl rfl trivial rfl ?_))))
       replace h := hD38 _ (some_eq h)
       exact Ends.j _ (some_eq h)
     ·
      subst hj37; have h := hK37; clear hK37
      obtain ⟨p1, hv48, h⟩ := bind_some h
      obtain ⟨r8, hv49, h⟩ := bind_some h
      refine .freezeRowA (t := 33) rfl rfl (.k 5001 rfl .nil) rfl (.sr [oo, oo, oo, oo, oo, ([5001], [5001]), oo] mx (.cA (.isRef hv48 (.load .none ty100 (.s rfl))) (.mvA rfl (.cA (.call .none (page_view_moved_ok hv49) (.cons (.s rfl) (.cons (.s rfl) .nil))) (.exA rfl rfl (.exA rfl rfl (.s0 5001 ty25 rfl rfl rfl (.asnA rfl (.nil (.fb 5001 [6] rfl (.cons (t := 6) rfl trivial .nil) (.ret ?_)))))))))))
      obtain rfl := some_eq h
      exact Ends.r2 Tryz.results53 ty25 rfl rfl

theorem page_Group_1_ok {n1 : DNode} {c0_1 : Str} {r : Bool}  (h : page_Group_1 n1 c0_1 = some r) : FSpec Tryz.prog 104 [rep n1, ref c0_1] (rep r) := by
 unfold page_Group_1 at h
 refine FSpec.i Tryz.func104 rfl Tryz.ntmps104 rfl (fun F => (.sn mx (.c (.box .none (.s rfl)) (.asb (.nil (.sn mx (.fa fd44_0 hfd44_0 rfl (.ld ty9 rfl (.ld ty9 rfl (.c (.eqS .none (eqAt_str Tryz.underlying9) (.s rfl) (.s rfl)) (.asn rfl (.nil (.ret ?_)))))))))))))
 obtain rfl := some_eq h
 exact Ends.rt Tryz.results104 rfl

theorem page_Group_2_ok {x1 : DEdge} {c0_1 : Str} {r : Bool}  (h : page_Group_2 x1 c0_1 = some r) : FSpec Tryz.prog 106 [rep x1, ref c0_1] (rep r) := by
 unfold page_Group_2 at h
 refine FSpec.i Tryz.func106 rfl Tryz.ntmps106 rfl (fun F => (.sn mx (.c (.box .none (.s rfl)) (.asb (.nil (.sn mx (.fa fd67_0 hfd67_0 rfl (.ld ty9 rfl (.ld ty9 rfl (.c (.eqS .none (eqAt_str Tryz.underlying9) (.s rfl) (.s rfl)) (.asn rfl (.nil (.ret ?_)))))))))))))
 obtain rfl := some_eq h
 exact Ends.rt Tryz.results106 rfl

theorem page_Group_ok {d1 : Doc} {ids1 : (List Str)} {id1 : Str} {r : (Doc × Int)}  (h : page_Group d1 ids1 id1 = some r) : FSpec Tryz.prog 40 [rep d1, rep ids1, rep id1] (tup [rep r.1, rep r.2]) := by
 unfold page_Group at h
 obtain ⟨v1, hv1, h⟩ := bnd_some h
 obtain ⟨r1, hv2, h⟩ := bind_some h
 refine FSpec.i Tryz.func40 rfl Tryz.ntmps40 rfl (fun F => (.sr [([], [3]), oo, ([], [6]), oo] mx (.cW (.boxO rfl (.s rfl)) (.cA (.box .none (.s rfl)) (.al zo25 rfl (.cA (.assign .none .i) (.nil (.reB (t := 6) rfl (congrArg (cont 25) hv1) (.nameBox (t := 3) (g := 5001) rfl rfl (fun m5001 => (.nameBox (t := 6) (g := 5002) rfl rfl (fun m5002 => (.sr [([5001], []), oo, oo, oo, oo, oo, oo, oo, oo, oo] mx (.cA (.loadAt0 (k := 5001) .none ty25 rfl (.s rfl)) (.mvA rfl (.cA (.call .none (page_selected_ok hv2) (.cons (.s rfl) (.cons (.s rfl) .nil))) (.mvA rfl (.exA rfl rfl (.exA rfl rfl (.exA rfl rfl (.asnA rfl (.asnA rfl (.asnA rfl (.nil (.seq (.sn mx (.mv rfl (.nei rfl (.nil (.cb rfl h (fun _ h => ?_) fun _ h => ?_))))))))))))))))))))))))))))))
 ·
  obtain ⟨v2, hv4, h⟩ := bnd_some h
  refine .sr [oo, oo, ([5002], [5002]), oo] mx (.cA (.re hv4 (.buildF (y := (⟨([] : (List DNode)), ([] : (List DEdge))⟩ : Doc)) .none bu25 zc25 rfl .nil .nil)) (.mvA rfl (.s0 5002 ty25 rfl rfl rfl (.asnA rfl (.nil (.fb 5002 [6] rfl (.cons (t := 6) rfl trivial .nil) (.ret (.thenRet ?_))))))))
  obtain rfl := some_eq h
  exact Ends.r2 Tryz.results40 ty25 rfl rfl
 ·
  refine .skip (.then (.seq (.sn mx (.mv rfl (.ln sl118 rfl (.eqi rfl (.nil (.cb rfl h (fun _ h => ?_) fun _ h => ?_))))))))
  ·
   obtain ⟨v3, hv6, h⟩ := bnd_some h
   refine .sr [oo, ([5002], [5002]), oo] mx (.cA (.re hv6 (.buildF (y := (⟨([] : (List DNode)), ([] : (List DEdge))⟩ : Doc)) .none bu25 zc25 rfl .nil .nil)) (.s0 5002 ty25 rfl rfl rfl (.cA (.assign .none .i) (.nil (.fb 5002 [6] rfl (.cons (t := 6) rfl trivial .nil) (.ret (.thenRet ?_)))))))
   obtain rfl := some_eq h
   exact Ends.r2 Tryz.results40 ty25 rfl rfl
  ·
   obtain ⟨hn7, h⟩ := need_some h
   obtain ⟨hn8, h⟩ := need_some h
   obtain ⟨parent1, hv9, h⟩ := bnd_some h
   refine .skip (.then (.sr [oo, ([5001], []), oo, oo, oo, oo, oo, oo, oo] mx (.cA (.fieldPtr .none fd25_0 (.s rfl)) (.cA (.loadAt (k := 5001) .none ty22 rfl (.s rfl) hfd25_0) (.mvA rfl (.cA (.indexAddr .none sl118 ty3 (.s rfl) .i (fun _ => hn7)) (.ldA ty3 rfl (.ixA sl22 ty44 rfl rfl hn8 (.faA fd44_5 hfd44_5 rfl (.ldA ty9 rfl (.cA (.re hv9 (.assign .none (.s rfl))) (.nil (.seq (.sn mx (.mv rfl (.ln sl118 rfl (.mvi (.nil ?_))))))))))))))))))
   obtain ⟨o_10, h, hK10⟩ := bindR_some h
   refine .tJ (fun s => o_10 = Res.nx s) (.k4 3 5 6 9 rfl rfl rfl rfl (.k 11 rfl .nil)) (.k2 5001 5002 rfl rfl .nil) ?_ (fun j_10 hj10 => ?_)
   ·
    refine .block (.rforEL h (fun p11_ => [(42, ⟨True, rep p11_.1⟩)]) (fun p11_ => []) (.k 42 rfl .nil) SubB.nil (.k4 3 5 6 9 rfl rfl rfl rfl (.k2 11 40 rfl rfl (.k 41 rfl .nil))) (.k2 5001 5002 rfl rfl .nil) (fun p11_ o_11 h hD11 => (.sn mx (.lt rfl rfl (.nil (.seq (.cb rfl h (fun _ h => ?_) fun _ h => ?_)))))))
    ·
     refine .skip (.then (.seq ?_))
     obtain ⟨o_13, h, hK13⟩ := bindD_some h
     unfold page_Group_L1 at h
     refine .tJ (fun s => o_13 = Res.nx s) (.k4 3 5 6 9 rfl rfl rfl rfl (.k4 11 40 41 42 rfl rfl rfl rfl .nil)) (.k2 5001 5002 rfl rfl .nil) ?_ (fun j_13 hj13 => ?_)
     ·
      obtain ⟨hn14, h⟩ := need_some h
      obtain ⟨hn15, h⟩ := need_some h
      refine .block (.sn mx (.ix sl118 ty3 rfl rfl hn14 (.ld ty3 rfl (.asn rfl (.nil (.sr [oo, ([5001], []), oo, oo, oo, oo, oo, oo] mx (.cA (.fieldPtr .none fd25_0 (.s rfl)) (.cA (.loadAt (k := 5001) .none ty22 rfl (.s rfl) hfd25_0) (.mvA rfl (.ixA sl22 ty44 rfl rfl hn15 (.faA fd44_5 hfd44_5 rfl (.ldA ty9 rfl (.mvA rfl (.cA (.neS .none (eqAt_str Tryz.underlying9) (.s rfl) (.s rfl)) (.nil (.cb rfl h (fun _ h => ?_) fun _ h => ?_))))))))))))))))
      ·
       obtain ⟨v4, hv17, h⟩ := bnd_some h
       refine .sr [oo, ([5002], [5002]), oo] mx (.cA (.re hv17 (.buildF (y := (⟨([] : (List DNode)), ([] : (List DEdge))⟩ : Doc)) .none bu25 zc25 rfl .nil .nil)) (.s0 5002 ty25 rfl rfl rfl (.cA (.assign .none .i) (.nil (.fb 5002 [6] rfl (.cons (t := 6) rfl trivial .nil) (.ret (.blkRet (.thenRet (.thenRet (.blkRet (.thenRet ?_)))))))))))
       replace h := resd_ab hK13 (some_eq h)
       replace h := hD11 _ (some_eq h)
       replace h := resb_ab hK10 (some_eq h)
       obtain rfl := some_eq h
       exact Ends.r2 Tryz.results40 ty25 rfl rfl
      ·
       exact .skip (.blkNormal (Ends.j _ (some_eq h)))
     ·
      have h := resd_nx hK13 hj13
      exact .rn mx (.adi rfl (.mv rfl (.nil (Ends.ag (some_eq h)))))
    ·
     refine .exit (.thenExit (.thenExit (.blkExit ?_)))
     replace h := hD11 _ (some_eq h)
     exact Ends.j _ (some_eq h)
   ·
    have h := resb_nx hK10 hj10
    obtain ⟨r2, hv18, h⟩ := bind_some h
    refine .seq (.sn mx (.ld ty9 rfl (.c (.call .none (page_isName_ok hv18) (.cons (.s rfl) .nil)) (.c (.not .none (.s rfl)) (.nil (.cb rfl h (fun _ h => ?_) fun _ h => ?_))))))
    ·
     obtain ⟨v5, hv20, h⟩ := bnd_some h
     refine .sr [oo, ([5002], [5002]), oo] mx (.cA (.re hv20 (.buildF (y := (⟨([] : (List DNode)), ([] : (List DEdge))⟩ : Doc)) .none bu25 zc25 rfl .nil .nil)) (.s0 5002 ty25 rfl rfl rfl (.cA (.assign .none .i) (.nil (.fb 5002 [6] rfl (.cons (t := 6) rfl trivial .nil) (.ret (.thenRet ?_)))))))
     obtain rfl := some_eq h
     exact Ends.r2 Tryz.results40 ty25 rfl rfl
    ·
     refine .skip (.then (.seq (.sr [oo, ([5001], []), oo, oo, oo, oo, ([5001], []), oo, oo, oo] mx (.cA (.fieldPtr .none fd25_0 (.s rfl)) (.cA (.loadAt (k := 5001) .none ty22 rfl (.s rfl) hfd25_0) (.cA (.makeFunc (ι := DNode × Bool) (pre := fun i => (fun x0 => page_Group_1 x0 id1) i.1 = some i.2) (Ss := fun i => [rep i.1]) (S := fun i => rep i.2) .none fnok104 (fun i h => page_Group_1_ok h) (.cons (.s rfl) .nil)) ?_))))))
     obtain ⟨r3, hv21, h⟩ := bind_some h
     refine .cA (.call .none (slices_ContainsFunc_Node_ok hv21) (.cons (.s rfl) (.cons (.s rfl) .nil))) (.mvA rfl (.cA (.fieldPtr (.at rfl rfl) fd25_1 (.s rfl)) (.cA (.loadAt (k := 5001) (.at rfl rfl) ty23 rfl (.tmp rfl id) hfd25_1) (.cA (.makeFunc (ι := DEdge × Bool) (pre := fun i => (fun x0 => page_Group_2 x0 id1) i.1 = some i.2) (Ss := fun i => [rep i.1]) (S := fun i => rep i.2) (.at rfl rfl) fnok106 (fun i h => page_Group_2_ok h) (.cons (.s rfl) .nil)) ?_))))
     obtain ⟨r4, hv22, h⟩ := bind_some h
     refine .cA (.callIf (.at rfl rfl) fnok105 (fun hg => slices_ContainsFunc_Edge_ok ((fun hg => gd_some hv22 ((notT hg.2))) hg)) (.cons (.tmp rfl id) (.cons (.tmp rfl id) .nil)) (fun h => h)) (.cA (.pickOr .none (.s rfl) (.tmp rfl id)) (.nil (.cb rfl h (fun _ h => ?_) fun _ h => ?_)))
     ·
      obtain ⟨v6, hv24, h⟩ := bnd_some h
      refine .sr [oo, ([5002], [5002]), oo] mx (.cA (.re hv24 (.buildF (y := (⟨([] : (List DNode)), ([] : (List DEdge))⟩ : Doc)) .none bu25 zc25 rfl .nil .nil)) (.s0 5002 ty25 rfl rfl rfl (.cA (.assign .none .i) (.nil (.fb 5002 [6] rfl (.cons (t := 6) rfl trivial .nil) (.ret (.thenRet ?_)))))))
      obtain rfl := some_eq h
      exact Ends.r2 Tryz.results40 ty25 rfl rfl
     ·
      obtain ⟨r5, hv25, h⟩ := bind_some h
      refine .skip (.then (.sr [([5001], []), ([], [72]), ([5001, 72], [5001, 72])] mx (.cA (.loadAt0 (k := 5001) .none ty25 rfl (.s rfl)) (.cW (.cO [] (page_cloned_ok hv25) (.cons (.s rfl) .nil) .nil rfl) (.cN (.storeG2N (t := 72) (k := 5001) (mk := (fun z1 z2 => (⟨⟨z1⟩, ⟨z2⟩⟩ : Doc_o01))) ty25 rfl rfl (by rfl) rfl (.s rfl) rfl rfl) (.nil (.open (k := 5001) (g := 5003) rfl rfl (fun s5003 => (.open (k := 5001) (g := 5004) rfl rfl (fun s5004 => (.seq (.sn mx (.mv rfl (.ln sl118 rfl (.mvi (.nil ?_))))))))))))))))
      obtain ⟨j_26, h, hK26⟩ := bind_some h
      refine .thenJ (ι := (List DNode)) (fun j_26 => []) (fun j_26 => [(5003, some (CPred.at s5003 (rowV 44 j_26)))]) (fun s => j_26 = s) (.k4 3 5 6 9 rfl rfl rfl rfl (.k 11 rfl .nil)) (.k2 5001 5002 rfl rfl (.k 5004 rfl .nil)) ?_ (fun j_26' hj26 => ?_)
      ·
       refine .block (.rforL h (fun p27_ => [(75, ⟨True, rep p27_.1⟩)]) (fun p27_ => [(5003, some (CPred.at s5003 (rowV 44 p27_.2)))]) (.k 75 rfl .nil) (.k 5003 rfl .nil) (.k4 3 5 6 9 rfl rfl rfl rfl (.k2 11 73 rfl rfl (.k 74 rfl .nil))) (.k2 5001 5002 rfl rfl (.k 5004 rfl .nil)) (fun p27_ o_27 h hD27 => (.sn mx (.lt rfl rfl (.nil (.seq (.cb rfl h (fun _ h => ?_) fun _ h => ?_)))))))
       ·
        refine .skip (.then (.seq ?_))
        obtain ⟨j_29, h, hK29⟩ := bind_some h
        unfold page_Group_L2 at h
        refine .thenJ (ι := (List DNode)) (fun j_29 => []) (fun j_29 => [(5003, some (CPred.at s5003 (rowV 44 j_29)))]) (fun s => j_29 = s) (.k4 3 5 6 9 rfl rfl rfl rfl (.k4 11 73 74 75 rfl rfl rfl rfl .nil)) (.k2 5001 5002 rfl rfl (.k 5004 rfl .nil)) ?_ (fun j_29' hj29 => ?_)
        ·
         obtain ⟨hn30, h⟩ := need_some h
         obtain ⟨hn31, h⟩ := need_some h
         exact .block (.sn mx (.ix sl118 ty3 rfl rfl hn30 (.ld ty3 rfl (.asn rfl (.nil (.rg [oo, ([5001], []), oo, oo, ([5003], []), ([5003], []), ([5003], [5003])] mx (.cA (.fieldPtr .none fd25_0 (.s rfl)) (.cA (.loadAt (k := 5001) .none tr22 rfl (.s rfl) hv_Doc_o01_0) (.mvA rfl (.ldA ty9 rfl (.ixO 5003 sl22 ty44 rfl rfl rfl hn31 (.fe 5003 fd44_5 rfl rfl hn31 (.cN (.storeElem (k := 5003) ty9 (.s rfl) rfl sf44_5 (.s rfl) hn31) (.nil (.blkNormal (Ends.j _ (some_eq h)))))))))))))))))
        ·
         subst hj29; have h := hK29; clear hK29
         exact .rn mx (.adi rfl (.mv rfl (.nil (Ends.ag (some_eq h)))))
       ·
        refine .exit (.thenExit (.thenExit (.blkExit ?_)))
        replace h := hD27 _ (some_eq h)
        exact Ends.j _ (some_eq h)
      ·
       subst hj26; have h := hK26; clear hK26
       obtain ⟨hn32, h⟩ := need_some h
       obtain ⟨r6, hv33, h⟩ := bind_some h
       refine .sr [oo, ([5001], []), oo, oo, oo, oo, oo, oo, oo, oo, oo, oo, ([], [98]), ([5003, 98], [5003, 98, 99]), oo, ([5001, 99], [5001, 99])] mx (.cA (.fieldPtr .none fd25_0 (.s rfl)) (.cA (.loadAt (k := 5001) .none tr22 rfl (.s rfl) hv_Doc_o01_0) (.mvA rfl (.mvA rfl (.cA (.len .none sl118 (.s rfl)) (.cA (.subW .none (.s rfl) .i) (.ixA sl118 ty3 rfl rfl hn32 (.ldA ty3 rfl (.cA (.addW .none (.s rfl) .i) (.ldA ty9 rfl (.mvA rfl (.cA (.buildF (y := (⟨id1, 6, (⟨(0 : Int), (0 : Int), (0 : Int), (0 : Int)⟩ : Box), Str.nil, Str.nil, parent1, false⟩ : DNode)) .none bu44 zc44 rfl (.cons (.s rfl) (.cons .i (.cons (.s rfl) .nil))) (.cons rfl sf44_0 (.cons rfl sf44_1 (.cons rfl sf44_5 .nil)))) (.cW (.buildSliceO (xs := [_]) rfl sl22 ty44 hz44 (.cons (.s rfl) .nil) rfl (by decide)) (.cW (.tell (t := 98) rfl row_one rfl (by decide) (fun _ => StepOK.callO [5003, 98] (slices_Insert_Node_ok hv33) (.cons (.s rfl) (.cons (.s rfl) (.cons (.s rfl) .nil))) (.cons (k := 5003) rfl (.cons (k := 98) rfl .nil)) rfl (by decide) (by decide) (by intro d h; cases h; decide))) (.cA (.fieldPtr .none fd25_0 (.s rfl)) (.cN (.storeRow (k := 5001) (t := 99) ty22 rfl (.s rfl) sv_Doc_o01_0 rfl rfl) (.nil (.open (k := 5001) (g := 5005) rfl rfl (fun s5005 => (.close (k := 5001) (g := 5004) (fun z => cont 25 (⟨⟨s5005⟩, ⟨z⟩⟩ : Doc_o01)) rfl rfl rfl (.close (k := 5001) (g := 5005) (fun z => deep (fun z0 => cont 25 (⟨⟨z⟩, ⟨z0⟩⟩ : Doc_o01)) (rowV 67 r5.Edges)) rfl rfl rfl (.freezeAt (g := 5001) (S := ref ({ r5 with Nodes := r6, Edges := r5.Edges } : Doc)) (ts := [3]) rfl (.cons (t := 3) rfl trivial .nil) (.k 5002 rfl .nil) rfl (fun M D w h hms => deep_ref2 (mk := (fun s1_ s2_ => (⟨⟨s1_⟩, ⟨s2_⟩⟩ : Doc_o01))) (y := ({ r5 with Nodes := r6, Edges := r5.Edges } : Doc)) frzRow frzRow rfl (fun M s1_ s2_ cs w hc g1 g2 => by obtain ⟨c0, q0, e0, h0, h1⟩ := hc; exact ⟨c0, q0, e0, raw_cells rfl rfl h0 g1, raw_cells rfl rfl h1 g2⟩) M D w h hms) ?_))))))))))))))))))))))
       obtain ⟨e1, hv34, h⟩ := bind_some h
       refine .seq (.sn mx (.ld ty25 rfl (.c (.call .none (page_Check_ok hv34) (.cons (.s rfl) .nil)) (.asn rfl (.nil (.sn mx (.mv rfl (.nei rfl (.nil (.cb rfl h (fun _ h => ?_) fun _ h => ?_))))))))))
       ·
        obtain ⟨v7, hv36, h⟩ := bnd_some h
        refine .sr [oo, oo, ([5002], [5002]), oo] mx (.cA (.re hv36 (.buildF (y := (⟨([] : (List DNode)), ([] : (List DEdge))⟩ : Doc)) .none bu25 zc25 rfl .nil .nil)) (.mvA rfl (.s0 5002 ty25 rfl rfl rfl (.asnA rfl (.nil (.fb 5002 [6] rfl (.cons (t := 6) rfl trivial .nil) (.ret (.thenRet ?_))))))))
        obtain rfl := some_eq h
        exact Ends.r2 Tryz.results40 ty25 rfl rfl
       ·
        obtain ⟨v8, hv37, h⟩ := bnd_some h
        refine .skip (.then (.sr [oo, ([5002], [5002]), oo] mx (.rlA hv37 ty25 rfl (.s0 5002 ty25 rfl rfl rfl (.cA (.assign .none .i) (.nil (.fb 5002 [6] rfl (.cons (t := 6) rfl trivial .nil) (.ret ?_))))))))
        obtain rfl := some_eq h
        exact Ends.r2 Tryz.results40 ty25 rfl rfl

theorem page_find_ok {d1 : Doc} {id1 : Str} {r : ((Option Page_view) × Int × Int)}  (h : page_find d1 id1 = some r) : FSpec Tryz.prog 69 [rep d1, rep id1] (tup [rep r.1, rep r.2.1, rep r.2.2]) := by
 unfold page_find at h
 obtain ⟨r1, hv1, h⟩ := bind_some h
 refine FSpec.i Tryz.func69 rfl Tryz.ntmps69 rfl (fun F => (.sn mx (.c (.box .none (.s rfl)) (.c (.assign .none (.const (x := (none : (Option Page_view))) (fun M w => ⟨_, ptr_zero, rfl⟩))) (.asi (.asi (.nil (.sn mx (.ld ty25 rfl (.c (.call .none (page_look_ok hv1) (.cons (.s rfl) .nil)) (.mv rfl (.ex rfl rfl (.ex rfl rfl (.asn rfl (.asn rfl (.nil (.seq (.sn mx (.mv rfl (.nei rfl (.nil (.cb rfl h (fun _ h => ?_) fun _ h => ?_))))))))))))))))))))))
 ·
  refine .sn mx (.mv rfl (.c (.assign .none (.const (x := (none : (Option Page_view))) (fun M w => ⟨_, ptr_zero, rfl⟩))) (.asi (.asn rfl (.nil (.ret (.thenRet ?_)))))))
  obtain rfl := some_eq h
  exact Ends.ret3 (.inl rfl) Tryz.results69 (ResOK.tmp rfl trivial Imp.refl) (ResOK.tmp rfl trivial Imp.refl) (ResOK.tmp rfl trivial Imp.refl)
 ·
  obtain ⟨v1, hv3, h⟩ := bind_some h
  refine .skip (.then (.seq (.isRef (t := 7) hv3 rfl trivial (.rn mx (.mv rfl (.c (.nilCheckR .none (.s rfl)) (.fa fd148_1 hfd148_1 rfl (.ld ty145 rfl (.mv rfl (.c (.lookupOk .none mo145 zo3 (.s rfl) (.s rfl)) (.mv rfl (.ex rfl rfl (.ex rfl rfl (.asn rfl (.asn rfl (.nil (.then (.seq (.sn mx (.mv rfl (.c (.not .none (.s rfl)) (.nil (.cb rfl h (fun _ h => ?_) fun _ h => ?_)))))))))))))))))))))))
  ·
   refine .sn mx (.c (.assign .none (.const (x := (none : (Option Page_view))) (fun M w => ⟨_, ptr_zero, rfl⟩))) (.asi (.asi (.nil (.ret (.thenRet ?_))))))
   obtain rfl := some_eq h
   exact Ends.ret3 (.inl rfl) Tryz.results69 (ResOK.tmp rfl trivial Imp.refl) (ResOK.tmp rfl trivial Imp.refl) (ResOK.tmp rfl trivial Imp.refl)
  ·
   refine .skip (.then (.sn mx (.mv rfl (.mv rfl (.asn rfl (.asn rfl (.asi (.nil (.ret ?_)))))))))
   obtain rfl := some_eq h
   exact Ends.ret3 (.inl rfl) Tryz.results69 (ResOK.tmp rfl trivial Imp.refSome) (ResOK.tmp rfl trivial Imp.refl) (ResOK.tmp rfl trivial Imp.refl)

theorem slices_Delete_Node_ok {s1 : (List DNode)} {i1 : Int} {j1 : Int} {r : (List DNode)} {s33 : Value} (h : slices_Delete_Node s1 i1 j1 = some r) : FSpecO Tryz.prog 141 [isV s33, rep i1, rep j1] [(s33, rowV 44 s1)] (anyV) [none, some (rowV 44 r)] := by
 unfold slices_Delete_Node at h
 obtain ⟨hn1, h⟩ := need_some h
 refine FSpecO.i Tryz.func141 rfl Tryz.ntmps141 rfl (fun F => (.sn mx (.c (.assign .none (.const (x := ([] : (List DNode))) (fun M w => ⟨_, ⟨none, 0, rfl, Nat.le_refl _, by decide, rfl⟩, rfl⟩))) (.nil (.sr [oo, oo, oo, oo, ([33], []), ([33], [])] mx (.mvA rfl (.mvA rfl (.mvA rfl (.mvA rfl (.cA (.lenO (k := 33) sl22 (.told (.s rfl) rfl)) (.cA (.slice3 (k := 33) sl22 ty44 (.s rfl) rfl (.s rfl) (.s rfl) (.s rfl) hn1) (.nil (.seq (.sn mx (.mv rfl (.mv rfl (.c (.eqI .none (.s rfl) (.s rfl)) (.nil (.cb rfl h (fun _ h => ?_) fun _ h => ?_)))))))))))))))))))
 ·
  refine .sn mx (.mv rfl (.asn rfl (.nil (.ret (.thenRet (.anon (t := 6) (g := 33) rfl rfl trivial rfl ?_))))))
  obtain rfl := some_eq h
  exact Ends.ret1O (.inl rfl) [33, 6] Tryz.results141 (by decide) (.skip (.res rfl rfl)) (ResOK.tmp rfl trivial (fun _ _ _ _ => trivial))
 ·
  obtain ⟨hn3, h⟩ := need_some h
  obtain ⟨hn4, h⟩ := need_some h
  obtain ⟨hn5, h⟩ := need_some h
  obtain ⟨s2, hv6, h⟩ := bnd_some h
  obtain ⟨hn7, h⟩ := need_some h
  obtain ⟨hn8, h⟩ := need_some h
  obtain ⟨hn9, h⟩ := need_some h
  obtain ⟨hn10, h⟩ := need_some h
  obtain ⟨s3, hv11, h⟩ := bnd_some h
  obtain ⟨hn12, h⟩ := need_some h
  refine .skip (.then (.sr [oo, ([33], []), oo] mx (.mvA rfl (.cA (.lenO (k := 33) sl22 (.told (.s rfl) rfl)) (.asnA rfl (.nil (.sr [oo, oo, ([33], []), oo, oo, ([33], []), ([33], [33]), oo] mx (.mvA rfl (.mvA rfl (.cA (.sliceLend (k := 33) sl22 ty44 (.s rfl) rfl rfl (.s rfl) hn3) (.mvA rfl (.mvA rfl (.cA (.sliceLend (k := 33) sl22 ty44 (.s rfl) rfl (.s rfl) rfl hn4) (.cW (.appendSelf (k := 33) rk22 (.s rfl) (.s rfl) rfl hn3 hn4 hn5) (.asnA rfl (.nil (.reB (t := 33) rfl (congrArg (fun y => CPred.at s33 (rowV 44 y)) hv6) (.sr [oo, oo, ([33], []), oo, ([33], []), ([33], [33])] mx (.mvA rfl (.mvA rfl (.cA (.lenPart (k := 33) sl22 (.s rfl) rfl hn7) (.mvA rfl (.cA (.slicePart (k := 33) sl22 ty44 (.s rfl) rfl (.s rfl) (.s rfl) hn8 hn9) (.cN (.clearPart2 (k := 33) sl22 zo44 (.s rfl) rfl hn9 hn10) (.nil (.reB (t := 33) rfl (congrArg (fun y => CPred.at s33 (rowV 44 y)) hv11) (.sn mx (.mv rfl (.asn rfl (.nil (.ret (.head (t := 6) (k := 33) rfl rfl trivial rfl hn12 ?_))))))))))))))))))))))))))))))))
  obtain rfl := some_eq h
  exact Ends.ret1O (.inl rfl) [33, 6] Tryz.results141 (by decide) (.skip (.res rfl rfl)) (ResOK.tmp rfl trivial (fun _ _ _ _ => trivial))

theorem page_Ungroup_ok {d1 : Doc} {id1 : Str} {r : (Doc × Int)}  (h : page_Ungroup d1 id1 = some r) : FSpec Tryz.prog 63 [rep d1, rep id1] (tup [rep r.1, rep r.2]) := by
 unfold page_Ungroup at h
 obtain ⟨v1, hv1, h⟩ := bnd_some h
 obtain ⟨r1, hv2, h⟩ := bind_some h
 refine FSpec.i Tryz.func63 rfl Tryz.ntmps63 rfl (fun F => (.sr [([], [2]), ([], [4]), oo] mx (.cW (.boxO rfl (.s rfl)) (.al zo25 rfl (.cA (.assign .none .i) (.nil (.reB (t := 4) rfl (congrArg (cont 25) hv1) (.nameBox (t := 2) (g := 5001) rfl rfl (fun m5001 => (.nameBox (t := 4) (g := 5002) rfl rfl (fun m5002 => (.sr [([5001], []), oo, oo, oo, oo, oo, oo, oo, oo, oo] mx (.cA (.loadAt0 (k := 5001) .none ty25 rfl (.s rfl)) (.mvA rfl (.cA (.call .none (page_find_ok hv2) (.cons (.s rfl) (.cons (.s rfl) .nil))) (.mvA rfl (.exA rfl rfl (.exA rfl rfl (.exA rfl rfl (.asnA rfl (.asnA rfl (.asnA rfl (.nil (.seq (.sn mx (.mv rfl (.nei rfl (.nil (.cb rfl h (fun _ h => ?_) fun _ h => ?_)))))))))))))))))))))))))))))
 ·
  obtain ⟨v2, hv4, h⟩ := bnd_some h
  refine .sr [oo, oo, ([5002], [5002]), oo] mx (.cA (.re hv4 (.buildF (y := (⟨([] : (List DNode)), ([] : (List DEdge))⟩ : Doc)) .none bu25 zc25 rfl .nil .nil)) (.mvA rfl (.s0 5002 ty25 rfl rfl rfl (.asnA rfl (.nil (.fb 5002 [4] rfl (.cons (t := 4) rfl trivial .nil) (.ret (.thenRet ?_))))))))
  obtain rfl := some_eq h
  exact Ends.r2 Tryz.results63 ty25 rfl rfl
 ·
  obtain ⟨hn5, h⟩ := need_some h
  refine .skip (.then (.seq (.sr [oo, ([5001], []), oo, oo, oo, oo, oo] mx (.cA (.fieldPtr .none fd25_0 (.s rfl)) (.cA (.loadAt (k := 5001) .none ty22 rfl (.s rfl) hfd25_0) (.mvA rfl (.ixA sl22 ty44 rfl rfl hn5 (.faA fd44_1 hfd44_1 rfl (.ldA ty3 rfl (.cA (.neI .none (.s rfl) .i) (.nil (.cb rfl h (fun _ h => ?_) fun _ h => ?_))))))))))))
  ·
   obtain ⟨v3, hv7, h⟩ := bnd_some h
   refine .sr [oo, ([5002], [5002]), oo] mx (.cA (.re hv7 (.buildF (y := (⟨([] : (List DNode)), ([] : (List DEdge))⟩ : Doc)) .none bu25 zc25 rfl .nil .nil)) (.s0 5002 ty25 rfl rfl rfl (.cA (.assign .none .i) (.nil (.fb 5002 [4] rfl (.cons (t := 4) rfl trivial .nil) (.ret (.thenRet ?_)))))))
   obtain rfl := some_eq h
   exact Ends.r2 Tryz.results63 ty25 rfl rfl
  ·
   obtain ⟨r2, hv8, h⟩ := bind_some h
   obtain ⟨v4, hv9, h⟩ := bind_some h
   obtain ⟨v5, hv10, h⟩ := bnd_some h
   refine .skip (.then (.sr [([5001], []), ([], [31]), ([5001, 31], [5001, 31])] mx (.cA (.loadAt0 (k := 5001) .none ty25 rfl (.s rfl)) (.cW (.cO [] (page_cloned_ok hv8) (.cons (.s rfl) .nil) .nil rfl) (.cN (.storeG2N (t := 31) (k := 5001) (mk := (fun z1 z2 => (⟨⟨z1⟩, ⟨z2⟩⟩ : Doc_o01))) ty25 rfl rfl (by rfl) rfl (.s rfl) rfl rfl) (.nil (.open (k := 5001) (g := 5003) rfl rfl (fun s5003 => (.open (k := 5001) (g := 5004) rfl rfl (fun s5004 => (.seq (.seq (.isRef (t := 6) hv9 rfl trivial (.rn mx (.mv rfl (.c (.nilCheckR .none (.s rfl)) (.fa fd148_2 hfd148_2 rfl (.ld ty146 rfl (.mv rfl (.c (.re hv10 (.lookup .none mo146 zo118 (.s rfl) (.s rfl))) (.ln sl118 rfl (.mvi (.nil (.then ?_))))))))))))))))))))))))
   obtain ⟨j_11, h, hK11⟩ := bind_some h
   refine .thenJ (ι := (List DNode)) (fun j_11 => []) (fun j_11 => [(5003, some (CPred.at s5003 (rowV 44 j_11)))]) (fun s => j_11 = s) (.k2 2 4 rfl rfl (.k 7 rfl .nil)) (.k2 5001 5002 rfl rfl (.k 5004 rfl .nil)) ?_ (fun j_11' hj11 => ?_)
   ·
    refine .block (.rforL h (fun p12_ => [(39, ⟨True, rep p12_.1⟩)]) (fun p12_ => [(5003, some (CPred.at s5003 (rowV 44 p12_.2)))]) (.k 39 rfl .nil) (.k 5003 rfl .nil) (.k4 2 4 7 37 rfl rfl rfl rfl (.k 38 rfl .nil)) (.k2 5001 5002 rfl rfl (.k 5004 rfl .nil)) (fun p12_ o_12 h hD12 => (.sn mx (.lt rfl rfl (.nil (.seq (.cb rfl h (fun _ h => ?_) fun _ h => ?_)))))))
    ·
     refine .skip (.then (.seq ?_))
     obtain ⟨j_14, h, hK14⟩ := bind_some h
     unfold page_Ungroup_L1 at h
     refine .thenJ (ι := (List DNode)) (fun j_14 => []) (fun j_14 => [(5003, some (CPred.at s5003 (rowV 44 j_14)))]) (fun s => j_14 = s) (.k4 2 4 7 37 rfl rfl rfl rfl (.k2 38 39 rfl rfl .nil)) (.k2 5001 5002 rfl rfl (.k 5004 rfl .nil)) ?_ (fun j_14' hj14 => ?_)
     ·
      obtain ⟨hn15, h⟩ := need_some h
      obtain ⟨hn16, h⟩ := need_some h
      obtain ⟨v6, hv17, h⟩ := bnd_some h
      obtain ⟨hn18, h⟩ := need_some h
      exact .block (.sn mx (.ix sl118 ty3 rfl rfl hn15 (.ld ty3 rfl (.asn rfl (.nil (.rg [oo, ([5001], []), oo, oo, ([5001], []), oo, ([5003], []), ([5003], []), ([5003], []), ([5003], []), ([5003], []), ([5003], [5003])] mx (.cA (.fieldPtr .none fd25_0 (.s rfl)) (.cA (.loadAt (k := 5001) .none tr22 rfl (.s rfl) hv_Doc_o01_0) (.mvA rfl (.cA (.fieldPtr .none fd25_0 (.s rfl)) (.cA (.loadAt (k := 5001) .none tr22 rfl (.s rfl) hv_Doc_o01_0) (.mvA rfl (.ixO 5003 sl22 ty44 rfl rfl rfl hn16 (.fe 5003 fd44_5 rfl rfl hn16 (.cA (.re hv17 (.loadElem (k := 5003) .none ty9 (.s rfl) rfl hfd44_5 (fun _ => hn16))) (.ixO 5003 sl22 ty44 rfl rfl rfl hn18 (.fe 5003 fd44_5 rfl rfl hn18 (.cN (.storeElem (k := 5003) ty9 (.s rfl) rfl sf44_5 (.s rfl) hn18) (.nil (.blkNormal (Ends.j _ (some_eq h))))))))))))))))))))))
     ·
      subst hj14; have h := hK14; clear hK14
      exact .rn mx (.adi rfl (.mv rfl (.nil (Ends.ag (some_eq h)))))
    ·
     refine .exit (.thenExit (.thenExit (.blkExit ?_)))
     replace h := hD12 _ (some_eq h)
     exact Ends.j _ (some_eq h)
   ·
    subst hj11; have h := hK11; clear hK11
    obtain ⟨r3, hv19, h⟩ := bind_some h
    refine .sr [oo, ([5001], []), oo, oo, oo, ([5003], [5003, 60]), oo, ([5001, 60], [5001, 60])] mx (.cA (.fieldPtr .none fd25_0 (.s rfl)) (.cA (.loadAt (k := 5001) .none tr22 rfl (.s rfl) hv_Doc_o01_0) (.mvA rfl (.mvA rfl (.cA (.addW .none (.s rfl) .i) (.cW (.cO [5003] (slices_Delete_Node_ok hv19) (.cons (.s rfl) (.cons (.s rfl) (.cons (.s rfl) .nil))) (.cons (k := 5003) rfl .nil) rfl) (.cA (.fieldPtr .none fd25_0 (.s rfl)) (.cN (.storeRow (k := 5001) (t := 60) ty22 rfl (.s rfl) sv_Doc_o01_0 rfl rfl) (.nil (.open (k := 5001) (g := 5005) rfl rfl (fun s5005 => (.close (k := 5001) (g := 5004) (fun z => cont 25 (⟨⟨s5005⟩, ⟨z⟩⟩ : Doc_o01)) rfl rfl rfl (.close (k := 5001) (g := 5005) (fun z => deep (fun z0 => cont 25 (⟨⟨z⟩, ⟨z0⟩⟩ : Doc_o01)) (rowV 67 r2.Edges)) rfl rfl rfl (.freezeAt (g := 5001) (S := ref ({ r2 with Nodes := r3, Edges := r2.Edges } : Doc)) (ts := [2]) rfl (.cons (t := 2) rfl trivial .nil) (.k 5002 rfl .nil) rfl (fun M D w h hms => deep_ref2 (mk := (fun s1_ s2_ => (⟨⟨s1_⟩, ⟨s2_⟩⟩ : Doc_o01))) (y := ({ r2 with Nodes := r3, Edges := r2.Edges } : Doc)) frzRow frzRow rfl (fun M s1_ s2_ cs w hc g1 g2 => by obtain ⟨c0, q0, e0, h0, h1⟩ := hc; exact ⟨c0, q0, e0, raw_cells rfl rfl h0 g1, raw_cells rfl rfl h1 g2⟩) M D w h hms) ?_))))))))))))))
    obtain ⟨v7, hv20, h⟩ := bnd_some h
    refine .sr [oo, ([5002], [5002]), oo] mx (.rlA hv20 ty25 rfl (.s0 5002 ty25 rfl rfl rfl (.cA (.assign .none .i) (.nil (.fb 5002 [4] rfl (.cons (t := 4) rfl trivial .nil) (.ret ?_))))))
    obtain rfl := some_eq h
    exact Ends.r2 Tryz.results63 ty25 rfl rfl

theorem law_MovesGoBack_ok {d1 : Doc} {ids1 : (List Str)} {dx1 : Int} {dy1 : Int} {how1 : Int} {id1 : Str} {r : Bool}  (h : law_MovesGoBack d1 ids1 dx1 dy1 how1 id1 = some r) : FSpec Tryz.prog 6 [rep d1, rep ids1, rep dx1, rep dy1, rep how1, rep id1] (rep r) := by
 unfold law_MovesGoBack at h
 obtain ⟨r1, hv1, h⟩ := bind_some h
 refine FSpec.i Tryz.func6 rfl Tryz.ntmps6 rfl (fun F => (.sn mx (.c (.box .none (.s rfl)) (.asb (.nil (.seq (.sn mx (.ld ty25 rfl (.mv rfl (.c (.call .none (law_selected_ok hv1) (.cons (.s rfl) (.cons (.s rfl) .nil))) (.nei rfl (.nil (.cb rfl h (fun _ h => ?_) fun _ h => ?_)))))))))))))
 ·
  obtain ⟨r2, hv3, h⟩ := bind_some h
  refine .sn mx (.c (.call .none (law_pages_ok hv3) .nil) (.asn rfl (.nil (.ret (.thenRet ?_)))))
  obtain rfl := some_eq h
  exact Ends.rt Tryz.results6 rfl
 ·
  obtain ⟨r3, hv4, h⟩ := bind_some h
  refine .skip (.then (.sr [oo, oo, oo, ([], [13]), ([13], [13])] mx (.ldA ty25 rfl (.mvA rfl (.cA (.call .none (ref_Touched_ok hv4).frzM (.cons (.s rfl) (.cons (.s rfl) .nil))) (.al zo90 rfl (.st ty90 rfl rfl rfl (.nil (.freeze (t := 13) rfl rfl SubB.nil rfl (.sn mx (.c (.makeFunc (ι := Doc × Bool) (pre := fun i => (fun x0 => law_MovesGoBack_1 x0 d1 r3) i.1 = some i.2) (Ss := fun i => [rep i.1]) (S := fun i => rep i.2) .none fnok59 (fun i h => law_MovesGoBack_1_ok h) (.cons (.s rfl) (.cons (.s rfl) .nil))) ?_)))))))))))
  obtain ⟨r4, hv5, h⟩ := bind_some h
  refine .asn rfl (.nil (.sr [oo, oo, oo, oo, oo, oo, oo, oo, ([], [15]), ([15], [15]), oo] mx (.ldA ty25 rfl (.mvA rfl (.mvA rfl (.mvA rfl (.cA (.call .none (page_Move_ok hv5) (.cons (.s rfl) (.cons (.s rfl) (.cons (.s rfl) (.cons (.s rfl) .nil))))) (.mvA rfl (.exA rfl rfl (.exA rfl rfl (.al zo25 rfl (.st ty25 rfl rfl rfl (.asnA rfl (.nil (.freeze (t := 15) rfl rfl SubB.nil rfl (.seq (.sn mx (.mv rfl (.eqi rfl (.nil ?_))))))))))))))))))))
  obtain ⟨o_6, h, hK6⟩ := bindR_some h
  refine .tJ (fun s => o_6 = Res.nx s) (.k4 1 4 5 6 rfl rfl rfl rfl (.k2 13 14 rfl rfl .nil)) SubB.nil ?_ (fun j_6 hj6 => ?_)
  ·
   refine .cb rfl h (fun _ h => ?_) fun _ h => ?_
   ·
    obtain ⟨r5, hv8, h⟩ := bind_some h
    obtain ⟨r6, hv9, h⟩ := bind_some h
    refine .sr [oo, oo, oo, oo, oo, oo, oo, oo, oo, oo, ([], [17]), ([17], [17]), oo] mx (.ldA ty25 rfl (.mvA rfl (.mvA rfl (.cA (.negW .none (.s rfl)) (.mvA rfl (.cA (.negW .none (.s rfl)) (.cA (.call .none (page_Move_ok hv8) (.cons (.s rfl) (.cons (.s rfl) (.cons (.s rfl) (.cons (.s rfl) .nil))))) (.mvA rfl (.exA rfl rfl (.exA rfl rfl (.al zo25 rfl (.st ty25 rfl rfl rfl (.asnA rfl (.nil (.freeze (t := 17) rfl rfl SubB.nil rfl (.sn mx (.mv rfl (.nei rfl (.mv rfl (.c (.load (.at rfl rfl) ty25 (.s rfl)) (.c (.load (.at rfl rfl) ty25 (.s rfl)) (.c (.callIf (.at rfl rfl) fnok62 (fun hg => ref_SameDoc_ok ((fun hg => gd_some hv9 ((notT hg.2))) hg)) (.cons (.tmp rfl id) (.cons (.tmp rfl id) .nil)) (fun h => h)) ?_))))))))))))))))))))))
    obtain ⟨r7, hv10, h⟩ := bind_some h
    refine .c (.not (.at rfl rfl) (.tmp rfl id)) (.po rfl rfl (.mv rfl (.mg rfl rfl rfl (.c (.load (.at rfl rfl) ty25 (.s rfl)) (.c (.callV (r4.1, r7) (.at rfl rfl) (.tmp rfl id) (fun hg => gd_some hv10 ((notT hg.2))) (.cons (.tmp rfl id) .nil)) (.c (.not (.at rfl rfl) (.tmp rfl id)) (.po rfl rfl (.nil (.cb rfl h (fun _ h => ?_) fun _ h => ?_)))))))))
    ·
     refine .sn mx (.asb (.nil (.ret (.thenRet ?_))))
     replace h := resb_ab hK6 (some_eq h)
     obtain rfl := some_eq h
     exact Ends.rt Tryz.results6 rfl
    ·
     exact .skip (Ends.j _ (some_eq h))
   ·
    exact .skip (Ends.j _ (some_eq h))
  ·
   have h := resb_nx hK6 hj6
   obtain ⟨r8, hv12, h⟩ := bind_some h
   obtain ⟨r9, hv13, h⟩ := bind_some h
   refine .seq (.sr [oo, oo, oo, oo, oo, oo, oo, ([], [19]), ([19], [19]), oo] mx (.ldA ty25 rfl (.mvA rfl (.mvA rfl (.cA (.call .none (page_Align_ok hv12) (.cons (.s rfl) (.cons (.s rfl) (.cons (.s rfl) .nil)))) (.mvA rfl (.exA rfl rfl (.exA rfl rfl (.al zo25 rfl (.st ty25 rfl rfl rfl (.asnA rfl (.nil (.freeze (t := 19) rfl rfl SubB.nil rfl (.sn mx (.mv rfl (.eqi rfl (.mv rfl (.mg rfl rfl rfl (.c (.load (.at rfl rfl) ty25 (.s rfl)) (.c (.callV (r8.1, r9) (.at rfl rfl) (.tmp rfl id) (fun hg => gd_some hv13 (hg.2)) (.cons (.tmp rfl id) .nil)) (.c (.not (.at rfl rfl) (.tmp rfl id)) (.pa rfl rfl (.nil (.cb rfl h (fun _ h => ?_) fun _ h => ?_))))))))))))))))))))))))
   ·
    refine .sn mx (.asb (.nil (.ret (.thenRet ?_))))
    obtain rfl := some_eq h
    exact Ends.rt Tryz.results6 rfl
   ·
    obtain ⟨r10, hv15, h⟩ := bind_some h
    obtain ⟨r11, hv16, h⟩ := bind_some h
    refine .skip (.then (.seq (.sr [oo, oo, oo, oo, oo, oo, oo, oo, oo, ([], [21]), ([21], [21]), oo] mx (.ldA ty25 rfl (.mvA rfl (.mvA rfl (.cA (.rem .none (.s rfl) .i (fun _ => by decide)) (.cA (.eqI .none (.s rfl) .i) (.cA (.call .none (page_Spread_ok hv15) (.cons (.s rfl) (.cons (.s rfl) (.cons (.s rfl) .nil)))) (.mvA rfl (.exA rfl rfl (.exA rfl rfl (.al zo25 rfl (.st ty25 rfl rfl rfl (.asnA rfl (.nil (.freeze (t := 21) rfl rfl SubB.nil rfl (.sn mx (.mv rfl (.eqi rfl (.mv rfl (.mg rfl rfl rfl (.c (.load (.at rfl rfl) ty25 (.s rfl)) (.c (.callV (r10.1, r11) (.at rfl rfl) (.tmp rfl id) (fun hg => gd_some hv16 (hg.2)) (.cons (.tmp rfl id) .nil)) (.c (.not (.at rfl rfl) (.tmp rfl id)) (.pa rfl rfl (.nil (.cb rfl h (fun _ h => ?_) fun _ h => ?_))))))))))))))))))))))))))))
    ·
     refine .sn mx (.asb (.nil (.ret (.thenRet ?_))))
     obtain rfl := some_eq h
     exact Ends.rt Tryz.results6 rfl
    ·
     obtain ⟨r12, hv18, h⟩ := bind_some h
     refine .skip (.then (.sr [oo, oo, oo, oo, oo, oo, oo, ([], [23]), ([23], [23]), oo] mx (.ldA ty25 rfl (.mvA rfl (.mvA rfl (.cA (.call .none (page_Group_ok hv18) (.cons (.s rfl) (.cons (.s rfl) (.cons (.s rfl) .nil)))) (.mvA rfl (.exA rfl rfl (.exA rfl rfl (.al zo25 rfl (.st ty25 rfl rfl rfl (.asnA rfl (.nil (.freeze (t := 23) rfl rfl SubB.nil rfl (.seq (.sn mx (.mv rfl (.nei rfl (.nil (.cb rfl h (fun _ h => ?_) fun _ h => ?_))))))))))))))))))))
     ·
      refine .sn mx (.asb (.nil (.ret (.thenRet ?_))))
      obtain rfl := some_eq h
      exact Ends.rt Tryz.results6 rfl
     ·
      obtain ⟨r13, hv20, h⟩ := bind_some h
      obtain ⟨r14, hv21, h⟩ := bind_some h
      refine .skip (.then (.sr [oo, oo, oo, oo, oo, oo, ([], [24]), ([24], [24]), oo] mx (.ldA ty25 rfl (.mvA rfl (.cA (.call .none (page_Ungroup_ok hv20) (.cons (.s rfl) (.cons (.s rfl) .nil))) (.mvA rfl (.exA rfl rfl (.exA rfl rfl (.al zo25 rfl (.st ty25 rfl rfl rfl (.asnA rfl (.nil (.freeze (t := 24) rfl rfl SubB.nil rfl (.sn mx (.mv rfl (.eqi rfl (.mv rfl (.c (.load (.at rfl rfl) ty25 (.s rfl)) (.c (.load (.at rfl rfl) ty25 (.s rfl)) (.c (.callIf (.at rfl rfl) fnok62 (fun hg => ref_SameDoc_ok ((fun hg => gd_some hv21 (hg.2)) hg)) (.cons (.tmp rfl id) (.cons (.tmp rfl id) .nil)) (fun h => h)) (.pa rfl rfl (.asn rfl (.nil (.ret ?_))))))))))))))))))))))))
      obtain rfl := some_eq h
      exact Ends.rt Tryz.results6 rfl


end Go.Proofs.YtclcheggnlhamaaGreatDoor
