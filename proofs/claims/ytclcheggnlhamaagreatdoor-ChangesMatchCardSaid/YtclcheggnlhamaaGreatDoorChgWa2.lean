/-
  The walks: what a function computes is what its plain function says (printed by a program of one's own).
-/
import Derived.Test.YtclcheggnlhamaaGreatDoorChgWa1
set_option maxRecDepth 100000
set_option linter.unusedSimpArgs false
set_option linter.unusedVariables false
namespace Go.Proofs.YtclcheggnlhamaaGreatDoor
open Go Go.DB Go.RowKit

theorem slices_Index_int_ok {s1 : (List Int)} {v1 : Int} {r : Int}  (h : slices_Index_int s1 v1 = some r) : FSpec Tryz.prog 170 [rep s1, rep v1] (rep r) := by
 unfold slices_Index_int at h
 refine FSpec.i Tryz.func170 rfl Tryz.ntmps170 rfl (fun F => (.sn mx (.asi (.nil (.seq (.sn mx (.mv rfl (.ln sl118 rfl (.mvi (.nil ?_))))))))))
 obtain ⟨o_1, h, hK1⟩ := bindR_some h
 refine .tJ (fun s => o_1 = Res.nx s) Sub.nil SubB.nil ?_ (fun j_1 hj1 => ?_)
 ·
  refine .block (.rforEL h (fun p2_ => [(8, ⟨True, rep p2_.1⟩)]) (fun p2_ => []) (.k 8 rfl .nil) SubB.nil (.k2 0 1 rfl rfl (.k 7 rfl .nil)) SubB.nil (fun p2_ o_2 h hD2 => (.sn mx (.lt rfl rfl (.nil (.seq (.cb rfl h (fun _ h => ?_) fun _ h => ?_)))))))
  ·
   refine .skip (.then (.seq ?_))
   obtain ⟨o_4, h, hK4⟩ := bindD_some h
   unfold slices_Index_int_L1 at h
   refine .tJ (fun s => o_4 = Res.nx s) (.k4 0 1 7 8 rfl rfl rfl rfl .nil) SubB.nil ?_ (fun j_4 hj4 => ?_)
   ·
    obtain ⟨hn5, h⟩ := need_some h
    refine .block (.sn mx (.mv rfl (.asn rfl (.nil (.sn mx (.mv rfl (.mv rfl (.mv rfl (.ix sl118 ty3 rfl rfl hn5 (.ld ty3 rfl (.c (.eqI .none (.s rfl) (.s rfl)) (.nil (.cb rfl h (fun _ h => ?_) fun _ h => ?_)))))))))))))
    ·
     refine .sn mx (.mv rfl (.asn rfl (.nil (.ret (.blkRet (.thenRet (.thenRet (.blkRet (.thenRet ?_)))))))))
     replace h := resd_ab hK4 (some_eq h)
     replace h := hD2 _ (some_eq h)
     replace h := resb_ab hK1 (some_eq h)
     obtain rfl := some_eq h
     exact Ends.rt Tryz.results170 rfl
    ·
     exact .skip (.blkNormal (Ends.j _ (some_eq h)))
   ·
    have h := resd_nx hK4 hj4
    exact .rn mx (.adi rfl (.mv rfl (.nil (Ends.ag (some_eq h)))))
  ·
   refine .exit (.thenExit (.thenExit (.blkExit ?_)))
   replace h := hD2 _ (some_eq h)
   exact Ends.j _ (some_eq h)
 ·
  have h := resb_nx hK1 hj1
  refine .sn mx (.asi (.nil (.ret ?_)))
  obtain rfl := some_eq h
  exact Ends.rt Tryz.results170 rfl

theorem slices_Contains_int_ok {s1 : (List Int)} {v1 : Int} {r : Bool}  (h : slices_Contains_int s1 v1 = some r) : FSpec Tryz.prog 101 [rep s1, rep v1] (rep r) := by
 unfold slices_Contains_int at h
 obtain ⟨r1, hv1, h⟩ := bind_some h
 refine FSpec.i Tryz.func101 rfl Tryz.ntmps101 rfl (fun F => (.sn mx (.asb (.nil (.sn mx (.mv rfl (.mv rfl (.c (.call .none (slices_Index_int_ok hv1) (.cons (.s rfl) (.cons (.s rfl) .nil))) (.c (.ge .none (.s rfl) .i) (.asn rfl (.nil (.ret ?_))))))))))))
 obtain rfl := some_eq h
 exact Ends.rt Tryz.results101 rfl

theorem slices_Concat_Node_ok {slices1 : (List (List DNode))} {r : (List DNode)}  (h : slices_Concat_Node slices1 = some r) : FSpecO Tryz.prog 102 [rep slices1] [] (anyV) [some (rowV 44 r)] := by
 unfold slices_Concat_Node at h
 refine FSpecO.i Tryz.func102 rfl Tryz.ntmps102 rfl (fun F => (.sn mx (.c (.assign .none (.const (x := ([] : (List DNode))) (fun M w => ⟨_, ⟨none, 0, rfl, Nat.le_refl _, by decide, rfl⟩, rfl⟩))) (.nil (.sn mx (.asi (.nil (.seq (.sn mx (.mv rfl (.ln sl202 rfl (.mvi (.nil ?_)))))))))))))
 obtain ⟨j_1, h, hK1⟩ := bind_some h
 refine .thenJ (ι := Int) (fun j_1 => [(3, ⟨True, rep j_1⟩)]) (fun j_1 => []) (fun s => j_1 = s) (.k 0 rfl .nil) SubB.nil ?_ (fun j_1' hj1 => ?_)
 ·
  refine .block (.rforL h (fun p2_ => [(11, ⟨True, rep p2_.1⟩), (3, ⟨True, rep p2_.2⟩)]) (fun p2_ => []) (.k2 11 3 rfl rfl .nil) SubB.nil (.k2 0 9 rfl rfl (.k 10 rfl .nil)) SubB.nil (fun p2_ o_2 h hD2 => (.sn mx (.lt rfl rfl (.nil (.seq (.cb rfl h (fun _ h => ?_) fun _ h => ?_)))))))
  ·
   refine .skip (.then (.seq ?_))
   obtain ⟨j_4, h, hK4⟩ := bind_some h
   unfold slices_Concat_Node_L1 at h
   refine .thenJ (ι := Int) (fun j_4 => [(3, ⟨True, rep j_4⟩)]) (fun j_4 => []) (fun s => j_4 = s) (.k4 0 9 10 11 rfl rfl rfl rfl .nil) SubB.nil ?_ (fun j_4' hj4 => ?_)
   ·
    obtain ⟨hn5, h⟩ := need_some h
    obtain ⟨size1, hv6, h⟩ := bnd_some h
    refine .block (.sn mx (.ix sl202 ty22 rfl rfl hn5 (.ld ty22 rfl (.asn rfl (.nil (.sn mx (.mv rfl (.mv rfl (.ln sl22 rfl (.add rfl rfl (.ra hv6 rfl (.nil (.sn mx (.mv rfl (.c (.lt .none (.s rfl) .i) (.nil (.cb rfl h (fun _ h => ?_) fun _ h => ?_)))))))))))))))))
    ·
     cases h
    ·
     exact .skip (.blkNormal (Ends.j _ (some_eq h)))
   ·
    subst hj4; have h := hK4; clear hK4
    exact .rn mx (.adi rfl (.mv rfl (.nil (Ends.ag (some_eq h)))))
  ·
   refine .exit (.thenExit (.thenExit (.blkExit ?_)))
   replace h := hD2 _ (some_eq h)
   exact Ends.j _ (some_eq h)
 ·
  subst hj1; have h := hK1; clear hK1
  obtain ⟨newslice1, hv8, h⟩ := bind_some h
  refine .sr [oo, ([], [24]), ([24], [6, 24])] mx (.mvA rfl (.cW (.cO [] (slices_Grow_Node_ok hv8) (.cons (.const (fun _ _ => rep_raw.2 ⟨rfl, rfl, rfl⟩)) (.cons (.s rfl) .nil)) .nil rfl) (.cW (.passRow rfl (.tmp rfl)) (.nil (.nameRow (t := 6) (g := 5001) rfl rfl rfl (fun s5001 => (.seq (.sn mx (.mv rfl (.ln sl202 rfl (.mvi (.nil ?_))))))))))))
  obtain ⟨j_9, h, hK9⟩ := bind_some h
  refine .thenJ (ι := (List DNode)) (fun j_9 => []) (fun j_9 => [(6, some (rowV 44 j_9))]) (fun s => j_9 = s) Sub.nil SubB.nil ?_ (fun j_9' hj9 => ?_)
  ·
   refine .block (.anon (t := 6) (g := 5001) rfl rfl trivial rfl (.rforL h (fun p10_ => [(27, ⟨True, rep p10_.1⟩)]) (fun p10_ => [(6, some (rowV 44 p10_.2))]) (.k 27 rfl .nil) (.k 6 rfl .nil) (.k2 25 26 rfl rfl .nil) SubB.nil (fun p10_ o_10 h hD10 => (.nameRow (t := 6) (g := 5002) rfl rfl rfl (fun s5002 => (.sn mx (.lt rfl rfl (.nil (.seq (.cb rfl h (fun _ h => ?_) fun _ h => ?_))))))))))
   ·
    refine .skip (.then (.seq ?_))
    obtain ⟨j_12, h, hK12⟩ := bind_some h
    unfold slices_Concat_Node_L2 at h
    refine .thenJ (ι := (List DNode)) (fun j_12 => []) (fun j_12 => [(6, some (rowV 44 j_12))]) (fun s => j_12 = s) (.k2 25 26 rfl rfl (.k 27 rfl .nil)) SubB.nil ?_ (fun j_12' hj12 => ?_)
    ·
     obtain ⟨hn13, h⟩ := need_some h
     obtain ⟨hn14, h⟩ := need_some h
     exact .block (.sn mx (.ix sl202 ty22 rfl rfl hn13 (.ld ty22 rfl (.asn rfl (.nil (.rg [oo, oo, ([5002], [33, 5002]), ([33], [6, 33])] mx (.mvA rfl (.mvA rfl (.cW (.append (k := 5002) rk22 rfl (.told (.s rfl) rfl) (.s rfl) hn14) (.consWD (.passRow rfl (.tmp rfl)) rfl rfl (.nil (.blkNormal (Ends.j _ (some_eq h))))))))))))))
    ·
     subst hj12; have h := hK12; clear hK12
     exact .nameRow (t := 6) (g := 5003) rfl rfl rfl (fun s5003 => (.rn mx (.adi rfl (.mv rfl (.nil (.anon (t := 6) (g := 5003) rfl rfl trivial rfl (Ends.ag (some_eq h))))))))
   ·
    refine .exit (.thenExit (.thenExit (.blkExit (.anon (t := 6) (g := 5002) rfl rfl trivial rfl ?_))))
    replace h := hD10 _ (some_eq h)
    exact Ends.j _ (some_eq h)
  ·
   subst hj9; have h := hK9; clear hK9
   refine .nameRow (t := 6) (g := 5004) rfl rfl rfl (fun s5004 => (.sn mx (.mv rfl (.asn rfl (.nil (.ret (.anon (t := 2) (g := 5004) rfl rfl trivial rfl ?_)))))))
   obtain rfl := some_eq h
   exact Ends.ret1O (.inl rfl) [2] Tryz.results102 (by decide) (.res rfl rfl) (ResOK.tmp rfl trivial (fun _ _ _ _ => trivial))

theorem page_Front_ok {d1 : Doc} {ids1 : (List Str)} {back1 : Bool} {r : (Doc × Int)}  (h : page_Front d1 ids1 back1 = some r) : FSpec Tryz.prog 39 [rep d1, rep ids1, rep back1] (tup [rep r.1, rep r.2]) := by
 unfold page_Front at h
 obtain ⟨v1, hv1, h⟩ := bnd_some h
 obtain ⟨r1, hv2, h⟩ := bind_some h
 refine FSpec.i Tryz.func39 rfl Tryz.ntmps39 rfl (fun F => (.sr [([], [3]), ([], [6]), oo] mx (.cW (.boxO rfl (.s rfl)) (.al zo25 rfl (.cA (.assign .none .i) (.nil (.reB (t := 6) rfl (congrArg (cont 25) hv1) (.nameBox (t := 3) (g := 5001) rfl rfl (fun m5001 => (.nameBox (t := 6) (g := 5002) rfl rfl (fun m5002 => (.sr [([5001], []), oo, oo, oo, oo, oo, oo, oo, oo, oo] mx (.cA (.loadAt0 (k := 5001) .none ty25 rfl (.s rfl)) (.mvA rfl (.cA (.call .none (page_selected_ok hv2) (.cons (.s rfl) (.cons (.s rfl) .nil))) (.mvA rfl (.exA rfl rfl (.exA rfl rfl (.exA rfl rfl (.asnA rfl (.asnA rfl (.asnA rfl (.nil (.seq (.sn mx (.mv rfl (.nei rfl (.nil (.cb rfl h (fun _ h => ?_) fun _ h => ?_)))))))))))))))))))))))))))))
 ·
  obtain ⟨v2, hv4, h⟩ := bnd_some h
  refine .sr [oo, oo, ([5002], [5002]), oo] mx (.cA (.re hv4 (.buildF (y := (⟨([] : (List DNode)), ([] : (List DEdge))⟩ : Doc)) .none bu25 zc25 rfl .nil .nil)) (.mvA rfl (.s0 5002 ty25 rfl rfl rfl (.asnA rfl (.nil (.fb 5002 [6] rfl (.cons (t := 6) rfl trivial .nil) (.ret (.thenRet ?_))))))))
  obtain rfl := some_eq h
  exact Ends.r2 Tryz.results39 ty25 rfl rfl
 ·
  obtain ⟨r2, hv5, h⟩ := bind_some h
  refine .skip (.then (.sr [([5001], []), oo, ([5001], [5001])] mx (.cA (.loadAt0 (k := 5001) .none ty25 rfl (.s rfl)) (.cA (.call .none (page_cloned_fz hv5) (.cons (.s rfl) .nil)) (.s0 5001 ty25 rfl rfl rfl (.nil (.sr [([], [11]), ([], [12])] mx (.cW (.nilRow (T := 44) (α := DNode) rfl) (.cW (.nilRow (T := 44) (α := DNode) rfl) (.nil (.nameRow (t := 11) (g := 5003) rfl rfl rfl (fun s5003 => (.nameRow (t := 12) (g := 5004) rfl rfl rfl (fun s5004 => (.seq (.sr [oo, ([5001], []), oo, oo] mx (.cA (.fieldPtr .none fd25_0 (.s rfl)) (.cA (.loadAt (k := 5001) .none ty22 rfl (.s rfl) hfd25_0) (.cA (.len .none sl22 (.s rfl)) (.cA (.move .none .i) (.nil ?_)))))))))))))))))))))
  obtain ⟨j_6, h, hK6⟩ := bind_some h
  refine .thenJ (ι := ((List DNode) × (List DNode))) (fun j_6 => []) (fun j_6 => [(11, some (rowV 44 j_6.1)), (12, some (rowV 44 j_6.2))]) (fun s => j_6 = s) (.k2 2 3 rfl rfl (.k 6 rfl .nil)) (.k2 5001 5002 rfl rfl .nil) ?_ (fun j_6' hj6 => ?_)
  ·
   refine .block (.anon (t := 11) (g := 5003) rfl rfl trivial rfl (.anon (t := 12) (g := 5004) rfl rfl trivial rfl (.rforL h (fun p7_ => [(31, ⟨True, rep p7_.1⟩)]) (fun p7_ => [(11, some (rowV 44 p7_.2.1)), (12, some (rowV 44 p7_.2.2))]) (.k 31 rfl .nil) (.k2 11 12 rfl rfl .nil) (.k4 2 3 6 9 rfl rfl rfl rfl (.k2 29 30 rfl rfl .nil)) (.k2 5001 5002 rfl rfl .nil) (fun p7_ o_7 h hD7 => (.nameRow (t := 11) (g := 5005) rfl rfl rfl (fun s5005 => (.nameRow (t := 12) (g := 5006) rfl rfl rfl (fun s5006 => (.sn mx (.lt rfl rfl (.nil (.seq (.cb rfl h (fun _ h => ?_) fun _ h => ?_)))))))))))))
   ·
    refine .skip (.then (.seq ?_))
    obtain ⟨j_9, h, hK9⟩ := bind_some h
    unfold page_Front_L1 at h
    refine .thenJ (ι := ((List DNode) × (List DNode))) (fun j_9 => []) (fun j_9 => [(11, some (rowV 44 j_9.1)), (12, some (rowV 44 j_9.2))]) (fun s => j_9 = s) (.k4 2 3 6 9 rfl rfl rfl rfl (.k2 29 30 rfl rfl (.k 31 rfl .nil))) (.k2 5001 5002 rfl rfl .nil) ?_ (fun j_9' hj9 => ?_)
    ·
     obtain ⟨hn10, h⟩ := need_some h
     obtain ⟨v3, hv11, h⟩ := bnd_some h
     obtain ⟨r3, hv12, h⟩ := bind_some h
     refine .block (.sr [oo, oo, oo, ([], [14]), oo, ([14], [14])] mx (.mvA rfl (.ixA sl22 ty44 rfl rfl hn10 (.rlA hv11 ty44 rfl (.al zo44 rfl (.asnA rfl (.st ty44 rfl rfl rfl (.nil (.freeze (t := 14) rfl rfl (.k2 5001 5002 rfl rfl (.k2 5005 5006 rfl rfl .nil)) rfl (.sn mx (.mv rfl (.mv rfl (.c (.call .none (slices_Contains_int_ok hv12) (.cons (.s rfl) (.cons (.s rfl) .nil))) (.nil (.cb rfl h (fun _ h => ?_) fun _ h => ?_)))))))))))))))
     ·
      obtain ⟨hn14, h⟩ := need_some h
      exact .rg [oo, oo, oo, ([5005], [42, 5005]), ([42], [11, 42])] mx (.mvA rfl (.ldA ty44 rfl (.cA (.buildSlice (xs := [_]) .none sl22 ty44 hz44 (.cons (.s rfl) .nil) rfl (by decide)) (.cW (.append (k := 5005) rk22 rfl (.told (.s rfl) rfl) (.s rfl) hn14) (.cW (.passRow rfl (.tmp rfl)) (.nil (.blkNormal (.anon (t := 12) (g := 5006) rfl rfl trivial rfl (Ends.j _ (some_eq h))))))))))
     ·
      obtain ⟨hn15, h⟩ := need_some h
      exact .rg [oo, oo, oo, ([5006], [46, 5006]), ([46], [12, 46])] mx (.mvA rfl (.ldA ty44 rfl (.cA (.buildSlice (xs := [_]) .none sl22 ty44 hz44 (.cons (.s rfl) .nil) rfl (by decide)) (.cW (.append (k := 5006) rk22 rfl (.told (.s rfl) rfl) (.s rfl) hn15) (.cW (.passRow rfl (.tmp rfl)) (.nil (.blkNormal (.anon (t := 11) (g := 5005) rfl rfl trivial rfl (Ends.j _ (some_eq h))))))))))
    ·
     subst hj9; have h := hK9; clear hK9
     exact .nameRow (t := 11) (g := 5007) rfl rfl rfl (fun s5007 => (.nameRow (t := 12) (g := 5008) rfl rfl rfl (fun s5008 => (.rn mx (.adi rfl (.mv rfl (.nil (.anon (t := 11) (g := 5007) rfl rfl trivial rfl (.anon (t := 12) (g := 5008) rfl rfl trivial rfl (Ends.ag (some_eq h)))))))))))
   ·
    refine .exit (.thenExit (.thenExit (.blkExit (.anon (t := 11) (g := 5005) rfl rfl trivial rfl (.anon (t := 12) (g := 5006) rfl rfl trivial rfl ?_)))))
    replace h := hD7 _ (some_eq h)
    exact Ends.j _ (some_eq h)
  ·
   subst hj6; have h := hK6; clear hK6
   obtain ⟨r4, hv16, h⟩ := bind_some h
   refine .freezeRowA (t := 11) rfl rfl (.k2 12 5001 rfl rfl (.k 5002 rfl .nil)) rfl (.freezeRowA (t := 12) rfl rfl (.k2 5001 5002 rfl rfl .nil) rfl (.sr [oo, oo, oo, ([], [51]), oo, ([5001, 51], [5001, 51])] mx (.mvA rfl (.mvA rfl (.cA (.buildSlice (xs := [_, _]) .none sl202 ty22 hz22 (.cons (.s rfl) (.cons (.s rfl) .nil)) rfl (by decide)) (.cW (.cO [] (slices_Concat_Node_ok hv16) (.cons (.s rfl) .nil) .nil rfl) (.cA (.fieldPtr .none fd25_0 (.s rfl)) (.cN (.storeRowF (k := 5001) (t := 51) (off := 0) (set := fun s => (⟨⟨s⟩, r2.Edges⟩ : Doc_o0)) ty22 rfl (.s rfl) (by decide) (fun M s cs w hc hs => by obtain ⟨c0, q0, e0, h0, h1⟩ := hc; obtain ⟨v, _, hv⟩ := cells_one rfl rfl h0; exact sv_Doc_o0_0.2 M (⟨⟨v⟩, r2.Edges⟩ : Doc_o0) ⟨s⟩ cs [s] w ⟨c0, q0, e0, hv, h1⟩ hs) rfl rfl) (.nil (.open (k := 5001) (g := 5009) rfl rfl (fun s5009 => (.seq (.sn mx (.mv rfl (.nil ?_)))))))))))))))
   obtain ⟨j_17, h, hK17⟩ := bind_some h
   refine .thenJ (ι := Doc) (fun j_17 => []) (fun j_17 => [(5001, some (CPred.at (ptr m5001 0) (deep (fun z0 => cont 25 (⟨⟨z0⟩, j_17.Edges⟩ : Doc_o0)) (rowV 44 j_17.Nodes))))]) (fun s => j_17 = s) (.k2 3 6 rfl rfl .nil) (.k 5002 rfl .nil) ?_ (fun j_17' hj17 => ?_)
   ·
    refine .cb rfl h (fun _ h => ?_) fun _ h => ?_
    ·
     obtain ⟨r5, hv19, h⟩ := bind_some h
     exact .rg [oo, oo, oo, ([], [57]), oo, ([5001, 57], [5001, 57])] mx (.mvA rfl (.mvA rfl (.cA (.buildSlice (xs := [_, _]) .none sl202 ty22 hz22 (.cons (.s rfl) (.cons (.s rfl) .nil)) rfl (by decide)) (.cW (.cO [] (slices_Concat_Node_ok hv19) (.cons (.s rfl) .nil) .nil rfl) (.cA (.fieldPtr .none fd25_0 (.s rfl)) (.cN (.storeRow (k := 5001) (t := 57) ty22 rfl (.s rfl) sv_Doc_o0_0 rfl rfl) (.nil (Ends.j _ (some_eq h)))))))))
    ·
     exact .skip (.close (k := 5001) (g := 5009) (fun z => cont 25 (⟨⟨z⟩, r2.Edges⟩ : Doc_o0)) rfl rfl rfl (Ends.j _ (some_eq h)))
   ·
    subst hj17; have h := hK17; clear hK17
    refine .freezeAt (g := 5001) (S := ref ({ j_17 with Nodes := j_17.Nodes } : Doc)) (ts := [3]) rfl (.cons (t := 3) rfl trivial .nil) (.k 5002 rfl .nil) rfl (fun M D w h hms => deep_ref1 (mk := (fun s1_ => (⟨⟨s1_⟩, j_17.Edges⟩ : Doc_o0))) (y := ({ j_17 with Nodes := j_17.Nodes } : Doc)) frzRow rfl (fun M s1_ cs w hc g1 => by obtain ⟨c0, q0, e0, h0, h1⟩ := hc; exact ⟨c0, q0, e0, raw_cells rfl rfl h0 g1, h1⟩) M D w h hms) ?_
    obtain ⟨v4, hv20, h⟩ := bnd_some h
    refine .sr [oo, ([5002], [5002]), oo] mx (.rlA hv20 ty25 rfl (.s0 5002 ty25 rfl rfl rfl (.cA (.assign .none .i) (.nil (.fb 5002 [6] rfl (.cons (t := 6) rfl trivial .nil) (.ret ?_))))))
    obtain rfl := some_eq h
    exact Ends.r2 Tryz.results39 ty25 rfl rfl

theorem page_Group_1_ok {n1 : DNode} {c0_1 : Str} {r : Bool}  (h : page_Group_1 n1 c0_1 = some r) : FSpec Tryz.prog 104 [rep n1, ref c0_1] (rep r) := by
 unfold page_Group_1 at h
 refine FSpec.i Tryz.func104 rfl Tryz.ntmps104 rfl (fun F => (.sn mx (.c (.box .none (.s rfl)) (.asb (.nil (.sn mx (.fa fd44_0 hfd44_0 rfl (.ld ty9 rfl (.ld ty9 rfl (.c (.eqS .none (eqAt_str Tryz.underlying9) (.s rfl) (.s rfl)) (.asn rfl (.nil (.ret ?_)))))))))))))
 obtain rfl := some_eq h
 exact Ends.rt Tryz.results104 rfl

theorem page_Group_2_ok {x1 : DEdge} {c0_1 : Str} {r : Bool}  (h : page_Group_2 x1 c0_1 = some r) : FSpec Tryz.prog 106 [rep x1, ref c0_1] (rep r) := by
 unfold page_Group_2 at h
 refine FSpec.i Tryz.func106 rfl Tryz.ntmps106 rfl (fun F => (.sn mx (.c (.box .none (.s rfl)) (.asb (.nil (.sn mx (.fa fd67_0 hfd67_0 rfl (.ld ty9 rfl (.ld ty9 rfl (.c (.eqS .none (eqAt_str Tryz.underlying9) (.s rfl) (.s rfl)) (.asn rfl (.nil (.ret ?_)))))))))))))
 obtain rfl := some_eq h
 exact Ends.rt Tryz.results106 rfl

theorem page_Group_ok {d1 : Doc} {ids1 : (List Str)} {id1 : Str} {r : (Doc × Int)}  (h : page_Group d1 ids1 id1 = some r) : FSpec Tryz.prog 40 [rep d1, rep ids1, rep id1] (tup [rep r.1, rep r.2]) := by
 unfold page_Group at h
 obtain ⟨v1, hv1, h⟩ := bnd_some h
 obtain ⟨r1, hv2, h⟩ := bind_some h
 refine FSpec.i Tryz.func40 rfl Tryz.ntmps40 rfl (fun F => (.sr [([], [3]), oo, ([], [6]), oo] mx (.cW (.boxO rfl (.s rfl)) (.cA (.box .none (.s rfl)) (.al zo25 rfl (.cA (.assign .none .i) (.nil (.reB (t := 6) rfl (congrArg (cont 25) hv1) (.nameBox (t := 3) (g := 5001) rfl rfl (fun m5001 => (.nameBox (t := 6) (g := 5002) rfl rfl (fun m5002 => (.sr [([5001], []), oo, oo, oo, oo, oo, oo, oo, oo, oo] mx (.cA (.loadAt0 (k := 5001) .none ty25 rfl (.s rfl)) (.mvA rfl (.cA (.call .none (page_selected_ok hv2) (.cons (.s rfl) (.cons (.s rfl) .nil))) (.mvA rfl (.exA rfl rfl (.exA rfl rfl (.exA rfl rfl (.asnA rfl (.asnA rfl (.asnA rfl (.nil (.seq (.sn mx (.mv rfl (.nei rfl (.nil (.cb rfl h (fun _ h => ?_) fun _ h => ?_))))))))))))))))))))))))))))))
 ·
  obtain ⟨v2, hv4, h⟩ := bnd_some h
  refine .sr [oo, oo, ([5002], [5002]), oo] mx (.cA (.re hv4 (.buildF (y := (⟨([] : (List DNode)), ([] : (List DEdge))⟩ : Doc)) .none bu25 zc25 rfl .nil .nil)) (.mvA rfl (.s0 5002 ty25 rfl rfl rfl (.asnA rfl (.nil (.fb 5002 [6] rfl (.cons (t := 6) rfl trivial .nil) (.ret (.thenRet ?_))))))))
  obtain rfl := some_eq h
  exact Ends.r2 Tryz.results40 ty25 rfl rfl
 ·
  refine .skip (.then (.seq (.sn mx (.mv rfl (.ln sl118 rfl (.eqi rfl (.nil (.cb rfl h (fun _ h => ?_) fun _ h => ?_))))))))
  ·
   obtain ⟨v3, hv6, h⟩ := bnd_some h
   refine .sr [oo, ([5002], [5002]), oo] mx (.cA (.re hv6 (.buildF (y := (⟨([] : (List DNode)), ([] : (List DEdge))⟩ : Doc)) .none bu25 zc25 rfl .nil .nil)) (.s0 5002 ty25 rfl rfl rfl (.cA (.assign .none .i) (.nil (.fb 5002 [6] rfl (.cons (t := 6) rfl trivial .nil) (.ret (.thenRet ?_)))))))
   obtain rfl := some_eq h
   exact Ends.r2 Tryz.results40 ty25 rfl rfl
  ·
   obtain ⟨hn7, h⟩ := need_some h
   obtain ⟨hn8, h⟩ := need_some h
   obtain ⟨parent1, hv9, h⟩ := bnd_some h
   refine .skip (.then (.sr [oo, ([5001], []), oo, oo, oo, oo, oo, oo, oo] mx (.cA (.fieldPtr .none fd25_0 (.s rfl)) (.cA (.loadAt (k := 5001) .none ty22 rfl (.s rfl) hfd25_0) (.mvA rfl (.cA (.indexAddr .none sl118 ty3 (.s rfl) .i (fun _ => hn7)) (.ldA ty3 rfl (.ixA sl22 ty44 rfl rfl hn8 (.faA fd44_5 hfd44_5 rfl (.ldA ty9 rfl (.cA (.re hv9 (.assign .none (.s rfl))) (.nil (.seq (.sn mx (.mv rfl (.ln sl118 rfl (.mvi (.nil ?_))))))))))))))))))
   obtain ⟨o_10, h, hK10⟩ := bindR_some h
   refine .tJ (fun s => o_10 = Res.nx s) (.k4 3 5 6 9 rfl rfl rfl rfl (.k 11 rfl .nil)) (.k2 5001 5002 rfl rfl .nil) ?_ (fun j_10 hj10 => ?_)
   ·
    refine .block (.rforEL h (fun p11_ => [(42, ⟨True, rep p11_.1⟩)]) (fun p11_ => []) (.k 42 rfl .nil) SubB.nil (.k4 3 5 6 9 rfl rfl rfl rfl (.k2 11 40 rfl rfl (.k 41 rfl .nil))) (.k2 5001 5002 rfl rfl .nil) (fun p11_ o_11 h hD11 => (.sn mx (.lt rfl rfl (.nil (.seq (.cb rfl h (fun _ h => ?_) fun _ h => ?_)))))))
    ·
     refine .skip (.then (.seq ?_))
     obtain ⟨o_13, h, hK13⟩ := bindD_some h
     unfold page_Group_L1 at h
     refine .tJ (fun s => o_13 = Res.nx s) (.k4 3 5 6 9 rfl rfl rfl rfl (.k4 11 40 41 42 rfl rfl rfl rfl .nil)) (.k2 5001 5002 rfl rfl .nil) ?_ (fun j_13 hj13 => ?_)
     ·
      obtain ⟨hn14, h⟩ := need_some h
      obtain ⟨hn15, h⟩ := need_some h
      refine .block (.sn mx (.ix sl118 ty3 rfl rfl hn14 (.ld ty3 rfl (.asn rfl (.nil (.sr [oo, ([5001], []), oo, oo, oo, oo, oo, oo] mx (.cA (.fieldPtr .none fd25_0 (.s rfl)) (.cA (.loadAt (k := 5001) .none ty22 rfl (.s rfl) hfd25_0) (.mvA rfl (.ixA sl22 ty44 rfl rfl hn15 (.faA fd44_5 hfd44_5 rfl (.ldA ty9 rfl (.mvA rfl (.cA (.neS .none (eqAt_str Tryz.underlying9) (.s rfl) (.s rfl)) (.nil (.cb rfl h (fun _ h => ?_) fun _ h => ?_))))))))))))))))
      ·
       obtain ⟨v4, hv17, h⟩ := bnd_some h
       refine .sr [oo, ([5002], [5002]), oo] mx (.cA (.re hv17 (.buildF (y := (⟨([] : (List DNode)), ([] : (List DEdge))⟩ : Doc)) .none bu25 zc25 rfl .nil .nil)) (.s0 5002 ty25 rfl rfl rfl (.cA (.assign .none .i) (.nil (.fb 5002 [6] rfl (.cons (t := 6) rfl trivial .nil) (.ret (.blkRet (.thenRet (.thenRet (.blkRet (.thenRet ?_)))))))))))
       replace h := resd_ab hK13 (some_eq h)
       replace h := hD11 _ (some_eq h)
       replace h := resb_ab hK10 (some_eq h)
       obtain rfl := some_eq h
       exact Ends.r2 Tryz.results40 ty25 rfl rfl
      ·
       exact .skip (.blkNormal (Ends.j _ (some_eq h)))
     ·
      have h := resd_nx hK13 hj13
      exact .rn mx (.adi rfl (.mv rfl (.nil (Ends.ag (some_eq h)))))
    ·
     refine .exit (.thenExit (.thenExit (.blkExit ?_)))
     replace h := hD11 _ (some_eq h)
     exact Ends.j _ (some_eq h)
   ·
    have h := resb_nx hK10 hj10
    obtain ⟨r2, hv18, h⟩ := bind_some h
    refine .seq (.sn mx (.ld ty9 rfl (.c (.call .none (page_isName_ok hv18) (.cons (.s rfl) .nil)) (.c (.not .none (.s rfl)) (.nil (.cb rfl h (fun _ h => ?_) fun _ h => ?_))))))
    ·
     obtain ⟨v5, hv20, h⟩ := bnd_some h
     refine .sr [oo, ([5002], [5002]), oo] mx (.cA (.re hv20 (.buildF (y := (⟨([] : (List DNode)), ([] : (List DEdge))⟩ : Doc)) .none bu25 zc25 rfl .nil .nil)) (.s0 5002 ty25 rfl rfl rfl (.cA (.assign .none .i) (.nil (.fb 5002 [6] rfl (.cons (t := 6) rfl trivial .nil) (.ret (.thenRet ?_)))))))
     obtain rfl := some_eq h
     exact Ends.r2 Tryz.results40 ty25 rfl rfl
    ·
     refine .skip (.then (.seq (.sr [oo, ([5001], []), oo, oo, oo, oo, ([5001], []), oo, oo, oo] mx (.cA (.fieldPtr .none fd25_0 (.s rfl)) (.cA (.loadAt (k := 5001) .none ty22 rfl (.s rfl) hfd25_0) (.cA (.makeFunc (ι := DNode × Bool) (pre := fun i => (fun x0 => page_Group_1 x0 id1) i.1 = some i.2) (Ss := fun i => [rep i.1]) (S := fun i => rep i.2) .none fnok104 (fun i h => page_Group_1_ok h) (.cons (.s rfl) .nil)) ?_))))))
     obtain ⟨r3, hv21, h⟩ := bind_some h
     refine .cA (.call .none (slices_ContainsFunc_Node_ok hv21) (.cons (.s rfl) (.cons (.s rfl) .nil))) (.mvA rfl (.cA (.fieldPtr (.at rfl rfl) fd25_1 (.s rfl)) (.cA (.loadAt (k := 5001) (.at rfl rfl) ty23 rfl (.tmp rfl id) hfd25_1) (.cA (.makeFunc (ι := DEdge × Bool) (pre := fun i => (fun x0 => page_Group_2 x0 id1) i.1 = some i.2) (Ss := fun i => [rep i.1]) (S := fun i => rep i.2) (.at rfl rfl) fnok106 (fun i h => page_Group_2_ok h) (.cons (.s rfl) .nil)) ?_))))
     obtain ⟨r4, hv22, h⟩ := bind_some h
     refine .cA (.callIf (.at rfl rfl) fnok105 (fun hg => slices_ContainsFunc_Edge_ok ((fun hg => gd_some hv22 ((notT hg.2))) hg)) (.cons (.tmp rfl id) (.cons (.tmp rfl id) .nil)) (fun h => h)) (.cA (.pickOr .none (.s rfl) (.tmp rfl id)) (.nil (.cb rfl h (fun _ h => ?_) fun _ h => ?_)))
     ·
      obtain ⟨v6, hv24, h⟩ := bnd_some h
      refine .sr [oo, ([5002], [5002]), oo] mx (.cA (.re hv24 (.buildF (y := (⟨([] : (List DNode)), ([] : (List DEdge))⟩ : Doc)) .none bu25 zc25 rfl .nil .nil)) (.s0 5002 ty25 rfl rfl rfl (.cA (.assign .none .i) (.nil (.fb 5002 [6] rfl (.cons (t := 6) rfl trivial .nil) (.ret (.thenRet ?_)))))))
      obtain rfl := some_eq h
      exact Ends.r2 Tryz.results40 ty25 rfl rfl
     ·
      obtain ⟨r5, hv25, h⟩ := bind_some h
      refine .skip (.then (.sr [([5001], []), ([], [72]), ([5001, 72], [5001, 72])] mx (.cA (.loadAt0 (k := 5001) .none ty25 rfl (.s rfl)) (.cW (.cO [] (page_cloned_ok hv25) (.cons (.s rfl) .nil) .nil rfl) (.cN (.storeG2N (t := 72) (k := 5001) (mk := (fun z1 z2 => (⟨⟨z1⟩, ⟨z2⟩⟩ : Doc_o01))) ty25 rfl rfl (by rfl) rfl (.s rfl) rfl rfl) (.nil (.open (k := 5001) (g := 5003) rfl rfl (fun s5003 => (.open (k := 5001) (g := 5004) rfl rfl (fun s5004 => (.seq (.sn mx (.mv rfl (.ln sl118 rfl (.mvi (.nil ?_))))))))))))))))
      obtain ⟨j_26, h, hK26⟩ := bind_some h
      refine .thenJ (ι := (List DNode)) (fun j_26 => []) (fun j_26 => [(5003, some (CPred.at s5003 (rowV 44 j_26)))]) (fun s => j_26 = s) (.k4 3 5 6 9 rfl rfl rfl rfl (.k 11 rfl .nil)) (.k2 5001 5002 rfl rfl (.k 5004 rfl .nil)) ?_ (fun j_26' hj26 => ?_)
      ·
       refine .block (.rforL h (fun p27_ => [(75, ⟨True, rep p27_.1⟩)]) (fun p27_ => [(5003, some (CPred.at s5003 (rowV 44 p27_.2)))]) (.k 75 rfl .nil) (.k 5003 rfl .nil) (.k4 3 5 6 9 rfl rfl rfl rfl (.k2 11 73 rfl rfl (.k 74 rfl .nil))) (.k2 5001 5002 rfl rfl (.k 5004 rfl .nil)) (fun p27_ o_27 h hD27 => (.sn mx (.lt rfl rfl (.nil (.seq (.cb rfl h (fun _ h => ?_) fun _ h => ?_)))))))
       ·
        refine .skip (.then (.seq ?_))
        obtain ⟨j_29, h, hK29⟩ := bind_some h
        unfold page_Group_L2 at h
        refine .thenJ (ι := (List DNode)) (fun j_29 => []) (fun j_29 => [(5003, some (CPred.at s5003 (rowV 44 j_29)))]) (fun s => j_29 = s) (.k4 3 5 6 9 rfl rfl rfl rfl (.k4 11 73 74 75 rfl rfl rfl rfl .nil)) (.k2 5001 5002 rfl rfl (.k 5004 rfl .nil)) ?_ (fun j_29' hj29 => ?_)
        ·
         obtain ⟨hn30, h⟩ := need_some h
         obtain ⟨hn31, h⟩ := need_some h
         exact .block (.sn mx (.ix sl118 ty3 rfl rfl hn30 (.ld ty3 rfl (.asn rfl (.nil (.rg [oo, ([5001], []), oo, oo, ([5003], []), ([5003], []), ([5003], [5003])] mx (.cA (.fieldPtr .none fd25_0 (.s rfl)) (.cA (.loadAt (k := 5001) .none tr22 rfl (.s rfl) hv_Doc_o01_0) (.mvA rfl (.ldA ty9 rfl (.ixO 5003 sl22 ty44 rfl rfl rfl hn31 (.fe 5003 fd44_5 rfl rfl hn31 (.cN (.storeElem (k := 5003) ty9 (.s rfl) rfl sf44_5 (.s rfl) hn31) (.nil (.blkNormal (Ends.j _ (some_eq h)))))))))))))))))
        ·
         subst hj29; have h := hK29; clear hK29
         exact .rn mx (.adi rfl (.mv rfl (.nil (Ends.ag (some_eq h)))))
       ·
        refine .exit (.thenExit (.thenExit (.blkExit ?_)))
        replace h := hD27 _ (some_eq h)
        exact Ends.j _ (some_eq h)
      ·
       subst hj26; have h := hK26; clear hK26
       obtain ⟨hn32, h⟩ := need_some h
       obtain ⟨r6, hv33, h⟩ := bind_some h
       refine .sr [oo, ([5001], []), oo, oo, oo, oo, oo, oo, oo, oo, oo, oo, ([], [98]), ([5003, 98], [5003, 98, 99]), oo, ([5001, 99], [5001, 99])] mx (.cA (.fieldPtr .none fd25_0 (.s rfl)) (.cA (.loadAt (k := 5001) .none tr22 rfl (.s rfl) hv_Doc_o01_0) (.mvA rfl (.mvA rfl (.cA (.len .none sl118 (.s rfl)) (.cA (.subW .none (.s rfl) .i) (.ixA sl118 ty3 rfl rfl hn32 (.ldA ty3 rfl (.cA (.addW .none (.s rfl) .i) (.ldA ty9 rfl (.mvA rfl (.cA (.buildF (y := (⟨id1, 6, (⟨(0 : Int), (0 : Int), (0 : Int), (0 : Int)⟩ : Box), Str.nil, Str.nil, parent1, false⟩ : DNode)) .none bu44 zc44 rfl (.cons (.s rfl) (.cons .i (.cons (.s rfl) .nil))) (.cons rfl sf44_0 (.cons rfl sf44_1 (.cons rfl sf44_5 .nil)))) (.cW (.buildSliceO (xs := [_]) rfl sl22 ty44 hz44 (.cons (.s rfl) .nil) rfl (by decide)) (.cW (.tell (t := 98) rfl row_one rfl (by decide) (fun _ => StepOK.callO [5003, 98] (slices_Insert_Node_ok hv33) (.cons (.s rfl) (.cons (.s rfl) (.cons (.s rfl) .nil))) (.cons (k := 5003) rfl (.cons (k := 98) rfl .nil)) rfl (by decide) (by decide) (by intro d h; cases h; decide))) (.cA (.fieldPtr .none fd25_0 (.s rfl)) (.cN (.storeRow (k := 5001) (t := 99) ty22 rfl (.s rfl) sv_Doc_o01_0 rfl rfl) (.nil (.open (k := 5001) (g := 5005) rfl rfl (fun s5005 => (.close (k := 5001) (g := 5004) (fun z => cont 25 (⟨⟨s5005⟩, ⟨z⟩⟩ : Doc_o01)) rfl rfl rfl (.close (k := 5001) (g := 5005) (fun z => deep (fun z0 => cont 25 (⟨⟨z⟩, ⟨z0⟩⟩ : Doc_o01)) (rowV 67 r5.Edges)) rfl rfl rfl (.freezeAt (g := 5001) (S := ref ({ r5 with Nodes := r6, Edges := r5.Edges } : Doc)) (ts := [3]) rfl (.cons (t := 3) rfl trivial .nil) (.k 5002 rfl .nil) rfl (fun M D w h hms => deep_ref2 (mk := (fun s1_ s2_ => (⟨⟨s1_⟩, ⟨s2_⟩⟩ : Doc_o01))) (y := ({ r5 with Nodes := r6, Edges := r5.Edges } : Doc)) frzRow frzRow rfl (fun M s1_ s2_ cs w hc g1 g2 => by obtain ⟨c0, q0, e0, h0, h1⟩ := hc; exact ⟨c0, q0, e0, raw_cells rfl rfl h0 g1, raw_cells rfl rfl h1 g2⟩) M D w h hms) ?_))))))))))))))))))))))
       obtain ⟨e1, hv34, h⟩ := bind_some h
       refine .seq (.sn mx (.ld ty25 rfl (.c (.call .none (page_Check_ok hv34) (.cons (.s rfl) .nil)) (.asn rfl (.nil (.sn mx (.mv rfl (.nei rfl (.nil (.cb rfl h (fun _ h => ?_) fun _ h => ?_))))))))))
       ·
        obtain ⟨v7, hv36, h⟩ := bnd_some h
        refine .sr [oo, oo, ([5002], [5002]), oo] mx (.cA (.re hv36 (.buildF (y := (⟨([] : (List DNode)), ([] : (List DEdge))⟩ : Doc)) .none bu25 zc25 rfl .nil .nil)) (.mvA rfl (.s0 5002 ty25 rfl rfl rfl (.asnA rfl (.nil (.fb 5002 [6] rfl (.cons (t := 6) rfl trivial .nil) (.ret (.thenRet ?_))))))))
        obtain rfl := some_eq h
        exact Ends.r2 Tryz.results40 ty25 rfl rfl
       ·
        obtain ⟨v8, hv37, h⟩ := bnd_some h
        refine .skip (.then (.sr [oo, ([5002], [5002]), oo] mx (.rlA hv37 ty25 rfl (.s0 5002 ty25 rfl rfl rfl (.cA (.assign .none .i) (.nil (.fb 5002 [6] rfl (.cons (t := 6) rfl trivial .nil) (.ret ?_))))))))
        obtain rfl := some_eq h
        exact Ends.r2 Tryz.results40 ty25 rfl rfl

theorem page_view_below_okS {self : (Page_view × Int × (List Bool)) → Option (List Bool)} (hself : ∀ {s35 : Value} (x : (Page_view × Int × (List Bool))) (r : (List Bool)), self x = some r → FSpecO Tryz.prog 78 [ref x.1, rep x.2.1, isV s35] [(s35, rowV 4 x.2.2)] (anyV) [some (rowV 4 r)]) {s35 : Value} {x : (Page_view × Int × (List Bool))} {r : (List Bool)} (h : page_view_below_body self x = some r) : FSpecO Tryz.prog 78 [ref x.1, rep x.2.1, isV s35] [(s35, rowV 4 x.2.2)] (anyV) [some (rowV 4 r)] := by
 unfold page_view_below_body at h
 obtain ⟨hn1, h⟩ := need_some h
 obtain ⟨marks2, hv2, h⟩ := bnd_some h
 obtain ⟨hn3, h⟩ := need_some h
 obtain ⟨v2, hv4, h⟩ := bnd_some h
 refine FSpecO.i Tryz.func78 rfl Tryz.ntmps78 rfl (fun F => (.sr [oo, oo, ([35], []), ([35], [35])] mx (.mvA rfl (.mvA rfl (.ixO 35 sl112 ty4 rfl rfl rfl hn1 (.cN (.storeElem0 (k := 35) ty4 (.s rfl) rfl .bool hn1) (.nil (.reB (t := 35) rfl (congrArg (fun y => CPred.at s35 (rowV 4 y)) hv2) (.sn mx (.mv rfl (.c (.nilCheckR .none (.s rfl)) (.fa fd148_2 hfd148_2 rfl (.ld ty146 rfl (.mv rfl (.c (.nilCheckR .none (.s rfl)) (.fa fd148_0 hfd148_0 rfl (.fa fd25_0 hfd25_0 rfl (.ld ty22 rfl (.mv rfl (.ix sl22 ty44 rfl rfl hn3 (.fa fd44_0 hfd44_0 rfl (.ld ty9 rfl (.c (.re hv4 (.lookup .none mo146 zo118 (.s rfl) (.s rfl))) (.ln sl118 rfl (.mvi (.nil ?_))))))))))))))))))))))))))
 obtain ⟨j_5, h, hK5⟩ := bind_some h
 refine .tailJ (ι := (List Bool)) (fun j_5 => []) (fun j_5 => [(35, some (CPred.at s35 (rowV 4 j_5)))]) (fun s => j_5 = s) (.k 2 rfl .nil) SubB.nil ?_ (fun j_5' hj5 => ?_)
 ·
  refine .block (.rforL h (fun p6_ => [(26, ⟨True, rep p6_.1⟩)]) (fun p6_ => [(35, some (CPred.at s35 (rowV 4 p6_.2)))]) (.k 26 rfl .nil) (.k 35 rfl .nil) (.k4 0 2 24 25 rfl rfl rfl rfl .nil) SubB.nil (fun p6_ o_6 h hD6 => (.sn mx (.lt rfl rfl (.nil (.seq (.cb rfl h (fun _ h => ?_) fun _ h => ?_)))))))
  ·
   refine .skip (.then (.seq ?_))
   obtain ⟨j_8, h, hK8⟩ := bind_some h
   unfold page_view_below_L1 at h
   refine .thenJ (ι := (List Bool)) (fun j_8 => []) (fun j_8 => [(35, some (CPred.at s35 (rowV 4 j_8)))]) (fun s => j_8 = s) (.k4 0 2 24 25 rfl rfl rfl rfl (.k 26 rfl .nil)) SubB.nil ?_ (fun j_8' hj8 => ?_)
   ·
    obtain ⟨hn9, h⟩ := need_some h
    obtain ⟨r1, hv10, h⟩ := bind_some h
    exact .block (.sn mx (.ix sl118 ty3 rfl rfl hn9 (.ld ty3 rfl (.asn rfl (.nil (.rg [oo, oo, oo, ([35], [35])] mx (.mvA rfl (.mvA rfl (.mvA rfl (.cW (.cO [35] (hself _ _ hv10) (.cons (.s rfl) (.cons (.s rfl) (.cons (.s rfl) .nil))) (.cons (k := 35) rfl .nil) rfl) (.nil (.blkNormal (Ends.j _ (some_eq h))))))))))))))
   ·
    subst hj8; have h := hK8; clear hK8
    exact .rn mx (.adi rfl (.mv rfl (.nil (Ends.ag (some_eq h)))))
  ·
   refine .exit (.thenExit (.thenExit (.blkExit ?_)))
   replace h := hD6 _ (some_eq h)
   exact Ends.j _ (some_eq h)
 ·
  subst hj5; have h := hK5; clear hK5
  obtain rfl := some_eq h
  exact Ends.ret0O (.inr rfl) [35] Tryz.results78 (by decide) (.held rfl .nil)
theorem page_view_below_okN : ∀ (k : Nat) {s35 : Value} (x : (Page_view × Int × (List Bool))) (r : (List Bool)) (h : fixN page_view_below_body k x = some r), FSpecO Tryz.prog 78 [ref x.1, rep x.2.1, isV s35] [(s35, rowV 4 x.2.2)] (anyV) [some (rowV 4 r)]
 | 0, _, x, r, h => by simp [fixN] at h
 | k + 1, _, x, r, h => page_view_below_okS (page_view_below_okN k) h
theorem page_view_below_ok {v1 : Page_view} {k1 : Int} {marks1 : (List Bool)} {r : (List Bool)} {s35 : Value} (h : page_view_below v1 k1 marks1 = some r) : FSpecO Tryz.prog 78 [ref v1, rep k1, isV s35] [(s35, rowV 4 marks1)] (anyV) [some (rowV 4 r)] :=
 let ⟨k, hk⟩ := fixp_some h
 page_view_below_okN k (v1, k1, marks1) r hk

theorem slices_IndexFunc_int_ok {s1 : (List Int)} {f1 : (Int → Option Bool)} {r : Int}  (h : slices_IndexFunc_int s1 f1 = some r) : FSpec Tryz.prog 175 [rep s1, fn1 Tryz.prog (rep (α := Bool)) f1] (rep r) := by
 unfold slices_IndexFunc_int at h
 refine FSpec.i Tryz.func175 rfl Tryz.ntmps175 rfl (fun F => (.sn mx (.asi (.nil (.seq (.sn mx (.mv rfl (.ln sl118 rfl (.mvi (.nil ?_))))))))))
 obtain ⟨o_1, h, hK1⟩ := bindR_some h
 refine .tJ (fun s => o_1 = Res.nx s) Sub.nil SubB.nil ?_ (fun j_1 hj1 => ?_)
 ·
  refine .block (.rforEL h (fun p2_ => [(8, ⟨True, rep p2_.1⟩)]) (fun p2_ => []) (.k 8 rfl .nil) SubB.nil (.k2 0 1 rfl rfl (.k 7 rfl .nil)) SubB.nil (fun p2_ o_2 h hD2 => (.sn mx (.lt rfl rfl (.nil (.seq (.cb rfl h (fun _ h => ?_) fun _ h => ?_)))))))
  ·
   refine .skip (.then (.seq ?_))
   obtain ⟨o_4, h, hK4⟩ := bindD_some h
   unfold slices_IndexFunc_int_L1 at h
   refine .tJ (fun s => o_4 = Res.nx s) (.k4 0 1 7 8 rfl rfl rfl rfl .nil) SubB.nil ?_ (fun j_4 hj4 => ?_)
   ·
    obtain ⟨hn5, h⟩ := need_some h
    obtain ⟨r1, hv6, h⟩ := bind_some h
    refine .block (.sn mx (.mv rfl (.asn rfl (.nil (.sn mx (.mv rfl (.mv rfl (.mv rfl (.ix sl118 ty3 rfl rfl hn5 (.ld ty3 rfl (.c (.callV (gx s1 p2_.1, r1) .none (.s rfl) (fun _ => hv6) (.cons (.s rfl) .nil)) (.nil (.cb rfl h (fun _ h => ?_) fun _ h => ?_)))))))))))))
    ·
     refine .sn mx (.mv rfl (.asn rfl (.nil (.ret (.blkRet (.thenRet (.thenRet (.blkRet (.thenRet ?_)))))))))
     replace h := resd_ab hK4 (some_eq h)
     replace h := hD2 _ (some_eq h)
     replace h := resb_ab hK1 (some_eq h)
     obtain rfl := some_eq h
     exact Ends.rt Tryz.results175 rfl
    ·
     exact .skip (.blkNormal (Ends.j _ (some_eq h)))
   ·
    have h := resd_nx hK4 hj4
    exact .rn mx (.adi rfl (.mv rfl (.nil (Ends.ag (some_eq h)))))
  ·
   refine .exit (.thenExit (.thenExit (.blkExit ?_)))
   replace h := hD2 _ (some_eq h)
   exact Ends.j _ (some_eq h)
 ·
  have h := resb_nx hK1 hj1
  refine .sn mx (.asi (.nil (.ret ?_)))
  obtain rfl := some_eq h
  exact Ends.rt Tryz.results175 rfl

theorem slices_ContainsFunc_int_ok {s1 : (List Int)} {f1 : (Int → Option Bool)} {r : Bool}  (h : slices_ContainsFunc_int s1 f1 = some r) : FSpec Tryz.prog 108 [rep s1, fn1 Tryz.prog (rep (α := Bool)) f1] (rep r) := by
 unfold slices_ContainsFunc_int at h
 obtain ⟨r1, hv1, h⟩ := bind_some h
 refine FSpec.i Tryz.func108 rfl Tryz.ntmps108 rfl (fun F => (.sn mx (.asb (.nil (.sn mx (.mv rfl (.mv rfl (.c (.call .none (slices_IndexFunc_int_ok hv1) (.cons (.s rfl) (.cons (.s rfl) .nil))) (.c (.ge .none (.s rfl) .i) (.asn rfl (.nil (.ret ?_))))))))))))
 obtain rfl := some_eq h
 exact Ends.rt Tryz.results108 rfl

theorem page_Delete_1_ok {m1 : Int} {c0_1 : (List Bool)} {r : Bool}  (h : page_Delete_1 m1 c0_1 = some r) : FSpec Tryz.prog 109 [rep m1, ref c0_1] (rep r) := by
 unfold page_Delete_1 at h
 obtain ⟨hn1, h⟩ := need_some h
 refine FSpec.i Tryz.func109 rfl Tryz.ntmps109 rfl (fun F => (.sn mx (.asb (.nil (.sn mx (.ld ty112 rfl (.mv rfl (.ix sl112 ty4 rfl rfl hn1 (.ld ty4 rfl (.c (.not .none (.s rfl)) (.asn rfl (.nil (.ret ?_)))))))))))))
 obtain rfl := some_eq h
 exact Ends.rt Tryz.results109 rfl

set_option maxHeartbeats 4000000 in
theorem page_Delete_ok {d1 : Doc} {ids1 : (List Str)} {r : (Doc × Int)}  (h : page_Delete d1 ids1 = some r) : FSpec Tryz.prog 41 [rep d1, rep ids1] (tup [rep r.1, rep r.2]) := by
 unfold page_Delete at h
 obtain ⟨v1, hv1, h⟩ := bnd_some h
 obtain ⟨r1, hv2, h⟩ := bind_some h
 refine FSpec.i Tryz.func41 rfl Tryz.ntmps41 rfl (fun F => (.sr [oo, ([], [4]), oo] mx (.cA (.box .none (.s rfl)) (.al zo25 rfl (.cA (.assign .none .i) (.nil (.reB (t := 4) rfl (congrArg (cont 25) hv1) (.nameBox (t := 4) (g := 5001) rfl rfl (fun m5001 => (.sn mx (.ld ty25 rfl (.mv rfl (.c (.call .none (page_selected_ok hv2) (.cons (.s rfl) (.cons (.s rfl) .nil))) (.mv rfl (.ex rfl rfl (.ex rfl rfl (.ex rfl rfl (.asn rfl (.asn rfl (.asn rfl (.nil (.seq (.sn mx (.mv rfl (.nei rfl (.nil (.cb rfl h (fun _ h => ?_) fun _ h => ?_)))))))))))))))))))))))))))
 ·
  obtain ⟨v2, hv4, h⟩ := bnd_some h
  refine .sr [oo, oo, ([5001], [5001]), oo] mx (.cA (.re hv4 (.buildF (y := (⟨([] : (List DNode)), ([] : (List DEdge))⟩ : Doc)) .none bu25 zc25 rfl .nil .nil)) (.mvA rfl (.s0 5001 ty25 rfl rfl rfl (.asnA rfl (.nil (.fb 5001 [4] rfl (.cons (t := 4) rfl trivial .nil) (.ret (.thenRet ?_))))))))
  obtain rfl := some_eq h
  exact Ends.r2 Tryz.results41 ty25 rfl rfl
 ·
  obtain ⟨v3, hv5, h⟩ := bnd_some h
  obtain ⟨hn6, h⟩ := need_some h
  obtain ⟨c1, hv7, h⟩ := bnd_some h
  obtain ⟨v4, hv8, h⟩ := bind_some h
  refine .skip (.then (.sr [oo, oo, oo, ([], [37]), ([], [9]), ([9, 37], [9, 37])] mx (.faA fd25_0 hfd25_0 rfl (.ldA ty22 rfl (.cA (.re hv5 (.len .none sl22 (.s rfl))) (.cW (.makeSlice rk112 zo4 rfl (.s rfl) (.s rfl) hn6) (.al zr112 rfl (.cN (.storeRow0 (k := 9) (t := 37) ty112 rfl rfl rfl rfl) (.nil (.nameAt (t := 9) (g := 5002) rfl rfl (isBox_deep fun _ => isBox_cont) rfl (fun m5002 => (.open (k := 5002) (g := 5003) rfl rfl (fun s5003 => (.seq (.sn mx (.mv rfl (.ln sl118 rfl (.mvi (.nil (.reB (t := 5003) rfl (congrArg (fun y => CPred.at s5003 (rowV 4 y)) hv7) (.isRef (t := 6) hv8 rfl trivial ?_)))))))))))))))))))))
  obtain ⟨j_9, h, hK9⟩ := bind_some h
  refine .thenJ (ι := (List Bool)) (fun j_9 => []) (fun j_9 => [(5003, some (CPred.at s5003 (rowV 4 j_9)))]) (fun s => j_9 = s) (.k4 2 4 6 9 rfl rfl rfl rfl .nil) (.k2 5001 5002 rfl rfl .nil) ?_ (fun j_9' hj9 => ?_)
  ·
   refine .block (.rforL h (fun p10_ => [(40, ⟨True, rep p10_.1⟩)]) (fun p10_ => [(5003, some (CPred.at s5003 (rowV 4 p10_.2)))]) (.k 40 rfl .nil) (.k 5003 rfl .nil) (.k4 2 4 6 9 rfl rfl rfl rfl (.k2 38 39 rfl rfl .nil)) (.k2 5001 5002 rfl rfl .nil) (fun p10_ o_10 h hD10 => (.sn mx (.lt rfl rfl (.nil (.seq (.cb rfl h (fun _ h => ?_) fun _ h => ?_)))))))
   ·
    refine .skip (.then (.seq ?_))
    obtain ⟨j_12, h, hK12⟩ := bind_some h
    unfold page_Delete_L1 at h
    refine .thenJ (ι := (List Bool)) (fun j_12 => []) (fun j_12 => [(5003, some (CPred.at s5003 (rowV 4 j_12)))]) (fun s => j_12 = s) (.k4 2 4 6 9 rfl rfl rfl rfl (.k2 38 39 rfl rfl (.k 40 rfl .nil))) (.k2 5001 5002 rfl rfl .nil) ?_ (fun j_12' hj12 => ?_)
    ·
     obtain ⟨hn13, h⟩ := need_some h
     obtain ⟨r2, hv14, h⟩ := bind_some h
     exact .block (.sn mx (.ix sl118 ty3 rfl rfl hn13 (.ld ty3 rfl (.asn rfl (.nil (.rg [oo, oo, ([5002], []), ([5003], [5003])] mx (.mvA rfl (.mvA rfl (.cA (.loadAt0 (k := 5002) .none tr112 rfl (.s rfl)) (.cW (.cO [5003] (page_view_below_ok hv14) (.cons (.s rfl) (.cons (.s rfl) (.cons (.s rfl) .nil))) (.cons (k := 5003) rfl .nil) rfl) (.nil (.blkNormal (Ends.j _ (some_eq h))))))))))))))
    ·
     subst hj12; have h := hK12; clear hK12
     exact .rn mx (.adi rfl (.mv rfl (.nil (Ends.ag (some_eq h)))))
   ·
    refine .exit (.thenExit (.thenExit (.blkExit ?_)))
    replace h := hD10 _ (some_eq h)
    exact Ends.j _ (some_eq h)
  ·
   subst hj9; have h := hK9; clear hK9
   refine .seq (.sn mx (.fa fd25_0 hfd25_0 rfl (.ld ty22 rfl (.ln sl22 rfl (.mvi (.nil ?_))))))
   obtain ⟨o_15, h, hK15⟩ := bindR_some h
   refine .tJ (fun s => o_15 = Res.nx s) (.k4 2 4 6 9 rfl rfl rfl rfl .nil) (.k2 5001 5002 rfl rfl (.k 5003 rfl .nil)) ?_ (fun j_15 hj15 => ?_)
   ·
    refine .block (.rforEL h (fun p16_ => [(52, ⟨True, rep p16_.1⟩)]) (fun p16_ => []) (.k 52 rfl .nil) SubB.nil (.k4 2 4 6 9 rfl rfl rfl rfl (.k2 50 51 rfl rfl .nil)) (.k2 5001 5002 rfl rfl (.k 5003 rfl .nil)) (fun p16_ o_16 h hD16 => (.sn mx (.lt rfl rfl (.nil (.seq (.cb rfl h (fun _ h => ?_) fun _ h => ?_)))))))
    ·
     refine .skip (.then (.seq ?_))
     obtain ⟨o_18, h, hK18⟩ := bindD_some h
     unfold page_Delete_L2 at h
     refine .tJ (fun s => o_18 = Res.nx s) (.k4 2 4 6 9 rfl rfl rfl rfl (.k2 50 51 rfl rfl (.k 52 rfl .nil))) (.k2 5001 5002 rfl rfl (.k 5003 rfl .nil)) ?_ (fun j_18 hj18 => ?_)
     ·
      obtain ⟨hn19, h⟩ := need_some h
      obtain ⟨v5, hv20, h⟩ := bnd_some h
      obtain ⟨hn21, h⟩ := need_some h
      refine .block (.sr [oo, oo, oo, ([], [13]), oo, ([13], [13])] mx (.mvA rfl (.ixA sl22 ty44 rfl rfl hn19 (.rlA hv20 ty44 rfl (.al zo44 rfl (.asnA rfl (.st ty44 rfl rfl rfl (.nil (.freeze (t := 13) rfl rfl (.k2 5001 5002 rfl rfl (.k 5003 rfl .nil)) rfl (.sr [([5002], []), oo, ([5003], []), ([5003], []), oo, oo, oo, oo] mx (.cA (.loadAt0 (k := 5002) .none tr112 rfl (.s rfl)) (.mvA rfl (.ixO 5003 sl112 ty4 rfl rfl rfl hn21 (.cA (.loadElem0 (k := 5003) .none ty4 (.s rfl) rfl (fun _ => hn21)) (.mvA rfl (.cA (.fieldAddr (.at rfl rfl) fd44_6 hfd44_6 (.s rfl)) (.cA (.load (.at rfl rfl) ty4 (.tmp rfl id)) (.cA (.pickAnd .none (.s rfl) (.tmp rfl id)) (.nil (.cb rfl h (fun _ h => ?_) fun _ h => ?_))))))))))))))))))))
      ·
       obtain ⟨v6, hv23, h⟩ := bnd_some h
       refine .sr [oo, ([5001], [5001]), oo] mx (.cA (.re hv23 (.buildF (y := (⟨([] : (List DNode)), ([] : (List DEdge))⟩ : Doc)) .none bu25 zc25 rfl .nil .nil)) (.s0 5001 ty25 rfl rfl rfl (.cA (.assign .none .i) (.nil (.fb 5001 [4] rfl (.cons (t := 4) rfl trivial .nil) (.ret (.blkRet (.thenRet (.thenRet (.blkRet (.thenRet ?_)))))))))))
       replace h := resd_ab hK18 (some_eq h)
       replace h := hD16 _ (some_eq h)
       replace h := resb_ab hK15 (some_eq h)
       obtain rfl := some_eq h
       exact Ends.r2 Tryz.results41 ty25 rfl rfl
      ·
       exact .skip (.blkNormal (Ends.j _ (some_eq h)))
     ·
      have h := resd_nx hK18 hj18
      exact .rn mx (.adi rfl (.mv rfl (.nil (Ends.ag (some_eq h)))))
    ·
     refine .exit (.thenExit (.thenExit (.blkExit ?_)))
     replace h := hD16 _ (some_eq h)
     exact Ends.j _ (some_eq h)
   ·
    have h := resb_nx hK15 hj15
    refine .seq (.sn mx (.asb (.nil ?_)))
    obtain ⟨j_24, h, hK24⟩ := bind_some h
    refine .thenJ (ι := (List Bool)) (fun j_24 => []) (fun j_24 => [(5003, some (CPred.at s5003 (rowV 4 j_24)))]) (fun s => j_24 = s) (.k4 2 4 6 9 rfl rfl rfl rfl .nil) (.k2 5001 5002 rfl rfl .nil) ?_ (fun j_24' hj24 => ?_)
    ·
     refine .block (.loopL h (fun s25_ => [(14, ⟨True, rep s25_.1⟩)]) (fun s25_ => [(5003, some (CPred.at s5003 (rowV 4 s25_.2)))]) (.k 14 rfl .nil) (.k 5003 rfl .nil) (.k4 2 4 6 9 rfl rfl rfl rfl .nil) (.k2 5001 5002 rfl rfl .nil) (fun s25_ o_25 h hD25 => ?_))
     unfold page_Delete_L3 at h
     refine .seq (.sn mx (.mv rfl (.nil (.cb rfl h (fun _ h => ?_) fun _ h => ?_))))
     ·
      refine .skip (.then (.block (.sn mx (.asb (.nil (.sn mx (.fa fd25_0 hfd25_0 rfl (.ld ty22 rfl (.ln sl22 rfl (.mvi (.nil ?_)))))))))))
      obtain ⟨j_27, h, hK27⟩ := bind_some h
      refine .tailJ (ι := (Bool × (List Bool))) (fun j_27 => [(14, ⟨True, rep j_27.1⟩)]) (fun j_27 => [(5003, some (CPred.at s5003 (rowV 4 j_27.2)))]) (fun s => j_27 = s) (.k4 2 4 6 9 rfl rfl rfl rfl .nil) (.k2 5001 5002 rfl rfl .nil) ?_ (fun j_27' hj27 => ?_)
      ·
       refine .block (.rforL h (fun p28_ => [(71, ⟨True, rep p28_.1⟩), (14, ⟨True, rep p28_.2.1⟩)]) (fun p28_ => [(5003, some (CPred.at s5003 (rowV 4 p28_.2.2)))]) (.k2 71 14 rfl rfl .nil) (.k 5003 rfl .nil) (.k4 2 4 6 9 rfl rfl rfl rfl (.k2 69 70 rfl rfl .nil)) (.k2 5001 5002 rfl rfl .nil) (fun p28_ o_28 h hD28 => (.sn mx (.lt rfl rfl (.nil (.seq (.cb rfl h (fun _ h => ?_) fun _ h => ?_)))))))
       ·
        refine .skip (.then (.seq ?_))
        obtain ⟨j_30, h, hK30⟩ := bind_some h
        unfold page_Delete_L4 at h
        refine .thenJ (ι := (Bool × (List Bool))) (fun j_30 => [(14, ⟨True, rep j_30.1⟩)]) (fun j_30 => [(5003, some (CPred.at s5003 (rowV 4 j_30.2)))]) (fun s => j_30 = s) (.k4 2 4 6 9 rfl rfl rfl rfl (.k2 69 70 rfl rfl (.k 71 rfl .nil))) (.k2 5001 5002 rfl rfl .nil) ?_ (fun j_30' hj30 => ?_)
        ·
         obtain ⟨hn31, h⟩ := need_some h
         obtain ⟨v7, hv32, h⟩ := bnd_some h
         obtain ⟨left1, hv33, h⟩ := bind_some h
         refine .block (.sr [oo, oo, oo, ([], [16]), oo, ([16], [16])] mx (.mvA rfl (.ixA sl22 ty44 rfl rfl hn31 (.rlA hv32 ty44 rfl (.al zo44 rfl (.asnA rfl (.st ty44 rfl rfl rfl (.nil (.freeze (t := 16) rfl rfl (.k2 5001 5002 rfl rfl (.k 5003 rfl .nil)) rfl (.sr [oo, oo, oo, oo, oo, oo, oo, oo, ([5002, 5003], []), oo] mx (.mvA rfl (.cA (.nilCheckR .none (.s rfl)) (.faA fd148_2 hfd148_2 rfl (.ldA ty146 rfl (.faA fd44_0 hfd44_0 rfl (.ldA ty9 rfl (.cA (.lookup .none mo146 zo118 (.s rfl) (.s rfl)) (.cA (.makeFuncC (Cs := [isV (ptr m5002 0)]) .none (.cons (.s rfl) .nil)) (.cA (.callL .none fnok108 (fun hg => slices_ContainsFunc_int_ok  hv33) .rep (.cons (.s rfl) (.gen (LentTo.clo (ι := Int × Bool) (pre := fun i => (fun x0 => page_Delete_1 x0 p28_.2.2) i.1 = some i.2) (Ss := fun i => [rep i.1]) (S := fun i => rep i.2) (.s rfl) fnok109 (.deep1 (k := 5002) (q := 5003) (x := (⟨s5003⟩ : Raw)) (y := p28_.2.2) rfl rfl rfl (fun M cs w hc hl => row_cells hc hl) .nil) (fun i h => page_Delete_1_ok h)) .nil))) ?_)))))))))))))))))))
         obtain ⟨hn34, h⟩ := need_some h
         refine .asnA rfl (.nil (.sr [([5002], []), oo, ([5003], []), ([5003], []), oo, oo, oo, oo, oo, oo, oo, oo, oo, oo] mx (.cA (.loadAt0 (k := 5002) .none tr112 rfl (.s rfl)) (.mvA rfl (.ixO 5003 sl112 ty4 rfl rfl rfl hn34 (.cA (.loadElem0 (k := 5003) .none ty4 (.s rfl) rfl (fun _ => hn34)) (.cA (.not .none (.s rfl)) (.mvA rfl (.cA (.fieldAddr (.at rfl rfl) fd44_1 hfd44_1 (.s rfl)) (.cA (.load (.at rfl rfl) ty3 (.tmp rfl id)) (.cA (.eqI (.at rfl rfl) (.tmp rfl id) .i) (.cA (.pickAnd .none (.s rfl) (.tmp rfl id)) (.mvA rfl (.cA (.move (.at rfl rfl) (.s rfl)) (.cA (.not (.at rfl rfl) (.tmp rfl id)) (.cA (.pickAnd .none (.s rfl) (.tmp rfl id)) (.nil (.cb rfl h (fun _ h => ?_) fun _ h => ?_))))))))))))))))))
         ·
          obtain ⟨hn36, h⟩ := need_some h
          exact .rg [([5002], []), oo, ([5003], []), ([5003], [5003]), oo] mx (.cA (.loadAt0 (k := 5002) .none tr112 rfl (.s rfl)) (.mvA rfl (.ixO 5003 sl112 ty4 rfl rfl rfl hn36 (.cN (.storeElem0 (k := 5003) ty4 (.s rfl) rfl .bool hn36) (.cA (.assign .none .bool) (.nil (.blkNormal (Ends.j _ (some_eq h)))))))))
         ·
          exact .skip (.blkNormal (Ends.j _ (some_eq h)))
        ·
         subst hj30; have h := hK30; clear hK30
         exact .rn mx (.adi rfl (.mv rfl (.nil (Ends.ag (some_eq h)))))
       ·
        refine .exit (.thenExit (.thenExit (.blkExit ?_)))
        replace h := hD28 _ (some_eq h)
        exact Ends.j _ (some_eq h)
      ·
       subst hj27; have h := hK27; clear hK27
       exact .blkNormal (Ends.ag (some_eq h))
     ·
      refine .exit (.thenExit (.thenExit (.blkExit ?_)))
      replace h := hD25 _ (some_eq h)
      exact Ends.j _ (some_eq h)
    ·
     subst hj24; have h := hK24; clear hK24
     refine .sr [oo, ([], [18]), ([18], [18])] mx (.cA (.buildF (y := (⟨⟨.slice none 0 0⟩, ⟨.slice none 0 0⟩⟩ : Doc_o01)) .none bu25 zvc_Doc_o01 rfl .nil .nil) (.al zo25 rfl (.cN (.storeH tyv_Doc_o01 rfl (by rfl) rfl (.s rfl)) (.nil (.nameAt (t := 18) (g := 5004) rfl rfl isBox_cont rfl (fun m5004 => (.nilKey (g := 5005) (T := 44) (α := DNode) rfl (.nilKey (g := 5006) (T := 67) (α := DEdge) rfl (.seq (.sn mx (.fa fd25_0 hfd25_0 rfl (.ld ty22 rfl (.ln sl22 rfl (.mvi (.nil ?_)))))))))))))))
     obtain ⟨j_37, h, hK37⟩ := bind_some h
     refine .thenJ (ι := Doc) (fun j_37 => []) (fun j_37 => [(5004, some (CPred.at (ptr m5004 0) (deep (fun z0 => deep (fun z1 => cont 25 (⟨⟨z0⟩, ⟨z1⟩⟩ : Doc_o01)) (rowV 67 j_37.Edges)) (rowV 44 j_37.Nodes))))]) (fun s => j_37 = s) (.k4 2 4 6 9 rfl rfl rfl rfl (.k 18 rfl .nil)) (.k2 5001 5002 rfl rfl (.k 5003 rfl .nil)) ?_ (fun j_37' hj37 => ?_)
     ·
      refine .block (.close (k := 5004) (g := 5006) (fun z => cont 25 (⟨⟨(.slice none 0 0)⟩, ⟨z⟩⟩ : Doc_o01)) rfl rfl rfl (.close (k := 5004) (g := 5005) (fun z => deep (fun z0 => cont 25 (⟨⟨z⟩, ⟨z0⟩⟩ : Doc_o01)) (rowV 67 ([] : List DEdge))) rfl rfl rfl (.rforL h (fun p38_ => [(107, ⟨True, rep p38_.1⟩)]) (fun p38_ => [(5004, some (CPred.at (ptr m5004 0) (deep (fun z0 => deep (fun z1 => cont 25 (⟨⟨z0⟩, ⟨z1⟩⟩ : Doc_o01)) (rowV 67 p38_.2.Edges)) (rowV 44 p38_.2.Nodes))))]) (.k 107 rfl .nil) (.k 5004 rfl .nil) (.k4 2 4 6 9 rfl rfl rfl rfl (.k2 18 105 rfl rfl (.k 106 rfl .nil))) (.k2 5001 5002 rfl rfl (.k 5003 rfl .nil)) (fun p38_ o_38 h hD38 => (.open (k := 5004) (g := 5007) rfl rfl (fun s5007 => (.open (k := 5004) (g := 5008) rfl rfl (fun s5008 => (.sn mx (.lt rfl rfl (.nil (.seq (.cb rfl h (fun _ h => ?_) fun _ h => ?_)))))))))))))
      ·
       refine .skip (.then (.seq ?_))
       obtain ⟨j_40, h, hK40⟩ := bind_some h
       unfold page_Delete_L5 at h
       refine .thenJ (ι := Doc) (fun j_40 => []) (fun j_40 => [(5004, some (CPred.at (ptr m5004 0) (deep (fun z0 => deep (fun z1 => cont 25 (⟨⟨z0⟩, ⟨z1⟩⟩ : Doc_o01)) (rowV 67 j_40.Edges)) (rowV 44 j_40.Nodes))))]) (fun s => j_40 = s) (.k4 2 4 6 9 rfl rfl rfl rfl (.k4 18 105 106 107 rfl rfl rfl rfl .nil)) (.k2 5001 5002 rfl rfl (.k 5003 rfl .nil)) ?_ (fun j_40' hj40 => ?_)
       ·
        obtain ⟨hn41, h⟩ := need_some h
        obtain ⟨v8, hv42, h⟩ := bnd_some h
        obtain ⟨hn43, h⟩ := need_some h
        refine .block (.sr [oo, oo, oo, ([], [20]), oo, ([20], [20])] mx (.mvA rfl (.ixA sl22 ty44 rfl rfl hn41 (.rlA hv42 ty44 rfl (.al zo44 rfl (.asnA rfl (.st ty44 rfl rfl rfl (.nil (.freeze (t := 20) rfl rfl (.k2 5001 5002 rfl rfl (.k2 5003 5004 rfl rfl (.k2 5007 5008 rfl rfl .nil))) rfl (.sr [([5002], []), oo, ([5003], []), ([5003], []), oo] mx (.cA (.loadAt0 (k := 5002) .none tr112 rfl (.s rfl)) (.mvA rfl (.ixO 5003 sl112 ty4 rfl rfl rfl hn43 (.cA (.loadElem0 (k := 5003) .none ty4 (.s rfl) rfl (fun _ => hn43)) (.cA (.not .none (.s rfl)) (.nil (.cb rfl h (fun _ h => ?_) fun _ h => ?_)))))))))))))))))
        ·
         obtain ⟨hn45, h⟩ := need_some h
         exact .rg [oo, ([5004], []), oo, oo, ([5007], [121, 5007]), oo, ([5004, 121], [5004, 121])] mx (.cA (.fieldPtr .none fd25_0 (.s rfl)) (.cA (.loadAt (k := 5004) .none tr22 rfl (.s rfl) hv_Doc_o01_0) (.ldA ty44 rfl (.cA (.buildSlice (xs := [_]) .none sl22 ty44 hz44 (.cons (.s rfl) .nil) rfl (by decide)) (.cW (.append (k := 5007) rk22 rfl (.told (.s rfl) rfl) (.s rfl) hn45) (.cA (.fieldPtr .none fd25_0 (.s rfl)) (.cN (.storeRow (k := 5004) (t := 121) ty22 rfl (.s rfl) sv_Doc_o01_0 rfl rfl) (.nil (.blkNormal (.open (k := 5004) (g := 5009) rfl rfl (fun s5009 => (.close (k := 5004) (g := 5008) (fun z => cont 25 (⟨⟨s5009⟩, ⟨z⟩⟩ : Doc_o01)) rfl rfl rfl (.close (k := 5004) (g := 5009) (fun z => deep (fun z0 => cont 25 (⟨⟨z⟩, ⟨z0⟩⟩ : Doc_o01)) (rowV 67 p38_.2.Edges)) rfl rfl rfl (Ends.j _ (some_eq h)))))))))))))))
        ·
         exact .skip (.blkNormal (.close (k := 5004) (g := 5008) (fun z => cont 25 (⟨⟨s5007⟩, ⟨z⟩⟩ : Doc_o01)) rfl rfl rfl (.close (k := 5004) (g := 5007) (fun z => deep (fun z0 => cont 25 (⟨⟨z⟩, ⟨z0⟩⟩ : Doc_o01)) (rowV 67 p38_.2.Edges)) rfl rfl rfl (Ends.j _ (some_eq h)))))
       ·
        subst hj40; have h := hK40; clear hK40
        exact .open (k := 5004) (g := 5010) rfl rfl (fun s5010 => (.open (k := 5004) (g := 5011) rfl rfl (fun s5011 => (.rn mx (.adi rfl (.mv rfl (.nil (.close (k := 5004) (g := 5011) (fun z => cont 25 (⟨⟨s5010⟩, ⟨z⟩⟩ : Doc_o01)) rfl rfl rfl (.close (k := 5004) (g := 5010) (fun z => deep (fun z0 => cont 25 (⟨⟨z⟩, ⟨z0⟩⟩ : Doc_o01)) (rowV 67 j_40.Edges)) rfl rfl rfl (Ends.ag (some_eq h)))))))))))
      ·
       refine .exit (.thenExit (.thenExit (.blkExit (.close (k := 5004) (g := 5008) (fun z => cont 25 (⟨⟨s5007⟩, ⟨z⟩⟩ : Doc_o01)) rfl rfl rfl (.close (k := 5004) (g := 5007) (fun z => deep (fun z0 => cont 25 (⟨⟨z⟩, ⟨z0⟩⟩ : Doc_o01)) (rowV 67 p38_.2.Edges)) rfl rfl rfl ?_)))))
       replace h := hD38 _ (some_eq h)
       exact Ends.j _ (some_eq h)
     ·
      subst hj37; have h := hK37; clear hK37
      refine .open (k := 5004) (g := 5012) rfl rfl (fun s5012 => (.open (k := 5004) (g := 5013) rfl rfl (fun s5013 => (.seq (.sn mx (.fa fd25_1 hfd25_1 rfl (.ld ty23 rfl (.ln sl23 rfl (.mvi (.nil ?_))))))))))
      obtain ⟨j_46, h, hK46⟩ := bind_some h
      refine .thenJ (ι := Doc) (fun j_46 => []) (fun j_46 => [(5004, some (CPred.at (ptr m5004 0) (deep (fun z0 => deep (fun z1 => cont 25 (⟨⟨z0⟩, ⟨z1⟩⟩ : Doc_o01)) (rowV 67 j_46.Edges)) (rowV 44 j_46.Nodes))))]) (fun s => j_46 = s) (.k2 4 9 rfl rfl (.k 18 rfl .nil)) (.k2 5001 5002 rfl rfl (.k 5003 rfl .nil)) ?_ (fun j_46' hj46 => ?_)
      ·
       refine .block (.close (k := 5004) (g := 5013) (fun z => cont 25 (⟨⟨s5012⟩, ⟨z⟩⟩ : Doc_o01)) rfl rfl rfl (.close (k := 5004) (g := 5012) (fun z => deep (fun z0 => cont 25 (⟨⟨z⟩, ⟨z0⟩⟩ : Doc_o01)) (rowV 67 j_37.Edges)) rfl rfl rfl (.rforL h (fun p47_ => [(127, ⟨True, rep p47_.1⟩)]) (fun p47_ => [(5004, some (CPred.at (ptr m5004 0) (deep (fun z0 => deep (fun z1 => cont 25 (⟨⟨z0⟩, ⟨z1⟩⟩ : Doc_o01)) (rowV 67 p47_.2.Edges)) (rowV 44 p47_.2.Nodes))))]) (.k 127 rfl .nil) (.k 5004 rfl .nil) (.k4 4 6 9 18 rfl rfl rfl rfl (.k2 125 126 rfl rfl .nil)) (.k2 5001 5002 rfl rfl (.k 5003 rfl .nil)) (fun p47_ o_47 h hD47 => (.open (k := 5004) (g := 5014) rfl rfl (fun s5014 => (.open (k := 5004) (g := 5015) rfl rfl (fun s5015 => (.sn mx (.lt rfl rfl (.nil (.seq (.cb rfl h (fun _ h => ?_) fun _ h => ?_)))))))))))))
       ·
        refine .skip (.then (.seq ?_))
        obtain ⟨j_49, h, hK49⟩ := bind_some h
        unfold page_Delete_L6 at h
        refine .thenJ (ι := Doc) (fun j_49 => []) (fun j_49 => [(5004, some (CPred.at (ptr m5004 0) (deep (fun z0 => deep (fun z1 => cont 25 (⟨⟨z0⟩, ⟨z1⟩⟩ : Doc_o01)) (rowV 67 j_49.Edges)) (rowV 44 j_49.Nodes))))]) (fun s => j_49 = s) (.k4 4 6 9 18 rfl rfl rfl rfl (.k2 125 126 rfl rfl (.k 127 rfl .nil))) (.k2 5001 5002 rfl rfl (.k 5003 rfl .nil)) ?_ (fun j_49' hj49 => ?_)
        ·
         obtain ⟨hn50, h⟩ := need_some h
         obtain ⟨v9, hv51, h⟩ := bnd_some h
         obtain ⟨hn52, h⟩ := need_some h
         obtain ⟨hn53, h⟩ := need_some h
         refine .block (.sr [oo, oo, ([], [22]), ([22], [22])] mx (.ixA sl23 ty67 rfl rfl hn50 (.rlA hv51 ty67 rfl (.al zo67 rfl (.st ty67 rfl rfl rfl (.nil (.freeze (t := 22) rfl rfl (.k2 5001 5002 rfl rfl (.k2 5003 5004 rfl rfl (.k2 5014 5015 rfl rfl .nil))) rfl (.sr [([5002], []), oo, oo, oo, oo, oo, oo, oo, oo, ([5003], []), ([5003], []), oo, oo, ([5002], []), oo, oo, oo, oo, oo, oo, oo, oo, ([5003], []), ([5003], []), oo, oo] mx (.cA (.loadAt0 (k := 5002) .none tr112 rfl (.s rfl)) (.mvA rfl (.cA (.nilCheckR .none (.s rfl)) (.faA fd148_1 hfd148_1 rfl (.ldA ty145 rfl (.faA fd67_1 hfd67_1 rfl (.faA fd65_0 hfd65_0 rfl (.ldA ty9 rfl (.cA (.lookup .none mo145 zo3 (.s rfl) (.s rfl)) (.ixO 5003 sl112 ty4 rfl rfl rfl hn52 (.cA (.loadElem0 (k := 5003) .none ty4 (.s rfl) rfl (fun _ => hn52)) (.cA (.not .none (.s rfl)) (.mvA rfl (.cA (.loadAt0 (k := 5002) (.at rfl rfl) tr112 rfl (.s rfl)) (.cA (.move (.at rfl rfl) (.s rfl)) (.cA (.nilCheckR (.at rfl rfl) (.tmp rfl id)) (.cA (.fieldAddr (.at rfl rfl) fd148_1 hfd148_1 (.tmp rfl id)) (.cA (.load (.at rfl rfl) ty145 (.tmp rfl id)) (.cA (.fieldAddr (.at rfl rfl) fd67_2 hfd67_2 (.s rfl)) (.cA (.fieldAddr (.at rfl rfl) fd65_0 hfd65_0 (.tmp rfl id)) (.cA (.load (.at rfl rfl) ty9 (.tmp rfl id)) (.cA (.lookup (.at rfl rfl) mo145 zo3 (.tmp rfl id) (.tmp rfl id)) (.cA (.indexAddrO (k := 5003) (.at rfl rfl) sl112 ty4 (.tmp rfl id) rfl (.tmp rfl id) (fun hg => hn53 hg.2)) (.cA (.loadElem0 (k := 5003) (.at rfl rfl) ty4 (.tmp rfl id) rfl (fun hg => hn53 hg.2)) (.cA (.not (.at rfl rfl) (.tmp rfl id)) (.cA (.pickAnd .none (.s rfl) (.tmp rfl id)) (.nil (.cb rfl h (fun _ h => ?_) fun _ h => ?_))))))))))))))))))))))))))))))))))))
         ·
          obtain ⟨hn55, h⟩ := need_some h
          exact .rg [oo, ([5004], []), oo, oo, ([5015], [161, 5015]), oo, ([5004, 161], [5004, 161])] mx (.cA (.fieldPtr .none fd25_1 (.s rfl)) (.cA (.loadAt (k := 5004) .none tr23 rfl (.s rfl) hv_Doc_o01_1) (.ldA ty67 rfl (.cA (.buildSlice (xs := [_]) .none sl23 ty67 hz67 (.cons (.s rfl) .nil) rfl (by decide)) (.cW (.append (k := 5015) rk23 rfl (.told (.s rfl) rfl) (.s rfl) hn55) (.cA (.fieldPtr .none fd25_1 (.s rfl)) (.cN (.storeRow (k := 5004) (t := 161) ty23 rfl (.s rfl) sv_Doc_o01_1 rfl rfl) (.nil (.blkNormal (.open (k := 5004) (g := 5016) rfl rfl (fun s5016 => (.close (k := 5004) (g := 5016) (fun z => cont 25 (⟨⟨s5014⟩, ⟨z⟩⟩ : Doc_o01)) rfl rfl rfl (.close (k := 5004) (g := 5014) (fun z => deep (fun z0 => cont 25 (⟨⟨z⟩, ⟨z0⟩⟩ : Doc_o01)) (rowV 67 (p47_.2.Edges ++ [v9]))) rfl rfl rfl (Ends.j _ (some_eq h)))))))))))))))
         ·
          exact .skip (.blkNormal (.close (k := 5004) (g := 5015) (fun z => cont 25 (⟨⟨s5014⟩, ⟨z⟩⟩ : Doc_o01)) rfl rfl rfl (.close (k := 5004) (g := 5014) (fun z => deep (fun z0 => cont 25 (⟨⟨z⟩, ⟨z0⟩⟩ : Doc_o01)) (rowV 67 p47_.2.Edges)) rfl rfl rfl (Ends.j _ (some_eq h)))))
        ·
         subst hj49; have h := hK49; clear hK49
         exact .open (k := 5004) (g := 5017) rfl rfl (fun s5017 => (.open (k := 5004) (g := 5018) rfl rfl (fun s5018 => (.rn mx (.adi rfl (.mv rfl (.nil (.close (k := 5004) (g := 5018) (fun z => cont 25 (⟨⟨s5017⟩, ⟨z⟩⟩ : Doc_o01)) rfl rfl rfl (.close (k := 5004) (g := 5017) (fun z => deep (fun z0 => cont 25 (⟨⟨z⟩, ⟨z0⟩⟩ : Doc_o01)) (rowV 67 j_49.Edges)) rfl rfl rfl (Ends.ag (some_eq h)))))))))))
       ·
        refine .exit (.thenExit (.thenExit (.blkExit (.close (k := 5004) (g := 5015) (fun z => cont 25 (⟨⟨s5014⟩, ⟨z⟩⟩ : Doc_o01)) rfl rfl rfl (.close (k := 5004) (g := 5014) (fun z => deep (fun z0 => cont 25 (⟨⟨z⟩, ⟨z0⟩⟩ : Doc_o01)) (rowV 67 p47_.2.Edges)) rfl rfl rfl ?_)))))
        replace h := hD47 _ (some_eq h)
        exact Ends.j _ (some_eq h)
      ·
       subst hj46; have h := hK46; clear hK46
       refine .freezeAt (g := 5004) (S := ref ({ j_46 with Nodes := j_46.Nodes, Edges := j_46.Edges } : Doc)) (ts := [18]) rfl (.cons (t := 18) rfl trivial .nil) (.k 5001 rfl .nil) rfl (fun M D w h hms => deep_ref2 (mk := (fun s1_ s2_ => (⟨⟨s1_⟩, ⟨s2_⟩⟩ : Doc_o01))) (y := ({ j_46 with Nodes := j_46.Nodes, Edges := j_46.Edges } : Doc)) frzRow frzRow rfl (fun M s1_ s2_ cs w hc g1 g2 => by obtain ⟨c0, q0, e0, h0, h1⟩ := hc; exact ⟨c0, q0, e0, raw_cells rfl rfl h0 g1, raw_cells rfl rfl h1 g2⟩) M D w h hms) ?_
       obtain ⟨r3, hv56, h⟩ := bind_some h
       refine .sr [oo, oo, ([5001], [5001]), oo] mx (.ldA ty25 rfl (.cA (.call .none (page_cloned_fz hv56) (.cons (.s rfl) .nil)) (.s0 5001 ty25 rfl rfl rfl (.cA (.assign .none .i) (.nil (.fb 5001 [4] rfl (.cons (t := 4) rfl trivial .nil) (.ret ?_)))))))
       obtain rfl := some_eq h
       exact Ends.r2 Tryz.results41 ty25 rfl rfl

theorem page_far_ok {n1 : Int} {r : Bool}  (h : page_far n1 = some r) : FSpec Tryz.prog 110 [rep n1] (rep r) := by
 unfold page_far at h
 refine FSpec.i Tryz.func110 rfl Tryz.ntmps110 rfl (fun F => (.sn mx (.asb (.nil (.sn mx (.mv rfl (.c (.lt .none (.s rfl) .i) (.mv rfl (.mg rfl rfl rfl (.c (.gt (.at rfl rfl) (.tmp rfl id) .i) (.po rfl rfl (.asn rfl (.nil (.ret ?_))))))))))))))
 obtain rfl := some_eq h
 exact Ends.rt Tryz.results110 rfl

set_option maxHeartbeats 4000000 in
theorem page_Copy_ok {d1 : Doc} {ids1 : (List Str)} {end1 : Str} {dx1 : Int} {dy1 : Int} {r : (Doc × Int)}  (h : page_Copy d1 ids1 end1 dx1 dy1 = some r) : FSpec Tryz.prog 42 [rep d1, rep ids1, rep end1, rep dx1, rep dy1] (tup [rep r.1, rep r.2]) := by
 unfold page_Copy at h
 obtain ⟨v1, hv1, h⟩ := bnd_some h
 obtain ⟨r1, hv2, h⟩ := bind_some h
 refine FSpec.i Tryz.func42 rfl Tryz.ntmps42 rfl (fun F => (.sr [oo, ([], [10]), oo] mx (.cA (.box .none (.s rfl)) (.al zo25 rfl (.cA (.assign .none .i) (.nil (.reB (t := 10) rfl (congrArg (cont 25) hv1) (.nameBox (t := 10) (g := 5001) rfl rfl (fun m5001 => (.sn mx (.ld ty25 rfl (.mv rfl (.c (.call .none (page_selected_ok hv2) (.cons (.s rfl) (.cons (.s rfl) .nil))) (.mv rfl (.ex rfl rfl (.ex rfl rfl (.ex rfl rfl (.asn rfl (.asn rfl (.asn rfl (.nil (.seq (.sn mx (.mv rfl (.nei rfl (.nil (.cb rfl h (fun _ h => ?_) fun _ h => ?_)))))))))))))))))))))))))))
 ·
  obtain ⟨v2, hv4, h⟩ := bnd_some h
  refine .sr [oo, oo, ([5001], [5001]), oo] mx (.cA (.re hv4 (.buildF (y := (⟨([] : (List DNode)), ([] : (List DEdge))⟩ : Doc)) .none bu25 zc25 rfl .nil .nil)) (.mvA rfl (.s0 5001 ty25 rfl rfl rfl (.asnA rfl (.nil (.fb 5001 [10] rfl (.cons (t := 10) rfl trivial .nil) (.ret (.thenRet ?_))))))))
  obtain rfl := some_eq h
  exact Ends.r2 Tryz.results42 ty25 rfl rfl
 ·
  obtain ⟨r2, hv5, h⟩ := bind_some h
  obtain ⟨r3, hv6, h⟩ := bind_some h
  refine .skip (.then (.seq (.sn mx (.mv rfl (.c (.call .none (page_far_ok hv5) (.cons (.s rfl) .nil)) (.mv rfl (.mg rfl rfl rfl (.c (.callIf (.at rfl rfl) fnok110 (fun hg => page_far_ok ((fun hg => gd_some hv6 ((notT hg.2))) hg)) (.cons (.tmp rfl id) .nil) (fun h => h)) (.po rfl rfl (.nil (.cb rfl h (fun _ h => ?_) fun _ h => ?_)))))))))))
  ·
   obtain ⟨v3, hv8, h⟩ := bnd_some h
   refine .sr [oo, ([5001], [5001]), oo] mx (.cA (.re hv8 (.buildF (y := (⟨([] : (List DNode)), ([] : (List DEdge))⟩ : Doc)) .none bu25 zc25 rfl .nil .nil)) (.s0 5001 ty25 rfl rfl rfl (.cA (.assign .none .i) (.nil (.fb 5001 [10] rfl (.cons (t := 10) rfl trivial .nil) (.ret (.thenRet ?_)))))))
   obtain rfl := some_eq h
   exact Ends.r2 Tryz.results42 ty25 rfl rfl
  ·
   obtain ⟨v4, hv9, h⟩ := bnd_some h
   obtain ⟨hn10, h⟩ := need_some h
   obtain ⟨marks1, hv11, h⟩ := bnd_some h
   obtain ⟨v5, hv12, h⟩ := bind_some h
   refine .skip (.then (.sr [oo, oo, oo, ([], [50]), ([50], [15, 50])] mx (.faA fd25_0 hfd25_0 rfl (.ldA ty22 rfl (.cA (.re hv9 (.len .none sl22 (.s rfl))) (.cW (.makeSlice rk112 zo4 rfl (.s rfl) (.s rfl) hn10) (.cW (.passRow rfl (.tmp rfl)) (.nil (.reB (t := 15) rfl (congrArg (rowV 4) hv11) (.nameRow (t := 15) (g := 5002) rfl rfl rfl (fun s5002 => (.seq (.sn mx (.mv rfl (.ln sl118 rfl (.mvi (.nil (.isRef (t := 12) hv12 rfl trivial ?_))))))))))))))))))
   obtain ⟨j_13, h, hK13⟩ := bind_some h
   refine .thenJ (ι := (List Bool)) (fun j_13 => []) (fun j_13 => [(5002, some (CPred.at s5002 (rowV 4 j_13)))]) (fun s => j_13 = s) (.k4 2 3 4 5 rfl rfl rfl rfl (.k2 10 12 rfl rfl (.k 15 rfl .nil))) (.k 5001 rfl .nil) ?_ (fun j_13' hj13 => ?_)
   ·
    refine .block (.rforL h (fun p14_ => [(53, ⟨True, rep p14_.1⟩)]) (fun p14_ => [(5002, some (CPred.at s5002 (rowV 4 p14_.2)))]) (.k 53 rfl .nil) (.k 5002 rfl .nil) (.k4 2 3 4 5 rfl rfl rfl rfl (.k4 10 12 15 51 rfl rfl rfl rfl (.k 52 rfl .nil))) (.k 5001 rfl .nil) (fun p14_ o_14 h hD14 => (.sn mx (.lt rfl rfl (.nil (.seq (.cb rfl h (fun _ h => ?_) fun _ h => ?_)))))))
    ·
     refine .skip (.then (.seq ?_))
     obtain ⟨j_16, h, hK16⟩ := bind_some h
     unfold page_Copy_L1 at h
     refine .thenJ (ι := (List Bool)) (fun j_16 => []) (fun j_16 => [(5002, some (CPred.at s5002 (rowV 4 j_16)))]) (fun s => j_16 = s) (.k4 2 3 4 5 rfl rfl rfl rfl (.k4 10 12 15 51 rfl rfl rfl rfl (.k2 52 53 rfl rfl .nil))) (.k 5001 rfl .nil) ?_ (fun j_16' hj16 => ?_)
     ·
      obtain ⟨hn17, h⟩ := need_some h
      obtain ⟨r4, hv18, h⟩ := bind_some h
      exact .block (.sn mx (.ix sl118 ty3 rfl rfl hn17 (.ld ty3 rfl (.asn rfl (.nil (.rg [oo, oo, oo, ([5002], [5002])] mx (.mvA rfl (.mvA rfl (.mvA rfl (.cW (.cO [5002] (page_view_below_ok hv18) (.cons (.s rfl) (.cons (.s rfl) (.cons (.s rfl) .nil))) (.cons (k := 5002) rfl .nil) rfl) (.nil (.blkNormal (Ends.j _ (some_eq h))))))))))))))
     ·
      subst hj16; have h := hK16; clear hK16
      exact .rn mx (.adi rfl (.mv rfl (.nil (Ends.ag (some_eq h)))))
    ·
     refine .exit (.thenExit (.thenExit (.blkExit ?_)))
     replace h := hD14 _ (some_eq h)
     exact Ends.j _ (some_eq h)
   ·
    subst hj13; have h := hK13; clear hK13
    obtain ⟨r5, hv19, h⟩ := bind_some h
    refine .freezeRow (g := 5002) (ts := [15]) rfl (.cons (t := 15) rfl trivial .nil) (.k 5001 rfl .nil) rfl (.sr [oo, ([], [63]), ([], [18]), ([18, 63], [18, 63])] mx (.ldA ty25 rfl (.cW (.cO [] (page_cloned_ok hv19) (.cons (.s rfl) .nil) .nil rfl) (.al zo25 rfl (.cN (.storeG2 (t := 63) (k := 18) (mk := (fun z1 z2 => (⟨⟨z1⟩, ⟨z2⟩⟩ : Doc_o01))) ty25 rfl rfl (by rfl) rfl rfl rfl rfl) (.nil (.nameAt (t := 18) (g := 5003) rfl rfl (isBox_deep fun _ => (isBox_deep fun _ => isBox_cont)) rfl (fun m5003 => (.open (k := 5003) (g := 5004) rfl rfl (fun s5004 => (.open (k := 5003) (g := 5005) rfl rfl (fun s5005 => (.seq (.sn mx (.fa fd25_0 hfd25_0 rfl (.ld ty22 rfl (.ln sl22 rfl (.mvi (.nil ?_)))))))))))))))))))
    obtain ⟨j_20, h, hK20⟩ := bind_some h
    refine .thenJ (ι := Doc) (fun j_20 => []) (fun j_20 => [(5003, some (CPred.at (ptr m5003 0) (deep (fun z0 => deep (fun z1 => cont 25 (⟨⟨z0⟩, ⟨z1⟩⟩ : Doc_o01)) (rowV 67 j_20.Edges)) (rowV 44 j_20.Nodes))))]) (fun s => j_20 = s) (.k4 2 3 4 5 rfl rfl rfl rfl (.k4 10 12 15 18 rfl rfl rfl rfl .nil)) (.k 5001 rfl .nil) ?_ (fun j_20' hj20 => ?_)
    ·
     refine .block (.close (k := 5003) (g := 5005) (fun z => cont 25 (⟨⟨s5004⟩, ⟨z⟩⟩ : Doc_o01)) rfl rfl rfl (.close (k := 5003) (g := 5004) (fun z => deep (fun z0 => cont 25 (⟨⟨z⟩, ⟨z0⟩⟩ : Doc_o01)) (rowV 67 r5.Edges)) rfl rfl rfl (.rforL h (fun p21_ => [(67, ⟨True, rep p21_.1⟩)]) (fun p21_ => [(5003, some (CPred.at (ptr m5003 0) (deep (fun z0 => deep (fun z1 => cont 25 (⟨⟨z0⟩, ⟨z1⟩⟩ : Doc_o01)) (rowV 67 p21_.2.Edges)) (rowV 44 p21_.2.Nodes))))]) (.k 67 rfl .nil) (.k 5003 rfl .nil) (.k4 2 3 4 5 rfl rfl rfl rfl (.k4 10 12 15 18 rfl rfl rfl rfl (.k2 65 66 rfl rfl .nil))) (.k 5001 rfl .nil) (fun p21_ o_21 h hD21 => (.open (k := 5003) (g := 5006) rfl rfl (fun s5006 => (.open (k := 5003) (g := 5007) rfl rfl (fun s5007 => (.sn mx (.lt rfl rfl (.nil (.seq (.cb rfl h (fun _ h => ?_) fun _ h => ?_)))))))))))))
     ·
      refine .skip (.then (.seq ?_))
      obtain ⟨j_23, h, hK23⟩ := bind_some h
      unfold page_Copy_L2 at h
      refine .thenJ (ι := Doc) (fun j_23 => []) (fun j_23 => [(5003, some (CPred.at (ptr m5003 0) (deep (fun z0 => deep (fun z1 => cont 25 (⟨⟨z0⟩, ⟨z1⟩⟩ : Doc_o01)) (rowV 67 j_23.Edges)) (rowV 44 j_23.Nodes))))]) (fun s => j_23 = s) (.k4 2 3 4 5 rfl rfl rfl rfl (.k4 10 12 15 18 rfl rfl rfl rfl (.k2 65 66 rfl rfl (.k 67 rfl .nil)))) (.k 5001 rfl .nil) ?_ (fun j_23' hj23 => ?_)
      ·
       obtain ⟨hn24, h⟩ := need_some h
       obtain ⟨v6, hv25, h⟩ := bnd_some h
       obtain ⟨hn26, h⟩ := need_some h
       refine .block (.sr [oo, oo, oo, ([], [20]), oo, ([20], [20])] mx (.mvA rfl (.ixA sl22 ty44 rfl rfl hn24 (.rlA hv25 ty44 rfl (.al zo44 rfl (.asnA rfl (.st ty44 rfl rfl rfl (.nil (.nameBox (t := 20) (g := 5008) rfl rfl (fun m5008 => (.seq (.sn mx (.mv rfl (.mv rfl (.ix sl112 ty4 rfl rfl hn26 (.ld ty4 rfl (.c (.not .none (.s rfl)) (.nil (.cb rfl h (fun _ h => ?_) fun _ h => ?_)))))))))))))))))))
       ·
        exact .exit (.thenExit (.blkExit (.close (k := 5003) (g := 5007) (fun z => cont 25 (⟨⟨s5006⟩, ⟨z⟩⟩ : Doc_o01)) rfl rfl rfl (.close (k := 5003) (g := 5006) (fun z => deep (fun z0 => cont 25 (⟨⟨z⟩, ⟨z0⟩⟩ : Doc_o01)) (rowV 67 p21_.2.Edges)) rfl rfl rfl (Ends.j _ (some_eq h))))))
       ·
        obtain ⟨hn28, h⟩ := need_some h
        obtain ⟨v7, hv29, h⟩ := bnd_some h
        obtain ⟨n1, hv30, h⟩ := bnd_some h
        obtain ⟨hn31, h⟩ := need_some h
        refine .skip (.then (.sr [oo, ([5008], []), oo, oo, oo, ([5008], [5008])] mx (.cA (.fieldPtr .none fd44_0 (.s rfl)) (.cA (.loadAt (k := 5008) .none ty9 rfl (.s rfl) hfd44_0) (.mvA rfl (.cA (.re hv29 (.addStr .none (.s rfl) (.s rfl) (fun _ => hn28))) (.cA (.fieldPtr .none fd44_0 (.s rfl)) (.cN (.storeAt (g := 5008) ty9 rfl (.s rfl) sf44_0 (.s rfl)) (.nil (.reB (t := 5008) rfl (congrArg (fun y => boxAt m5008 44 y) hv30) (.seq (.sr [oo, oo, oo, oo, oo, ([5008], []), oo, oo, oo, oo, oo, oo] mx (.mvA rfl (.cA (.nilCheckR .none (.s rfl)) (.faA fd148_1 hfd148_1 rfl (.ldA ty145 rfl (.cA (.fieldPtr .none fd44_5 (.s rfl)) (.cA (.loadAt (k := 5008) .none ty9 rfl (.s rfl) hfd44_5) (.cA (.lookupOk .none mo145 zo3 (.s rfl) (.s rfl)) (.mvA rfl (.exA rfl rfl (.exA rfl rfl (.asnA rfl (.asnA rfl (.nil (.sr [oo, ([5008], []), oo, oo, oo, oo, oo, oo, oo, oo, oo, oo] mx (.cA (.fieldPtr .none fd44_5 (.s rfl)) (.cA (.loadAt (k := 5008) .none ty9 rfl (.s rfl) hfd44_5) (.cA (.neS .none (eqAt_str Tryz.underlying9) (.s rfl) (.str (l := []) (by decide))) (.mvA rfl (.cA (.move (.at rfl rfl) (.s rfl)) (.cA (.pickAnd .none (.s rfl) (.tmp rfl id)) (.mvA rfl (.cA (.move (.at rfl rfl) (.s rfl)) (.cA (.move (.at rfl rfl) (.s rfl)) (.cA (.indexAddr (.at rfl rfl) sl112 ty4 (.tmp rfl id) (.tmp rfl id) (fun hg => hn31 hg.2)) (.cA (.load (.at rfl rfl) ty4 (.tmp rfl id)) (.cA (.pickAnd .none (.s rfl) (.tmp rfl id)) (.nil ?_)))))))))))))))))))))))))))))))))))))))
        obtain ⟨j_32, h, hK32⟩ := bind_some h
        refine .thenJ (ι := DNode) (fun j_32 => []) (fun j_32 => [(5008, some (boxAt m5008 44 j_32))]) (fun s => j_32 = s) (.k4 2 3 4 5 rfl rfl rfl rfl (.k4 10 12 15 18 rfl rfl rfl rfl (.k4 20 65 66 67 rfl rfl rfl rfl .nil))) (.k2 5001 5003 rfl rfl (.k2 5006 5007 rfl rfl .nil)) ?_ (fun j_32' hj32 => ?_)
        ·
         refine .cb rfl h (fun _ h => ?_) fun _ h => ?_
         ·
          obtain ⟨hn34, h⟩ := need_some h
          obtain ⟨v8, hv35, h⟩ := bnd_some h
          exact .rg [oo, ([5008], []), oo, oo, oo, ([5008], [5008])] mx (.cA (.fieldPtr .none fd44_5 (.s rfl)) (.cA (.loadAt (k := 5008) .none ty9 rfl (.s rfl) hfd44_5) (.mvA rfl (.cA (.re hv35 (.addStr .none (.s rfl) (.s rfl) (fun _ => hn34))) (.cA (.fieldPtr .none fd44_5 (.s rfl)) (.cN (.storeAt (g := 5008) ty9 rfl (.s rfl) sf44_5 (.s rfl)) (.nil (Ends.j _ (some_eq h)))))))))
         ·
          exact .skip (Ends.j _ (some_eq h))
        ·
         subst hj32; have h := hK32; clear hK32
         refine .seq (.sr [oo, ([5008], []), oo] mx (.cA (.fieldPtr .none fd44_1 (.s rfl)) (.cA (.loadAt (k := 5008) .none ty3 rfl (.s rfl) hfd44_1) (.cA (.neI .none (.s rfl) .i) (.nil ?_)))))
         obtain ⟨j_36, h, hK36⟩ := bind_some h
         refine .thenJ (ι := DNode) (fun j_36 => []) (fun j_36 => [(5008, some (boxAt m5008 44 j_36))]) (fun s => j_36 = s) (.k4 2 3 4 5 rfl rfl rfl rfl (.k4 10 12 15 18 rfl rfl rfl rfl (.k4 20 65 66 67 rfl rfl rfl rfl .nil))) (.k2 5001 5003 rfl rfl (.k2 5006 5007 rfl rfl .nil)) ?_ (fun j_36' hj36 => ?_)
         ·
          refine .cb rfl h (fun _ h => ?_) fun _ h => ?_
          ·
           obtain ⟨v9, hv38, h⟩ := bnd_some h
           obtain ⟨v10, hv39, h⟩ := bnd_some h
           exact .rg [oo, oo, ([5008], []), oo, oo, oo, oo, ([5008], []), oo, oo, oo, oo, ([5008], [5008]), oo, oo, ([5008], [5008])] mx (.cA (.fieldPtr .none fd44_2 (.s rfl)) (.cA (.fieldPtr .none fd29_0 (.s rfl)) (.cA (.loadAt (k := 5008) .none ty3 rfl (.s rfl) (HasField.comp (o2 := 0) hfd44_2 hfd29_0)) (.mvA rfl (.cA (.re hv38 (.addW .none (.s rfl) (.s rfl))) (.cA (.fieldPtr .none fd44_2 (.s rfl)) (.cA (.fieldPtr .none fd29_1 (.s rfl)) (.cA (.loadAt (k := 5008) .none ty3 rfl (.s rfl) (HasField.comp (o2 := 1) hfd44_2 hfd29_1)) (.mvA rfl (.cA (.re hv39 (.addW .none (.s rfl) (.s rfl))) (.cA (.fieldPtr .none fd44_2 (.s rfl)) (.cA (.fieldPtr .none fd29_0 (.s rfl)) (.cN (.storeAt (g := 5008) ty3 rfl (.s rfl) (SetField.comp (o2 := 0) hfd44_2 sf44_2 sf29_0) (.s rfl)) (.cA (.fieldPtr .none fd44_2 (.s rfl)) (.cA (.fieldPtr .none fd29_1 (.s rfl)) (.cN (.storeAt (g := 5008) ty3 rfl (.s rfl) (SetField.comp (o2 := 1) hfd44_2 sf44_2 sf29_1) (.s rfl)) (.nil (Ends.j _ (some_eq h)))))))))))))))))))
          ·
           exact .skip (Ends.j _ (some_eq h))
         ·
          subst hj36; have h := hK36; clear hK36
          obtain ⟨hn40, h⟩ := need_some h
          exact .sr [oo, ([5008], [5008])] mx (.cA (.fieldPtr .none fd44_6 (.s rfl)) (.cN (.storeAt (g := 5008) ty4 rfl (.s rfl) sf44_6 .bool) (.nil (.freezeBox (g := 5008) (ts := [20]) rfl (.cons (t := 20) rfl trivial .nil) (.k2 5001 5003 rfl rfl (.k2 5006 5007 rfl rfl .nil)) rfl (.rg [oo, ([5003], []), oo, oo, ([5006], [131, 5006]), oo, ([5003, 131], [5003, 131])] mx (.cA (.fieldPtr .none fd25_0 (.s rfl)) (.cA (.loadAt (k := 5003) .none tr22 rfl (.s rfl) hv_Doc_o01_0) (.ldA ty44 rfl (.cA (.buildSlice (xs := [_]) .none sl22 ty44 hz44 (.cons (.s rfl) .nil) rfl (by decide)) (.cW (.append (k := 5006) rk22 rfl (.told (.s rfl) rfl) (.s rfl) hn40) (.cA (.fieldPtr .none fd25_0 (.s rfl)) (.cN (.storeRow (k := 5003) (t := 131) ty22 rfl (.s rfl) sv_Doc_o01_0 rfl rfl) (.nil (.blkNormal (.open (k := 5003) (g := 5009) rfl rfl (fun s5009 => (.close (k := 5003) (g := 5007) (fun z => cont 25 (⟨⟨s5009⟩, ⟨z⟩⟩ : Doc_o01)) rfl rfl rfl (.close (k := 5003) (g := 5009) (fun z => deep (fun z0 => cont 25 (⟨⟨z⟩, ⟨z0⟩⟩ : Doc_o01)) (rowV 67 p21_.2.Edges)) rfl rfl rfl (Ends.j _ (some_eq h))))))))))))))))))))
      ·
       subst hj23; have h := hK23; clear hK23
       exact .open (k := 5003) (g := 5010) rfl rfl (fun s5010 => (.open (k := 5003) (g := 5011) rfl rfl (fun s5011 => (.rn mx (.adi rfl (.mv rfl (.nil (.close (k := 5003) (g := 5011) (fun z => cont 25 (⟨⟨s5010⟩, ⟨z⟩⟩ : Doc_o01)) rfl rfl rfl (.close (k := 5003) (g := 5010) (fun z => deep (fun z0 => cont 25 (⟨⟨z⟩, ⟨z0⟩⟩ : Doc_o01)) (rowV 67 j_23.Edges)) rfl rfl rfl (Ends.ag (some_eq h)))))))))))
     ·
      refine .exit (.thenExit (.thenExit (.blkExit (.close (k := 5003) (g := 5007) (fun z => cont 25 (⟨⟨s5006⟩, ⟨z⟩⟩ : Doc_o01)) rfl rfl rfl (.close (k := 5003) (g := 5006) (fun z => deep (fun z0 => cont 25 (⟨⟨z⟩, ⟨z0⟩⟩ : Doc_o01)) (rowV 67 p21_.2.Edges)) rfl rfl rfl ?_)))))
      replace h := hD21 _ (some_eq h)
      exact Ends.j _ (some_eq h)
    ·
     subst hj20; have h := hK20; clear hK20
     refine .open (k := 5003) (g := 5012) rfl rfl (fun s5012 => (.open (k := 5003) (g := 5013) rfl rfl (fun s5013 => (.seq (.sn mx (.fa fd25_1 hfd25_1 rfl (.ld ty23 rfl (.ln sl23 rfl (.mvi (.nil ?_))))))))))
     obtain ⟨j_41, h, hK41⟩ := bind_some h
     refine .thenJ (ι := Doc) (fun j_41 => []) (fun j_41 => [(5003, some (CPred.at (ptr m5003 0) (deep (fun z0 => deep (fun z1 => cont 25 (⟨⟨z0⟩, ⟨z1⟩⟩ : Doc_o01)) (rowV 67 j_41.Edges)) (rowV 44 j_41.Nodes))))]) (fun s => j_41 = s) (.k2 10 18 rfl rfl .nil) (.k 5001 rfl .nil) ?_ (fun j_41' hj41 => ?_)
     ·
      refine .block (.close (k := 5003) (g := 5013) (fun z => cont 25 (⟨⟨s5012⟩, ⟨z⟩⟩ : Doc_o01)) rfl rfl rfl (.close (k := 5003) (g := 5012) (fun z => deep (fun z0 => cont 25 (⟨⟨z⟩, ⟨z0⟩⟩ : Doc_o01)) (rowV 67 j_20.Edges)) rfl rfl rfl (.rforL h (fun p42_ => [(137, ⟨True, rep p42_.1⟩)]) (fun p42_ => [(5003, some (CPred.at (ptr m5003 0) (deep (fun z0 => deep (fun z1 => cont 25 (⟨⟨z0⟩, ⟨z1⟩⟩ : Doc_o01)) (rowV 67 p42_.2.Edges)) (rowV 44 p42_.2.Nodes))))]) (.k 137 rfl .nil) (.k 5003 rfl .nil) (.k4 2 3 4 10 rfl rfl rfl rfl (.k4 12 15 18 135 rfl rfl rfl rfl (.k 136 rfl .nil))) (.k 5001 rfl .nil) (fun p42_ o_42 h hD42 => (.open (k := 5003) (g := 5014) rfl rfl (fun s5014 => (.open (k := 5003) (g := 5015) rfl rfl (fun s5015 => (.sn mx (.lt rfl rfl (.nil (.seq (.cb rfl h (fun _ h => ?_) fun _ h => ?_)))))))))))))
      ·
       refine .skip (.then (.seq ?_))
       obtain ⟨j_44, h, hK44⟩ := bind_some h
       unfold page_Copy_L3 at h
       refine .thenJ (ι := Doc) (fun j_44 => []) (fun j_44 => [(5003, some (CPred.at (ptr m5003 0) (deep (fun z0 => deep (fun z1 => cont 25 (⟨⟨z0⟩, ⟨z1⟩⟩ : Doc_o01)) (rowV 67 j_44.Edges)) (rowV 44 j_44.Nodes))))]) (fun s => j_44 = s) (.k4 2 3 4 10 rfl rfl rfl rfl (.k4 12 15 18 135 rfl rfl rfl rfl (.k2 136 137 rfl rfl .nil))) (.k 5001 rfl .nil) ?_ (fun j_44' hj44 => ?_)
       ·
        obtain ⟨hn45, h⟩ := need_some h
        obtain ⟨v11, hv46, h⟩ := bnd_some h
        obtain ⟨hn47, h⟩ := need_some h
        obtain ⟨hn48, h⟩ := need_some h
        refine .block (.sr [oo, oo, ([], [24]), ([24], [24])] mx (.ixA sl23 ty67 rfl rfl hn45 (.rlA hv46 ty67 rfl (.al zo67 rfl (.st ty67 rfl rfl rfl (.nil (.nameBox (t := 24) (g := 5016) rfl rfl (fun m5016 => (.seq (.sr [oo, oo, oo, oo, oo, oo, oo, ([5016], []), oo, oo, oo, oo, oo, oo, oo, oo, oo, oo, oo, oo, ([5016], []), oo, oo, oo, oo, oo] mx (.mvA rfl (.mvA rfl (.cA (.nilCheckR .none (.s rfl)) (.faA fd148_1 hfd148_1 rfl (.ldA ty145 rfl (.cA (.fieldPtr .none fd67_1 (.s rfl)) (.cA (.fieldPtr .none fd65_0 (.s rfl)) (.cA (.loadAt (k := 5016) .none ty9 rfl (.s rfl) (HasField.comp (o2 := 0) hfd67_1 hfd65_0)) (.cA (.lookup .none mo145 zo3 (.s rfl) (.s rfl)) (.ixA sl112 ty4 rfl rfl hn47 (.ldA ty4 rfl (.cA (.not .none (.s rfl)) (.mvA rfl (.cA (.move (.at rfl rfl) (.s rfl)) (.cA (.move (.at rfl rfl) (.s rfl)) (.cA (.nilCheckR (.at rfl rfl) (.tmp rfl id)) (.cA (.fieldAddr (.at rfl rfl) fd148_1 hfd148_1 (.tmp rfl id)) (.cA (.load (.at rfl rfl) ty145 (.tmp rfl id)) (.cA (.fieldPtr (.at rfl rfl) fd67_2 (.s rfl)) (.cA (.fieldPtr (.at rfl rfl) fd65_0 (.tmp rfl id)) (.cA (.loadAt (k := 5016) (.at rfl rfl) ty9 rfl (.tmp rfl id) (HasField.comp (o2 := 0) hfd67_2 hfd65_0)) (.cA (.lookup (.at rfl rfl) mo145 zo3 (.tmp rfl id) (.tmp rfl id)) (.cA (.indexAddr (.at rfl rfl) sl112 ty4 (.tmp rfl id) (.tmp rfl id) (fun hg => hn48 hg.2)) (.cA (.load (.at rfl rfl) ty4 (.tmp rfl id)) (.cA (.not (.at rfl rfl) (.tmp rfl id)) (.cA (.pickOr .none (.s rfl) (.tmp rfl id)) (.nil (.cb rfl h (fun _ h => ?_) fun _ h => ?_))))))))))))))))))))))))))))))))))))))
        ·
         exact .exit (.thenExit (.blkExit (.close (k := 5003) (g := 5015) (fun z => cont 25 (⟨⟨s5014⟩, ⟨z⟩⟩ : Doc_o01)) rfl rfl rfl (.close (k := 5003) (g := 5014) (fun z => deep (fun z0 => cont 25 (⟨⟨z⟩, ⟨z0⟩⟩ : Doc_o01)) (rowV 67 p42_.2.Edges)) rfl rfl rfl (Ends.j _ (some_eq h))))))
        ·
         obtain ⟨hn50, h⟩ := need_some h
         obtain ⟨v12, hv51, h⟩ := bnd_some h
         obtain ⟨hn52, h⟩ := need_some h
         obtain ⟨v13, hv53, h⟩ := bnd_some h
         obtain ⟨hn54, h⟩ := need_some h
         obtain ⟨v14, hv55, h⟩ := bnd_some h
         obtain ⟨x1, hv56, h⟩ := bnd_some h
         refine .skip (.then (.sr [oo, ([5016], []), oo, oo, oo, oo, ([5016], []), oo, oo, oo, oo, ([5016], []), oo, oo, oo, ([5016], [5016]), oo, oo, ([5016], [5016]), oo, oo, ([5016], [5016])] mx (.cA (.fieldPtr .none fd67_0 (.s rfl)) (.cA (.loadAt (k := 5016) .none ty9 rfl (.s rfl) hfd67_0) (.mvA rfl (.cA (.re hv51 (.addStr .none (.s rfl) (.s rfl) (fun _ => hn50))) (.cA (.fieldPtr .none fd67_1 (.s rfl)) (.cA (.fieldPtr .none fd65_0 (.s rfl)) (.cA (.loadAt (k := 5016) .none ty9 rfl (.s rfl) (HasField.comp (o2 := 0) hfd67_1 hfd65_0)) (.mvA rfl (.cA (.re hv53 (.addStr .none (.s rfl) (.s rfl) (fun _ => hn52))) (.cA (.fieldPtr .none fd67_2 (.s rfl)) (.cA (.fieldPtr .none fd65_0 (.s rfl)) (.cA (.loadAt (k := 5016) .none ty9 rfl (.s rfl) (HasField.comp (o2 := 0) hfd67_2 hfd65_0)) (.mvA rfl (.cA (.re hv55 (.addStr .none (.s rfl) (.s rfl) (fun _ => hn54))) (.cA (.fieldPtr .none fd67_0 (.s rfl)) (.cN (.storeAt (g := 5016) ty9 rfl (.s rfl) sf67_0 (.s rfl)) (.cA (.fieldPtr .none fd67_1 (.s rfl)) (.cA (.fieldPtr .none fd65_0 (.s rfl)) (.cN (.storeAt (g := 5016) ty9 rfl (.s rfl) (SetField.comp (o2 := 0) hfd67_1 sf67_1 sf65_0) (.s rfl)) (.cA (.fieldPtr .none fd67_2 (.s rfl)) (.cA (.fieldPtr .none fd65_0 (.s rfl)) (.cN (.storeAt (g := 5016) ty9 rfl (.s rfl) (SetField.comp (o2 := 0) hfd67_2 sf67_2 sf65_0) (.s rfl)) (.nil (.reB (t := 5016) rfl (congrArg (fun y => boxAt m5016 67 y) hv56) (.sr [([], [25])] mx (.cW (.nilRow (T := 27) (α := Point) rfl) (.nil (.nameRow (t := 25) (g := 5017) rfl rfl rfl (fun s5017 => (.seq (.sr [oo, ([5016], []), oo, oo] mx (.cA (.fieldPtr .none fd67_3 (.s rfl)) (.cA (.loadAt (k := 5016) .none ty59 rfl (.s rfl) hfd67_3) (.cA (.len .none sl59 (.s rfl)) (.cA (.move .none .i) (.nil ?_))))))))))))))))))))))))))))))))))))))
         obtain ⟨j_57, h, hK57⟩ := bind_some h
         refine .thenJ (ι := (List Point)) (fun j_57 => []) (fun j_57 => [(25, some (rowV 27 j_57))]) (fun s => j_57 = s) (.k4 2 3 4 10 rfl rfl rfl rfl (.k4 12 15 18 24 rfl rfl rfl rfl (.k2 135 136 rfl rfl (.k 137 rfl .nil)))) (.k2 5001 5003 rfl rfl (.k2 5014 5015 rfl rfl (.k 5016 rfl .nil))) ?_ (fun j_57' hj57 => ?_)
         ·
          refine .block (.anon (t := 25) (g := 5017) rfl rfl trivial rfl (.rforL h (fun p58_ => [(189, ⟨True, rep p58_.1⟩)]) (fun p58_ => [(25, some (rowV 27 p58_.2))]) (.k 189 rfl .nil) (.k 25 rfl .nil) (.k4 2 3 4 10 rfl rfl rfl rfl (.k4 12 15 18 24 rfl rfl rfl rfl (.k4 135 136 137 187 rfl rfl rfl rfl (.k 188 rfl .nil)))) (.k2 5001 5003 rfl rfl (.k2 5014 5015 rfl rfl (.k 5016 rfl .nil))) (fun p58_ o_58 h hD58 => (.nameRow (t := 25) (g := 5018) rfl rfl rfl (fun s5018 => (.sn mx (.lt rfl rfl (.nil (.seq (.cb rfl h (fun _ h => ?_) fun _ h => ?_))))))))))
          ·
           refine .skip (.then (.seq ?_))
           obtain ⟨j_60, h, hK60⟩ := bind_some h
           unfold page_Copy_L4 at h
           refine .thenJ (ι := (List Point)) (fun j_60 => []) (fun j_60 => [(25, some (rowV 27 j_60))]) (fun s => j_60 = s) (.k4 2 3 4 10 rfl rfl rfl rfl (.k4 12 15 18 24 rfl rfl rfl rfl (.k4 135 136 137 187 rfl rfl rfl rfl (.k2 188 189 rfl rfl .nil)))) (.k2 5001 5003 rfl rfl (.k2 5014 5015 rfl rfl (.k 5016 rfl .nil))) ?_ (fun j_60' hj60 => ?_)
           ·
            obtain ⟨hn61, h⟩ := need_some h
            obtain ⟨v15, hv62, h⟩ := bnd_some h
            obtain ⟨hn63, h⟩ := need_some h
            exact .block (.sr [oo, oo, ([], [27]), ([27], [27])] mx (.ixA sl59 ty27 rfl rfl hn61 (.rlA hv62 ty27 rfl (.al zo27 rfl (.st ty27 rfl rfl rfl (.nil (.freeze (t := 27) rfl rfl (.k2 5001 5003 rfl rfl (.k2 5014 5015 rfl rfl (.k2 5016 5018 rfl rfl .nil))) rfl (.rg [oo, oo, oo, oo, oo, oo, oo, oo, oo, oo, oo, ([5018], [204, 5018]), ([204], [25, 204])] mx (.mvA rfl (.faA fd27_0 hfd27_0 rfl (.ldA ty3 rfl (.mvA rfl (.addA rfl rfl (.faA fd27_1 hfd27_1 rfl (.ldA ty3 rfl (.mvA rfl (.addA rfl rfl (.cA (.buildF (y := (⟨W (v15.X + dx1), W (v15.Y + dy1)⟩ : Point)) .none bu27 zc27 rfl (.cons (.s rfl) (.cons (.s rfl) .nil)) (.cons rfl sf27_0 (.cons rfl sf27_1 .nil))) (.cA (.buildSlice (xs := [_]) .none sl59 ty27 hz27 (.cons (.s rfl) .nil) rfl (by decide)) (.cW (.append (k := 5018) rk59 rfl (.told (.s rfl) rfl) (.s rfl) hn63) (.cW (.passRow rfl (.tmp rfl)) (.nil (.blkNormal (Ends.j _ (some_eq h)))))))))))))))))))))))))
           ·
            subst hj60; have h := hK60; clear hK60
            exact .nameRow (t := 25) (g := 5019) rfl rfl rfl (fun s5019 => (.rn mx (.adi rfl (.mv rfl (.nil (.anon (t := 25) (g := 5019) rfl rfl trivial rfl (Ends.ag (some_eq h))))))))
          ·
           refine .exit (.thenExit (.thenExit (.blkExit (.anon (t := 25) (g := 5018) rfl rfl trivial rfl ?_))))
           replace h := hD58 _ (some_eq h)
           exact Ends.j _ (some_eq h)
         ·
          subst hj57; have h := hK57; clear hK57
          obtain ⟨hn64, h⟩ := need_some h
          exact .freezeRowA (t := 25) rfl rfl (.k2 5001 5003 rfl rfl (.k2 5014 5015 rfl rfl (.k 5016 rfl .nil))) rfl (.sr [oo, oo, ([5016], [5016])] mx (.mvA rfl (.cA (.fieldPtr .none fd67_3 (.s rfl)) (.cN (.storeAt (g := 5016) ty59 rfl (.s rfl) sf67_3 (.s rfl)) (.nil (.freezeBox (g := 5016) (ts := [24]) rfl (.cons (t := 24) rfl trivial .nil) (.k2 5001 5003 rfl rfl (.k2 5014 5015 rfl rfl .nil)) rfl (.rg [oo, ([5003], []), oo, oo, ([5015], [212, 5015]), oo, ([5003, 212], [5003, 212])] mx (.cA (.fieldPtr .none fd25_1 (.s rfl)) (.cA (.loadAt (k := 5003) .none tr23 rfl (.s rfl) hv_Doc_o01_1) (.ldA ty67 rfl (.cA (.buildSlice (xs := [_]) .none sl23 ty67 hz67 (.cons (.s rfl) .nil) rfl (by decide)) (.cW (.append (k := 5015) rk23 rfl (.told (.s rfl) rfl) (.s rfl) hn64) (.cA (.fieldPtr .none fd25_1 (.s rfl)) (.cN (.storeRow (k := 5003) (t := 212) ty23 rfl (.s rfl) sv_Doc_o01_1 rfl rfl) (.nil (.blkNormal (.open (k := 5003) (g := 5020) rfl rfl (fun s5020 => (.close (k := 5003) (g := 5020) (fun z => cont 25 (⟨⟨s5014⟩, ⟨z⟩⟩ : Doc_o01)) rfl rfl rfl (.close (k := 5003) (g := 5014) (fun z => deep (fun z0 => cont 25 (⟨⟨z⟩, ⟨z0⟩⟩ : Doc_o01)) (rowV 67 (p42_.2.Edges ++ [{ x1 with Bends := j_57 }]))) rfl rfl rfl (Ends.j _ (some_eq h))))))))))))))))))))))
       ·
        subst hj44; have h := hK44; clear hK44
        exact .open (k := 5003) (g := 5021) rfl rfl (fun s5021 => (.open (k := 5003) (g := 5022) rfl rfl (fun s5022 => (.rn mx (.adi rfl (.mv rfl (.nil (.close (k := 5003) (g := 5022) (fun z => cont 25 (⟨⟨s5021⟩, ⟨z⟩⟩ : Doc_o01)) rfl rfl rfl (.close (k := 5003) (g := 5021) (fun z => deep (fun z0 => cont 25 (⟨⟨z⟩, ⟨z0⟩⟩ : Doc_o01)) (rowV 67 j_44.Edges)) rfl rfl rfl (Ends.ag (some_eq h)))))))))))
      ·
       refine .exit (.thenExit (.thenExit (.blkExit (.close (k := 5003) (g := 5015) (fun z => cont 25 (⟨⟨s5014⟩, ⟨z⟩⟩ : Doc_o01)) rfl rfl rfl (.close (k := 5003) (g := 5014) (fun z => deep (fun z0 => cont 25 (⟨⟨z⟩, ⟨z0⟩⟩ : Doc_o01)) (rowV 67 p42_.2.Edges)) rfl rfl rfl ?_)))))
       replace h := hD42 _ (some_eq h)
       exact Ends.j _ (some_eq h)
     ·
      subst hj41; have h := hK41; clear hK41
      refine .freezeAt (g := 5003) (S := ref ({ j_41 with Nodes := j_41.Nodes, Edges := j_41.Edges } : Doc)) (ts := [18]) rfl (.cons (t := 18) rfl trivial .nil) (.k 5001 rfl .nil) rfl (fun M D w h hms => deep_ref2 (mk := (fun s1_ s2_ => (⟨⟨s1_⟩, ⟨s2_⟩⟩ : Doc_o01))) (y := ({ j_41 with Nodes := j_41.Nodes, Edges := j_41.Edges } : Doc)) frzRow frzRow rfl (fun M s1_ s2_ cs w hc g1 g2 => by obtain ⟨c0, q0, e0, h0, h1⟩ := hc; exact ⟨c0, q0, e0, raw_cells rfl rfl h0 g1, raw_cells rfl rfl h1 g2⟩) M D w h hms) ?_
      obtain ⟨e1, hv65, h⟩ := bind_some h
      refine .seq (.sn mx (.ld ty25 rfl (.c (.call .none (page_Check_ok hv65) (.cons (.s rfl) .nil)) (.asn rfl (.nil (.sn mx (.mv rfl (.nei rfl (.nil (.cb rfl h (fun _ h => ?_) fun _ h => ?_))))))))))
      ·
       obtain ⟨v16, hv67, h⟩ := bnd_some h
       refine .sr [oo, oo, ([5001], [5001]), oo] mx (.cA (.re hv67 (.buildF (y := (⟨([] : (List DNode)), ([] : (List DEdge))⟩ : Doc)) .none bu25 zc25 rfl .nil .nil)) (.mvA rfl (.s0 5001 ty25 rfl rfl rfl (.asnA rfl (.nil (.fb 5001 [10] rfl (.cons (t := 10) rfl trivial .nil) (.ret (.thenRet ?_))))))))
       obtain rfl := some_eq h
       exact Ends.r2 Tryz.results42 ty25 rfl rfl
      ·
       obtain ⟨v17, hv68, h⟩ := bnd_some h
       refine .skip (.then (.sr [oo, ([5001], [5001]), oo] mx (.rlA hv68 ty25 rfl (.s0 5001 ty25 rfl rfl rfl (.cA (.assign .none .i) (.nil (.fb 5001 [10] rfl (.cons (t := 10) rfl trivial .nil) (.ret ?_))))))))
       obtain rfl := some_eq h
       exact Ends.r2 Tryz.results42 ty25 rfl rfl

theorem law_pages_ok  {r : Bool}  (h : law_pages  = some r) : FSpec Tryz.prog 11 [] (rep r) := by
 unfold law_pages at h
 obtain ⟨r1, hv1, h⟩ := bind_some h
 obtain ⟨r2, hv2, h⟩ := bind_some h
 refine FSpec.i Tryz.func11 rfl Tryz.ntmps11 rfl (fun F => (.sn mx (.asb (.nil (.sn mx (.c (.buildF (y := (⟨([] : (List DNode)), ([] : (List DEdge))⟩ : Doc)) .none bu25 zc25 rfl .nil .nil) (.c (.call .none (page_Check_ok hv1) (.cons (.s rfl) .nil)) (.eqi rfl (.mv rfl (.c (.buildF (y := (⟨Str.nil, (0 : Int), (⟨(0 : Int), (0 : Int), (0 : Int), (0 : Int)⟩ : Box), Str.nil, Str.nil, Str.nil, false⟩ : DNode)) (.at rfl rfl) bu44 zc44 rfl .nil .nil) (.c (.buildSlice (xs := [_]) (.at rfl rfl) sl22 ty44 hz44 (.cons (.tmp rfl id) .nil) rfl (by decide)) (.c (.buildF (y := (⟨[(⟨Str.nil, (0 : Int), (⟨(0 : Int), (0 : Int), (0 : Int), (0 : Int)⟩ : Box), Str.nil, Str.nil, Str.nil, false⟩ : DNode)], ([] : (List DEdge))⟩ : Doc)) (.at rfl rfl) bu25 zc25 rfl (.cons (.tmp rfl id) .nil) (.cons rfl sf25_0 .nil)) (.c (.callIf (.at rfl rfl) fnok12 (fun hg => page_Check_ok ((fun hg => gd_some hv2 (hg.2)) hg)) (.cons (.tmp rfl id) .nil) (fun h => h)) (.c (.eqI (.at rfl rfl) (.tmp rfl id) .i) (.pa rfl rfl (.asn rfl (.nil (.ret ?_))))))))))))))))))
 obtain rfl := some_eq h
 exact Ends.rt Tryz.results11 rfl

theorem slices_Equal_Node_ok {s1_1 : (List DNode)} {s2_1 : (List DNode)} {r : Bool}  (h : slices_Equal_Node s1_1 s2_1 = some r) : FSpec Tryz.prog 138 [rep s1_1, rep s2_1] (rep r) := by
 unfold slices_Equal_Node at h
 refine FSpec.i Tryz.func138 rfl Tryz.ntmps138 rfl (fun F => (.sn mx (.asb (.nil (.seq (.sn mx (.mv rfl (.ln sl22 rfl (.mv rfl (.ln sl22 rfl (.c (.neI .none (.s rfl) (.s rfl)) (.nil (.cb rfl h (fun _ h => ?_) fun _ h => ?_)))))))))))))
 ·
  refine .sn mx (.asb (.nil (.ret (.thenRet ?_))))
  obtain rfl := some_eq h
  exact Ends.rt Tryz.results138 rfl
 ·
  refine .skip (.then (.seq (.sn mx (.mv rfl (.ln sl22 rfl (.mvi (.nil ?_)))))))
  obtain ⟨o_2, h, hK2⟩ := bindR_some h
  refine .tJ (fun s => o_2 = Res.nx s) Sub.nil SubB.nil ?_ (fun j_2 hj2 => ?_)
  ·
   refine .block (.rforEL h (fun p3_ => [(13, ⟨True, rep p3_.1⟩)]) (fun p3_ => []) (.k 13 rfl .nil) SubB.nil (.k2 0 1 rfl rfl (.k 12 rfl .nil)) SubB.nil (fun p3_ o_3 h hD3 => (.sn mx (.lt rfl rfl (.nil (.seq (.cb rfl h (fun _ h => ?_) fun _ h => ?_)))))))
   ·
    refine .skip (.then (.seq ?_))
    obtain ⟨o_5, h, hK5⟩ := bindD_some h
    unfold slices_Equal_Node_L1 at h
    refine .tJ (fun s => o_5 = Res.nx s) (.k4 0 1 12 13 rfl rfl rfl rfl .nil) SubB.nil ?_ (fun j_5 hj5 => ?_)
    ·
     obtain ⟨hn6, h⟩ := need_some h
     obtain ⟨hn7, h⟩ := need_some h
     refine .block (.sn mx (.mv rfl (.asn rfl (.nil (.sn mx (.mv rfl (.mv rfl (.ix sl22 ty44 rfl rfl hn6 (.ld ty44 rfl (.mv rfl (.mv rfl (.ix sl22 ty44 rfl rfl hn7 (.ld ty44 rfl (.c (.neS .none eqa44 (.s rfl) (.s rfl)) (.nil (.cb rfl h (fun _ h => ?_) fun _ h => ?_))))))))))))))))
     ·
      refine .sn mx (.asb (.nil (.ret (.blkRet (.thenRet (.thenRet (.blkRet (.thenRet ?_))))))))
      replace h := resd_ab hK5 (some_eq h)
      replace h := hD3 _ (some_eq h)
      replace h := resb_ab hK2 (some_eq h)
      obtain rfl := some_eq h
      exact Ends.rt Tryz.results138 rfl
     ·
      exact .skip (.blkNormal (Ends.j _ (some_eq h)))
    ·
     have h := resd_nx hK5 hj5
     exact .rn mx (.adi rfl (.mv rfl (.nil (Ends.ag (some_eq h)))))
   ·
    refine .exit (.thenExit (.thenExit (.blkExit ?_)))
    replace h := hD3 _ (some_eq h)
    exact Ends.j _ (some_eq h)
  ·
   have h := resb_nx hK2 hj2
   refine .sn mx (.asb (.nil (.ret ?_)))
   obtain rfl := some_eq h
   exact Ends.rt Tryz.results138 rfl

theorem slices_EqualFunc_Edge_ok {s1_1 : (List DEdge)} {s2_1 : (List DEdge)} {eq1 : (DEdge → DEdge → Option Bool)} {r : Bool}  (h : slices_EqualFunc_Edge s1_1 s2_1 eq1 = some r) : FSpec Tryz.prog 139 [rep s1_1, rep s2_1, fn2 Tryz.prog (rep (α := Bool)) eq1] (rep r) := by
 unfold slices_EqualFunc_Edge at h
 refine FSpec.i Tryz.func139 rfl Tryz.ntmps139 rfl (fun F => (.sn mx (.asb (.nil (.seq (.sn mx (.mv rfl (.ln sl23 rfl (.mv rfl (.ln sl23 rfl (.c (.neI .none (.s rfl) (.s rfl)) (.nil (.cb rfl h (fun _ h => ?_) fun _ h => ?_)))))))))))))
 ·
  refine .sn mx (.asb (.nil (.ret (.thenRet ?_))))
  obtain rfl := some_eq h
  exact Ends.rt Tryz.results139 rfl
 ·
  refine .skip (.then (.seq (.sn mx (.mv rfl (.ln sl23 rfl (.mvi (.nil ?_)))))))
  obtain ⟨o_2, h, hK2⟩ := bindR_some h
  refine .tJ (fun s => o_2 = Res.nx s) Sub.nil SubB.nil ?_ (fun j_2 hj2 => ?_)
  ·
   refine .block (.rforEL h (fun p3_ => [(17, ⟨True, rep p3_.1⟩)]) (fun p3_ => []) (.k 17 rfl .nil) SubB.nil (.k4 1 2 15 16 rfl rfl rfl rfl .nil) SubB.nil (fun p3_ o_3 h hD3 => (.sn mx (.lt rfl rfl (.nil (.seq (.cb rfl h (fun _ h => ?_) fun _ h => ?_)))))))
   ·
    refine .skip (.then (.seq ?_))
    obtain ⟨o_5, h, hK5⟩ := bindD_some h
    unfold slices_EqualFunc_Edge_L1 at h
    refine .tJ (fun s => o_5 = Res.nx s) (.k4 1 2 15 16 rfl rfl rfl rfl (.k 17 rfl .nil)) SubB.nil ?_ (fun j_5 hj5 => ?_)
    ·
     obtain ⟨hn6, h⟩ := need_some h
     obtain ⟨v1, hv7, h⟩ := bnd_some h
     obtain ⟨hn8, h⟩ := need_some h
     obtain ⟨v2, hv9, h⟩ := bnd_some h
     obtain ⟨r1, hv10, h⟩ := bind_some h
     refine .block (.sr [oo, oo, oo, ([], [8]), oo, ([8], [8])] mx (.mvA rfl (.ixA sl23 ty67 rfl rfl hn6 (.rlA hv7 ty67 rfl (.al zo67 rfl (.asnA rfl (.st ty67 rfl rfl rfl (.nil (.freeze (t := 8) rfl rfl SubB.nil rfl (.sr [oo, oo, oo, oo, ([], [9]), ([9], [9])] mx (.mvA rfl (.mvA rfl (.ixA sl23 ty67 rfl rfl hn8 (.rlA hv9 ty67 rfl (.al zo67 rfl (.st ty67 rfl rfl rfl (.nil (.freeze (t := 9) rfl rfl SubB.nil rfl (.sn mx (.mv rfl (.ld ty67 rfl (.ld ty67 rfl (.c (.callV (v1, v2, r1) .none (.s rfl) (fun _ => hv10) (.cons (.s rfl) (.cons (.s rfl) .nil))) (.c (.not .none (.s rfl)) (.nil (.cb rfl h (fun _ h => ?_) fun _ h => ?_))))))))))))))))))))))))))
     ·
      refine .sn mx (.asb (.nil (.ret (.blkRet (.thenRet (.thenRet (.blkRet (.thenRet ?_))))))))
      replace h := resd_ab hK5 (some_eq h)
      replace h := hD3 _ (some_eq h)
      replace h := resb_ab hK2 (some_eq h)
      obtain rfl := some_eq h
      exact Ends.rt Tryz.results139 rfl
     ·
      exact .skip (.blkNormal (Ends.j _ (some_eq h)))
    ·
     have h := resd_nx hK5 hj5
     exact .rn mx (.adi rfl (.mv rfl (.nil (Ends.ag (some_eq h)))))
   ·
    refine .exit (.thenExit (.thenExit (.blkExit ?_)))
    replace h := hD3 _ (some_eq h)
    exact Ends.j _ (some_eq h)
  ·
   have h := resb_nx hK2 hj2
   refine .sn mx (.asb (.nil (.ret ?_)))
   obtain rfl := some_eq h
   exact Ends.rt Tryz.results139 rfl

theorem slices_Equal_Point_ok {s1_1 : (List Point)} {s2_1 : (List Point)} {r : Bool}  (h : slices_Equal_Point s1_1 s2_1 = some r) : FSpec Tryz.prog 96 [rep s1_1, rep s2_1] (rep r) := by
 unfold slices_Equal_Point at h
 refine FSpec.i Tryz.func96 rfl Tryz.ntmps96 rfl (fun F => (.sn mx (.asb (.nil (.seq (.sn mx (.mv rfl (.ln sl59 rfl (.mv rfl (.ln sl59 rfl (.c (.neI .none (.s rfl) (.s rfl)) (.nil (.cb rfl h (fun _ h => ?_) fun _ h => ?_)))))))))))))
 ·
  refine .sn mx (.asb (.nil (.ret (.thenRet ?_))))
  obtain rfl := some_eq h
  exact Ends.rt Tryz.results96 rfl
 ·
  refine .skip (.then (.seq (.sn mx (.mv rfl (.ln sl59 rfl (.mvi (.nil ?_)))))))
  obtain ⟨o_2, h, hK2⟩ := bindR_some h
  refine .tJ (fun s => o_2 = Res.nx s) Sub.nil SubB.nil ?_ (fun j_2 hj2 => ?_)
  ·
   refine .block (.rforEL h (fun p3_ => [(13, ⟨True, rep p3_.1⟩)]) (fun p3_ => []) (.k 13 rfl .nil) SubB.nil (.k2 0 1 rfl rfl (.k 12 rfl .nil)) SubB.nil (fun p3_ o_3 h hD3 => (.sn mx (.lt rfl rfl (.nil (.seq (.cb rfl h (fun _ h => ?_) fun _ h => ?_)))))))
   ·
    refine .skip (.then (.seq ?_))
    obtain ⟨o_5, h, hK5⟩ := bindD_some h
    unfold slices_Equal_Point_L1 at h
    refine .tJ (fun s => o_5 = Res.nx s) (.k4 0 1 12 13 rfl rfl rfl rfl .nil) SubB.nil ?_ (fun j_5 hj5 => ?_)
    ·
     obtain ⟨hn6, h⟩ := need_some h
     obtain ⟨hn7, h⟩ := need_some h
     refine .block (.sn mx (.mv rfl (.asn rfl (.nil (.sn mx (.mv rfl (.mv rfl (.ix sl59 ty27 rfl rfl hn6 (.ld ty27 rfl (.mv rfl (.mv rfl (.ix sl59 ty27 rfl rfl hn7 (.ld ty27 rfl (.c (.neS .none eq27 (.s rfl) (.s rfl)) (.nil (.cb rfl h (fun _ h => ?_) fun _ h => ?_))))))))))))))))
     ·
      refine .sn mx (.asb (.nil (.ret (.blkRet (.thenRet (.thenRet (.blkRet (.thenRet ?_))))))))
      replace h := resd_ab hK5 (some_eq h)
      replace h := hD3 _ (some_eq h)
      replace h := resb_ab hK2 (some_eq h)
      obtain rfl := some_eq h
      exact Ends.rt Tryz.results96 rfl
     ·
      exact .skip (.blkNormal (Ends.j _ (some_eq h)))
    ·
     have h := resd_nx hK5 hj5
     exact .rn mx (.adi rfl (.mv rfl (.nil (Ends.ag (some_eq h)))))
   ·
    refine .exit (.thenExit (.thenExit (.blkExit ?_)))
    replace h := hD3 _ (some_eq h)
    exact Ends.j _ (some_eq h)
  ·
   have h := resb_nx hK2 hj2
   refine .sn mx (.asb (.nil (.ret ?_)))
   obtain rfl := some_eq h
   exact Ends.rt Tryz.results96 rfl

theorem ref_SameDoc_1_ok {x1 : DEdge} {y1 : DEdge} {r : Bool}  (h : ref_SameDoc_1 x1 y1 = some r) : FSpec Tryz.prog 140 [rep x1, rep y1] (rep r) := by
 unfold ref_SameDoc_1 at h
 obtain ⟨r1, hv1, h⟩ := bind_some h
 refine FSpec.i Tryz.func140 rfl Tryz.ntmps140 rfl (fun F => (.sn mx (.c (.box .none (.s rfl)) (.c (.box .none (.s rfl)) (.asb (.nil (.sn mx (.fa fd67_0 hfd67_0 rfl (.ld ty9 rfl (.fa fd67_0 hfd67_0 rfl (.ld ty9 rfl (.c (.eqS .none (eqAt_str Tryz.underlying9) (.s rfl) (.s rfl)) (.mv rfl (.fg fd67_1 hfd67_1 rfl rfl rfl (.lg ty65 rfl rfl rfl (.fg fd67_1 hfd67_1 rfl rfl rfl (.lg ty65 rfl rfl rfl (.c (.eqS (.at rfl rfl) eqa65 (.tmp rfl id) (.tmp rfl id)) (.pa rfl rfl (.mv rfl (.fg fd67_2 hfd67_2 rfl rfl rfl (.lg ty65 rfl rfl rfl (.fg fd67_2 hfd67_2 rfl rfl rfl (.lg ty65 rfl rfl rfl (.c (.eqS (.at rfl rfl) eqa65 (.tmp rfl id) (.tmp rfl id)) (.pa rfl rfl (.mv rfl (.fg fd67_3 hfd67_3 rfl rfl rfl (.lg ty59 rfl rfl rfl (.fg fd67_3 hfd67_3 rfl rfl rfl (.lg ty59 rfl rfl rfl (.c (.callIf (.at rfl rfl) fnok96 (fun hg => slices_Equal_Point_ok ((fun hg => gd_some hv1 (hg.2)) hg)) (.cons (.tmp rfl id) (.cons (.tmp rfl id) .nil)) (fun h => h)) (.pa rfl rfl (.mv rfl (.fg fd67_4 hfd67_4 rfl rfl rfl (.lg ty9 rfl rfl rfl (.fg fd67_4 hfd67_4 rfl rfl rfl (.lg ty9 rfl rfl rfl (.c (.eqS (.at rfl rfl) (eqAt_str Tryz.underlying9) (.tmp rfl id) (.tmp rfl id)) (.pa rfl rfl (.mv rfl (.fg fd67_5 hfd67_5 rfl rfl rfl (.lg ty9 rfl rfl rfl (.fg fd67_5 hfd67_5 rfl rfl rfl (.lg ty9 rfl rfl rfl (.c (.eqS (.at rfl rfl) (eqAt_str Tryz.underlying9) (.tmp rfl id) (.tmp rfl id)) (.pa rfl rfl (.asn rfl (.nil (.ret ?_))))))))))))))))))))))))))))))))))))))))))))))))))
 obtain rfl := some_eq h
 exact Ends.rt Tryz.results140 rfl

theorem ref_SameDoc_ok {a1 : Doc} {b1 : Doc} {r : Bool}  (h : ref_SameDoc a1 b1 = some r) : FSpec Tryz.prog 62 [rep a1, rep b1] (rep r) := by
 unfold ref_SameDoc at h
 obtain ⟨r1, hv1, h⟩ := bind_some h
 obtain ⟨r2, hv2, h⟩ := bind_some h
 refine FSpec.i Tryz.func62 rfl Tryz.ntmps62 rfl (fun F => (.sn mx (.c (.box .none (.s rfl)) (.c (.box .none (.s rfl)) (.asb (.nil (.sn mx (.fa fd25_0 hfd25_0 rfl (.ld ty22 rfl (.fa fd25_0 hfd25_0 rfl (.ld ty22 rfl (.c (.call .none (slices_Equal_Node_ok hv1) (.cons (.s rfl) (.cons (.s rfl) .nil))) (.mv rfl (.fg fd25_1 hfd25_1 rfl rfl rfl (.lg ty23 rfl rfl rfl (.fg fd25_1 hfd25_1 rfl rfl rfl (.lg ty23 rfl rfl rfl (.c (.callIf (.at rfl rfl) fnok139 (fun hg => slices_EqualFunc_Edge_ok ((fun hg => gd_some hv2 (hg.2)) hg)) (.cons (.tmp rfl id) (.cons (.tmp rfl id) (.cons (Opd.func (ι := DEdge × DEdge × Bool) (pre := fun i => ref_SameDoc_1 i.1 i.2.1 = some i.2.2) (Ss := fun i => [rep i.1, rep i.2.1]) (S := fun i => rep i.2.2) fnok140 (fun i h => ref_SameDoc_1_ok h)) .nil))) (fun h => h)) (.pa rfl rfl (.asn rfl (.nil (.ret ?_))))))))))))))))))))))
 obtain rfl := some_eq h
 exact Ends.rt Tryz.results62 rfl

theorem law_docIs_ok {d1 : Doc} {e1 : Int} {want1 : Int} {right1 : Doc} {r : Bool}  (h : law_docIs d1 e1 want1 right1 = some r) : FSpec Tryz.prog 43 [rep d1, rep e1, rep want1, rep right1] (rep r) := by
 unfold law_docIs at h
 refine FSpec.i Tryz.func43 rfl Tryz.ntmps43 rfl (fun F => (.sn mx (.c (.box .none (.s rfl)) (.c (.box .none (.s rfl)) (.asb (.nil (.seq (.sn mx (.mv rfl (.nei rfl (.nil (.cb rfl h (fun _ h => ?_) fun _ h => ?_))))))))))))
 ·
  refine .sn mx (.fa fd25_0 hfd25_0 rfl (.ld ty22 rfl (.ln sl22 rfl (.eqi rfl (.mv rfl (.fg fd25_1 hfd25_1 rfl rfl rfl (.lg ty23 rfl rfl rfl (.c (.len (.at rfl rfl) sl23 (.tmp rfl id)) (.c (.eqI (.at rfl rfl) (.tmp rfl id) .i) (.pa rfl rfl (.mv rfl (.mg rfl rfl rfl (.mg rfl rfl rfl (.c (.eqI (.at rfl rfl) (.tmp rfl id) (.tmp rfl id)) (.pa rfl rfl (.asn rfl (.nil (.ret (.thenRet ?_)))))))))))))))))))
  obtain rfl := some_eq h
  exact Ends.rt Tryz.results43 rfl
 ·
  obtain ⟨r1, hv2, h⟩ := bind_some h
  refine .skip (.then (.sn mx (.mv rfl (.eqi rfl (.mv rfl (.c (.load (.at rfl rfl) ty25 (.s rfl)) (.c (.load (.at rfl rfl) ty25 (.s rfl)) (.c (.callIf (.at rfl rfl) fnok62 (fun hg => ref_SameDoc_ok ((fun hg => gd_some hv2 (hg.2)) hg)) (.cons (.tmp rfl id) (.cons (.tmp rfl id) .nil)) (fun h => h)) (.pa rfl rfl (.asn rfl (.nil (.ret ?_))))))))))))
  obtain rfl := some_eq h
  exact Ends.rt Tryz.results43 rfl

theorem ref_IsBelow_ok {d1 : Doc} {id1 : Str} {group1 : Str} {r : Bool}  (h : ref_IsBelow d1 id1 group1 = some r) : FSpec Tryz.prog 19 [rep d1, rep id1, rep group1] (rep r) := by
 unfold ref_IsBelow at h
 obtain ⟨r1, hv1, h⟩ := bind_some h
 obtain ⟨hn2, h⟩ := need_some h
 obtain ⟨p1, hv3, h⟩ := bnd_some h
 refine FSpec.i Tryz.func19 rfl Tryz.ntmps19 rfl (fun F => (.sn mx (.c (.box .none (.s rfl)) (.asb (.nil (.seq (.sn mx (.fa fd25_0 hfd25_0 rfl (.ld ty22 rfl (.ld ty25 rfl (.mv rfl (.c (.call .none (ref_NodeAt_ok hv1) (.cons (.s rfl) (.cons (.s rfl) .nil))) (.ix sl22 ty44 rfl rfl hn2 (.fa fd44_5 hfd44_5 rfl (.ld ty9 rfl (.ra hv3 rfl (.nil ?_)))))))))))))))))
 obtain ⟨o_4, h, hK4⟩ := bindR_some h
 refine .tJ (fun s => o_4 = Res.nx s) Sub.nil SubB.nil ?_ (fun j_4 hj4 => ?_)
 ·
  refine .block (.loopL h (fun s5_ => [(7, ⟨True, rep s5_⟩)]) (fun s5_ => []) (.k 7 rfl .nil) SubB.nil (.k2 2 3 rfl rfl .nil) SubB.nil (fun s5_ o_5 h hD5 => ?_))
  unfold ref_IsBelow_L1 at h
  refine .seq (.sn mx (.mv rfl (.c (.neS .none (eqAt_str Tryz.underlying9) (.s rfl) (.str (l := []) (by decide))) (.nil (.cb rfl h (fun _ h => ?_) fun _ h => ?_)))))
  ·
   refine .skip (.then (.seq (.block (.sn mx (.mv rfl (.mv rfl (.c (.eqS .none (eqAt_str Tryz.underlying9) (.s rfl) (.s rfl)) (.nil (.cb rfl h (fun _ h => ?_) fun _ h => ?_)))))))))
   ·
    refine .sn mx (.asb (.nil (.ret (.blkRet (.thenRet (.thenRet (.blkRet (.thenRet ?_))))))))
    replace h := hD5 _ (some_eq h)
    replace h := resb_ab hK4 (some_eq h)
    obtain rfl := some_eq h
    exact Ends.rt Tryz.results19 rfl
   ·
    obtain ⟨r2, hv8, h⟩ := bind_some h
    obtain ⟨hn9, h⟩ := need_some h
    obtain ⟨p2, hv10, h⟩ := bnd_some h
    exact .skip (.blkNormal (.then (.rn mx (.fa fd25_0 hfd25_0 rfl (.ld ty22 rfl (.ld ty25 rfl (.mv rfl (.c (.call .none (ref_NodeAt_ok hv8) (.cons (.s rfl) (.cons (.s rfl) .nil))) (.ix sl22 ty44 rfl rfl hn9 (.fa fd44_5 hfd44_5 rfl (.ld ty9 rfl (.ra hv10 rfl (.nil (Ends.ag (some_eq h)))))))))))))))
  ·
   refine .exit (.thenExit (.thenExit (.blkExit ?_)))
   replace h := hD5 _ (some_eq h)
   exact Ends.j _ (some_eq h)
 ·
  have h := resb_nx hK4 hj4
  refine .sn mx (.asb (.nil (.ret ?_)))
  obtain rfl := some_eq h
  exact Ends.rt Tryz.results19 rfl

theorem ref_RootsOf_1_ok {g1 : Str} {c0_1 : Doc} {c1_1 : DNode} {r : Bool}  (h : ref_RootsOf_1 g1 c0_1 c1_1 = some r) : FSpec Tryz.prog 123 [rep g1, ref c0_1, ref c1_1] (rep r) := by
 unfold ref_RootsOf_1 at h
 obtain ⟨r1, hv1, h⟩ := bind_some h
 refine FSpec.i Tryz.func123 rfl Tryz.ntmps123 rfl (fun F => (.sn mx (.asb (.nil (.sn mx (.ld ty25 rfl (.fa fd44_0 hfd44_0 rfl (.ld ty9 rfl (.mv rfl (.c (.call .none (ref_IsBelow_ok hv1) (.cons (.s rfl) (.cons (.s rfl) (.cons (.s rfl) .nil)))) (.asn rfl (.nil (.ret ?_)))))))))))))
 obtain rfl := some_eq h
 exact Ends.rt Tryz.results123 rfl

theorem slices_IndexFunc_string_ok {s1 : (List Str)} {f1 : (Str → Option Bool)} {r : Int}  (h : slices_IndexFunc_string s1 f1 = some r) : FSpec Tryz.prog 176 [rep s1, fn1 Tryz.prog (rep (α := Bool)) f1] (rep r) := by
 unfold slices_IndexFunc_string at h
 refine FSpec.i Tryz.func176 rfl Tryz.ntmps176 rfl (fun F => (.sn mx (.asi (.nil (.seq (.sn mx (.mv rfl (.ln sl39 rfl (.mvi (.nil ?_))))))))))
 obtain ⟨o_1, h, hK1⟩ := bindR_some h
 refine .tJ (fun s => o_1 = Res.nx s) Sub.nil SubB.nil ?_ (fun j_1 hj1 => ?_)
 ·
  refine .block (.rforEL h (fun p2_ => [(8, ⟨True, rep p2_.1⟩)]) (fun p2_ => []) (.k 8 rfl .nil) SubB.nil (.k2 0 1 rfl rfl (.k 7 rfl .nil)) SubB.nil (fun p2_ o_2 h hD2 => (.sn mx (.lt rfl rfl (.nil (.seq (.cb rfl h (fun _ h => ?_) fun _ h => ?_)))))))
  ·
   refine .skip (.then (.seq ?_))
   obtain ⟨o_4, h, hK4⟩ := bindD_some h
   unfold slices_IndexFunc_string_L1 at h
   refine .tJ (fun s => o_4 = Res.nx s) (.k4 0 1 7 8 rfl rfl rfl rfl .nil) SubB.nil ?_ (fun j_4 hj4 => ?_)
   ·
    obtain ⟨hn5, h⟩ := need_some h
    obtain ⟨r1, hv6, h⟩ := bind_some h
    refine .block (.sn mx (.mv rfl (.asn rfl (.nil (.sn mx (.mv rfl (.mv rfl (.mv rfl (.ix sl39 ty9 rfl rfl hn5 (.ld ty9 rfl (.c (.callV (gx s1 p2_.1, r1) .none (.s rfl) (fun _ => hv6) (.cons (.s rfl) .nil)) (.nil (.cb rfl h (fun _ h => ?_) fun _ h => ?_)))))))))))))
    ·
     refine .sn mx (.mv rfl (.asn rfl (.nil (.ret (.blkRet (.thenRet (.thenRet (.blkRet (.thenRet ?_)))))))))
     replace h := resd_ab hK4 (some_eq h)
     replace h := hD2 _ (some_eq h)
     replace h := resb_ab hK1 (some_eq h)
     obtain rfl := some_eq h
     exact Ends.rt Tryz.results176 rfl
    ·
     exact .skip (.blkNormal (Ends.j _ (some_eq h)))
   ·
    have h := resd_nx hK4 hj4
    exact .rn mx (.adi rfl (.mv rfl (.nil (Ends.ag (some_eq h)))))
  ·
   refine .exit (.thenExit (.thenExit (.blkExit ?_)))
   replace h := hD2 _ (some_eq h)
   exact Ends.j _ (some_eq h)
 ·
  have h := resb_nx hK1 hj1
  refine .sn mx (.asi (.nil (.ret ?_)))
  obtain rfl := some_eq h
  exact Ends.rt Tryz.results176 rfl

theorem slices_ContainsFunc_string_ok {s1 : (List Str)} {f1 : (Str → Option Bool)} {r : Bool}  (h : slices_ContainsFunc_string s1 f1 = some r) : FSpec Tryz.prog 111 [rep s1, fn1 Tryz.prog (rep (α := Bool)) f1] (rep r) := by
 unfold slices_ContainsFunc_string at h
 obtain ⟨r1, hv1, h⟩ := bind_some h
 refine FSpec.i Tryz.func111 rfl Tryz.ntmps111 rfl (fun F => (.sn mx (.asb (.nil (.sn mx (.mv rfl (.mv rfl (.c (.call .none (slices_IndexFunc_string_ok hv1) (.cons (.s rfl) (.cons (.s rfl) .nil))) (.c (.ge .none (.s rfl) .i) (.asn rfl (.nil (.ret ?_))))))))))))
 obtain rfl := some_eq h
 exact Ends.rt Tryz.results111 rfl

theorem ref_RootsOf_ok {d1 : Doc} {ids1 : (List Str)} {r : (List Str)}  (h : ref_RootsOf d1 ids1 = some r) : FSpec Tryz.prog 50 [rep d1, rep ids1] (rep r) := by
 unfold ref_RootsOf at h
 refine FSpec.i Tryz.func50 rfl Tryz.ntmps50 rfl (fun F => (.sn mx (.c (.box .none (.s rfl)) (.c (.assign .none (.const (x := ([] : (List Str))) (fun M w => ⟨_, ⟨none, 0, rfl, Nat.le_refl _, by decide, rfl⟩, rfl⟩))) (.nil (.sr [([], [5])] mx (.cW (.nilRow (T := 9) (α := Str) rfl) (.nil (.nameRow (t := 5) (g := 5001) rfl rfl rfl (fun s5001 => (.seq (.sn mx (.fa fd25_0 hfd25_0 rfl (.ld ty22 rfl (.ln sl22 rfl (.mvi (.nil ?_)))))))))))))))))
 obtain ⟨j_1, h, hK1⟩ := bind_some h
 refine .thenJ (ι := (List Str)) (fun j_1 => []) (fun j_1 => [(5, some (rowV 9 j_1))]) (fun s => j_1 = s) Sub.nil SubB.nil ?_ (fun j_1' hj1 => ?_)
 ·
  refine .block (.anon (t := 5) (g := 5001) rfl rfl trivial rfl (.rforL h (fun p2_ => [(11, ⟨True, rep p2_.1⟩)]) (fun p2_ => [(5, some (rowV 9 p2_.2))]) (.k 11 rfl .nil) (.k 5 rfl .nil) (.k4 1 2 9 10 rfl rfl rfl rfl .nil) SubB.nil (fun p2_ o_2 h hD2 => (.nameRow (t := 5) (g := 5002) rfl rfl rfl (fun s5002 => (.sn mx (.lt rfl rfl (.nil (.seq (.cb rfl h (fun _ h => ?_) fun _ h => ?_))))))))))
  ·
   refine .skip (.then (.seq ?_))
   obtain ⟨j_4, h, hK4⟩ := bind_some h
   unfold ref_RootsOf_L1 at h
   refine .thenJ (ι := (List Str)) (fun j_4 => []) (fun j_4 => [(5, some (rowV 9 j_4))]) (fun s => j_4 = s) (.k4 1 2 9 10 rfl rfl rfl rfl (.k 11 rfl .nil)) SubB.nil ?_ (fun j_4' hj4 => ?_)
   ·
    obtain ⟨hn5, h⟩ := need_some h
    obtain ⟨v1, hv6, h⟩ := bnd_some h
    obtain ⟨r1, hv7, h⟩ := bind_some h
    refine .block (.sr [oo, oo, ([], [7]), ([7], [7])] mx (.ixA sl22 ty44 rfl rfl hn5 (.rlA hv6 ty44 rfl (.al zo44 rfl (.st ty44 rfl rfl rfl (.nil (.freeze (t := 7) rfl rfl (.k 5002 rfl .nil) rfl (.sn mx (.mv rfl (.fa fd44_0 hfd44_0 rfl (.ld ty9 rfl (.c (.call .none (slices_Contains_string_ok hv7) (.cons (.s rfl) (.cons (.s rfl) .nil))) (.mv rfl (.mg rfl rfl rfl (.c (.makeFunc (ι := Str × Bool) (pre := fun i => (fun x0 => ref_RootsOf_1 x0 d1 v1) i.1 = some i.2) (Ss := fun i => [rep i.1]) (S := fun i => rep i.2) (.at rfl rfl) fnok123 (fun i h => ref_RootsOf_1_ok h) (.cons (.s rfl) (.cons (.s rfl) .nil))) ?_)))))))))))))))
    obtain ⟨r2, hv8, h⟩ := bind_some h
    refine .c (.callIf (.at rfl rfl) fnok111 (fun hg => slices_ContainsFunc_string_ok ((fun hg => gd_some hv8 (hg.2)) hg)) (.cons (.tmp rfl id) (.cons (.tmp rfl id) .nil)) (fun h => h)) (.c (.not (.at rfl rfl) (.tmp rfl id)) (.pa rfl rfl (.nil (.cb rfl h (fun _ h => ?_) fun _ h => ?_))))
    ·
     obtain ⟨hn10, h⟩ := need_some h
     exact .rg [oo, oo, oo, oo, ([5002], [29, 5002]), ([29], [5, 29])] mx (.mvA rfl (.faA fd44_0 hfd44_0 rfl (.ldA ty9 rfl (.cA (.buildSlice (xs := [_]) .none sl39 ty9 hz9 (.cons (.s rfl) .nil) rfl (by decide)) (.cW (.append (k := 5002) rk39 rfl (.told (.s rfl) rfl) (.s rfl) hn10) (.cW (.passRow rfl (.tmp rfl)) (.nil (.blkNormal (Ends.j _ (some_eq h))))))))))
    ·
     exact .skip (.blkNormal (.anon (t := 5) (g := 5002) rfl rfl trivial rfl (Ends.j _ (some_eq h))))
   ·
    subst hj4; have h := hK4; clear hK4
    exact .nameRow (t := 5) (g := 5003) rfl rfl rfl (fun s5003 => (.rn mx (.adi rfl (.mv rfl (.nil (.anon (t := 5) (g := 5003) rfl rfl trivial rfl (Ends.ag (some_eq h))))))))
  ·
   refine .exit (.thenExit (.thenExit (.blkExit (.anon (t := 5) (g := 5002) rfl rfl trivial rfl ?_))))
   replace h := hD2 _ (some_eq h)
   exact Ends.j _ (some_eq h)
 ·
  subst hj1; have h := hK1; clear hK1
  refine .freezeRowA (t := 5) rfl rfl SubB.nil rfl (.sn mx (.mv rfl (.asn rfl (.nil (.ret ?_)))))
  obtain rfl := some_eq h
  exact Ends.rt Tryz.results50 rfl

theorem ref_GroupOf_1_ok {r1 : Str} {c0_1 : Doc} {c1_1 : Str} {r : Bool}  (h : ref_GroupOf_1 r1 c0_1 c1_1 = some r) : FSpec Tryz.prog 112 [rep r1, ref c0_1, ref c1_1] (rep r) := by
 unfold ref_GroupOf_1 at h
 obtain ⟨r2, hv1, h⟩ := bind_some h
 obtain ⟨hn2, h⟩ := need_some h
 refine FSpec.i Tryz.func112 rfl Tryz.ntmps112 rfl (fun F => (.sn mx (.asb (.nil (.sn mx (.fa fd25_0 hfd25_0 rfl (.ld ty22 rfl (.ld ty25 rfl (.mv rfl (.c (.call .none (ref_NodeAt_ok hv1) (.cons (.s rfl) (.cons (.s rfl) .nil))) (.ix sl22 ty44 rfl rfl hn2 (.fa fd44_5 hfd44_5 rfl (.ld ty9 rfl (.ld ty9 rfl (.c (.neS .none (eqAt_str Tryz.underlying9) (.s rfl) (.s rfl)) (.asn rfl (.nil (.ret ?_))))))))))))))))))
 obtain rfl := some_eq h
 exact Ends.rt Tryz.results112 rfl

theorem ref_EdgeAt_1_ok {x1 : DEdge} {c0_1 : Str} {r : Bool}  (h : ref_EdgeAt_1 x1 c0_1 = some r) : FSpec Tryz.prog 92 [rep x1, ref c0_1] (rep r) := by
 unfold ref_EdgeAt_1 at h
 refine FSpec.i Tryz.func92 rfl Tryz.ntmps92 rfl (fun F => (.sn mx (.c (.box .none (.s rfl)) (.asb (.nil (.sn mx (.fa fd67_0 hfd67_0 rfl (.ld ty9 rfl (.ld ty9 rfl (.c (.eqS .none (eqAt_str Tryz.underlying9) (.s rfl) (.s rfl)) (.asn rfl (.nil (.ret ?_)))))))))))))
 obtain rfl := some_eq h
 exact Ends.rt Tryz.results92 rfl

theorem ref_EdgeAt_ok {d1 : Doc} {id1 : Str} {r : Int}  (h : ref_EdgeAt d1 id1 = some r) : FSpec Tryz.prog 33 [rep d1, rep id1] (rep r) := by
 unfold ref_EdgeAt at h
 refine FSpec.i Tryz.func33 rfl Tryz.ntmps33 rfl (fun F => (.sn mx (.c (.box .none (.s rfl)) (.c (.box .none (.s rfl)) (.asi (.nil (.sn mx (.fa fd25_1 hfd25_1 rfl (.ld ty23 rfl (.c (.makeFunc (ι := DEdge × Bool) (pre := fun i => (fun x0 => ref_EdgeAt_1 x0 id1) i.1 = some i.2) (Ss := fun i => [rep i.1]) (S := fun i => rep i.2) .none fnok92 (fun i h => ref_EdgeAt_1_ok h) (.cons (.s rfl) .nil)) ?_))))))))))
 obtain ⟨r1, hv1, h⟩ := bind_some h
 refine .c (.call .none (slices_IndexFunc_Edge_ok hv1) (.cons (.s rfl) (.cons (.s rfl) .nil))) (.asn rfl (.nil (.ret ?_)))
 obtain rfl := some_eq h
 exact Ends.rt Tryz.results33 rfl

theorem ref_Copied_ok {d1 : Doc} {r : Doc}  (h : ref_Copied d1 = some r) : FSpecO Tryz.prog 114 [rep d1] [] (anyV) [some (deep (fun z0 => deep (fun z1 => valV (⟨⟨z0⟩, ⟨z1⟩⟩ : Doc_o01)) (rowV 67 r.Edges)) (rowV 44 r.Nodes))] := by
 unfold ref_Copied at h
 obtain ⟨v1, hv1, h⟩ := bnd_some h
 obtain ⟨r1, hv2, h⟩ := bind_some h
 obtain ⟨r2, hv3, h⟩ := bind_some h
 refine FSpecO.i Tryz.func114 rfl Tryz.ntmps114 rfl (fun F => (.sr [oo, ([], [2])] mx (.cA (.box .none (.s rfl)) (.al zo25 rfl (.nil (.reB (t := 2) rfl (congrArg (cont 25) hv1) (.nameBox (t := 2) (g := 5001) rfl rfl (fun m5001 => (.sr [oo, oo, ([], [7]), oo, oo, ([], [10]), ([7, 10], [11, 7, 10]), ([], [3]), ([3, 11], [3, 11])] mx (.faA fd25_0 hfd25_0 rfl (.ldA ty22 rfl (.cW (.cO [] (slices_Clone_Node_ok hv2) (.cons (.s rfl) .nil) .nil rfl) (.faA fd25_1 hfd25_1 rfl (.ldA ty23 rfl (.cW (.cO [] (slices_Clone_Edge_ok hv3) (.cons (.s rfl) .nil) .nil rfl) (.cW (.buildG2 (t1 := 7) (t2 := 10) oneRow oneRow (mk := (fun z1 z2 => (⟨⟨z1⟩, ⟨z2⟩⟩ : Doc_o01))) bu25 zvc_Doc_o01 rfl rfl rfl rfl rfl rfl rfl rfl rfl (fun _ _ => (.cons (.s rfl) (.cons (.s rfl) .nil))) (fun _ _ => (.cons rfl sv_Doc_o01_0 (.cons rfl sv_Doc_o01_1 .nil)))) (.al zo25 rfl (.cN (.storeG2 (t := 11) (k := 3) (mk := (fun z1 z2 => (⟨⟨z1⟩, ⟨z2⟩⟩ : Doc_o01))) ty25 rfl rfl (by rfl) rfl rfl rfl rfl) (.nil (.nameAt (t := 3) (g := 5002) rfl rfl (isBox_deep fun _ => (isBox_deep fun _ => isBox_cont)) rfl (fun m5002 => (.open (k := 5002) (g := 5003) rfl rfl (fun s5003 => (.open (k := 5002) (g := 5004) rfl rfl (fun s5004 => (.seq (.sr [oo, ([5002], []), ([5004], []), oo] mx (.cA (.fieldPtr .none fd25_1 (.s rfl)) (.cA (.loadAt (k := 5002) .none tr23 rfl (.s rfl) hv_Doc_o01_1) (.cA (.lenO (k := 5004) sl23 (.told (.s rfl) rfl)) (.cA (.move .none .i) (.nil ?_))))))))))))))))))))))))))))))))
 obtain ⟨j_4, h, hK4⟩ := bind_some h
 refine .thenJ (ι := (List DEdge)) (fun j_4 => []) (fun j_4 => [(5004, some (CPred.at s5004 (rowV 67 j_4)))]) (fun s => j_4 = s) (.k2 2 3 rfl rfl .nil) (.k2 5001 5002 rfl rfl (.k 5003 rfl .nil)) ?_ (fun j_4' hj4 => ?_)
 ·
  refine .block (.rforL h (fun p5_ => [(15, ⟨True, rep p5_.1⟩)]) (fun p5_ => [(5004, some (CPred.at s5004 (rowV 67 p5_.2)))]) (.k 15 rfl .nil) (.k 5004 rfl .nil) (.k2 2 3 rfl rfl (.k 14 rfl .nil)) (.k2 5001 5002 rfl rfl (.k 5003 rfl .nil)) (fun p5_ o_5 h hD5 => (.sn mx (.lt rfl rfl (.nil (.seq (.cb rfl h (fun _ h => ?_) fun _ h => ?_)))))))
  ·
   refine .skip (.then (.seq ?_))
   obtain ⟨j_7, h, hK7⟩ := bind_some h
   unfold ref_Copied_L1 at h
   refine .thenJ (ι := (List DEdge)) (fun j_7 => []) (fun j_7 => [(5004, some (CPred.at s5004 (rowV 67 j_7)))]) (fun s => j_7 = s) (.k4 2 3 14 15 rfl rfl rfl rfl .nil) (.k2 5001 5002 rfl rfl (.k 5003 rfl .nil)) ?_ (fun j_7' hj7 => ?_)
   ·
    obtain ⟨hn8, h⟩ := need_some h
    obtain ⟨r3, hv9, h⟩ := bind_some h
    obtain ⟨hn10, h⟩ := need_some h
    exact .block (.sn mx (.mv rfl (.asn rfl (.nil (.rg [oo, ([5002], []), oo, oo, ([5002], []), oo, ([5004], []), ([5004], []), ([5004], []), oo, ([5004], []), ([5004], []), ([5004], [5004])] mx (.cA (.fieldPtr .none fd25_1 (.s rfl)) (.cA (.loadAt (k := 5002) .none tr23 rfl (.s rfl) hv_Doc_o01_1) (.mvA rfl (.cA (.fieldPtr .none fd25_1 (.s rfl)) (.cA (.loadAt (k := 5002) .none tr23 rfl (.s rfl) hv_Doc_o01_1) (.mvA rfl (.ixO 5004 sl23 ty67 rfl rfl rfl hn8 (.fe 5004 fd67_3 rfl rfl hn8 (.cA (.loadElem (k := 5004) .none ty59 (.s rfl) rfl hfd67_3 (fun _ => hn8)) (.cA (.call .none (slices_Clone_Point_ok hv9).frz (.cons (.s rfl) .nil)) (.ixO 5004 sl23 ty67 rfl rfl rfl hn10 (.fe 5004 fd67_3 rfl rfl hn10 (.cN (.storeElem (k := 5004) ty59 (.s rfl) rfl sf67_3 (.s rfl) hn10) (.nil (.blkNormal (Ends.j _ (some_eq h))))))))))))))))))))))
   ·
    subst hj7; have h := hK7; clear hK7
    exact .rn mx (.adi rfl (.mv rfl (.nil (Ends.ag (some_eq h)))))
  ·
   refine .exit (.thenExit (.thenExit (.blkExit ?_)))
   replace h := hD5 _ (some_eq h)
   exact Ends.j _ (some_eq h)
 ·
  subst hj4; have h := hK4; clear hK4
  refine .sr [([5002], []), ([5001], [5001])] mx (.cA (.loadAt0 (k := 5002) .none tyv_Doc_o01 rfl (.s rfl)) (.cN (.storeAtH (g := 5001) tyv_Doc_o01 (by rfl) rfl (.s rfl) (.s rfl)) (.nil (.ret (.close (k := 5001) (g := 5004) (fun z => cont 25 (⟨⟨s5003⟩, ⟨z⟩⟩ : Doc_o01)) rfl rfl rfl (.close (k := 5001) (g := 5003) (fun z => deep (fun z0 => cont 25 (⟨⟨z⟩, ⟨z0⟩⟩ : Doc_o01)) (rowV 67 j_4)) rfl rfl rfl ?_))))))
  obtain rfl := some_eq h
  exact Ends.ret1S (K := 5001) (.inl rfl) tyv_Doc_o01 Tryz.results114 rfl trivial rfl

theorem ref_Copied_fz {d1 : Doc} {r : Doc} (h : ref_Copied d1 = some r) : FSpec Tryz.prog 114 [rep d1] (rep r) :=
 (ref_Copied_ok h).frzG (fun M D v w h hms => deep_val2 (mk := (fun s1_ s2_ => (⟨⟨s1_⟩, ⟨s2_⟩⟩ : Doc_o01))) (y := (r : Doc)) frzRow frzRow rfl (fun M s1_ s2_ cs w hc g1 g2 => by obtain ⟨c0, q0, e0, h0, h1⟩ := hc; exact ⟨c0, q0, e0, raw_cells rfl rfl h0 g1, raw_cells rfl rfl h1 g2⟩) M D v w h hms)

theorem ref_GroupOf_ok {d1 : Doc} {ids1 : (List Str)} {id1 : Str} {r : (Doc × Int)}  (h : ref_GroupOf d1 ids1 id1 = some r) : FSpec Tryz.prog 44 [rep d1, rep ids1, rep id1] (tup [rep r.1, rep r.2]) := by
 unfold ref_GroupOf at h
 obtain ⟨v1, hv1, h⟩ := bnd_some h
 obtain ⟨roots1, hv2, h⟩ := bind_some h
 refine FSpec.i Tryz.func44 rfl Tryz.ntmps44 rfl (fun F => (.sr [oo, ([], [6]), oo] mx (.cA (.box .none (.s rfl)) (.al zo25 rfl (.cA (.assign .none .i) (.nil (.reB (t := 6) rfl (congrArg (cont 25) hv1) (.nameBox (t := 6) (g := 5001) rfl rfl (fun m5001 => (.sn mx (.ld ty25 rfl (.mv rfl (.c (.call .none (ref_RootsOf_ok hv2) (.cons (.s rfl) (.cons (.s rfl) .nil))) (.asn rfl (.nil (.seq (.sn mx (.mv rfl (.ln sl39 rfl (.eqi rfl (.nil (.cb rfl h (fun _ h => ?_) fun _ h => ?_))))))))))))))))))))))
 ·
  obtain ⟨v2, hv4, h⟩ := bnd_some h
  refine .sr [oo, ([5001], [5001]), oo] mx (.cA (.re hv4 (.buildF (y := (⟨([] : (List DNode)), ([] : (List DEdge))⟩ : Doc)) .none bu25 zc25 rfl .nil .nil)) (.s0 5001 ty25 rfl rfl rfl (.cA (.assign .none .i) (.nil (.fb 5001 [6] rfl (.cons (t := 6) rfl trivial .nil) (.ret (.thenRet ?_)))))))
  obtain rfl := some_eq h
  exact Ends.r2 Tryz.results44 ty25 rfl rfl
 ·
  obtain ⟨hn5, h⟩ := need_some h
  obtain ⟨r1, hv6, h⟩ := bind_some h
  obtain ⟨hn7, h⟩ := need_some h
  obtain ⟨v3, hv8, h⟩ := bnd_some h
  refine .skip (.then (.sr [oo, oo, oo, oo, oo, oo, oo, oo, oo, oo, ([], [9]), ([9], [9])] mx (.faA fd25_0 hfd25_0 rfl (.ldA ty22 rfl (.ldA ty25 rfl (.mvA rfl (.cA (.indexAddr .none sl39 ty9 (.s rfl) .i (fun _ => hn5)) (.ldA ty9 rfl (.cA (.call .none (ref_NodeAt_ok hv6) (.cons (.s rfl) (.cons (.s rfl) .nil))) (.ixA sl22 ty44 rfl rfl hn7 (.faA fd44_5 hfd44_5 rfl (.rlA hv8 ty9 rfl (.al zo9 rfl (.st ty9 rfl rfl rfl (.nil (.freeze (t := 9) rfl rfl (.k 5001 rfl .nil) rfl (.sn mx (.mv rfl (.c (.makeFunc (ι := Str × Bool) (pre := fun i => (fun x0 => ref_GroupOf_1 x0 d1 v3) i.1 = some i.2) (Ss := fun i => [rep i.1]) (S := fun i => rep i.2) .none fnok112 (fun i h => ref_GroupOf_1_ok h) (.cons (.s rfl) (.cons (.s rfl) .nil))) ?_)))))))))))))))))))
  obtain ⟨other1, hv9, h⟩ := bind_some h
  obtain ⟨r2, hv10, h⟩ := bind_some h
  obtain ⟨r3, hv11, h⟩ := bind_some h
  obtain ⟨r4, hv12, h⟩ := bind_some h
  obtain ⟨r5, hv13, h⟩ := bind_some h
  obtain ⟨r6, hv14, h⟩ := bind_some h
  refine .c (.call .none (slices_ContainsFunc_string_ok hv9) (.cons (.s rfl) (.cons (.s rfl) .nil))) (.asn rfl (.nil (.seq (.sn mx (.mv rfl (.c (.call .none (ref_When_ok hv10) (.cons (.s rfl) (.cons .i .nil))) (.mv rfl (.c (.call .none (ref_NameOf_ok hv11) (.cons (.s rfl) .nil)) (.c (.not .none (.s rfl)) (.c (.call .none (ref_When_ok hv12) (.cons (.s rfl) (.cons .i .nil))) (.ld ty25 rfl (.mv rfl (.c (.call .none (ref_NodeAt_ok hv13) (.cons (.s rfl) (.cons (.s rfl) .nil))) (.c (.ge .none (.s rfl) .i) (.mv rfl (.c (.load (.at rfl rfl) ty25 (.s rfl)) (.mg rfl rfl rfl (.c (.callIf (.at rfl rfl) fnok33 (fun hg => ref_EdgeAt_ok ((fun hg => gd_some hv14 ((notT hg.2))) hg)) (.cons (.tmp rfl id) (.cons (.tmp rfl id) .nil)) (fun h => h)) ?_))))))))))))))))))
  obtain ⟨r7, hv15, h⟩ := bind_some h
  obtain ⟨e1, hv16, h⟩ := bind_some h
  refine .c (.ge (.at rfl rfl) (.tmp rfl id) .i) (.po rfl rfl (.c (.call .none (ref_When_ok hv15) (.cons (.s rfl) (.cons .i .nil))) (.c (.buildSlice (xs := [_, _, _]) .none sl125 ty30 hz30 (.cons (.s rfl) (.cons (.s rfl) (.cons (.s rfl) .nil))) rfl (by decide)) (.c (.call .none (ref_First_ok hv16) (.cons (.s rfl) .nil)) (.asn rfl (.nil (.sn mx (.mv rfl (.nei rfl (.nil (.cb rfl h (fun _ h => ?_) fun _ h => ?_)))))))))))
  ·
   obtain ⟨v4, hv18, h⟩ := bnd_some h
   refine .sr [oo, oo, ([5001], [5001]), oo] mx (.cA (.re hv18 (.buildF (y := (⟨([] : (List DNode)), ([] : (List DEdge))⟩ : Doc)) .none bu25 zc25 rfl .nil .nil)) (.mvA rfl (.s0 5001 ty25 rfl rfl rfl (.asnA rfl (.nil (.fb 5001 [6] rfl (.cons (t := 6) rfl trivial .nil) (.ret (.thenRet ?_))))))))
   obtain rfl := some_eq h
   exact Ends.r2 Tryz.results44 ty25 rfl rfl
  ·
   obtain ⟨r8, hv19, h⟩ := bind_some h
   refine .skip (.then (.sr [oo, ([], [60]), ([], [12]), ([12, 60], [12, 60])] mx (.ldA ty25 rfl (.cW (.cO [] (ref_Copied_ok hv19) (.cons (.s rfl) .nil) .nil rfl) (.al zo25 rfl (.cN (.storeG2 (t := 60) (k := 12) (mk := (fun z1 z2 => (⟨⟨z1⟩, ⟨z2⟩⟩ : Doc_o01))) ty25 rfl rfl (by rfl) rfl rfl rfl rfl) (.nil (.nameAt (t := 12) (g := 5002) rfl rfl (isBox_deep fun _ => (isBox_deep fun _ => isBox_cont)) rfl (fun m5002 => (.open (k := 5002) (g := 5003) rfl rfl (fun s5003 => (.open (k := 5002) (g := 5004) rfl rfl (fun s5004 => (.seq (.sn mx (.mv rfl (.ln sl39 rfl (.mvi (.nil ?_)))))))))))))))))))
   obtain ⟨j_20, h, hK20⟩ := bind_some h
   refine .thenJ (ι := (List DNode)) (fun j_20 => []) (fun j_20 => [(5003, some (CPred.at s5003 (rowV 44 j_20)))]) (fun s => j_20 = s) (.k4 2 3 6 8 rfl rfl rfl rfl (.k2 9 12 rfl rfl .nil)) (.k2 5001 5002 rfl rfl (.k 5004 rfl .nil)) ?_ (fun j_20' hj20 => ?_)
   ·
    refine .block (.rforL h (fun p21_ => [(63, ⟨True, rep p21_.1⟩)]) (fun p21_ => [(5003, some (CPred.at s5003 (rowV 44 p21_.2)))]) (.k 63 rfl .nil) (.k 5003 rfl .nil) (.k4 2 3 6 8 rfl rfl rfl rfl (.k4 9 12 61 62 rfl rfl rfl rfl .nil)) (.k2 5001 5002 rfl rfl (.k 5004 rfl .nil)) (fun p21_ o_21 h hD21 => (.sn mx (.lt rfl rfl (.nil (.seq (.cb rfl h (fun _ h => ?_) fun _ h => ?_)))))))
    ·
     refine .skip (.then (.seq ?_))
     obtain ⟨j_23, h, hK23⟩ := bind_some h
     unfold ref_GroupOf_L1 at h
     refine .thenJ (ι := (List DNode)) (fun j_23 => []) (fun j_23 => [(5003, some (CPred.at s5003 (rowV 44 j_23)))]) (fun s => j_23 = s) (.k4 2 3 6 8 rfl rfl rfl rfl (.k4 9 12 61 62 rfl rfl rfl rfl (.k 63 rfl .nil))) (.k2 5001 5002 rfl rfl (.k 5004 rfl .nil)) ?_ (fun j_23' hj23 => ?_)
     ·
      obtain ⟨hn24, h⟩ := need_some h
      obtain ⟨r9, hv25, h⟩ := bind_some h
      obtain ⟨hn26, h⟩ := need_some h
      exact .block (.sn mx (.ix sl39 ty9 rfl rfl hn24 (.ld ty9 rfl (.asn rfl (.nil (.rg [oo, ([5002], []), oo, oo, oo, oo, ([5003], []), ([5003], []), ([5003], [5003])] mx (.cA (.fieldPtr .none fd25_0 (.s rfl)) (.cA (.loadAt (k := 5002) .none tr22 rfl (.s rfl) hv_Doc_o01_0) (.ldA ty25 rfl (.mvA rfl (.cA (.call .none (ref_NodeAt_ok hv25) (.cons (.s rfl) (.cons (.s rfl) .nil))) (.mvA rfl (.ixO 5003 sl22 ty44 rfl rfl rfl hn26 (.fe 5003 fd44_5 rfl rfl hn26 (.cN (.storeElem (k := 5003) ty9 (.s rfl) rfl sf44_5 (.s rfl) hn26) (.nil (.blkNormal (Ends.j _ (some_eq h)))))))))))))))))))
     ·
      subst hj23; have h := hK23; clear hK23
      exact .rn mx (.adi rfl (.mv rfl (.nil (Ends.ag (some_eq h)))))
    ·
     refine .exit (.thenExit (.thenExit (.blkExit ?_)))
     replace h := hD21 _ (some_eq h)
     exact Ends.j _ (some_eq h)
   ·
    subst hj20; have h := hK20; clear hK20
    obtain ⟨hn27, h⟩ := need_some h
    obtain ⟨r10, hv28, h⟩ := bind_some h
    obtain ⟨r11, hv29, h⟩ := bind_some h
    refine .sr [oo, ([5002], []), oo, oo, oo, oo, oo, oo, oo, oo, oo, oo, oo, oo, ([], [90]), ([5003, 90], [5003, 90, 91]), oo, ([5002, 91], [5002, 91])] mx (.cA (.fieldPtr .none fd25_0 (.s rfl)) (.cA (.loadAt (k := 5002) .none tr22 rfl (.s rfl) hv_Doc_o01_0) (.ldA ty25 rfl (.mvA rfl (.mvA rfl (.cA (.len .none sl39 (.s rfl)) (.cA (.subW .none (.s rfl) .i) (.ixA sl39 ty9 rfl rfl hn27 (.ldA ty9 rfl (.cA (.call .none (ref_NodeAt_ok hv28) (.cons (.s rfl) (.cons (.s rfl) .nil))) (.cA (.addW .none (.s rfl) .i) (.mvA rfl (.ldA ty9 rfl (.cA (.buildF (y := (⟨id1, 6, (⟨(0 : Int), (0 : Int), (0 : Int), (0 : Int)⟩ : Box), Str.nil, Str.nil, v3, false⟩ : DNode)) .none bu44 zc44 rfl (.cons (.s rfl) (.cons .i (.cons (.s rfl) .nil))) (.cons rfl sf44_0 (.cons rfl sf44_1 (.cons rfl sf44_5 .nil)))) (.cW (.buildSliceO (xs := [_]) rfl sl22 ty44 hz44 (.cons (.s rfl) .nil) rfl (by decide)) (.cW (.tell (t := 90) rfl row_one rfl (by decide) (fun _ => StepOK.callO [5003, 90] (slices_Insert_Node_ok hv29) (.cons (.s rfl) (.cons (.s rfl) (.cons (.s rfl) .nil))) (.cons (k := 5003) rfl (.cons (k := 90) rfl .nil)) rfl (by decide) (by decide) (by intro d h; cases h; decide))) (.cA (.fieldPtr .none fd25_0 (.s rfl)) (.cN (.storeRow (k := 5002) (t := 91) ty22 rfl (.s rfl) sv_Doc_o01_0 rfl rfl) (.nil (.open (k := 5002) (g := 5005) rfl rfl (fun s5005 => (.close (k := 5002) (g := 5004) (fun z => cont 25 (⟨⟨s5005⟩, ⟨z⟩⟩ : Doc_o01)) rfl rfl rfl (.close (k := 5002) (g := 5005) (fun z => deep (fun z0 => cont 25 (⟨⟨z⟩, ⟨z0⟩⟩ : Doc_o01)) (rowV 67 r8.Edges)) rfl rfl rfl (.freezeAt (g := 5002) (S := ref ({ r8 with Nodes := r11, Edges := r8.Edges } : Doc)) (ts := [12]) rfl (.cons (t := 12) rfl trivial .nil) (.k 5001 rfl .nil) rfl (fun M D w h hms => deep_ref2 (mk := (fun s1_ s2_ => (⟨⟨s1_⟩, ⟨s2_⟩⟩ : Doc_o01))) (y := ({ r8 with Nodes := r11, Edges := r8.Edges } : Doc)) frzRow frzRow rfl (fun M s1_ s2_ cs w hc g1 g2 => by obtain ⟨c0, q0, e0, h0, h1⟩ := hc; exact ⟨c0, q0, e0, raw_cells rfl rfl h0 g1, raw_cells rfl rfl h1 g2⟩) M D w h hms) ?_))))))))))))))))))))))))
    obtain ⟨e2, hv30, h⟩ := bind_some h
    refine .seq (.sn mx (.ld ty25 rfl (.c (.call .none (ref_DocError_ok hv30) (.cons (.s rfl) .nil)) (.asn rfl (.nil (.sn mx (.mv rfl (.nei rfl (.nil (.cb rfl h (fun _ h => ?_) fun _ h => ?_))))))))))
    ·
     obtain ⟨v5, hv32, h⟩ := bnd_some h
     refine .sr [oo, oo, ([5001], [5001]), oo] mx (.cA (.re hv32 (.buildF (y := (⟨([] : (List DNode)), ([] : (List DEdge))⟩ : Doc)) .none bu25 zc25 rfl .nil .nil)) (.mvA rfl (.s0 5001 ty25 rfl rfl rfl (.asnA rfl (.nil (.fb 5001 [6] rfl (.cons (t := 6) rfl trivial .nil) (.ret (.thenRet ?_))))))))
     obtain rfl := some_eq h
     exact Ends.r2 Tryz.results44 ty25 rfl rfl
    ·
     obtain ⟨v6, hv33, h⟩ := bnd_some h
     refine .skip (.then (.sr [oo, ([5001], [5001]), oo] mx (.rlA hv33 ty25 rfl (.s0 5001 ty25 rfl rfl rfl (.cA (.assign .none .i) (.nil (.fb 5001 [6] rfl (.cons (t := 6) rfl trivial .nil) (.ret ?_))))))))
     obtain rfl := some_eq h
     exact Ends.r2 Tryz.results44 ty25 rfl rfl

theorem ref_Touched_1_ok {g1 : Str} {c0_1 : DNode} {c1_1 : Doc} {r : Bool}  (h : ref_Touched_1 g1 c0_1 c1_1 = some r) : FSpec Tryz.prog 137 [rep g1, ref c0_1, ref c1_1] (rep r) := by
 unfold ref_Touched_1 at h
 obtain ⟨r1, hv1, h⟩ := bind_some h
 refine FSpec.i Tryz.func137 rfl Tryz.ntmps137 rfl (fun F => (.sn mx (.asb (.nil (.sn mx (.fa fd44_0 hfd44_0 rfl (.ld ty9 rfl (.mv rfl (.c (.eqS .none (eqAt_str Tryz.underlying9) (.s rfl) (.s rfl)) (.mv rfl (.c (.load (.at rfl rfl) ty25 (.s rfl)) (.fg fd44_0 hfd44_0 rfl rfl rfl (.lg ty9 rfl rfl rfl (.mg rfl rfl rfl (.c (.callIf (.at rfl rfl) fnok19 (fun hg => ref_IsBelow_ok ((fun hg => gd_some hv1 ((notT hg.2))) hg)) (.cons (.tmp rfl id) (.cons (.tmp rfl id) (.cons (.tmp rfl id) .nil))) (fun h => h)) (.po rfl rfl (.asn rfl (.nil (.ret ?_)))))))))))))))))))
 obtain rfl := some_eq h
 exact Ends.rt Tryz.results137 rfl

theorem ref_Touched_ok {d1 : Doc} {ids1 : (List Str)} {r : (GMap Str Bool)}  (h : ref_Touched d1 ids1 = some r) : FSpecO Tryz.prog 58 [rep d1, rep ids1] [] (anyV) [some (mapV r)] := by
 unfold ref_Touched at h
 obtain ⟨m1, hv1, h⟩ := bnd_some h
 refine FSpecO.i Tryz.func58 rfl Tryz.ntmps58 rfl (fun F => (.sn mx (.c (.box .none (.s rfl)) (.c (.assign .none (.const (x := (GMap.nil : (GMap Str Bool))) (fun M w => ⟨_, map_zero, rfl⟩))) (.nil (.sr [([], [8]), ([8], [5, 8])] mx (.cW (.makeMap (K := Str) (V := Bool) rfl) (.cW (.passRow rfl (.tmp rfl)) (.nil (.reB (t := 5) rfl (congrArg mapV hv1) (.nameMap (t := 5) (g := 5001) rfl rfl rfl (fun s5001 => (.seq (.sn mx (.fa fd25_0 hfd25_0 rfl (.ld ty22 rfl (.ln sl22 rfl (.mvi (.nil ?_)))))))))))))))))))
 obtain ⟨j_2, h, hK2⟩ := bind_some h
 refine .thenJ (ι := (GMap Str Bool)) (fun j_2 => []) (fun j_2 => [(5001, some (CPred.at s5001 (mapV j_2)))]) (fun s => j_2 = s) (.k 5 rfl .nil) SubB.nil ?_ (fun j_2' hj2 => ?_)
 ·
  refine .block (.rforL h (fun p3_ => [(12, ⟨True, rep p3_.1⟩)]) (fun p3_ => [(5001, some (CPred.at s5001 (mapV p3_.2)))]) (.k 12 rfl .nil) (.k 5001 rfl .nil) (.k4 1 2 5 10 rfl rfl rfl rfl (.k 11 rfl .nil)) SubB.nil (fun p3_ o_3 h hD3 => (.sn mx (.lt rfl rfl (.nil (.seq (.cb rfl h (fun _ h => ?_) fun _ h => ?_)))))))
  ·
   refine .skip (.then (.seq ?_))
   obtain ⟨j_5, h, hK5⟩ := bind_some h
   unfold ref_Touched_L1 at h
   refine .thenJ (ι := (GMap Str Bool)) (fun j_5 => []) (fun j_5 => [(5001, some (CPred.at s5001 (mapV j_5)))]) (fun s => j_5 = s) (.k4 1 2 5 10 rfl rfl rfl rfl (.k2 11 12 rfl rfl .nil)) SubB.nil ?_ (fun j_5' hj5 => ?_)
   ·
    obtain ⟨hn6, h⟩ := need_some h
    obtain ⟨v1, hv7, h⟩ := bnd_some h
    refine .block (.sr [oo, oo, ([], [7]), ([7], [7])] mx (.ixA sl22 ty44 rfl rfl hn6 (.rlA hv7 ty44 rfl (.al zo44 rfl (.st ty44 rfl rfl rfl (.nil (.freeze (t := 7) rfl rfl (.k 5001 rfl .nil) rfl (.rg [oo, oo, oo, oo, oo, oo, ([5001], [5001])] mx (.mvA rfl (.faA fd44_0 hfd44_0 rfl (.ldA ty9 rfl (.mvA rfl (.cA (.makeFunc (ι := Str × Bool) (pre := fun i => (fun x0 => ref_Touched_1 x0 v1 d1) i.1 = some i.2) (Ss := fun i => [rep i.1]) (S := fun i => rep i.2) .none fnok137 (fun i h => ref_Touched_1_ok h) (.cons (.s rfl) (.cons (.s rfl) .nil))) ?_)))))))))))))
    obtain ⟨r1, hv8, h⟩ := bind_some h
    exact .cA (.call .none (slices_ContainsFunc_string_ok hv8) (.cons (.s rfl) (.cons (.s rfl) .nil))) (.cN (.mapUpdate (q := 5001) mo90 (.s rfl) rfl (.s rfl) (.s rfl)) (.nil (.blkNormal (Ends.j _ (some_eq h)))))
   ·
    subst hj5; have h := hK5; clear hK5
    exact .rn mx (.adi rfl (.mv rfl (.nil (Ends.ag (some_eq h)))))
  ·
   refine .exit (.thenExit (.thenExit (.blkExit ?_)))
   replace h := hD3 _ (some_eq h)
   exact Ends.j _ (some_eq h)
 ·
  subst hj2; have h := hK2; clear hK2
  refine .sn mx (.mv rfl (.asn rfl (.nil (.ret (.anon (t := 4) (g := 5001) rfl rfl trivial rfl ?_)))))
  obtain rfl := some_eq h
  exact Ends.ret1O (.inl rfl) [4] Tryz.results58 (by decide) (.res rfl rfl) (ResOK.tmp rfl trivial (fun _ _ _ _ => trivial))

theorem slices_DeleteFunc_Node_ok {s1 : (List DNode)} {del1 : (DNode → Option Bool)} {r : (List DNode)} {s42 : Value} (h : slices_DeleteFunc_Node s1 del1 = some r) : FSpecO Tryz.prog 115 [isV s42, fn1 Tryz.prog (rep (α := Bool)) del1] [(s42, rowV 44 s1)] (anyV) [none, some (rowV 44 r)] := by
 unfold slices_DeleteFunc_Node at h
 obtain ⟨i1, hv1, h⟩ := bind_some h
 refine FSpecO.i Tryz.func115 rfl Tryz.ntmps115 rfl (fun F => (.sn mx (.c (.assign .none (.const (x := ([] : (List DNode))) (fun M w => ⟨_, ⟨none, 0, rfl, Nat.le_refl _, by decide, rfl⟩, rfl⟩))) (.nil (.sr [oo, oo, ([42], []), oo] mx (.mvA rfl (.mvA rfl (.cA (.callC .none fnok67 (fun hg => slices_IndexFunc_Node_ok  hv1) .rep (.lend (k := 42) (.told (.s rfl) rfl) (.cons (.s rfl) .nil))) (.asnA rfl (.nil (.seq (.sn mx (.mv rfl (.eqi rfl (.nil (.cb rfl h (fun _ h => ?_) fun _ h => ?_))))))))))))))))
 ·
  refine .sn mx (.mv rfl (.asn rfl (.nil (.ret (.thenRet (.anon (t := 4) (g := 42) rfl rfl trivial rfl ?_))))))
  obtain rfl := some_eq h
  exact Ends.ret1O (.inl rfl) [42, 4] Tryz.results115 (by decide) (.skip (.res rfl rfl)) (ResOK.tmp rfl trivial (fun _ _ _ _ => trivial))
 ·
  obtain ⟨j1, hv3, h⟩ := bnd_some h
  refine .skip (.then (.seq (.sn mx (.mv rfl (.adi rfl (.ra hv3 rfl (.nil ?_)))))))
  obtain ⟨j_4, h, hK4⟩ := bind_some h
  refine .thenJ (ι := (Int × (List DNode))) (fun j_4 => [(5, ⟨True, rep j_4.1⟩)]) (fun j_4 => [(42, some (CPred.at s42 (rowV 44 j_4.2)))]) (fun s => j_4 = s) (.k 0 rfl .nil) SubB.nil ?_ (fun j_4' hj4 => ?_)
  ·
   refine .block (.loopL h (fun s5_ => [(5, ⟨True, rep s5_.1⟩), (6, ⟨True, rep s5_.2.1⟩)]) (fun s5_ => [(42, some (CPred.at s42 (rowV 44 s5_.2.2)))]) (.k2 5 6 rfl rfl .nil) (.k 42 rfl .nil) (.k2 0 1 rfl rfl .nil) SubB.nil (fun s5_ o_5 h hD5 => ?_))
   unfold slices_DeleteFunc_Node_L1 at h
   refine .seq (.sr [oo, oo, ([42], []), oo] mx (.mvA rfl (.mvA rfl (.cA (.lenO (k := 42) sl22 (.told (.s rfl) rfl)) (.cA (.lt .none (.s rfl) (.s rfl)) (.nil (.cb rfl h (fun _ h => ?_) fun _ h => ?_)))))))
   ·
    refine .skip (.then (.seq ?_))
    obtain ⟨j_7, h, hK7⟩ := bind_some h
    refine .thenJ (ι := (Int × (List DNode))) (fun j_7 => [(5, ⟨True, rep j_7.1⟩)]) (fun j_7 => [(42, some (CPred.at s42 (rowV 44 j_7.2)))]) (fun s => j_7 = s) (.k2 0 1 rfl rfl (.k 6 rfl .nil)) SubB.nil ?_ (fun j_7' hj7 => ?_)
    ·
     obtain ⟨hn8, h⟩ := need_some h
     obtain ⟨v1, hv9, h⟩ := bnd_some h
     obtain ⟨r1, hv10, h⟩ := bind_some h
     refine .block (.sr [oo, oo, ([42], []), ([42], []), ([], [7]), ([7], [7])] mx (.mvA rfl (.mvA rfl (.ixO 42 sl22 ty44 rfl rfl rfl hn8 (.cA (.re hv9 (.loadElem0 (k := 42) .none ty44 (.s rfl) rfl (fun _ => hn8))) (.al zo44 rfl (.st ty44 rfl rfl rfl (.nil (.freeze (t := 7) rfl rfl (.k 42 rfl .nil) rfl (.sn mx (.mv rfl (.ld ty44 rfl (.c (.callV (v1, r1) .none (.s rfl) (fun _ => hv10) (.cons (.s rfl) .nil)) (.c (.not .none (.s rfl)) (.nil (.cb rfl h (fun _ h => ?_) fun _ h => ?_))))))))))))))))
     ·
      obtain ⟨hn12, h⟩ := need_some h
      obtain ⟨s2, hv13, h⟩ := bnd_some h
      obtain ⟨i2, hv14, h⟩ := bnd_some h
      exact .sr [oo, oo, oo, ([42], []), ([42], [42])] mx (.mvA rfl (.mvA rfl (.ldA ty44 rfl (.ixO 42 sl22 ty44 rfl rfl rfl hn12 (.cN (.storeElem0 (k := 42) ty44 (.s rfl) rfl (.s rfl) hn12) (.nil (.reB (t := 42) rfl (congrArg (fun y => CPred.at s42 (rowV 44 y)) hv13) (.rn mx (.mv rfl (.adi rfl (.ra hv14 rfl (.nil (.blkNormal (Ends.j _ (some_eq h)))))))))))))))
     ·
      exact .skip (.blkNormal (Ends.j _ (some_eq h)))
    ·
     subst hj7; have h := hK7; clear hK7
     obtain ⟨j2, hv15, h⟩ := bnd_some h
     exact .rn mx (.mv rfl (.adi rfl (.ra hv15 rfl (.nil (Ends.ag (some_eq h))))))
   ·
    refine .exit (.thenExit (.thenExit (.blkExit ?_)))
    replace h := hD5 _ (some_eq h)
    exact Ends.j _ (some_eq h)
  ·
   subst hj4; have h := hK4; clear hK4
   obtain ⟨hn16, h⟩ := need_some h
   obtain ⟨s3, hv17, h⟩ := bnd_some h
   obtain ⟨hn18, h⟩ := need_some h
   obtain ⟨v2, hv19, h⟩ := bnd_some h
   refine .sr [oo, oo, ([42], []), ([42], [42])] mx (.mvA rfl (.mvA rfl (.cA (.sliceLend (k := 42) sl22 ty44 (.s rfl) rfl (.s rfl) rfl hn16) (.cN (.clearPart (k := 42) sl22 zo44 (.s rfl) rfl hn16) (.nil (.reB (t := 42) rfl (congrArg (fun y => CPred.at s42 (rowV 44 y)) hv17) (.sr [oo, oo, ([42], [41, 42]), ([41], [4, 41])] mx (.mvA rfl (.mvA rfl (.cW (.sliceRow (k := 42) sl22 ty44 rfl (.s rfl) rfl rfl (.s rfl) hn18) (.cW (.passRow rfl (.tmp rfl)) (.nil (.reB (t := 4) rfl (congrArg (rowV 44) hv19) (.nameRow (t := 4) (g := 5001) rfl rfl rfl (fun s5001 => (.ret (.anon (t := 4) (g := 5001) rfl rfl trivial rfl ?_)))))))))))))))))
   obtain rfl := some_eq h
   exact Ends.ret1O (.inl rfl) [42, 4] Tryz.results115 (by decide) (.skip (.res rfl rfl)) (ResOK.tmp rfl trivial (fun _ _ _ _ => trivial))

theorem ref_DeleteOf_1_ok {n1 : DNode} {c0_1 : (GMap Str Bool)} {r : Bool}  (h : ref_DeleteOf_1 n1 c0_1 = some r) : FSpec Tryz.prog 116 [rep n1, ref c0_1] (rep r) := by
 unfold ref_DeleteOf_1 at h
 refine FSpec.i Tryz.func116 rfl Tryz.ntmps116 rfl (fun F => (.sn mx (.c (.box .none (.s rfl)) (.asb (.nil (.sn mx (.ld ty90 rfl (.fa fd44_0 hfd44_0 rfl (.ld ty9 rfl (.c (.lookup .none mo90 zo4 (.s rfl) (.s rfl)) (.asn rfl (.nil (.ret ?_)))))))))))))
 obtain rfl := some_eq h
 exact Ends.rt Tryz.results116 rfl

theorem ref_DeleteOf_2_ok {n1 : DNode} {c0_1 : (GMap Str Bool)} {r : Bool}  (h : ref_DeleteOf_2 n1 c0_1 = some r) : FSpec Tryz.prog 117 [rep n1, ref c0_1] (rep r) := by
 unfold ref_DeleteOf_2 at h
 refine FSpec.i Tryz.func117 rfl Tryz.ntmps117 rfl (fun F => (.sn mx (.c (.box .none (.s rfl)) (.asb (.nil (.sn mx (.ld ty90 rfl (.fa fd44_0 hfd44_0 rfl (.ld ty9 rfl (.c (.lookup .none mo90 zo4 (.s rfl) (.s rfl)) (.asn rfl (.nil (.ret ?_)))))))))))))
 obtain rfl := some_eq h
 exact Ends.rt Tryz.results117 rfl

theorem ref_DeleteOf_3_ok {x1 : DEdge} {c0_1 : (GMap Str Bool)} {r : Bool}  (h : ref_DeleteOf_3 x1 c0_1 = some r) : FSpec Tryz.prog 119 [rep x1, ref c0_1] (rep r) := by
 unfold ref_DeleteOf_3 at h
 refine FSpec.i Tryz.func119 rfl Tryz.ntmps119 rfl (fun F => (.sn mx (.c (.box .none (.s rfl)) (.asb (.nil (.sn mx (.ld ty90 rfl (.fa fd67_1 hfd67_1 rfl (.fa fd65_0 hfd65_0 rfl (.ld ty9 rfl (.c (.lookup .none mo90 zo4 (.s rfl) (.s rfl)) (.mv rfl (.c (.load (.at rfl rfl) ty90 (.s rfl)) (.fg fd67_2 hfd67_2 rfl rfl rfl (.c (.fieldAddr (.at rfl rfl) fd65_0 hfd65_0 (.tmp rfl id)) (.lg ty9 rfl rfl rfl (.c (.lookup (.at rfl rfl) mo90 zo4 (.tmp rfl id) (.tmp rfl id)) (.po rfl rfl (.asn rfl (.nil (.ret ?_)))))))))))))))))))))
 obtain rfl := some_eq h
 exact Ends.rt Tryz.results119 rfl

theorem slices_DeleteFunc_Edge_ok {s1 : (List DEdge)} {del1 : (DEdge → Option Bool)} {r : (List DEdge)} {s42 : Value} (h : slices_DeleteFunc_Edge s1 del1 = some r) : FSpecO Tryz.prog 118 [isV s42, fn1 Tryz.prog (rep (α := Bool)) del1] [(s42, rowV 67 s1)] (anyV) [none, some (rowV 67 r)] := by
 unfold slices_DeleteFunc_Edge at h
 obtain ⟨i1, hv1, h⟩ := bind_some h
 refine FSpecO.i Tryz.func118 rfl Tryz.ntmps118 rfl (fun F => (.sn mx (.c (.assign .none (.const (x := ([] : (List DEdge))) (fun M w => ⟨_, ⟨none, 0, rfl, Nat.le_refl _, by decide, rfl⟩, rfl⟩))) (.nil (.sr [oo, oo, ([42], []), oo] mx (.mvA rfl (.mvA rfl (.cA (.callC .none fnok91 (fun hg => slices_IndexFunc_Edge_ok  hv1) .rep (.lend (k := 42) (.told (.s rfl) rfl) (.cons (.s rfl) .nil))) (.asnA rfl (.nil (.seq (.sn mx (.mv rfl (.eqi rfl (.nil (.cb rfl h (fun _ h => ?_) fun _ h => ?_))))))))))))))))
 ·
  refine .sn mx (.mv rfl (.asn rfl (.nil (.ret (.thenRet (.anon (t := 4) (g := 42) rfl rfl trivial rfl ?_))))))
  obtain rfl := some_eq h
  exact Ends.ret1O (.inl rfl) [42, 4] Tryz.results118 (by decide) (.skip (.res rfl rfl)) (ResOK.tmp rfl trivial (fun _ _ _ _ => trivial))
 ·
  obtain ⟨j1, hv3, h⟩ := bnd_some h
  refine .skip (.then (.seq (.sn mx (.mv rfl (.adi rfl (.ra hv3 rfl (.nil ?_)))))))
  obtain ⟨j_4, h, hK4⟩ := bind_some h
  refine .thenJ (ι := (Int × (List DEdge))) (fun j_4 => [(5, ⟨True, rep j_4.1⟩)]) (fun j_4 => [(42, some (CPred.at s42 (rowV 67 j_4.2)))]) (fun s => j_4 = s) (.k 0 rfl .nil) SubB.nil ?_ (fun j_4' hj4 => ?_)
  ·
   refine .block (.loopL h (fun s5_ => [(5, ⟨True, rep s5_.1⟩), (6, ⟨True, rep s5_.2.1⟩)]) (fun s5_ => [(42, some (CPred.at s42 (rowV 67 s5_.2.2)))]) (.k2 5 6 rfl rfl .nil) (.k 42 rfl .nil) (.k2 0 1 rfl rfl .nil) SubB.nil (fun s5_ o_5 h hD5 => ?_))
   unfold slices_DeleteFunc_Edge_L1 at h
   refine .seq (.sr [oo, oo, ([42], []), oo] mx (.mvA rfl (.mvA rfl (.cA (.lenO (k := 42) sl23 (.told (.s rfl) rfl)) (.cA (.lt .none (.s rfl) (.s rfl)) (.nil (.cb rfl h (fun _ h => ?_) fun _ h => ?_)))))))
   ·
    refine .skip (.then (.seq ?_))
    obtain ⟨j_7, h, hK7⟩ := bind_some h
    refine .thenJ (ι := (Int × (List DEdge))) (fun j_7 => [(5, ⟨True, rep j_7.1⟩)]) (fun j_7 => [(42, some (CPred.at s42 (rowV 67 j_7.2)))]) (fun s => j_7 = s) (.k2 0 1 rfl rfl (.k 6 rfl .nil)) SubB.nil ?_ (fun j_7' hj7 => ?_)
    ·
     obtain ⟨hn8, h⟩ := need_some h
     obtain ⟨v1, hv9, h⟩ := bnd_some h
     obtain ⟨r1, hv10, h⟩ := bind_some h
     refine .block (.sr [oo, oo, ([42], []), ([42], []), ([], [7]), ([7], [7])] mx (.mvA rfl (.mvA rfl (.ixO 42 sl23 ty67 rfl rfl rfl hn8 (.cA (.re hv9 (.loadElem0 (k := 42) .none ty67 (.s rfl) rfl (fun _ => hn8))) (.al zo67 rfl (.st ty67 rfl rfl rfl (.nil (.freeze (t := 7) rfl rfl (.k 42 rfl .nil) rfl (.sn mx (.mv rfl (.ld ty67 rfl (.c (.callV (v1, r1) .none (.s rfl) (fun _ => hv10) (.cons (.s rfl) .nil)) (.c (.not .none (.s rfl)) (.nil (.cb rfl h (fun _ h => ?_) fun _ h => ?_))))))))))))))))
     ·
      obtain ⟨hn12, h⟩ := need_some h
      obtain ⟨s2, hv13, h⟩ := bnd_some h
      obtain ⟨i2, hv14, h⟩ := bnd_some h
      exact .sr [oo, oo, oo, ([42], []), ([42], [42])] mx (.mvA rfl (.mvA rfl (.ldA ty67 rfl (.ixO 42 sl23 ty67 rfl rfl rfl hn12 (.cN (.storeElem0 (k := 42) ty67 (.s rfl) rfl (.s rfl) hn12) (.nil (.reB (t := 42) rfl (congrArg (fun y => CPred.at s42 (rowV 67 y)) hv13) (.rn mx (.mv rfl (.adi rfl (.ra hv14 rfl (.nil (.blkNormal (Ends.j _ (some_eq h)))))))))))))))
     ·
      exact .skip (.blkNormal (Ends.j _ (some_eq h)))
    ·
     subst hj7; have h := hK7; clear hK7
     obtain ⟨j2, hv15, h⟩ := bnd_some h
     exact .rn mx (.mv rfl (.adi rfl (.ra hv15 rfl (.nil (Ends.ag (some_eq h))))))
   ·
    refine .exit (.thenExit (.thenExit (.blkExit ?_)))
    replace h := hD5 _ (some_eq h)
    exact Ends.j _ (some_eq h)
  ·
   subst hj4; have h := hK4; clear hK4
   obtain ⟨hn16, h⟩ := need_some h
   obtain ⟨s3, hv17, h⟩ := bnd_some h
   obtain ⟨hn18, h⟩ := need_some h
   obtain ⟨v2, hv19, h⟩ := bnd_some h
   refine .sr [oo, oo, ([42], []), ([42], [42])] mx (.mvA rfl (.mvA rfl (.cA (.sliceLend (k := 42) sl23 ty67 (.s rfl) rfl (.s rfl) rfl hn16) (.cN (.clearPart (k := 42) sl23 zo67 (.s rfl) rfl hn16) (.nil (.reB (t := 42) rfl (congrArg (fun y => CPred.at s42 (rowV 67 y)) hv17) (.sr [oo, oo, ([42], [41, 42]), ([41], [4, 41])] mx (.mvA rfl (.mvA rfl (.cW (.sliceRow (k := 42) sl23 ty67 rfl (.s rfl) rfl rfl (.s rfl) hn18) (.cW (.passRow rfl (.tmp rfl)) (.nil (.reB (t := 4) rfl (congrArg (rowV 67) hv19) (.nameRow (t := 4) (g := 5001) rfl rfl rfl (fun s5001 => (.ret (.anon (t := 4) (g := 5001) rfl rfl trivial rfl ?_)))))))))))))))))
   obtain rfl := some_eq h
   exact Ends.ret1O (.inl rfl) [42, 4] Tryz.results118 (by decide) (.skip (.res rfl rfl)) (ResOK.tmp rfl trivial (fun _ _ _ _ => trivial))

theorem ref_DeleteOf_ok {d1 : Doc} {ids1 : (List Str)} {r : (Doc × Int)}  (h : ref_DeleteOf d1 ids1 = some r) : FSpec Tryz.prog 45 [rep d1, rep ids1] (tup [rep r.1, rep r.2]) := by
 unfold ref_DeleteOf at h
 obtain ⟨v1, hv1, h⟩ := bnd_some h
 obtain ⟨r1, hv2, h⟩ := bind_some h
 refine FSpec.i Tryz.func45 rfl Tryz.ntmps45 rfl (fun F => (.sr [oo, ([], [4]), oo] mx (.cA (.box .none (.s rfl)) (.al zo25 rfl (.cA (.assign .none .i) (.nil (.reB (t := 4) rfl (congrArg (cont 25) hv1) (.nameBox (t := 4) (g := 5001) rfl rfl (fun m5001 => (.sr [oo, oo, ([], [16]), ([], [6]), ([6, 16], [6, 16])] mx (.ldA ty25 rfl (.mvA rfl (.cW (.cO [] (ref_Touched_ok hv2) (.cons (.s rfl) (.cons (.s rfl) .nil)) .nil rfl) (.al zr90 rfl (.cN (.storeRow0M (k := 6) (t := 16) ty90 rfl rfl rfl oneMap rfl) (.nil (.nameAt (t := 6) (g := 5002) rfl rfl (isBox_deep fun _ => isBox_cont) rfl (fun m5002 => (.open (k := 5002) (g := 5003) rfl rfl (fun s5003 => (.seq (.sn mx (.fa fd25_0 hfd25_0 rfl (.ld ty22 rfl (.ln sl22 rfl (.mvi (.nil ?_)))))))))))))))))))))))))))
 obtain ⟨o_3, h, hK3⟩ := bindR_some h
 refine .tJ (fun s => o_3 = Res.nx s) (.k2 2 4 rfl rfl (.k 6 rfl .nil)) (.k2 5001 5002 rfl rfl (.k 5003 rfl .nil)) ?_ (fun j_3 hj3 => ?_)
 ·
  refine .block (.rforEL h (fun p4_ => [(20, ⟨True, rep p4_.1⟩)]) (fun p4_ => []) (.k 20 rfl .nil) SubB.nil (.k4 2 4 6 18 rfl rfl rfl rfl (.k 19 rfl .nil)) (.k2 5001 5002 rfl rfl (.k 5003 rfl .nil)) (fun p4_ o_4 h hD4 => (.sn mx (.lt rfl rfl (.nil (.seq (.cb rfl h (fun _ h => ?_) fun _ h => ?_)))))))
  ·
   refine .skip (.then (.seq ?_))
   obtain ⟨o_6, h, hK6⟩ := bindD_some h
   unfold ref_DeleteOf_L1 at h
   refine .tJ (fun s => o_6 = Res.nx s) (.k4 2 4 6 18 rfl rfl rfl rfl (.k2 19 20 rfl rfl .nil)) (.k2 5001 5002 rfl rfl (.k 5003 rfl .nil)) ?_ (fun j_6 hj6 => ?_)
   ·
    obtain ⟨hn7, h⟩ := need_some h
    obtain ⟨v2, hv8, h⟩ := bnd_some h
    refine .block (.sr [oo, oo, ([], [8]), ([8], [8])] mx (.ixA sl22 ty44 rfl rfl hn7 (.rlA hv8 ty44 rfl (.al zo44 rfl (.st ty44 rfl rfl rfl (.nil (.freeze (t := 8) rfl rfl (.k2 5001 5002 rfl rfl (.k 5003 rfl .nil)) rfl (.sr [([5002], []), oo, oo, ([5003], []), oo, oo, oo, oo] mx (.cA (.loadAt0 (k := 5002) .none tr90 rfl (.s rfl)) (.faA fd44_0 hfd44_0 rfl (.ldA ty9 rfl (.cA (.lookupO (q := 5003) .none mo90 zo4 ownMap_self (.told (.s rfl) rfl) (.s rfl)) (.mvA rfl (.cA (.fieldAddr (.at rfl rfl) fd44_6 hfd44_6 (.s rfl)) (.cA (.load (.at rfl rfl) ty4 (.tmp rfl id)) (.cA (.pickAnd .none (.s rfl) (.tmp rfl id)) (.nil (.cb rfl h (fun _ h => ?_) fun _ h => ?_))))))))))))))))))
    ·
     obtain ⟨v3, hv10, h⟩ := bnd_some h
     refine .sr [oo, ([5001], [5001]), oo] mx (.cA (.re hv10 (.buildF (y := (⟨([] : (List DNode)), ([] : (List DEdge))⟩ : Doc)) .none bu25 zc25 rfl .nil .nil)) (.s0 5001 ty25 rfl rfl rfl (.cA (.assign .none .i) (.nil (.fb 5001 [4] rfl (.cons (t := 4) rfl trivial .nil) (.ret (.blkRet (.thenRet (.thenRet (.blkRet (.thenRet ?_)))))))))))
     replace h := resd_ab hK6 (some_eq h)
     replace h := hD4 _ (some_eq h)
     replace h := resb_ab hK3 (some_eq h)
     obtain rfl := some_eq h
     exact Ends.r2 Tryz.results45 ty25 rfl rfl
    ·
     exact .skip (.blkNormal (Ends.j _ (some_eq h)))
   ·
    have h := resd_nx hK6 hj6
    exact .rn mx (.adi rfl (.mv rfl (.nil (Ends.ag (some_eq h)))))
  ·
   refine .exit (.thenExit (.thenExit (.blkExit ?_)))
   replace h := hD4 _ (some_eq h)
   exact Ends.j _ (some_eq h)
 ·
  have h := resb_nx hK3 hj3
  obtain ⟨r2, hv11, h⟩ := bind_some h
  refine .sr [oo, ([], [35]), ([], [9]), ([9, 35], [9, 35])] mx (.ldA ty25 rfl (.cW (.cO [] (ref_Copied_ok hv11) (.cons (.s rfl) .nil) .nil rfl) (.al zo25 rfl (.cN (.storeG2 (t := 35) (k := 9) (mk := (fun z1 z2 => (⟨⟨z1⟩, ⟨z2⟩⟩ : Doc_o01))) ty25 rfl rfl (by rfl) rfl rfl rfl rfl) (.nil (.nameAt (t := 9) (g := 5004) rfl rfl (isBox_deep fun _ => (isBox_deep fun _ => isBox_cont)) rfl (fun m5004 => (.open (k := 5004) (g := 5005) rfl rfl (fun s5005 => (.open (k := 5004) (g := 5006) rfl rfl (fun s5006 => (.seq (.sn mx (.asb (.nil ?_)))))))))))))))
  obtain ⟨j_12, h, hK12⟩ := bind_some h
  refine .thenJ (ι := (Doc × (GMap Str Bool))) (fun j_12 => []) (fun j_12 => [(5004, some (CPred.at (ptr m5004 0) (deep (fun z0 => deep (fun z1 => cont 25 (⟨⟨z0⟩, ⟨z1⟩⟩ : Doc_o01)) (rowV 67 j_12.1.Edges)) (rowV 44 j_12.1.Nodes)))), (5003, some (CPred.at s5003 (mapV j_12.2)))]) (fun s => j_12 = s) (.k2 4 6 rfl rfl (.k 9 rfl .nil)) (.k2 5001 5002 rfl rfl .nil) ?_ (fun j_12' hj12 => ?_)
  ·
   refine .block (.close (k := 5004) (g := 5006) (fun z => cont 25 (⟨⟨s5005⟩, ⟨z⟩⟩ : Doc_o01)) rfl rfl rfl (.close (k := 5004) (g := 5005) (fun z => deep (fun z0 => cont 25 (⟨⟨z⟩, ⟨z0⟩⟩ : Doc_o01)) (rowV 67 r2.Edges)) rfl rfl rfl (.loopL h (fun s13_ => [(10, ⟨True, rep s13_.1⟩)]) (fun s13_ => [(5004, some (CPred.at (ptr m5004 0) (deep (fun z0 => deep (fun z1 => cont 25 (⟨⟨z0⟩, ⟨z1⟩⟩ : Doc_o01)) (rowV 67 s13_.2.1.Edges)) (rowV 44 s13_.2.1.Nodes)))), (5003, some (CPred.at s5003 (mapV s13_.2.2)))]) (.k 10 rfl .nil) (.k2 5004 5003 rfl rfl .nil) (.k2 4 6 rfl rfl (.k 9 rfl .nil)) (.k2 5001 5002 rfl rfl .nil) (fun s13_ o_13 h hD13 => ?_))))
   unfold ref_DeleteOf_L2 at h
   refine .open (k := 5004) (g := 5007) rfl rfl (fun s5007 => (.open (k := 5004) (g := 5008) rfl rfl (fun s5008 => (.seq (.sn mx (.mv rfl (.nil (.cb rfl h (fun _ h => ?_) fun _ h => ?_))))))))
   ·
    obtain ⟨r3, hv15, h⟩ := bind_some h
    refine .skip (.then (.block (.sr [oo, ([5004], []), ([5007], []), oo] mx (.cA (.fieldPtr .none fd25_0 (.s rfl)) (.cA (.loadAt (k := 5004) .none tr22 rfl (.s rfl) hv_Doc_o01_0) (.cA (.lenO (k := 5007) sl22 (.told (.s rfl) rfl)) (.asnA rfl (.nil (.sr [oo, ([5004], []), oo, ([5007, 5002, 5003], [5007, 43]), oo, ([5004, 43], [5004, 43])] mx (.cA (.fieldPtr .none fd25_0 (.s rfl)) (.cA (.loadAt (k := 5004) .none tr22 rfl (.s rfl) hv_Doc_o01_0) (.cA (.makeFuncC (Cs := [isV (ptr m5002 0)]) .none (.cons (.s rfl) .nil)) (.cW (.callOL (kl := [5002, 5003]) [5007] (slices_DeleteFunc_Node_ok hv15) .any (FlatO.none (FlatO.some .row FlatO.nil)) (.cons (.s rfl) (.gen (LentTo.clo (ι := DNode × Bool) (pre := fun i => (fun x0 => ref_DeleteOf_1 x0 s13_.2.2) i.1 = some i.2) (Ss := fun i => [rep i.1]) (S := fun i => rep i.2) (.s rfl) fnok116 (.deepR (k := 5002) (q := 5003) (x := (⟨s5003⟩ : Raw)) (y := s13_.2.2) rfl rfl rfl (fun M D w h hms => frzMap M D _ w h hms) (fun M cs w hc hl => map_cells hc hl) .nil) (fun i h => ref_DeleteOf_1_ok h)) .nil)) (.cons (k := 5007) rfl .nil) rfl (by decide) (by decide) (by intro d h; cases h; decide) (by decide) (by intro k hk; simp only [List.mem_cons, List.mem_nil_iff, or_false] at hk; rcases hk with rfl | rfl <;> rfl)) (.cA (.fieldPtr .none fd25_0 (.s rfl)) (.cN (.storeRow (k := 5004) (t := 43) ty22 rfl (.s rfl) sv_Doc_o01_0 rfl rfl) (.nil (.open (k := 5004) (g := 5009) rfl rfl (fun s5009 => (.seq (.sr [oo, ([5004], []), ([5009], []), oo] mx (.cA (.fieldPtr .none fd25_0 (.s rfl)) (.cA (.loadAt (k := 5004) .none tr22 rfl (.s rfl) hv_Doc_o01_0) (.cA (.lenO (k := 5009) sl22 (.told (.s rfl) rfl)) (.cA (.move .none .i) (.nil ?_)))))))))))))))))))))))))
    obtain ⟨j_16, h, hK16⟩ := bind_some h
    refine .thenJ (ι := (GMap Str Bool)) (fun j_16 => []) (fun j_16 => [(5003, some (CPred.at s5003 (mapV j_16)))]) (fun s => j_16 = s) (.k4 4 6 9 11 rfl rfl rfl rfl (.k 46 rfl .nil)) (.k2 5001 5002 rfl rfl (.k2 5004 5008 rfl rfl (.k 5009 rfl .nil))) ?_ (fun j_16' hj16 => ?_)
    ·
     refine .block (.rforL h (fun p17_ => [(48, ⟨True, rep p17_.1⟩)]) (fun p17_ => [(5003, some (CPred.at s5003 (mapV p17_.2)))]) (.k 48 rfl .nil) (.k 5003 rfl .nil) (.k4 4 6 9 11 rfl rfl rfl rfl (.k2 46 47 rfl rfl .nil)) (.k2 5001 5002 rfl rfl (.k2 5004 5008 rfl rfl (.k 5009 rfl .nil))) (fun p17_ o_17 h hD17 => (.sn mx (.lt rfl rfl (.nil (.seq (.cb rfl h (fun _ h => ?_) fun _ h => ?_)))))))
     ·
      refine .skip (.then (.seq ?_))
      obtain ⟨j_19, h, hK19⟩ := bind_some h
      unfold ref_DeleteOf_L3 at h
      refine .thenJ (ι := (GMap Str Bool)) (fun j_19 => []) (fun j_19 => [(5003, some (CPred.at s5003 (mapV j_19)))]) (fun s => j_19 = s) (.k4 4 6 9 11 rfl rfl rfl rfl (.k2 46 47 rfl rfl (.k 48 rfl .nil))) (.k2 5001 5002 rfl rfl (.k2 5004 5008 rfl rfl (.k 5009 rfl .nil))) ?_ (fun j_19' hj19 => ?_)
      ·
       obtain ⟨hn20, h⟩ := need_some h
       obtain ⟨v4, hv21, h⟩ := bnd_some h
       obtain ⟨r4, hv22, h⟩ := bind_some h
       refine .block (.sr [([5009], []), ([5009], []), ([], [13]), ([13], [13])] mx (.ixO 5009 sl22 ty44 rfl rfl rfl hn20 (.cA (.re hv21 (.loadElem0 (k := 5009) .none ty44 (.s rfl) rfl (fun _ => hn20))) (.al zo44 rfl (.st ty44 rfl rfl rfl (.nil (.freeze (t := 13) rfl rfl (.k2 5001 5002 rfl rfl (.k2 5003 5004 rfl rfl (.k2 5008 5009 rfl rfl .nil))) rfl (.sr [oo, oo, oo, oo, ([5004], []), oo, oo, ([5009, 5008], []), oo, oo, oo] mx (.faA fd44_1 hfd44_1 rfl (.ldA ty3 rfl (.cA (.eqI .none (.s rfl) .i) (.mvA rfl (.cA (.loadAt0 (k := 5004) (.at rfl rfl) tyv_Doc_o01 rfl (.s rfl)) (.cA (.fieldAddr (.at rfl rfl) fd44_0 hfd44_0 (.s rfl)) (.cA (.load (.at rfl rfl) ty9 (.tmp rfl id)) (.cA (.callLZ (.at rfl rfl) fnok76 (fun hg => ref_members_ok ((fun hg => gd_some hv22 (hg.2)) hg)) inferInstance (.gen (lentS2 (k1 := 5009) (k2 := 5008) (z := (⟨⟨s5009⟩, ⟨s5008⟩⟩ : Doc_o01)) (y := ({ s13_.2.1 with Nodes := r3, Edges := s13_.2.1.Edges } : Doc)) (.tmp rfl id) rfl rfl frzRow frzRow rfl (fun M cs w hc g1 g2 => by obtain ⟨c0, q0, e0, h0, h1⟩ := hc; exact ⟨c0, q0, e0, raw_cells rfl rfl h0 g1, raw_cells rfl rfl h1 g2⟩)) (.cons (.tmp rfl id) .nil))) (.cA (.len (.at rfl rfl) sl22 (.tmp rfl id)) (.cA (.eqI (.at rfl rfl) (.tmp rfl id) .i) (.cA (.pickAnd .none (.s rfl) (.tmp rfl id)) (.nil (.cb rfl h (fun _ h => ?_) fun _ h => ?_)))))))))))))))))))))
       ·
        exact .rg [([5002], []), oo, oo, ([5003], [5003])] mx (.cA (.loadAt0 (k := 5002) .none tr90 rfl (.s rfl)) (.faA fd44_0 hfd44_0 rfl (.ldA ty9 rfl (.cN (.mapUpdate (q := 5003) mo90 (.s rfl) rfl (.s rfl) .bool) (.nil (.blkNormal (Ends.j _ (some_eq h))))))))
       ·
        exact .skip (.blkNormal (Ends.j _ (some_eq h)))
      ·
       subst hj19; have h := hK19; clear hK19
       exact .rn mx (.adi rfl (.mv rfl (.nil (Ends.ag (some_eq h)))))
     ·
      refine .exit (.thenExit (.thenExit (.blkExit ?_)))
      replace h := hD17 _ (some_eq h)
      exact Ends.j _ (some_eq h)
    ·
     subst hj16; have h := hK16; clear hK16
     obtain ⟨r5, hv24, h⟩ := bind_some h
     exact .rg [oo, oo, ([5004], []), ([5009], []), oo, oo, oo, ([5004], []), oo, ([5009, 5002, 5003], []), oo, oo] mx (.mvA rfl (.cA (.fieldPtr .none fd25_0 (.s rfl)) (.cA (.loadAt (k := 5004) .none tr22 rfl (.s rfl) hv_Doc_o01_0) (.cA (.lenO (k := 5009) sl22 (.told (.s rfl) rfl)) (.cA (.neI .none (.s rfl) (.s rfl)) (.mvA rfl (.cA (.fieldPtr (.at rfl rfl) fd25_0 (.s rfl)) (.cA (.loadAt (k := 5004) (.at rfl rfl) tr22 rfl (.tmp rfl id) hv_Doc_o01_0) (.cA (.makeFuncC (Cs := [isV (ptr m5002 0)]) (.at rfl rfl) (.cons (.s rfl) .nil)) (.cA (.callL (.at rfl rfl) fnok60 (fun hg => slices_ContainsFunc_Node_ok ((fun hg => gd_some hv24 ((notT hg.2))) hg)) .rep (.lendG (k := 5009) (.tmp rfl id) rfl (.gen (LentTo.clo (ι := DNode × Bool) (pre := fun i => (fun x0 => ref_DeleteOf_2 x0 j_16) i.1 = some i.2) (Ss := fun i => [rep i.1]) (S := fun i => rep i.2) (.tmp rfl id) fnok117 (.deepR (k := 5002) (q := 5003) (x := (⟨s5003⟩ : Raw)) (y := j_16) rfl rfl rfl (fun M D w h hms => frzMap M D _ w h hms) (fun M cs w hc hl => map_cells hc hl) .nil) (fun i h => ref_DeleteOf_2_ok h)) .nil))) (.cA (.pickOr .none (.s rfl) (.tmp rfl id)) (.asnA rfl (.nil (.blkNormal (.close (k := 5004) (g := 5008) (fun z => cont 25 (⟨⟨s5009⟩, ⟨z⟩⟩ : Doc_o01)) rfl rfl rfl (.close (k := 5004) (g := 5009) (fun z => deep (fun z0 => cont 25 (⟨⟨z⟩, ⟨z0⟩⟩ : Doc_o01)) (rowV 67 s13_.2.1.Edges)) rfl rfl rfl (Ends.ag (some_eq h))))))))))))))))))
   ·
    refine .exit (.thenExit (.thenExit (.blkExit (.close (k := 5004) (g := 5008) (fun z => cont 25 (⟨⟨s5007⟩, ⟨z⟩⟩ : Doc_o01)) rfl rfl rfl (.close (k := 5004) (g := 5007) (fun z => deep (fun z0 => cont 25 (⟨⟨z⟩, ⟨z0⟩⟩ : Doc_o01)) (rowV 67 s13_.2.1.Edges)) rfl rfl rfl ?_)))))
    replace h := hD13 _ (some_eq h)
    exact Ends.j _ (some_eq h)
  ·
   subst hj12; have h := hK12; clear hK12
   refine .close (k := 5002) (g := 5003) (fun z => cont 90 (⟨z⟩ : Raw)) rfl rfl rfl (.freezeAt (g := 5002) (S := ref (j_12.2 : (GMap Str Bool))) (ts := [6]) rfl (.cons (t := 6) rfl trivial .nil) (.k2 5001 5004 rfl rfl .nil) rfl (fun M D w h hms => deep_ref1 (mk := (fun s1_ => (⟨s1_⟩ : Raw))) (y := (j_12.2 : (GMap Str Bool))) frzMap rfl (fun M s1_ cs w hc g1 => map_cells hc g1) M D w h hms) (.open (k := 5004) (g := 5010) rfl rfl (fun s5010 => (.open (k := 5004) (g := 5011) rfl rfl (fun s5011 => (.sr [oo, ([5004], []), oo, ([5011], [5011, 81]), oo, ([5004, 81], [5004, 81])] mx (.cA (.fieldPtr .none fd25_1 (.s rfl)) (.cA (.loadAt (k := 5004) .none tr23 rfl (.s rfl) hv_Doc_o01_1) (.cA (.makeFunc (ι := DEdge × Bool) (pre := fun i => (fun x0 => ref_DeleteOf_3 x0 j_12.2) i.1 = some i.2) (Ss := fun i => [rep i.1]) (S := fun i => rep i.2) .none fnok119 (fun i h => ref_DeleteOf_3_ok h) (.cons (.s rfl) .nil)) ?_)))))))))
   obtain ⟨r6, hv25, h⟩ := bind_some h
   refine .cW (.cO [5011] (slices_DeleteFunc_Edge_ok hv25) (.cons (.s rfl) (.cons (.s rfl) .nil)) (.cons (k := 5011) rfl .nil) rfl) (.cA (.fieldPtr .none fd25_1 (.s rfl)) (.cN (.storeRow (k := 5004) (t := 81) ty23 rfl (.s rfl) sv_Doc_o01_1 rfl rfl) (.nil (.open (k := 5004) (g := 5012) rfl rfl (fun s5012 => (.close (k := 5004) (g := 5012) (fun z => cont 25 (⟨⟨s5010⟩, ⟨z⟩⟩ : Doc_o01)) rfl rfl rfl (.close (k := 5004) (g := 5010) (fun z => deep (fun z0 => cont 25 (⟨⟨z⟩, ⟨z0⟩⟩ : Doc_o01)) (rowV 67 r6)) rfl rfl rfl (.freezeAt (g := 5004) (S := ref ({ j_12.1 with Nodes := j_12.1.Nodes, Edges := r6 } : Doc)) (ts := [9]) rfl (.cons (t := 9) rfl trivial .nil) (.k 5001 rfl .nil) rfl (fun M D w h hms => deep_ref2 (mk := (fun s1_ s2_ => (⟨⟨s1_⟩, ⟨s2_⟩⟩ : Doc_o01))) (y := ({ j_12.1 with Nodes := j_12.1.Nodes, Edges := r6 } : Doc)) frzRow frzRow rfl (fun M s1_ s2_ cs w hc g1 g2 => by obtain ⟨c0, q0, e0, h0, h1⟩ := hc; exact ⟨c0, q0, e0, raw_cells rfl rfl h0 g1, raw_cells rfl rfl h1 g2⟩) M D w h hms) ?_))))))))
   obtain ⟨v5, hv26, h⟩ := bnd_some h
   refine .sr [oo, ([5001], [5001]), oo] mx (.rlA hv26 ty25 rfl (.s0 5001 ty25 rfl rfl rfl (.cA (.assign .none .i) (.nil (.fb 5001 [4] rfl (.cons (t := 4) rfl trivial .nil) (.ret ?_))))))
   obtain rfl := some_eq h
   exact Ends.r2 Tryz.results45 ty25 rfl rfl

theorem ref_StepError_ok {dx1 : Int} {dy1 : Int} {r : Int}  (h : ref_StepError dx1 dy1 = some r) : FSpec Tryz.prog 120 [rep dx1, rep dy1] (rep r) := by
 unfold ref_StepError at h
 obtain ⟨r1, hv1, h⟩ := bind_some h
 obtain ⟨r2, hv2, h⟩ := bind_some h
 refine FSpec.i Tryz.func120 rfl Tryz.ntmps120 rfl (fun F => (.sn mx (.asi (.nil (.sn mx (.mv rfl (.c (.call .none (ref_In_ok hv1) (.cons (.s rfl) (.cons .i (.cons .i .nil)))) (.c (.not .none (.s rfl)) (.mv rfl (.mg rfl rfl rfl (.c (.callIf (.at rfl rfl) fnok88 (fun hg => ref_In_ok ((fun hg => gd_some hv2 ((notT hg.2))) hg)) (.cons (.tmp rfl id) (.cons .i (.cons .i .nil))) (fun h => h)) ?_)))))))))))
 obtain ⟨r3, hv3, h⟩ := bind_some h
 refine .c (.not (.at rfl rfl) (.tmp rfl id)) (.po rfl rfl (.c (.call .none (ref_When_ok hv3) (.cons (.s rfl) (.cons .i .nil))) (.asn rfl (.nil (.ret ?_)))))
 obtain rfl := some_eq h
 exact Ends.rt Tryz.results120 rfl

theorem ref_shifted_ok {l1 : (List Point)} {dx1 : Int} {dy1 : Int} {r : (List Point)}  (h : ref_shifted l1 dx1 dy1 = some r) : FSpec Tryz.prog 121 [rep l1, rep dx1, rep dy1] (rep r) := by
 unfold ref_shifted at h
 refine FSpec.i Tryz.func121 rfl Tryz.ntmps121 rfl (fun F => (.sn mx (.c (.assign .none (.const (x := ([] : (List Point))) (fun M w => ⟨_, ⟨none, 0, rfl, Nat.le_refl _, by decide, rfl⟩, rfl⟩))) (.nil (.sr [([], [7])] mx (.cW (.nilRow (T := 27) (α := Point) rfl) (.nil (.nameRow (t := 7) (g := 5001) rfl rfl rfl (fun s5001 => (.seq (.sn mx (.mv rfl (.ln sl59 rfl (.mvi (.nil ?_)))))))))))))))
 obtain ⟨j_1, h, hK1⟩ := bind_some h
 refine .thenJ (ι := (List Point)) (fun j_1 => []) (fun j_1 => [(7, some (rowV 27 j_1))]) (fun s => j_1 = s) Sub.nil SubB.nil ?_ (fun j_1' hj1 => ?_)
 ·
  refine .block (.anon (t := 7) (g := 5001) rfl rfl trivial rfl (.rforL h (fun p2_ => [(12, ⟨True, rep p2_.1⟩)]) (fun p2_ => [(7, some (rowV 27 p2_.2))]) (.k 12 rfl .nil) (.k 7 rfl .nil) (.k4 1 2 10 11 rfl rfl rfl rfl .nil) SubB.nil (fun p2_ o_2 h hD2 => (.nameRow (t := 7) (g := 5002) rfl rfl rfl (fun s5002 => (.sn mx (.lt rfl rfl (.nil (.seq (.cb rfl h (fun _ h => ?_) fun _ h => ?_))))))))))
  ·
   refine .skip (.then (.seq ?_))
   obtain ⟨j_4, h, hK4⟩ := bind_some h
   unfold ref_shifted_L1 at h
   refine .thenJ (ι := (List Point)) (fun j_4 => []) (fun j_4 => [(7, some (rowV 27 j_4))]) (fun s => j_4 = s) (.k4 1 2 10 11 rfl rfl rfl rfl (.k 12 rfl .nil)) SubB.nil ?_ (fun j_4' hj4 => ?_)
   ·
    obtain ⟨hn5, h⟩ := need_some h
    obtain ⟨v1, hv6, h⟩ := bnd_some h
    obtain ⟨hn7, h⟩ := need_some h
    exact .block (.sr [oo, oo, ([], [9]), ([9], [9])] mx (.ixA sl59 ty27 rfl rfl hn5 (.rlA hv6 ty27 rfl (.al zo27 rfl (.st ty27 rfl rfl rfl (.nil (.freeze (t := 9) rfl rfl (.k 5002 rfl .nil) rfl (.rg [oo, oo, oo, oo, oo, oo, oo, oo, oo, oo, oo, ([5002], [27, 5002]), ([27], [7, 27])] mx (.mvA rfl (.faA fd27_0 hfd27_0 rfl (.ldA ty3 rfl (.mvA rfl (.addA rfl rfl (.faA fd27_1 hfd27_1 rfl (.ldA ty3 rfl (.mvA rfl (.addA rfl rfl (.cA (.buildF (y := (⟨W (v1.X + dx1), W (v1.Y + dy1)⟩ : Point)) .none bu27 zc27 rfl (.cons (.s rfl) (.cons (.s rfl) .nil)) (.cons rfl sf27_0 (.cons rfl sf27_1 .nil))) (.cA (.buildSlice (xs := [_]) .none sl59 ty27 hz27 (.cons (.s rfl) .nil) rfl (by decide)) (.cW (.append (k := 5002) rk59 rfl (.told (.s rfl) rfl) (.s rfl) hn7) (.cW (.passRow rfl (.tmp rfl)) (.nil (.blkNormal (Ends.j _ (some_eq h)))))))))))))))))))))))))
   ·
    subst hj4; have h := hK4; clear hK4
    exact .nameRow (t := 7) (g := 5003) rfl rfl rfl (fun s5003 => (.rn mx (.adi rfl (.mv rfl (.nil (.anon (t := 7) (g := 5003) rfl rfl trivial rfl (Ends.ag (some_eq h))))))))
  ·
   refine .exit (.thenExit (.thenExit (.blkExit (.anon (t := 7) (g := 5002) rfl rfl trivial rfl ?_))))
   replace h := hD2 _ (some_eq h)
   exact Ends.j _ (some_eq h)
 ·
  subst hj1; have h := hK1; clear hK1
  refine .freezeRowA (t := 7) rfl rfl SubB.nil rfl (.sn mx (.mv rfl (.asn rfl (.nil (.ret ?_)))))
  obtain rfl := some_eq h
  exact Ends.rt Tryz.results121 rfl

set_option maxHeartbeats 4000000 in
theorem ref_CopyOf_ok {d1 : Doc} {ids1 : (List Str)} {end1 : Str} {dx1 : Int} {dy1 : Int} {r : (Doc × Int)}  (h : ref_CopyOf d1 ids1 end1 dx1 dy1 = some r) : FSpec Tryz.prog 46 [rep d1, rep ids1, rep end1, rep dx1, rep dy1] (tup [rep r.1, rep r.2]) := by
 unfold ref_CopyOf at h
 obtain ⟨v1, hv1, h⟩ := bnd_some h
 obtain ⟨e1, hv2, h⟩ := bind_some h
 refine FSpec.i Tryz.func46 rfl Tryz.ntmps46 rfl (fun F => (.sr [oo, ([], [10]), oo] mx (.cA (.box .none (.s rfl)) (.al zo25 rfl (.cA (.assign .none .i) (.nil (.reB (t := 10) rfl (congrArg (cont 25) hv1) (.nameBox (t := 10) (g := 5001) rfl rfl (fun m5001 => (.seq (.sn mx (.mv rfl (.mv rfl (.c (.call .none (ref_StepError_ok hv2) (.cons (.s rfl) (.cons (.s rfl) .nil))) (.asn rfl (.nil (.sn mx (.mv rfl (.nei rfl (.nil (.cb rfl h (fun _ h => ?_) fun _ h => ?_)))))))))))))))))))))
 ·
  obtain ⟨v2, hv4, h⟩ := bnd_some h
  refine .sr [oo, oo, ([5001], [5001]), oo] mx (.cA (.re hv4 (.buildF (y := (⟨([] : (List DNode)), ([] : (List DEdge))⟩ : Doc)) .none bu25 zc25 rfl .nil .nil)) (.mvA rfl (.s0 5001 ty25 rfl rfl rfl (.asnA rfl (.nil (.fb 5001 [10] rfl (.cons (t := 10) rfl trivial .nil) (.ret (.thenRet ?_))))))))
  obtain rfl := some_eq h
  exact Ends.r2 Tryz.results46 ty25 rfl rfl
 ·
  obtain ⟨in1, hv5, h⟩ := bind_some h
  obtain ⟨r1, hv6, h⟩ := bind_some h
  refine .skip (.then (.sn mx (.ld ty25 rfl (.mv rfl (.c (.call .none (ref_Touched_ok hv5).frzM (.cons (.s rfl) (.cons (.s rfl) .nil))) (.asn rfl (.nil (.sr [oo, ([], [31]), ([], [14]), ([14, 31], [14, 31])] mx (.ldA ty25 rfl (.cW (.cO [] (ref_Copied_ok hv6) (.cons (.s rfl) .nil) .nil rfl) (.al zo25 rfl (.cN (.storeG2 (t := 31) (k := 14) (mk := (fun z1 z2 => (⟨⟨z1⟩, ⟨z2⟩⟩ : Doc_o01))) ty25 rfl rfl (by rfl) rfl rfl rfl rfl) (.nil (.nameAt (t := 14) (g := 5002) rfl rfl (isBox_deep fun _ => (isBox_deep fun _ => isBox_cont)) rfl (fun m5002 => (.open (k := 5002) (g := 5003) rfl rfl (fun s5003 => (.open (k := 5002) (g := 5004) rfl rfl (fun s5004 => (.seq (.sn mx (.fa fd25_0 hfd25_0 rfl (.ld ty22 rfl (.ln sl22 rfl (.mvi (.nil ?_))))))))))))))))))))))))))
  obtain ⟨j_7, h, hK7⟩ := bind_some h
  refine .thenJ (ι := Doc) (fun j_7 => []) (fun j_7 => [(5002, some (CPred.at (ptr m5002 0) (deep (fun z0 => deep (fun z1 => cont 25 (⟨⟨z0⟩, ⟨z1⟩⟩ : Doc_o01)) (rowV 67 j_7.Edges)) (rowV 44 j_7.Nodes))))]) (fun s => j_7 = s) (.k4 2 3 4 5 rfl rfl rfl rfl (.k2 10 13 rfl rfl (.k 14 rfl .nil))) (.k 5001 rfl .nil) ?_ (fun j_7' hj7 => ?_)
  ·
   refine .block (.close (k := 5002) (g := 5004) (fun z => cont 25 (⟨⟨s5003⟩, ⟨z⟩⟩ : Doc_o01)) rfl rfl rfl (.close (k := 5002) (g := 5003) (fun z => deep (fun z0 => cont 25 (⟨⟨z⟩, ⟨z0⟩⟩ : Doc_o01)) (rowV 67 r1.Edges)) rfl rfl rfl (.rforL h (fun p8_ => [(35, ⟨True, rep p8_.1⟩)]) (fun p8_ => [(5002, some (CPred.at (ptr m5002 0) (deep (fun z0 => deep (fun z1 => cont 25 (⟨⟨z0⟩, ⟨z1⟩⟩ : Doc_o01)) (rowV 67 p8_.2.Edges)) (rowV 44 p8_.2.Nodes))))]) (.k 35 rfl .nil) (.k 5002 rfl .nil) (.k4 2 3 4 5 rfl rfl rfl rfl (.k4 10 13 14 33 rfl rfl rfl rfl (.k 34 rfl .nil))) (.k 5001 rfl .nil) (fun p8_ o_8 h hD8 => (.open (k := 5002) (g := 5005) rfl rfl (fun s5005 => (.open (k := 5002) (g := 5006) rfl rfl (fun s5006 => (.sn mx (.lt rfl rfl (.nil (.seq (.cb rfl h (fun _ h => ?_) fun _ h => ?_)))))))))))))
   ·
    refine .skip (.then (.seq ?_))
    obtain ⟨j_10, h, hK10⟩ := bind_some h
    unfold ref_CopyOf_L1 at h
    refine .thenJ (ι := Doc) (fun j_10 => []) (fun j_10 => [(5002, some (CPred.at (ptr m5002 0) (deep (fun z0 => deep (fun z1 => cont 25 (⟨⟨z0⟩, ⟨z1⟩⟩ : Doc_o01)) (rowV 67 j_10.Edges)) (rowV 44 j_10.Nodes))))]) (fun s => j_10 = s) (.k4 2 3 4 5 rfl rfl rfl rfl (.k4 10 13 14 33 rfl rfl rfl rfl (.k2 34 35 rfl rfl .nil))) (.k 5001 rfl .nil) ?_ (fun j_10' hj10 => ?_)
    ·
     obtain ⟨hn11, h⟩ := need_some h
     obtain ⟨v3, hv12, h⟩ := bnd_some h
     refine .block (.sr [oo, oo, ([], [16]), ([16], [16])] mx (.ixA sl22 ty44 rfl rfl hn11 (.rlA hv12 ty44 rfl (.al zo44 rfl (.st ty44 rfl rfl rfl (.nil (.nameBox (t := 16) (g := 5007) rfl rfl (fun m5007 => (.seq (.sr [oo, oo, ([5007], []), oo, oo] mx (.mvA rfl (.cA (.fieldPtr .none fd44_0 (.s rfl)) (.cA (.loadAt (k := 5007) .none ty9 rfl (.s rfl) hfd44_0) (.cA (.lookup .none mo90 zo4 (.s rfl) (.s rfl)) (.cA (.not .none (.s rfl)) (.nil (.cb rfl h (fun _ h => ?_) fun _ h => ?_)))))))))))))))))
     ·
      exact .exit (.thenExit (.blkExit (.close (k := 5002) (g := 5006) (fun z => cont 25 (⟨⟨s5005⟩, ⟨z⟩⟩ : Doc_o01)) rfl rfl rfl (.close (k := 5002) (g := 5005) (fun z => deep (fun z0 => cont 25 (⟨⟨z⟩, ⟨z0⟩⟩ : Doc_o01)) (rowV 67 p8_.2.Edges)) rfl rfl rfl (Ends.j _ (some_eq h))))))
     ·
      obtain ⟨hn14, h⟩ := need_some h
      obtain ⟨v4, hv15, h⟩ := bnd_some h
      obtain ⟨n1, hv16, h⟩ := bnd_some h
      refine .skip (.then (.sr [oo, ([5007], []), oo, oo, oo, ([5007], [5007])] mx (.cA (.fieldPtr .none fd44_0 (.s rfl)) (.cA (.loadAt (k := 5007) .none ty9 rfl (.s rfl) hfd44_0) (.mvA rfl (.cA (.re hv15 (.addStr .none (.s rfl) (.s rfl) (fun _ => hn14))) (.cA (.fieldPtr .none fd44_0 (.s rfl)) (.cN (.storeAt (g := 5007) ty9 rfl (.s rfl) sf44_0 (.s rfl)) (.nil (.reB (t := 5007) rfl (congrArg (fun y => boxAt m5007 44 y) hv16) (.seq (.sr [oo, oo, ([5007], []), oo] mx (.mvA rfl (.cA (.fieldPtr .none fd44_5 (.s rfl)) (.cA (.loadAt (k := 5007) .none ty9 rfl (.s rfl) hfd44_5) (.cA (.lookup .none mo90 zo4 (.s rfl) (.s rfl)) (.nil ?_)))))))))))))))))
      obtain ⟨j_17, h, hK17⟩ := bind_some h
      refine .thenJ (ι := DNode) (fun j_17 => []) (fun j_17 => [(5007, some (boxAt m5007 44 j_17))]) (fun s => j_17 = s) (.k4 2 3 4 5 rfl rfl rfl rfl (.k4 10 13 14 16 rfl rfl rfl rfl (.k2 33 34 rfl rfl (.k 35 rfl .nil)))) (.k2 5001 5002 rfl rfl (.k2 5005 5006 rfl rfl .nil)) ?_ (fun j_17' hj17 => ?_)
      ·
       refine .cb rfl h (fun _ h => ?_) fun _ h => ?_
       ·
        obtain ⟨hn19, h⟩ := need_some h
        obtain ⟨v5, hv20, h⟩ := bnd_some h
        exact .rg [oo, ([5007], []), oo, oo, oo, ([5007], [5007])] mx (.cA (.fieldPtr .none fd44_5 (.s rfl)) (.cA (.loadAt (k := 5007) .none ty9 rfl (.s rfl) hfd44_5) (.mvA rfl (.cA (.re hv20 (.addStr .none (.s rfl) (.s rfl) (fun _ => hn19))) (.cA (.fieldPtr .none fd44_5 (.s rfl)) (.cN (.storeAt (g := 5007) ty9 rfl (.s rfl) sf44_5 (.s rfl)) (.nil (Ends.j _ (some_eq h)))))))))
       ·
        exact .skip (Ends.j _ (some_eq h))
      ·
       subst hj17; have h := hK17; clear hK17
       obtain ⟨n2, hv21, h⟩ := bnd_some h
       refine .sr [oo, ([5007], [5007])] mx (.cA (.fieldPtr .none fd44_6 (.s rfl)) (.cN (.storeAt (g := 5007) ty4 rfl (.s rfl) sf44_6 .bool) (.nil (.reB (t := 5007) rfl (congrArg (fun y => boxAt m5007 44 y) hv21) (.seq (.sr [oo, ([5007], []), oo] mx (.cA (.fieldPtr .none fd44_1 (.s rfl)) (.cA (.loadAt (k := 5007) .none ty3 rfl (.s rfl) hfd44_1) (.cA (.neI .none (.s rfl) .i) (.nil ?_))))))))))
       obtain ⟨j_22, h, hK22⟩ := bind_some h
       refine .thenJ (ι := DNode) (fun j_22 => []) (fun j_22 => [(5007, some (boxAt m5007 44 j_22))]) (fun s => j_22 = s) (.k4 2 3 4 5 rfl rfl rfl rfl (.k4 10 13 14 16 rfl rfl rfl rfl (.k2 33 34 rfl rfl (.k 35 rfl .nil)))) (.k2 5001 5002 rfl rfl (.k2 5005 5006 rfl rfl .nil)) ?_ (fun j_22' hj22 => ?_)
       ·
        refine .cb rfl h (fun _ h => ?_) fun _ h => ?_
        ·
         obtain ⟨v6, hv24, h⟩ := bnd_some h
         obtain ⟨n3, hv25, h⟩ := bnd_some h
         obtain ⟨v7, hv26, h⟩ := bnd_some h
         exact .sr [oo, oo, ([5007], []), oo, oo, oo, oo, ([5007], [5007])] mx (.cA (.fieldPtr .none fd44_2 (.s rfl)) (.cA (.fieldPtr .none fd29_0 (.s rfl)) (.cA (.loadAt (k := 5007) .none ty3 rfl (.s rfl) (HasField.comp (o2 := 0) hfd44_2 hfd29_0)) (.mvA rfl (.cA (.re hv24 (.addW .none (.s rfl) (.s rfl))) (.cA (.fieldPtr .none fd44_2 (.s rfl)) (.cA (.fieldPtr .none fd29_0 (.s rfl)) (.cN (.storeAt (g := 5007) ty3 rfl (.s rfl) (SetField.comp (o2 := 0) hfd44_2 sf44_2 sf29_0) (.s rfl)) (.nil (.reB (t := 5007) rfl (congrArg (fun y => boxAt m5007 44 y) hv25) (.rg [oo, oo, ([5007], []), oo, oo, oo, oo, ([5007], [5007])] mx (.cA (.fieldPtr .none fd44_2 (.s rfl)) (.cA (.fieldPtr .none fd29_1 (.s rfl)) (.cA (.loadAt (k := 5007) .none ty3 rfl (.s rfl) (HasField.comp (o2 := 1) hfd44_2 hfd29_1)) (.mvA rfl (.cA (.re hv26 (.addW .none (.s rfl) (.s rfl))) (.cA (.fieldPtr .none fd44_2 (.s rfl)) (.cA (.fieldPtr .none fd29_1 (.s rfl)) (.cN (.storeAt (g := 5007) ty3 rfl (.s rfl) (SetField.comp (o2 := 1) hfd44_2 sf44_2 sf29_1) (.s rfl)) (.nil (Ends.j _ (some_eq h))))))))))))))))))))))
        ·
         exact .skip (Ends.j _ (some_eq h))
       ·
        subst hj22; have h := hK22; clear hK22
        obtain ⟨hn27, h⟩ := need_some h
        exact .freezeBox (g := 5007) (ts := [16]) rfl (.cons (t := 16) rfl trivial .nil) (.k2 5001 5002 rfl rfl (.k2 5005 5006 rfl rfl .nil)) rfl (.rg [oo, ([5002], []), oo, oo, ([5005], [80, 5005]), oo, ([5002, 80], [5002, 80])] mx (.cA (.fieldPtr .none fd25_0 (.s rfl)) (.cA (.loadAt (k := 5002) .none tr22 rfl (.s rfl) hv_Doc_o01_0) (.ldA ty44 rfl (.cA (.buildSlice (xs := [_]) .none sl22 ty44 hz44 (.cons (.s rfl) .nil) rfl (by decide)) (.cW (.append (k := 5005) rk22 rfl (.told (.s rfl) rfl) (.s rfl) hn27) (.cA (.fieldPtr .none fd25_0 (.s rfl)) (.cN (.storeRow (k := 5002) (t := 80) ty22 rfl (.s rfl) sv_Doc_o01_0 rfl rfl) (.nil (.blkNormal (.open (k := 5002) (g := 5008) rfl rfl (fun s5008 => (.close (k := 5002) (g := 5006) (fun z => cont 25 (⟨⟨s5008⟩, ⟨z⟩⟩ : Doc_o01)) rfl rfl rfl (.close (k := 5002) (g := 5008) (fun z => deep (fun z0 => cont 25 (⟨⟨z⟩, ⟨z0⟩⟩ : Doc_o01)) (rowV 67 p8_.2.Edges)) rfl rfl rfl (Ends.j _ (some_eq h))))))))))))))))
    ·
     subst hj10; have h := hK10; clear hK10
     exact .open (k := 5002) (g := 5009) rfl rfl (fun s5009 => (.open (k := 5002) (g := 5010) rfl rfl (fun s5010 => (.rn mx (.adi rfl (.mv rfl (.nil (.close (k := 5002) (g := 5010) (fun z => cont 25 (⟨⟨s5009⟩, ⟨z⟩⟩ : Doc_o01)) rfl rfl rfl (.close (k := 5002) (g := 5009) (fun z => deep (fun z0 => cont 25 (⟨⟨z⟩, ⟨z0⟩⟩ : Doc_o01)) (rowV 67 j_10.Edges)) rfl rfl rfl (Ends.ag (some_eq h)))))))))))
   ·
    refine .exit (.thenExit (.thenExit (.blkExit (.close (k := 5002) (g := 5006) (fun z => cont 25 (⟨⟨s5005⟩, ⟨z⟩⟩ : Doc_o01)) rfl rfl rfl (.close (k := 5002) (g := 5005) (fun z => deep (fun z0 => cont 25 (⟨⟨z⟩, ⟨z0⟩⟩ : Doc_o01)) (rowV 67 p8_.2.Edges)) rfl rfl rfl ?_)))))
    replace h := hD8 _ (some_eq h)
    exact Ends.j _ (some_eq h)
  ·
   subst hj7; have h := hK7; clear hK7
   refine .open (k := 5002) (g := 5011) rfl rfl (fun s5011 => (.open (k := 5002) (g := 5012) rfl rfl (fun s5012 => (.seq (.sn mx (.fa fd25_1 hfd25_1 rfl (.ld ty23 rfl (.ln sl23 rfl (.mvi (.nil ?_))))))))))
   obtain ⟨j_28, h, hK28⟩ := bind_some h
   refine .thenJ (ι := Doc) (fun j_28 => []) (fun j_28 => [(5002, some (CPred.at (ptr m5002 0) (deep (fun z0 => deep (fun z1 => cont 25 (⟨⟨z0⟩, ⟨z1⟩⟩ : Doc_o01)) (rowV 67 j_28.Edges)) (rowV 44 j_28.Nodes))))]) (fun s => j_28 = s) (.k2 10 14 rfl rfl .nil) (.k 5001 rfl .nil) ?_ (fun j_28' hj28 => ?_)
   ·
    refine .block (.close (k := 5002) (g := 5012) (fun z => cont 25 (⟨⟨s5011⟩, ⟨z⟩⟩ : Doc_o01)) rfl rfl rfl (.close (k := 5002) (g := 5011) (fun z => deep (fun z0 => cont 25 (⟨⟨z⟩, ⟨z0⟩⟩ : Doc_o01)) (rowV 67 j_7.Edges)) rfl rfl rfl (.rforL h (fun p29_ => [(86, ⟨True, rep p29_.1⟩)]) (fun p29_ => [(5002, some (CPred.at (ptr m5002 0) (deep (fun z0 => deep (fun z1 => cont 25 (⟨⟨z0⟩, ⟨z1⟩⟩ : Doc_o01)) (rowV 67 p29_.2.Edges)) (rowV 44 p29_.2.Nodes))))]) (.k 86 rfl .nil) (.k 5002 rfl .nil) (.k4 2 3 4 10 rfl rfl rfl rfl (.k4 13 14 84 85 rfl rfl rfl rfl .nil)) (.k 5001 rfl .nil) (fun p29_ o_29 h hD29 => (.open (k := 5002) (g := 5013) rfl rfl (fun s5013 => (.open (k := 5002) (g := 5014) rfl rfl (fun s5014 => (.sn mx (.lt rfl rfl (.nil (.seq (.cb rfl h (fun _ h => ?_) fun _ h => ?_)))))))))))))
    ·
     refine .skip (.then (.seq ?_))
     obtain ⟨j_31, h, hK31⟩ := bind_some h
     unfold ref_CopyOf_L2 at h
     refine .thenJ (ι := Doc) (fun j_31 => []) (fun j_31 => [(5002, some (CPred.at (ptr m5002 0) (deep (fun z0 => deep (fun z1 => cont 25 (⟨⟨z0⟩, ⟨z1⟩⟩ : Doc_o01)) (rowV 67 j_31.Edges)) (rowV 44 j_31.Nodes))))]) (fun s => j_31 = s) (.k4 2 3 4 10 rfl rfl rfl rfl (.k4 13 14 84 85 rfl rfl rfl rfl (.k 86 rfl .nil))) (.k 5001 rfl .nil) ?_ (fun j_31' hj31 => ?_)
     ·
      obtain ⟨hn32, h⟩ := need_some h
      obtain ⟨v8, hv33, h⟩ := bnd_some h
      refine .block (.sr [oo, oo, ([], [18]), ([18], [18])] mx (.ixA sl23 ty67 rfl rfl hn32 (.rlA hv33 ty67 rfl (.al zo67 rfl (.st ty67 rfl rfl rfl (.nil (.nameBox (t := 18) (g := 5015) rfl rfl (fun m5015 => (.sr [oo, oo, oo, ([5015], []), oo, oo, oo, oo, oo, ([5015], []), oo, oo] mx (.mvA rfl (.cA (.fieldPtr .none fd67_1 (.s rfl)) (.cA (.fieldPtr .none fd65_0 (.s rfl)) (.cA (.loadAt (k := 5015) .none ty9 rfl (.s rfl) (HasField.comp (o2 := 0) hfd67_1 hfd65_0)) (.cA (.lookup .none mo90 zo4 (.s rfl) (.s rfl)) (.mvA rfl (.cA (.move (.at rfl rfl) (.s rfl)) (.cA (.fieldPtr (.at rfl rfl) fd67_2 (.s rfl)) (.cA (.fieldPtr (.at rfl rfl) fd65_0 (.tmp rfl id)) (.cA (.loadAt (k := 5015) (.at rfl rfl) ty9 rfl (.tmp rfl id) (HasField.comp (o2 := 0) hfd67_2 hfd65_0)) (.cA (.lookup (.at rfl rfl) mo90 zo4 (.tmp rfl id) (.tmp rfl id)) (.cA (.pickAnd .none (.s rfl) (.tmp rfl id)) (.nil (.cb rfl h (fun _ h => ?_) fun _ h => ?_)))))))))))))))))))))))
      ·
       obtain ⟨hn35, h⟩ := need_some h
       obtain ⟨v9, hv36, h⟩ := bnd_some h
       obtain ⟨x1, hv37, h⟩ := bnd_some h
       obtain ⟨hn38, h⟩ := need_some h
       obtain ⟨v10, hv39, h⟩ := bnd_some h
       obtain ⟨x2, hv40, h⟩ := bnd_some h
       obtain ⟨hn41, h⟩ := need_some h
       obtain ⟨v11, hv42, h⟩ := bnd_some h
       obtain ⟨x3, hv43, h⟩ := bnd_some h
       obtain ⟨r2, hv44, h⟩ := bind_some h
       obtain ⟨hn45, h⟩ := need_some h
       refine .sr [oo, ([5015], []), oo, oo, oo, ([5015], [5015])] mx (.cA (.fieldPtr .none fd67_0 (.s rfl)) (.cA (.loadAt (k := 5015) .none ty9 rfl (.s rfl) hfd67_0) (.mvA rfl (.cA (.re hv36 (.addStr .none (.s rfl) (.s rfl) (fun _ => hn35))) (.cA (.fieldPtr .none fd67_0 (.s rfl)) (.cN (.storeAt (g := 5015) ty9 rfl (.s rfl) sf67_0 (.s rfl)) (.nil (.reB (t := 5015) rfl (congrArg (fun y => boxAt m5015 67 y) hv37) (.sr [oo, oo, ([5015], []), oo, oo, oo, oo, ([5015], [5015])] mx (.cA (.fieldPtr .none fd67_1 (.s rfl)) (.cA (.fieldPtr .none fd65_0 (.s rfl)) (.cA (.loadAt (k := 5015) .none ty9 rfl (.s rfl) (HasField.comp (o2 := 0) hfd67_1 hfd65_0)) (.mvA rfl (.cA (.re hv39 (.addStr .none (.s rfl) (.s rfl) (fun _ => hn38))) (.cA (.fieldPtr .none fd67_1 (.s rfl)) (.cA (.fieldPtr .none fd65_0 (.s rfl)) (.cN (.storeAt (g := 5015) ty9 rfl (.s rfl) (SetField.comp (o2 := 0) hfd67_1 sf67_1 sf65_0) (.s rfl)) (.nil (.reB (t := 5015) rfl (congrArg (fun y => boxAt m5015 67 y) hv40) (.sr [oo, oo, ([5015], []), oo, oo, oo, oo, ([5015], [5015])] mx (.cA (.fieldPtr .none fd67_2 (.s rfl)) (.cA (.fieldPtr .none fd65_0 (.s rfl)) (.cA (.loadAt (k := 5015) .none ty9 rfl (.s rfl) (HasField.comp (o2 := 0) hfd67_2 hfd65_0)) (.mvA rfl (.cA (.re hv42 (.addStr .none (.s rfl) (.s rfl) (fun _ => hn41))) (.cA (.fieldPtr .none fd67_2 (.s rfl)) (.cA (.fieldPtr .none fd65_0 (.s rfl)) (.cN (.storeAt (g := 5015) ty9 rfl (.s rfl) (SetField.comp (o2 := 0) hfd67_2 sf67_2 sf65_0) (.s rfl)) (.nil (.reB (t := 5015) rfl (congrArg (fun y => boxAt m5015 67 y) hv43) (.sr [oo, ([5015], []), oo, oo, oo, oo, ([5015], [5015])] mx (.cA (.fieldPtr .none fd67_3 (.s rfl)) (.cA (.loadAt (k := 5015) .none ty59 rfl (.s rfl) hfd67_3) (.mvA rfl (.mvA rfl (.cA (.call .none (ref_shifted_ok hv44) (.cons (.s rfl) (.cons (.s rfl) (.cons (.s rfl) .nil)))) ?_))))))))))))))))))))))))))))))))))))
       exact .cA (.fieldPtr .none fd67_3 (.s rfl)) (.cN (.storeAt (g := 5015) ty59 rfl (.s rfl) sf67_3 (.s rfl)) (.nil (.freezeBox (g := 5015) (ts := [18]) rfl (.cons (t := 18) rfl trivial .nil) (.k2 5001 5002 rfl rfl (.k2 5013 5014 rfl rfl .nil)) rfl (.rg [oo, ([5002], []), oo, oo, ([5014], [131, 5014]), oo, ([5002, 131], [5002, 131])] mx (.cA (.fieldPtr .none fd25_1 (.s rfl)) (.cA (.loadAt (k := 5002) .none tr23 rfl (.s rfl) hv_Doc_o01_1) (.ldA ty67 rfl (.cA (.buildSlice (xs := [_]) .none sl23 ty67 hz67 (.cons (.s rfl) .nil) rfl (by decide)) (.cW (.append (k := 5014) rk23 rfl (.told (.s rfl) rfl) (.s rfl) hn45) (.cA (.fieldPtr .none fd25_1 (.s rfl)) (.cN (.storeRow (k := 5002) (t := 131) ty23 rfl (.s rfl) sv_Doc_o01_1 rfl rfl) (.nil (.blkNormal (.open (k := 5002) (g := 5016) rfl rfl (fun s5016 => (.close (k := 5002) (g := 5016) (fun z => cont 25 (⟨⟨s5013⟩, ⟨z⟩⟩ : Doc_o01)) rfl rfl rfl (.close (k := 5002) (g := 5013) (fun z => deep (fun z0 => cont 25 (⟨⟨z⟩, ⟨z0⟩⟩ : Doc_o01)) (rowV 67 (p29_.2.Edges ++ [{ x3 with Bends := r2 }]))) rfl rfl rfl (Ends.j _ (some_eq h)))))))))))))))))))
      ·
       exact .skip (.blkNormal (.close (k := 5002) (g := 5014) (fun z => cont 25 (⟨⟨s5013⟩, ⟨z⟩⟩ : Doc_o01)) rfl rfl rfl (.close (k := 5002) (g := 5013) (fun z => deep (fun z0 => cont 25 (⟨⟨z⟩, ⟨z0⟩⟩ : Doc_o01)) (rowV 67 p29_.2.Edges)) rfl rfl rfl (Ends.j _ (some_eq h)))))
     ·
      subst hj31; have h := hK31; clear hK31
      exact .open (k := 5002) (g := 5017) rfl rfl (fun s5017 => (.open (k := 5002) (g := 5018) rfl rfl (fun s5018 => (.rn mx (.adi rfl (.mv rfl (.nil (.close (k := 5002) (g := 5018) (fun z => cont 25 (⟨⟨s5017⟩, ⟨z⟩⟩ : Doc_o01)) rfl rfl rfl (.close (k := 5002) (g := 5017) (fun z => deep (fun z0 => cont 25 (⟨⟨z⟩, ⟨z0⟩⟩ : Doc_o01)) (rowV 67 j_31.Edges)) rfl rfl rfl (Ends.ag (some_eq h)))))))))))
    ·
     refine .exit (.thenExit (.thenExit (.blkExit (.close (k := 5002) (g := 5014) (fun z => cont 25 (⟨⟨s5013⟩, ⟨z⟩⟩ : Doc_o01)) rfl rfl rfl (.close (k := 5002) (g := 5013) (fun z => deep (fun z0 => cont 25 (⟨⟨z⟩, ⟨z0⟩⟩ : Doc_o01)) (rowV 67 p29_.2.Edges)) rfl rfl rfl ?_)))))
     replace h := hD29 _ (some_eq h)
     exact Ends.j _ (some_eq h)
   ·
    subst hj28; have h := hK28; clear hK28
    refine .freezeAt (g := 5002) (S := ref ({ j_28 with Nodes := j_28.Nodes, Edges := j_28.Edges } : Doc)) (ts := [14]) rfl (.cons (t := 14) rfl trivial .nil) (.k 5001 rfl .nil) rfl (fun M D w h hms => deep_ref2 (mk := (fun s1_ s2_ => (⟨⟨s1_⟩, ⟨s2_⟩⟩ : Doc_o01))) (y := ({ j_28 with Nodes := j_28.Nodes, Edges := j_28.Edges } : Doc)) frzRow frzRow rfl (fun M s1_ s2_ cs w hc g1 g2 => by obtain ⟨c0, q0, e0, h0, h1⟩ := hc; exact ⟨c0, q0, e0, raw_cells rfl rfl h0 g1, raw_cells rfl rfl h1 g2⟩) M D w h hms) ?_
    obtain ⟨e2, hv46, h⟩ := bind_some h
    refine .seq (.sn mx (.ld ty25 rfl (.c (.call .none (ref_DocError_ok hv46) (.cons (.s rfl) .nil)) (.asn rfl (.nil (.sn mx (.mv rfl (.nei rfl (.nil (.cb rfl h (fun _ h => ?_) fun _ h => ?_))))))))))
    ·
     obtain ⟨v12, hv48, h⟩ := bnd_some h
     refine .sr [oo, oo, ([5001], [5001]), oo] mx (.cA (.re hv48 (.buildF (y := (⟨([] : (List DNode)), ([] : (List DEdge))⟩ : Doc)) .none bu25 zc25 rfl .nil .nil)) (.mvA rfl (.s0 5001 ty25 rfl rfl rfl (.asnA rfl (.nil (.fb 5001 [10] rfl (.cons (t := 10) rfl trivial .nil) (.ret (.thenRet ?_))))))))
     obtain rfl := some_eq h
     exact Ends.r2 Tryz.results46 ty25 rfl rfl
    ·
     obtain ⟨v13, hv49, h⟩ := bnd_some h
     refine .skip (.then (.sr [oo, ([5001], [5001]), oo] mx (.rlA hv49 ty25 rfl (.s0 5001 ty25 rfl rfl rfl (.cA (.assign .none .i) (.nil (.fb 5001 [10] rfl (.cons (t := 10) rfl trivial .nil) (.ret ?_))))))))
     obtain rfl := some_eq h
     exact Ends.r2 Tryz.results46 ty25 rfl rfl


end Go.Proofs.YtclcheggnlhamaaGreatDoor
