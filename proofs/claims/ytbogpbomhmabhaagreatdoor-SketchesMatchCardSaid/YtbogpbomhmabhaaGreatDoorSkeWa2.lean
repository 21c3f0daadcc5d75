/-
  The walks: what a function computes is what its plain function says (printed by a program of one's own).
-/
import Derived.Test.YtbogpbomhmabhaaGreatDoorSkeWa1
set_option maxRecDepth 100000
set_option linter.unusedSimpArgs false
set_option linter.unusedVariables false
namespace Go.Proofs.YtbogpbomhmabhaaGreatDoor
open Go Go.DB Go.RowKit

theorem ref_above_ok {d1 : Doc} {n1 : DNode} {r : (Int × Bool)}  (h : ref_above d1 n1 = some r) : FSpec Tryz.prog 48 [rep d1, rep n1] (tup [rep r.1, rep r.2]) := by
 unfold ref_above at h
 refine FSpec.i Tryz.func48 rfl Tryz.ntmps48 rfl (fun F => (.sn mx (.c (.box .none (.s rfl)) (.c (.box .none (.s rfl)) (.asi (.asb (.nil (.sn mx (.fa fd40_5 hfd40_5 rfl (.ld ty9 rfl (.asn rfl (.nil (.seq ?_)))))))))))))
 obtain ⟨o_1, h, hK1⟩ := bindR_some h
 refine .thenJ (ι := Int) (fun j_1 => [(4, ⟨True, rep j_1⟩)]) (fun j_1 => []) (fun s => o_1 = Res.nx s) Sub.nil SubB.nil ?_ (fun j_1 hj1 => ?_)
 ·
  refine .block (.loopL h (fun s2_ => [(4, ⟨True, rep s2_.1⟩), (6, ⟨True, rep s2_.2⟩)]) (fun s2_ => []) (.k2 4 6 rfl rfl .nil) SubB.nil (.k2 2 3 rfl rfl .nil) SubB.nil (fun s2_ o_2 h hD2 => ?_))
  unfold ref_above_L1 at h
  refine .seq (.sn mx (.mv rfl (.c (.neS .none (eqAt_str Tryz.underlying9) (.s rfl) (.str (l := []) (by decide))) (.nil (.cb rfl h (fun _ h => ?_) fun _ h => ?_)))))
  ·
   obtain ⟨many1, hv4, h⟩ := bnd_some h
   refine .skip (.then (.block (.seq (.sn mx (.mv rfl (.adi rfl (.ra hv4 rfl (.nil (.sn mx (.mv rfl (.fa fd40_0 hfd40_0 rfl (.ld ty9 rfl (.c (.eqS .none (eqAt_str Tryz.underlying9) (.s rfl) (.s rfl)) (.mv rfl (.mg rfl rfl rfl (.fg fd25_0 hfd25_0 rfl rfl rfl (.lg ty22 rfl rfl rfl (.c (.len (.at rfl rfl) sl22 (.tmp rfl id)) (.c (.gt (.at rfl rfl) (.tmp rfl id) (.tmp rfl id)) (.po rfl rfl (.nil (.cb rfl h (fun _ h => ?_) fun _ h => ?_))))))))))))))))))))))
   ·
    refine .sn mx (.mv rfl (.mv rfl (.fa fd40_0 hfd40_0 rfl (.ld ty9 rfl (.c (.eqS .none (eqAt_str Tryz.underlying9) (.s rfl) (.s rfl)) (.asn rfl (.asn rfl (.nil (.ret (.thenRet (.blkRet (.thenRet (.blkRet (.thenRet ?_))))))))))))))
    replace h := hD2 _ (some_eq h)
    replace h := resb_ab hK1 (some_eq h)
    obtain rfl := some_eq h
    exact Ends.ret2 (.inl rfl) Tryz.results48 (ResOK.tmp rfl trivial Imp.refl) (ResOK.tmp rfl trivial Imp.refl)
   ·
    obtain ⟨r1, hv6, h⟩ := bind_some h
    obtain ⟨hn7, h⟩ := need_some h
    obtain ⟨id1, hv8, h⟩ := bnd_some h
    exact .skip (.then (.rn mx (.fa fd25_0 hfd25_0 rfl (.ld ty22 rfl (.ld ty25 rfl (.mv rfl (.c (.call .none (ref_NodeAt_ok hv6) (.cons (.s rfl) (.cons (.s rfl) .nil))) (.ix sl22 ty40 rfl rfl hn7 (.fa fd40_5 hfd40_5 rfl (.ld ty9 rfl (.ra hv8 rfl (.nil (.blkNormal (Ends.ag (some_eq h)))))))))))))))
  ·
   refine .exit (.thenExit (.thenExit (.blkExit ?_)))
   replace h := hD2 _ (some_eq h)
   exact Ends.j _ (some_eq h)
 ·
  have h := resb_nx hK1 hj1
  refine .sn mx (.mv rfl (.asn rfl (.asb (.nil (.ret ?_)))))
  obtain rfl := some_eq h
  exact Ends.ret2 (.inl rfl) Tryz.results48 (ResOK.tmp rfl trivial Imp.refl) (ResOK.tmp rfl trivial Imp.refl)

theorem ref_members_ok {d1 : Doc} {id1 : Str} {r : (List DNode)}  (h : ref_members d1 id1 = some r) : FSpecO Tryz.prog 49 [rep d1, rep id1] [] (anyV) [some (rowV 40 r)] := by
 unfold ref_members at h
 refine FSpecO.i Tryz.func49 rfl Tryz.ntmps49 rfl (fun F => (.sn mx (.c (.box .none (.s rfl)) (.c (.assign .none (.const (x := ([] : (List DNode))) (fun M w => ⟨_, ⟨none, 0, rfl, Nat.le_refl _, by decide, rfl⟩, rfl⟩))) (.nil (.sr [([], [5])] mx (.cW (.nilRow (T := 40) (α := DNode) rfl) (.nil (.nameRow (t := 5) (g := 5001) rfl rfl rfl (fun s5001 => (.seq (.sn mx (.fa fd25_0 hfd25_0 rfl (.ld ty22 rfl (.ln sl22 rfl (.mvi (.nil ?_)))))))))))))))))
 obtain ⟨j_1, h, hK1⟩ := bind_some h
 refine .thenJ (ι := (List DNode)) (fun j_1 => []) (fun j_1 => [(5, some (rowV 40 j_1))]) (fun s => j_1 = s) Sub.nil SubB.nil ?_ (fun j_1' hj1 => ?_)
 ·
  refine .block (.anon (t := 5) (g := 5001) rfl rfl trivial rfl (.rforL h (fun p2_ => [(11, ⟨True, rep p2_.1⟩)]) (fun p2_ => [(5, some (rowV 40 p2_.2))]) (.k 11 rfl .nil) (.k 5 rfl .nil) (.k2 1 9 rfl rfl (.k 10 rfl .nil)) SubB.nil (fun p2_ o_2 h hD2 => (.nameRow (t := 5) (g := 5002) rfl rfl rfl (fun s5002 => (.sn mx (.lt rfl rfl (.nil (.seq (.cb rfl h (fun _ h => ?_) fun _ h => ?_))))))))))
  ·
   refine .skip (.then (.seq ?_))
   obtain ⟨j_4, h, hK4⟩ := bind_some h
   unfold ref_members_L1 at h
   refine .thenJ (ι := (List DNode)) (fun j_4 => []) (fun j_4 => [(5, some (rowV 40 j_4))]) (fun s => j_4 = s) (.k4 1 9 10 11 rfl rfl rfl rfl .nil) SubB.nil ?_ (fun j_4' hj4 => ?_)
   ·
    obtain ⟨hn5, h⟩ := need_some h
    obtain ⟨v1, hv6, h⟩ := bnd_some h
    refine .block (.sr [oo, oo, ([], [7]), ([7], [7])] mx (.ixA sl22 ty40 rfl rfl hn5 (.rlA hv6 ty40 rfl (.al zo40 rfl (.st ty40 rfl rfl rfl (.nil (.freeze (t := 7) rfl rfl (.k 5002 rfl .nil) rfl (.sn mx (.fa fd40_5 hfd40_5 rfl (.ld ty9 rfl (.mv rfl (.c (.eqS .none (eqAt_str Tryz.underlying9) (.s rfl) (.s rfl)) (.nil (.cb rfl h (fun _ h => ?_) fun _ h => ?_))))))))))))))
    ·
     obtain ⟨hn8, h⟩ := need_some h
     exact .rg [oo, oo, oo, ([5002], [22, 5002]), ([22], [5, 22])] mx (.mvA rfl (.ldA ty40 rfl (.cA (.buildSlice (xs := [_]) .none sl22 ty40 hz40 (.cons (.s rfl) .nil) rfl (by decide)) (.cW (.append (k := 5002) rk22 rfl (.told (.s rfl) rfl) (.s rfl) hn8) (.cW (.passRow rfl (.tmp rfl)) (.nil (.blkNormal (Ends.j _ (some_eq h)))))))))
    ·
     exact .skip (.blkNormal (.anon (t := 5) (g := 5002) rfl rfl trivial rfl (Ends.j _ (some_eq h))))
   ·
    subst hj4; have h := hK4; clear hK4
    exact .nameRow (t := 5) (g := 5003) rfl rfl rfl (fun s5003 => (.rn mx (.adi rfl (.mv rfl (.nil (.anon (t := 5) (g := 5003) rfl rfl trivial rfl (Ends.ag (some_eq h))))))))
  ·
   refine .exit (.thenExit (.thenExit (.blkExit (.anon (t := 5) (g := 5002) rfl rfl trivial rfl ?_))))
   replace h := hD2 _ (some_eq h)
   exact Ends.j _ (some_eq h)
 ·
  subst hj1; have h := hK1; clear hK1
  refine .nameRow (t := 5) (g := 5004) rfl rfl rfl (fun s5004 => (.sn mx (.mv rfl (.asn rfl (.nil (.ret (.anon (t := 4) (g := 5004) rfl rfl trivial rfl ?_)))))))
  obtain rfl := some_eq h
  exact Ends.ret1O (.inl rfl) [4] Tryz.results49 (by decide) (.res rfl rfl) (ResOK.tmp rfl trivial (fun _ _ _ _ => trivial))

theorem ref_treeError_ok {d1 : Doc} {r : Int}  (h : ref_treeError d1 = some r) : FSpec Tryz.prog 21 [rep d1] (rep r) := by
 unfold ref_treeError at h
 refine FSpec.i Tryz.func21 rfl Tryz.ntmps21 rfl (fun F => (.sn mx (.c (.box .none (.s rfl)) (.asi (.nil (.seq (.sn mx (.fa fd25_0 hfd25_0 rfl (.ld ty22 rfl (.ln sl22 rfl (.mvi (.nil ?_))))))))))))
 obtain ⟨o_1, h, hK1⟩ := bindR_some h
 refine .tJ (fun s => o_1 = Res.nx s) (.k 1 rfl .nil) SubB.nil ?_ (fun j_1 hj1 => ?_)
 ·
  refine .block (.rforEL h (fun p2_ => [(19, ⟨True, rep p2_.1⟩)]) (fun p2_ => []) (.k 19 rfl .nil) SubB.nil (.k2 1 17 rfl rfl (.k 18 rfl .nil)) SubB.nil (fun p2_ o_2 h hD2 => (.sn mx (.lt rfl rfl (.nil (.seq (.cb rfl h (fun _ h => ?_) fun _ h => ?_)))))))
  ·
   refine .skip (.then (.seq ?_))
   obtain ⟨o_4, h, hK4⟩ := bindD_some h
   unfold ref_treeError_L1 at h
   refine .tJ (fun s => o_4 = Res.nx s) (.k4 1 17 18 19 rfl rfl rfl rfl .nil) SubB.nil ?_ (fun j_4 hj4 => ?_)
   ·
    obtain ⟨hn5, h⟩ := need_some h
    obtain ⟨v1, hv6, h⟩ := bnd_some h
    obtain ⟨k1, hv7, h⟩ := bind_some h
    obtain ⟨hn8, h⟩ := need_some h
    refine .block (.sr [oo, oo, ([], [4]), ([4], [4])] mx (.ixA sl22 ty40 rfl rfl hn5 (.rlA hv6 ty40 rfl (.al zo40 rfl (.st ty40 rfl rfl rfl (.nil (.freeze (t := 4) rfl rfl SubB.nil rfl (.sn mx (.ld ty25 rfl (.fa fd40_5 hfd40_5 rfl (.ld ty9 rfl (.c (.call .none (ref_NodeAt_ok hv7) (.cons (.s rfl) (.cons (.s rfl) .nil))) (.asn rfl (.nil (.sn mx (.fa fd40_5 hfd40_5 rfl (.ld ty9 rfl (.c (.neS .none (eqAt_str Tryz.underlying9) (.s rfl) (.str (l := []) (by decide))) (.mv rfl (.mg rfl rfl rfl (.c (.lt (.at rfl rfl) (.tmp rfl id) .i) (.c (.move (.at rfl rfl) (.tmp rfl id)) (.fg fd25_0 hfd25_0 rfl rfl rfl (.lg ty22 rfl rfl rfl (.mg rfl rfl rfl (.c (.indexAddr (.at rfl rfl) sl22 ty40 (.tmp rfl id) (.tmp rfl id) (fun hg => hn8 hg.1.2 hg.2)) (.c (.fieldAddr (.at rfl rfl) fd40_1 hfd40_1 (.tmp rfl id)) (.lg ty3 rfl rfl rfl (.c (.neI (.at rfl rfl) (.tmp rfl id) .i) (.c (.pickOr (.at rfl rfl) (.tmp rfl id) (.tmp rfl id)) (.pa rfl rfl (.nil (.cb rfl h (fun _ h => ?_) fun _ h => ?_)))))))))))))))))))))))))))))))))
    ·
     refine .sn mx (.asi (.nil (.ret (.blkRet (.thenRet (.thenRet (.blkRet (.thenRet ?_))))))))
     replace h := resd_ab hK4 (some_eq h)
     replace h := hD2 _ (some_eq h)
     replace h := resb_ab hK1 (some_eq h)
     obtain rfl := some_eq h
     exact Ends.rt Tryz.results21 rfl
    ·
     exact .skip (.blkNormal (Ends.j _ (some_eq h)))
   ·
    have h := resd_nx hK4 hj4
    exact .rn mx (.adi rfl (.mv rfl (.nil (Ends.ag (some_eq h)))))
  ·
   refine .exit (.thenExit (.thenExit (.blkExit ?_)))
   replace h := hD2 _ (some_eq h)
   exact Ends.j _ (some_eq h)
 ·
  have h := resb_nx hK1 hj1
  refine .seq (.sn mx (.fa fd25_0 hfd25_0 rfl (.ld ty22 rfl (.ln sl22 rfl (.mvi (.nil ?_))))))
  obtain ⟨o_10, h, hK10⟩ := bindR_some h
  refine .tJ (fun s => o_10 = Res.nx s) (.k 1 rfl .nil) SubB.nil ?_ (fun j_10 hj10 => ?_)
  ·
   refine .block (.rforEL h (fun p11_ => [(47, ⟨True, rep p11_.1⟩)]) (fun p11_ => []) (.k 47 rfl .nil) SubB.nil (.k2 1 45 rfl rfl (.k 46 rfl .nil)) SubB.nil (fun p11_ o_11 h hD11 => (.sn mx (.lt rfl rfl (.nil (.seq (.cb rfl h (fun _ h => ?_) fun _ h => ?_)))))))
   ·
    refine .skip (.then (.seq ?_))
    obtain ⟨o_13, h, hK13⟩ := bindD_some h
    unfold ref_treeError_L2 at h
    refine .tJ (fun s => o_13 = Res.nx s) (.k4 1 45 46 47 rfl rfl rfl rfl .nil) SubB.nil ?_ (fun j_13 hj13 => ?_)
    ·
     obtain ⟨hn14, h⟩ := need_some h
     obtain ⟨v2, hv15, h⟩ := bnd_some h
     obtain ⟨r1, hv16, h⟩ := bind_some h
     refine .block (.sr [oo, oo, ([], [7]), ([7], [7])] mx (.ixA sl22 ty40 rfl rfl hn14 (.rlA hv15 ty40 rfl (.al zo40 rfl (.st ty40 rfl rfl rfl (.nil (.freeze (t := 7) rfl rfl SubB.nil rfl (.sn mx (.ld ty25 rfl (.ld ty40 rfl (.c (.call .none (ref_above_ok hv16) (.cons (.s rfl) (.cons (.s rfl) .nil))) (.mv rfl (.ex rfl rfl (.ex rfl rfl (.asn rfl (.asn rfl (.nil (.sn mx (.mv rfl (.nil (.cb rfl h (fun _ h => ?_) fun _ h => ?_)))))))))))))))))))))
     ·
      refine .sn mx (.asi (.nil (.ret (.blkRet (.thenRet (.thenRet (.blkRet (.thenRet ?_))))))))
      replace h := resd_ab hK13 (some_eq h)
      replace h := hD11 _ (some_eq h)
      replace h := resb_ab hK10 (some_eq h)
      obtain rfl := some_eq h
      exact Ends.rt Tryz.results21 rfl
     ·
      exact .skip (.blkNormal (Ends.j _ (some_eq h)))
    ·
     have h := resd_nx hK13 hj13
     exact .rn mx (.adi rfl (.mv rfl (.nil (Ends.ag (some_eq h)))))
   ·
    refine .exit (.thenExit (.thenExit (.blkExit ?_)))
    replace h := hD11 _ (some_eq h)
    exact Ends.j _ (some_eq h)
  ·
   have h := resb_nx hK10 hj10
   refine .seq (.sn mx (.fa fd25_0 hfd25_0 rfl (.ld ty22 rfl (.ln sl22 rfl (.mvi (.nil ?_))))))
   obtain ⟨o_18, h, hK18⟩ := bindR_some h
   refine .tJ (fun s => o_18 = Res.nx s) (.k 1 rfl .nil) SubB.nil ?_ (fun j_18 hj18 => ?_)
   ·
    refine .block (.rforEL h (fun p19_ => [(62, ⟨True, rep p19_.1⟩)]) (fun p19_ => []) (.k 62 rfl .nil) SubB.nil (.k2 1 60 rfl rfl (.k 61 rfl .nil)) SubB.nil (fun p19_ o_19 h hD19 => (.sn mx (.lt rfl rfl (.nil (.seq (.cb rfl h (fun _ h => ?_) fun _ h => ?_)))))))
    ·
     refine .skip (.then (.seq ?_))
     obtain ⟨o_21, h, hK21⟩ := bindD_some h
     unfold ref_treeError_L3 at h
     refine .tJ (fun s => o_21 = Res.nx s) (.k4 1 60 61 62 rfl rfl rfl rfl .nil) SubB.nil ?_ (fun j_21 hj21 => ?_)
     ·
      obtain ⟨hn22, h⟩ := need_some h
      obtain ⟨v3, hv23, h⟩ := bnd_some h
      obtain ⟨r2, hv24, h⟩ := bind_some h
      refine .block (.sr [oo, oo, ([], [11]), ([11], [11])] mx (.ixA sl22 ty40 rfl rfl hn22 (.rlA hv23 ty40 rfl (.al zo40 rfl (.st ty40 rfl rfl rfl (.nil (.freeze (t := 11) rfl rfl SubB.nil rfl (.sn mx (.ld ty25 rfl (.ld ty40 rfl (.c (.call .none (ref_above_ok hv24) (.cons (.s rfl) (.cons (.s rfl) .nil))) (.mv rfl (.ex rfl rfl (.ex rfl rfl (.asn rfl (.asn rfl (.nil (.sn mx (.mv rfl (.c (.gt .none (.s rfl) .i) (.nil (.cb rfl h (fun _ h => ?_) fun _ h => ?_))))))))))))))))))))))
      ·
       refine .sn mx (.asi (.nil (.ret (.blkRet (.thenRet (.thenRet (.blkRet (.thenRet ?_))))))))
       replace h := resd_ab hK21 (some_eq h)
       replace h := hD19 _ (some_eq h)
       replace h := resb_ab hK18 (some_eq h)
       obtain rfl := some_eq h
       exact Ends.rt Tryz.results21 rfl
      ·
       exact .skip (.blkNormal (Ends.j _ (some_eq h)))
     ·
      have h := resd_nx hK21 hj21
      exact .rn mx (.adi rfl (.mv rfl (.nil (Ends.ag (some_eq h)))))
    ·
     refine .exit (.thenExit (.thenExit (.blkExit ?_)))
     replace h := hD19 _ (some_eq h)
     exact Ends.j _ (some_eq h)
   ·
    have h := resb_nx hK18 hj18
    refine .seq (.sn mx (.fa fd25_0 hfd25_0 rfl (.ld ty22 rfl (.ln sl22 rfl (.mvi (.nil ?_))))))
    obtain ⟨o_26, h, hK26⟩ := bindR_some h
    refine .tJ (fun s => o_26 = Res.nx s) Sub.nil SubB.nil ?_ (fun j_26 hj26 => ?_)
    ·
     refine .block (.rforEL h (fun p27_ => [(78, ⟨True, rep p27_.1⟩)]) (fun p27_ => []) (.k 78 rfl .nil) SubB.nil (.k2 1 76 rfl rfl (.k 77 rfl .nil)) SubB.nil (fun p27_ o_27 h hD27 => (.sn mx (.lt rfl rfl (.nil (.seq (.cb rfl h (fun _ h => ?_) fun _ h => ?_)))))))
     ·
      refine .skip (.then (.seq ?_))
      obtain ⟨o_29, h, hK29⟩ := bindD_some h
      unfold ref_treeError_L4 at h
      refine .tJ (fun s => o_29 = Res.nx s) (.k4 1 76 77 78 rfl rfl rfl rfl .nil) SubB.nil ?_ (fun j_29 hj29 => ?_)
      ·
       obtain ⟨hn30, h⟩ := need_some h
       obtain ⟨v4, hv31, h⟩ := bnd_some h
       obtain ⟨r3, hv32, h⟩ := bind_some h
       refine .block (.sr [oo, oo, ([], [15]), ([15], [15])] mx (.ixA sl22 ty40 rfl rfl hn30 (.rlA hv31 ty40 rfl (.al zo40 rfl (.st ty40 rfl rfl rfl (.nil (.freeze (t := 15) rfl rfl SubB.nil rfl (.sn mx (.fa fd40_1 hfd40_1 rfl (.ld ty3 rfl (.eqi rfl (.mv rfl (.c (.load (.at rfl rfl) ty25 (.s rfl)) (.fg fd40_0 hfd40_0 rfl rfl rfl (.lg ty9 rfl rfl rfl (.c (.callIf (.at rfl rfl) fnok49 (fun hg => (ref_members_ok ((fun hg => gd_some hv32 (hg.2)) hg)).frz) (.cons (.tmp rfl id) (.cons (.tmp rfl id) .nil)) (fun h => h)) (.c (.len (.at rfl rfl) sl22 (.tmp rfl id)) (.c (.eqI (.at rfl rfl) (.tmp rfl id) .i) (.pa rfl rfl (.nil (.cb rfl h (fun _ h => ?_) fun _ h => ?_)))))))))))))))))))))
       ·
        refine .sn mx (.asi (.nil (.ret (.blkRet (.thenRet (.thenRet (.blkRet (.thenRet ?_))))))))
        replace h := resd_ab hK29 (some_eq h)
        replace h := hD27 _ (some_eq h)
        replace h := resb_ab hK26 (some_eq h)
        obtain rfl := some_eq h
        exact Ends.rt Tryz.results21 rfl
       ·
        exact .skip (.blkNormal (Ends.j _ (some_eq h)))
      ·
       have h := resd_nx hK29 hj29
       exact .rn mx (.adi rfl (.mv rfl (.nil (Ends.ag (some_eq h)))))
     ·
      refine .exit (.thenExit (.thenExit (.blkExit ?_)))
      replace h := hD27 _ (some_eq h)
      exact Ends.j _ (some_eq h)
    ·
     have h := resb_nx hK26 hj26
     refine .sn mx (.asi (.nil (.ret ?_)))
     obtain rfl := some_eq h
     exact Ends.rt Tryz.results21 rfl

theorem ref_edgeError_1_ok {y1 : DEdge} {c0_1 : DEdge} {r : Bool}  (h : ref_edgeError_1 y1 c0_1 = some r) : FSpec Tryz.prog 51 [rep y1, ref c0_1] (rep r) := by
 unfold ref_edgeError_1 at h
 refine FSpec.i Tryz.func51 rfl Tryz.ntmps51 rfl (fun F => (.sn mx (.c (.box .none (.s rfl)) (.asb (.nil (.sn mx (.fa fd79_0 hfd79_0 rfl (.ld ty9 rfl (.fa fd79_0 hfd79_0 rfl (.ld ty9 rfl (.c (.eqS .none (eqAt_str Tryz.underlying9) (.s rfl) (.s rfl)) (.asn rfl (.nil (.ret ?_))))))))))))))
 obtain rfl := some_eq h
 exact Ends.rt Tryz.results51 rfl

theorem slices_ContainsFunc_Edge_ok {s1 : (List DEdge)} {f1 : (DEdge → Option Bool)} {r : Bool}  (h : slices_ContainsFunc_Edge s1 f1 = some r) : FSpec Tryz.prog 50 [rep s1, fn1 Tryz.prog (rep (α := Bool)) f1] (rep r) := by
 unfold slices_ContainsFunc_Edge at h
 obtain ⟨r1, hv1, h⟩ := bind_some h
 refine FSpec.i Tryz.func50 rfl Tryz.ntmps50 rfl (fun F => (.sn mx (.asb (.nil (.sn mx (.mv rfl (.mv rfl (.c (.call .none (slices_IndexFunc_Edge_ok hv1) (.cons (.s rfl) (.cons (.s rfl) .nil))) (.c (.ge .none (.s rfl) .i) (.asn rfl (.nil (.ret ?_))))))))))))
 obtain rfl := some_eq h
 exact Ends.rt Tryz.results50 rfl

theorem ref_PortError_ok {side1 : Int} {at1 : Int} {r : Int}  (h : ref_PortError side1 at1 = some r) : FSpec Tryz.prog 52 [rep side1, rep at1] (rep r) := by
 unfold ref_PortError at h
 obtain ⟨r1, hv1, h⟩ := bind_some h
 obtain ⟨r2, hv2, h⟩ := bind_some h
 refine FSpec.i Tryz.func52 rfl Tryz.ntmps52 rfl (fun F => (.sn mx (.asi (.nil (.sn mx (.mv rfl (.c (.call .none (ref_In_ok hv1) (.cons (.s rfl) (.cons .i (.cons .i .nil)))) (.c (.not .none (.s rfl)) (.mv rfl (.mg rfl rfl rfl (.c (.callIf (.at rfl rfl) fnok8 (fun hg => ref_In_ok ((fun hg => gd_some hv2 ((notT hg.2))) hg)) (.cons (.tmp rfl id) (.cons .i (.cons .i .nil))) (fun h => h)) ?_)))))))))))
 obtain ⟨r3, hv3, h⟩ := bind_some h
 refine .c (.not (.at rfl rfl) (.tmp rfl id)) (.po rfl rfl (.c (.call .none (ref_When_ok hv3) (.cons (.s rfl) (.cons .i .nil))) (.asn rfl (.nil (.ret ?_)))))
 obtain rfl := some_eq h
 exact Ends.rt Tryz.results52 rfl

theorem ref_PointsError_ok {l1 : (List Point)} {r : Int}  (h : ref_PointsError l1 = some r) : FSpec Tryz.prog 53 [rep l1] (rep r) := by
 unfold ref_PointsError at h
 refine FSpec.i Tryz.func53 rfl Tryz.ntmps53 rfl (fun F => (.sn mx (.asi (.nil (.seq (.sn mx (.mv rfl (.ln sl77 rfl (.c (.gt .none (.s rfl) .i) (.nil (.cb rfl h (fun _ h => ?_) fun _ h => ?_)))))))))))
 ·
  refine .sn mx (.asi (.nil (.ret (.thenRet ?_))))
  obtain rfl := some_eq h
  exact Ends.rt Tryz.results53 rfl
 ·
  refine .skip (.then (.seq (.sn mx (.mv rfl (.ln sl77 rfl (.mvi (.nil ?_)))))))
  obtain ⟨o_2, h, hK2⟩ := bindR_some h
  refine .tJ (fun s => o_2 = Res.nx s) Sub.nil SubB.nil ?_ (fun j_2 hj2 => ?_)
  ·
   refine .block (.rforEL h (fun p3_ => [(11, ⟨True, rep p3_.1⟩)]) (fun p3_ => []) (.k 11 rfl .nil) SubB.nil (.k2 9 10 rfl rfl .nil) SubB.nil (fun p3_ o_3 h hD3 => (.sn mx (.lt rfl rfl (.nil (.seq (.cb rfl h (fun _ h => ?_) fun _ h => ?_)))))))
   ·
    refine .skip (.then (.seq ?_))
    obtain ⟨o_5, h, hK5⟩ := bindD_some h
    unfold ref_PointsError_L1 at h
    refine .tJ (fun s => o_5 = Res.nx s) (.k2 9 10 rfl rfl (.k 11 rfl .nil)) SubB.nil ?_ (fun j_5 hj5 => ?_)
    ·
     obtain ⟨hn6, h⟩ := need_some h
     obtain ⟨v1, hv7, h⟩ := bnd_some h
     obtain ⟨e1, hv8, h⟩ := bind_some h
     refine .block (.sr [oo, oo, ([], [4]), ([4], [4])] mx (.ixA sl77 ty47 rfl rfl hn6 (.rlA hv7 ty47 rfl (.al zo47 rfl (.st ty47 rfl rfl rfl (.nil (.freeze (t := 4) rfl rfl SubB.nil rfl (.sn mx (.ld ty47 rfl (.c (.call .none (ref_PointError_ok hv8) (.cons (.s rfl) .nil)) (.asn rfl (.nil (.sn mx (.mv rfl (.nei rfl (.nil (.cb rfl h (fun _ h => ?_) fun _ h => ?_)))))))))))))))))
     ·
      refine .sn mx (.mv rfl (.asn rfl (.nil (.ret (.blkRet (.thenRet (.thenRet (.blkRet (.thenRet ?_)))))))))
      replace h := resd_ab hK5 (some_eq h)
      replace h := hD3 _ (some_eq h)
      replace h := resb_ab hK2 (some_eq h)
      obtain rfl := some_eq h
      exact Ends.rt Tryz.results53 rfl
     ·
      exact .skip (.blkNormal (Ends.j _ (some_eq h)))
    ·
     have h := resd_nx hK5 hj5
     exact .rn mx (.adi rfl (.mv rfl (.nil (Ends.ag (some_eq h)))))
   ·
    refine .exit (.thenExit (.thenExit (.blkExit ?_)))
    replace h := hD3 _ (some_eq h)
    exact Ends.j _ (some_eq h)
  ·
   have h := resb_nx hK2 hj2
   refine .sn mx (.asi (.nil (.ret ?_)))
   obtain rfl := some_eq h
   exact Ends.rt Tryz.results53 rfl

theorem ref_edgeError_ok {d1 : Doc} {i1 : Int} {r : Int}  (h : ref_edgeError d1 i1 = some r) : FSpec Tryz.prog 22 [rep d1, rep i1] (rep r) := by
 unfold ref_edgeError at h
 obtain ⟨hn1, h⟩ := need_some h
 obtain ⟨v1, hv2, h⟩ := bnd_some h
 obtain ⟨r1, hv3, h⟩ := bind_some h
 obtain ⟨hn4, h⟩ := need_some h
 refine FSpec.i Tryz.func22 rfl Tryz.ntmps22 rfl (fun F => (.sn mx (.c (.box .none (.s rfl)) (.asi (.nil (.sr [oo, oo, oo, oo, oo, ([], [5]), ([5], [5])] mx (.faA fd25_1 hfd25_1 rfl (.ldA ty23 rfl (.mvA rfl (.ixA sl23 ty79 rfl rfl hn1 (.rlA hv2 ty79 rfl (.al zo79 rfl (.st ty79 rfl rfl rfl (.nil (.freeze (t := 5) rfl rfl SubB.nil rfl (.sn mx (.ld ty25 rfl (.fa fd79_0 hfd79_0 rfl (.ld ty9 rfl (.c (.call .none (ref_NodeAt_ok hv3) (.cons (.s rfl) (.cons (.s rfl) .nil))) (.c (.ge .none (.s rfl) .i) (.mv rfl (.fg fd25_1 hfd25_1 rfl rfl rfl (.lg ty23 rfl rfl rfl (.mg rfl rfl rfl (.c (.slice (.at rfl rfl) sl23 ty79 (.tmp rfl id) rfl (.tmp rfl id) (fun hg => hn4 hg.2)) (.c (.makeFunc (ι := DEdge × Bool) (pre := fun i => (fun x0 => ref_edgeError_1 x0 v1) i.1 = some i.2) (Ss := fun i => [rep i.1]) (S := fun i => rep i.2) (.at rfl rfl) fnok51 (fun i h => ref_edgeError_1_ok h) (.cons (.s rfl) .nil)) ?_)))))))))))))))))))))))))))
 obtain ⟨r2, hv5, h⟩ := bind_some h
 refine .c (.callIf (.at rfl rfl) fnok50 (fun hg => slices_ContainsFunc_Edge_ok ((fun hg => gd_some hv5 ((notT hg.2))) hg)) (.cons (.tmp rfl id) (.cons (.tmp rfl id) .nil)) (fun h => h)) ?_
 obtain ⟨r3, hv6, h⟩ := bind_some h
 obtain ⟨r4, hv7, h⟩ := bind_some h
 obtain ⟨r5, hv8, h⟩ := bind_some h
 obtain ⟨e1, hv9, h⟩ := bind_some h
 refine .po rfl rfl (.asn rfl (.nil (.seq (.sn mx (.fa fd79_0 hfd79_0 rfl (.ld ty9 rfl (.c (.call .none (ref_NameOf_ok hv6) (.cons (.s rfl) .nil)) (.c (.not .none (.s rfl)) (.c (.call .none (ref_When_ok hv7) (.cons (.s rfl) (.cons .i .nil))) (.mv rfl (.c (.call .none (ref_When_ok hv8) (.cons (.s rfl) (.cons .i .nil))) (.c (.buildSlice (xs := [_, _]) .none sl60 ty26 hz26 (.cons (.s rfl) (.cons (.s rfl) .nil)) rfl (by decide)) (.c (.call .none (ref_First_ok hv9) (.cons (.s rfl) .nil)) (.asn rfl (.nil (.sn mx (.mv rfl (.nei rfl (.nil (.cb rfl h (fun _ h => ?_) fun _ h => ?_))))))))))))))))))))
 ·
  refine .sn mx (.mv rfl (.asn rfl (.nil (.ret (.thenRet ?_)))))
  obtain rfl := some_eq h
  exact Ends.rt Tryz.results22 rfl
 ·
  obtain ⟨v2, hv11, h⟩ := bnd_some h
  refine .skip (.then (.seq (.sn mx (.fa fd79_1 hfd79_1 rfl (.ld ty76 rfl (.fa fd79_2 hfd79_2 rfl (.ld ty76 rfl (.c (.re hv11 (.buildSlice (xs := [_, _]) .none sl106 ty76 hz76 (.cons (.s rfl) (.cons (.s rfl) .nil)) rfl (by decide))) (.ln sl106 rfl (.mvi (.nil ?_)))))))))))
  obtain ⟨o_12, h, hK12⟩ := bindR_some h
  refine .tJ (fun s => o_12 = Res.nx s) (.k 5 rfl .nil) SubB.nil ?_ (fun j_12 hj12 => ?_)
  ·
   refine .block (.rforEL h (fun p13_ => [(48, ⟨True, rep p13_.1⟩)]) (fun p13_ => []) (.k 48 rfl .nil) SubB.nil (.k4 2 5 46 47 rfl rfl rfl rfl .nil) SubB.nil (fun p13_ o_13 h hD13 => (.sn mx (.lt rfl rfl (.nil (.seq (.cb rfl h (fun _ h => ?_) fun _ h => ?_)))))))
   ·
    refine .skip (.then (.seq ?_))
    obtain ⟨o_15, h, hK15⟩ := bindD_some h
    unfold ref_edgeError_L1 at h
    refine .tJ (fun s => o_15 = Res.nx s) (.k4 2 5 46 47 rfl rfl rfl rfl (.k 48 rfl .nil)) SubB.nil ?_ (fun j_15 hj15 => ?_)
    ·
     obtain ⟨hn16, h⟩ := need_some h
     obtain ⟨v3, hv17, h⟩ := bnd_some h
     obtain ⟨k1, hv18, h⟩ := bind_some h
     refine .block (.sr [oo, oo, ([], [9]), ([9], [9])] mx (.ixA sl106 ty76 rfl rfl hn16 (.rlA hv17 ty76 rfl (.al zo76 rfl (.st ty76 rfl rfl rfl (.nil (.freeze (t := 9) rfl rfl SubB.nil rfl (.sn mx (.ld ty25 rfl (.fa fd76_0 hfd76_0 rfl (.ld ty9 rfl (.c (.call .none (ref_NodeAt_ok hv18) (.cons (.s rfl) (.cons (.s rfl) .nil))) (.asn rfl (.nil (.seq (.sn mx (.mv rfl (.c (.lt .none (.s rfl) .i) (.nil (.cb rfl h (fun _ h => ?_) fun _ h => ?_))))))))))))))))))))
     ·
      refine .sn mx (.asi (.nil (.ret (.thenRet (.blkRet (.thenRet (.thenRet (.blkRet (.thenRet ?_)))))))))
      replace h := resd_ab hK15 (some_eq h)
      replace h := hD13 _ (some_eq h)
      replace h := resb_ab hK12 (some_eq h)
      obtain rfl := some_eq h
      exact Ends.rt Tryz.results22 rfl
     ·
      obtain ⟨hn20, h⟩ := need_some h
      obtain ⟨r6, hv21, h⟩ := bind_some h
      obtain ⟨r7, hv22, h⟩ := bind_some h
      obtain ⟨e2, hv23, h⟩ := bind_some h
      refine .skip (.then (.sn mx (.fa fd25_0 hfd25_0 rfl (.ld ty22 rfl (.mv rfl (.ix sl22 ty40 rfl rfl hn20 (.fa fd40_1 hfd40_1 rfl (.ld ty3 rfl (.eqi rfl (.c (.call .none (ref_When_ok hv21) (.cons (.s rfl) (.cons .i .nil))) (.fa fd76_1 hfd76_1 rfl (.ld ty3 rfl (.fa fd76_2 hfd76_2 rfl (.ld ty3 rfl (.c (.call .none (ref_PortError_ok hv22) (.cons (.s rfl) (.cons (.s rfl) .nil))) (.c (.buildSlice (xs := [_, _]) .none sl60 ty26 hz26 (.cons (.s rfl) (.cons (.s rfl) .nil)) rfl (by decide)) (.c (.call .none (ref_First_ok hv23) (.cons (.s rfl) .nil)) (.asn rfl (.nil (.sn mx (.mv rfl (.nei rfl (.nil (.cb rfl h (fun _ h => ?_) fun _ h => ?_))))))))))))))))))))))))
      ·
       refine .sn mx (.mv rfl (.asn rfl (.nil (.ret (.blkRet (.thenRet (.thenRet (.blkRet (.thenRet ?_)))))))))
       replace h := resd_ab hK15 (some_eq h)
       replace h := hD13 _ (some_eq h)
       replace h := resb_ab hK12 (some_eq h)
       obtain rfl := some_eq h
       exact Ends.rt Tryz.results22 rfl
      ·
       exact .skip (.blkNormal (Ends.j _ (some_eq h)))
    ·
     have h := resd_nx hK15 hj15
     exact .rn mx (.adi rfl (.mv rfl (.nil (Ends.ag (some_eq h)))))
   ·
    refine .exit (.thenExit (.thenExit (.blkExit ?_)))
    replace h := hD13 _ (some_eq h)
    exact Ends.j _ (some_eq h)
  ·
   have h := resb_nx hK12 hj12
   refine .seq (.sn mx (.fa fd79_3 hfd79_3 rfl (.ld ty77 rfl (.ln sl77 rfl (.c (.gt .none (.s rfl) .i) (.nil (.cb rfl h (fun _ h => ?_) fun _ h => ?_)))))))
   ·
    refine .sn mx (.asi (.nil (.ret (.thenRet ?_))))
    obtain rfl := some_eq h
    exact Ends.rt Tryz.results22 rfl
   ·
    obtain ⟨r8, hv26, h⟩ := bind_some h
    obtain ⟨r9, hv27, h⟩ := bind_some h
    obtain ⟨r10, hv28, h⟩ := bind_some h
    obtain ⟨r11, hv29, h⟩ := bind_some h
    refine .skip (.then (.sn mx (.fa fd79_3 hfd79_3 rfl (.ld ty77 rfl (.c (.call .none (ref_PointsError_ok hv26) (.cons (.s rfl) .nil)) (.fa fd79_4 hfd79_4 rfl (.ld ty9 rfl (.c (.call .none (ref_TextError_ok hv27) (.cons (.s rfl) .nil)) (.fa fd79_5 hfd79_5 rfl (.ld ty9 rfl (.c (.call .none (ref_classError_ok hv28) (.cons (.s rfl) .nil)) (.c (.buildSlice (xs := [_, _, _]) .none sl60 ty26 hz26 (.cons (.s rfl) (.cons (.s rfl) (.cons (.s rfl) .nil))) rfl (by decide)) (.c (.call .none (ref_First_ok hv29) (.cons (.s rfl) .nil)) (.asn rfl (.nil (.ret ?_))))))))))))))))
    obtain rfl := some_eq h
    exact Ends.rt Tryz.results22 rfl

theorem ref_HullOf_ok {l1 : (List Box)} {r : (Box × Int)}  (h : ref_HullOf l1 = some r) : FSpec Tryz.prog 54 [rep l1] (tup [rep r.1, rep r.2]) := by
 unfold ref_HullOf at h
 obtain ⟨v1, hv1, h⟩ := bnd_some h
 refine FSpec.i Tryz.func54 rfl Tryz.ntmps54 rfl (fun F => (.sr [([], [2]), oo] mx (.al zo38 rfl (.cA (.assign .none .i) (.nil (.reB (t := 2) rfl (congrArg (cont 38) hv1) (.nameBox (t := 2) (g := 5001) rfl rfl (fun m5001 => (.seq (.sn mx (.mv rfl (.ln sl64 rfl (.eqi rfl (.nil (.cb rfl h (fun _ h => ?_) fun _ h => ?_)))))))))))))))
 ·
  obtain ⟨v2, hv3, h⟩ := bnd_some h
  refine .sr [oo, ([5001], [5001]), oo] mx (.cA (.re hv3 (.buildF (y := (⟨(0 : Int), (0 : Int), (0 : Int), (0 : Int)⟩ : Box)) .none bu38 zc38 rfl .nil .nil)) (.s0 5001 ty38 rfl rfl rfl (.cA (.assign .none .i) (.nil (.fb 5001 [2] rfl (.cons (t := 2) rfl trivial .nil) (.ret (.thenRet ?_)))))))
  obtain rfl := some_eq h
  exact Ends.r2 Tryz.results54 ty38 rfl rfl
 ·
  obtain ⟨hn4, h⟩ := need_some h
  obtain ⟨hn5, h⟩ := need_some h
  obtain ⟨hn6, h⟩ := need_some h
  obtain ⟨hn7, h⟩ := need_some h
  obtain ⟨x1, hv8, h⟩ := bnd_some h
  obtain ⟨y1, hv9, h⟩ := bnd_some h
  obtain ⟨r1, hv10, h⟩ := bnd_some h
  obtain ⟨d1, hv11, h⟩ := bnd_some h
  refine .skip (.then (.sn mx (.mv rfl (.c (.indexAddr .none sl64 ty38 (.s rfl) .i (fun _ => hn4)) (.fa fd38_0 hfd38_0 rfl (.ld ty3 rfl (.mv rfl (.c (.indexAddr .none sl64 ty38 (.s rfl) .i (fun _ => hn5)) (.fa fd38_1 hfd38_1 rfl (.ld ty3 rfl (.mv rfl (.c (.indexAddr .none sl64 ty38 (.s rfl) .i (fun _ => hn6)) (.fa fd38_0 hfd38_0 rfl (.ld ty3 rfl (.mv rfl (.c (.indexAddr .none sl64 ty38 (.s rfl) .i (fun _ => hn7)) (.fa fd38_1 hfd38_1 rfl (.ld ty3 rfl (.ra hv8 rfl (.ra hv9 rfl (.ra hv10 rfl (.ra hv11 rfl (.nil (.seq (.sn mx (.mv rfl (.ln sl64 rfl (.mvi (.nil ?_)))))))))))))))))))))))))))))
  obtain ⟨j_12, h, hK12⟩ := bind_some h
  refine .thenJ (ι := (Int × Int × Int × Int)) (fun j_12 => [(4, ⟨True, rep j_12.1⟩), (5, ⟨True, rep j_12.2.1⟩), (6, ⟨True, rep j_12.2.2.1⟩), (7, ⟨True, rep j_12.2.2.2⟩)]) (fun j_12 => []) (fun s => j_12 = s) (.k 2 rfl .nil) (.k 5001 rfl .nil) ?_ (fun j_12' hj12 => ?_)
  ·
   refine .block (.rforL h (fun p13_ => [(32, ⟨True, rep p13_.1⟩), (4, ⟨True, rep p13_.2.1⟩), (5, ⟨True, rep p13_.2.2.1⟩), (6, ⟨True, rep p13_.2.2.2.1⟩), (7, ⟨True, rep p13_.2.2.2.2⟩)]) (fun p13_ => []) (.k4 32 4 5 6 rfl rfl rfl rfl (.k 7 rfl .nil)) SubB.nil (.k2 2 30 rfl rfl (.k 31 rfl .nil)) (.k 5001 rfl .nil) (fun p13_ o_13 h hD13 => (.sn mx (.lt rfl rfl (.nil (.seq (.cb rfl h (fun _ h => ?_) fun _ h => ?_)))))))
   ·
    refine .skip (.then (.seq ?_))
    obtain ⟨j_15, h, hK15⟩ := bind_some h
    unfold ref_HullOf_L1 at h
    refine .thenJ (ι := (Int × Int × Int × Int)) (fun j_15 => [(4, ⟨True, rep j_15.1⟩), (5, ⟨True, rep j_15.2.1⟩), (6, ⟨True, rep j_15.2.2.1⟩), (7, ⟨True, rep j_15.2.2.2⟩)]) (fun j_15 => []) (fun s => j_15 = s) (.k4 2 30 31 32 rfl rfl rfl rfl .nil) (.k 5001 rfl .nil) ?_ (fun j_15' hj15 => ?_)
    ·
     obtain ⟨hn16, h⟩ := need_some h
     obtain ⟨v3, hv17, h⟩ := bnd_some h
     obtain ⟨x2, hv18, h⟩ := bnd_some h
     obtain ⟨y2, hv19, h⟩ := bnd_some h
     obtain ⟨r2, hv20, h⟩ := bnd_some h
     obtain ⟨d2, hv21, h⟩ := bnd_some h
     exact .block (.sr [oo, oo, ([], [9]), ([9], [9])] mx (.ixA sl64 ty38 rfl rfl hn16 (.rlA hv17 ty38 rfl (.al zo38 rfl (.st ty38 rfl rfl rfl (.nil (.freeze (t := 9) rfl rfl (.k 5001 rfl .nil) rfl (.rn mx (.mv rfl (.fa fd38_0 hfd38_0 rfl (.ld ty3 rfl (.c (.min2 .none (.s rfl) (.s rfl)) (.mv rfl (.fa fd38_1 hfd38_1 rfl (.ld ty3 rfl (.c (.min2 .none (.s rfl) (.s rfl)) (.mv rfl (.fa fd38_0 hfd38_0 rfl (.ld ty3 rfl (.fa fd38_2 hfd38_2 rfl (.ld ty3 rfl (.add rfl rfl (.c (.max2 .none (.s rfl) (.s rfl)) (.mv rfl (.fa fd38_1 hfd38_1 rfl (.ld ty3 rfl (.fa fd38_3 hfd38_3 rfl (.ld ty3 rfl (.add rfl rfl (.c (.max2 .none (.s rfl) (.s rfl)) (.ra hv18 rfl (.ra hv19 rfl (.ra hv20 rfl (.ra hv21 rfl (.nil (.blkNormal (Ends.j _ (some_eq h))))))))))))))))))))))))))))))))))))))
    ·
     subst hj15; have h := hK15; clear hK15
     exact .rn mx (.adi rfl (.mv rfl (.nil (Ends.ag (some_eq h)))))
   ·
    refine .exit (.thenExit (.thenExit (.blkExit ?_)))
    replace h := hD13 _ (some_eq h)
    exact Ends.j _ (some_eq h)
  ·
   subst hj12; have h := hK12; clear hK12
   refine .seq (.sn mx (.mv rfl (.mv rfl (.sub rfl rfl (.c (.gt .none (.s rfl) .i) (.mv rfl (.mg rfl rfl rfl (.mg rfl rfl rfl (.c (.subW (.at rfl rfl) (.tmp rfl id) (.tmp rfl id)) (.c (.gt (.at rfl rfl) (.tmp rfl id) .i) (.po rfl rfl (.nil (.cb rfl h (fun _ h => ?_) fun _ h => ?_)))))))))))))
   ·
    obtain ⟨v4, hv23, h⟩ := bnd_some h
    refine .sr [oo, ([5001], [5001]), oo] mx (.cA (.re hv23 (.buildF (y := (⟨(0 : Int), (0 : Int), (0 : Int), (0 : Int)⟩ : Box)) .none bu38 zc38 rfl .nil .nil)) (.s0 5001 ty38 rfl rfl rfl (.cA (.assign .none .i) (.nil (.fb 5001 [2] rfl (.cons (t := 2) rfl trivial .nil) (.ret (.thenRet ?_)))))))
    obtain rfl := some_eq h
    exact Ends.r2 Tryz.results54 ty38 rfl rfl
   ·
    obtain ⟨v5, hv24, h⟩ := bnd_some h
    refine .skip (.then (.sr [oo, oo, oo, oo, oo, oo, oo, oo, oo, ([5001], [5001]), oo] mx (.mvA rfl (.mvA rfl (.mvA rfl (.mvA rfl (.subA rfl rfl (.mvA rfl (.mvA rfl (.subA rfl rfl (.cA (.re hv24 (.buildF (y := (⟨j_12.1, j_12.2.1, W (j_12.2.2.1 - j_12.1), W (j_12.2.2.2 - j_12.2.1)⟩ : Box)) .none bu38 zc38 rfl (.cons (.s rfl) (.cons (.s rfl) (.cons (.s rfl) (.cons (.s rfl) .nil)))) (.cons rfl sf38_0 (.cons rfl sf38_1 (.cons rfl sf38_2 (.cons rfl sf38_3 .nil)))))) (.s0 5001 ty38 rfl rfl rfl (.cA (.assign .none .i) (.nil (.fb 5001 [2] rfl (.cons (t := 2) rfl trivial .nil) (.ret ?_))))))))))))))))
    obtain rfl := some_eq h
    exact Ends.r2 Tryz.results54 ty38 rfl rfl

theorem ref_BoxOfNode_okS {self : (Doc × Str) → Option (Box × Int)} (hself : ∀  (x : (Doc × Str)) (r : (Box × Int)), self x = some r → FSpec Tryz.prog 23 [rep x.1, rep x.2] (tup [rep r.1, rep r.2]))  {x : (Doc × Str)} {r : (Box × Int)} (h : ref_BoxOfNode_body self x = some r) : FSpec Tryz.prog 23 [rep x.1, rep x.2] (tup [rep r.1, rep r.2]) := by
 unfold ref_BoxOfNode_body at h
 obtain ⟨v1, hv1, h⟩ := bnd_some h
 obtain ⟨r1, hv2, h⟩ := bind_some h
 obtain ⟨hn3, h⟩ := need_some h
 obtain ⟨v2, hv4, h⟩ := bnd_some h
 refine FSpec.i Tryz.func23 rfl Tryz.ntmps23 rfl (fun F => (.sr [oo, ([], [4]), oo] mx (.cA (.box .none (.s rfl)) (.al zo38 rfl (.cA (.assign .none .i) (.nil (.reB (t := 4) rfl (congrArg (cont 38) hv1) (.nameBox (t := 4) (g := 5001) rfl rfl (fun m5001 => (.sr [oo, oo, oo, oo, oo, oo, oo, ([], [6]), ([6], [6])] mx (.faA fd25_0 hfd25_0 rfl (.ldA ty22 rfl (.ldA ty25 rfl (.mvA rfl (.cA (.call .none (ref_NodeAt_ok hv2) (.cons (.s rfl) (.cons (.s rfl) .nil))) (.ixA sl22 ty40 rfl rfl hn3 (.rlA hv4 ty40 rfl (.al zo40 rfl (.st ty40 rfl rfl rfl (.nil (.freeze (t := 6) rfl rfl (.k 5001 rfl .nil) rfl (.seq (.sn mx (.fa fd40_1 hfd40_1 rfl (.ld ty3 rfl (.nei rfl (.nil (.cb rfl h (fun _ h => ?_) fun _ h => ?_))))))))))))))))))))))))))))
 ·
  refine .sr [oo, oo, ([5001], [5001]), oo] mx (.faA fd40_2 hfd40_2 rfl (.ldA ty38 rfl (.s0 5001 ty38 rfl rfl rfl (.cA (.assign .none .i) (.nil (.fb 5001 [4] rfl (.cons (t := 4) rfl trivial .nil) (.ret (.thenRet ?_))))))))
  obtain rfl := some_eq h
  exact Ends.r2 Tryz.results23 ty38 rfl rfl
 ·
  obtain ⟨r2, hv6, h⟩ := bind_some h
  refine .skip (.then (.sr [([], [7])] mx (.cW (.nilRow (T := 38) (α := Box) rfl) (.nil (.nameRow (t := 7) (g := 5002) rfl rfl rfl (fun s5002 => (.seq (.sn mx (.ld ty25 rfl (.mv rfl (.c (.call .none (ref_members_ok hv6).frz (.cons (.s rfl) (.cons (.s rfl) .nil))) (.ln sl22 rfl (.mvi (.nil ?_))))))))))))))
  obtain ⟨o_7, h, hK7⟩ := bindR_some h
  refine .thenJ (ι := (List Box)) (fun j_7 => []) (fun j_7 => [(7, some (rowV 38 j_7))]) (fun s => o_7 = Res.nx s) (.k 4 rfl .nil) (.k 5001 rfl .nil) ?_ (fun j_7 hj7 => ?_)
  ·
   refine .block (.anon (t := 7) (g := 5002) rfl rfl trivial rfl (.rforEL h (fun p8_ => [(30, ⟨True, rep p8_.1⟩)]) (fun p8_ => [(7, some (rowV 38 p8_.2))]) (.k 30 rfl .nil) (.k 7 rfl .nil) (.k4 2 4 28 29 rfl rfl rfl rfl .nil) (.k 5001 rfl .nil) (fun p8_ o_8 h hD8 => (.nameRow (t := 7) (g := 5003) rfl rfl rfl (fun s5003 => (.sn mx (.lt rfl rfl (.nil (.seq (.cb rfl h (fun _ h => ?_) fun _ h => ?_))))))))))
   ·
    refine .skip (.then (.seq ?_))
    obtain ⟨o_10, h, hK10⟩ := bindD_some h
    unfold ref_BoxOfNode_L1 at h
    refine .thenJ (ι := (List Box)) (fun j_10 => []) (fun j_10 => [(7, some (rowV 38 j_10))]) (fun s => o_10 = Res.nx s) (.k4 2 4 28 29 rfl rfl rfl rfl (.k 30 rfl .nil)) (.k 5001 rfl .nil) ?_ (fun j_10 hj10 => ?_)
    ·
     obtain ⟨hn11, h⟩ := need_some h
     obtain ⟨v3, hv12, h⟩ := bnd_some h
     obtain ⟨r3, hv13, h⟩ := bind_some h
     refine .block (.sr [oo, oo, ([], [9]), ([9], [9])] mx (.ixA sl22 ty40 rfl rfl hn11 (.rlA hv12 ty40 rfl (.al zo40 rfl (.st ty40 rfl rfl rfl (.nil (.freeze (t := 9) rfl rfl (.k2 5001 5003 rfl rfl .nil) rfl (.sr [oo, oo, oo, oo, oo, oo, oo, ([], [10]), ([10], [10]), oo] mx (.ldA ty25 rfl (.faA fd40_0 hfd40_0 rfl (.ldA ty9 rfl (.cA (.call .none (hself _ _ hv13) (.cons (.s rfl) (.cons (.s rfl) .nil))) (.mvA rfl (.exA rfl rfl (.exA rfl rfl (.al zo38 rfl (.st ty38 rfl rfl rfl (.asnA rfl (.nil (.freeze (t := 10) rfl rfl (.k2 5001 5003 rfl rfl .nil) rfl (.seq (.sn mx (.mv rfl (.nei rfl (.nil (.cb rfl h (fun _ h => ?_) fun _ h => ?_))))))))))))))))))))))))))
     ·
      obtain ⟨v4, hv15, h⟩ := bnd_some h
      refine .sr [oo, oo, ([5001], [5001]), oo] mx (.cA (.re hv15 (.buildF (y := (⟨(0 : Int), (0 : Int), (0 : Int), (0 : Int)⟩ : Box)) .none bu38 zc38 rfl .nil .nil)) (.mvA rfl (.s0 5001 ty38 rfl rfl rfl (.asnA rfl (.nil (.fb 5001 [4] rfl (.cons (t := 4) rfl trivial .nil) (.ret (.thenRet (.blkRet (.thenRet (.thenRet (.blkRet (.thenRet ?_)))))))))))))
      replace h := resd_ab hK10 (some_eq h)
      replace h := hD8 _ (some_eq h)
      replace h := resb_ab hK7 (some_eq h)
      obtain rfl := some_eq h
      exact Ends.r2 Tryz.results23 ty38 rfl rfl
     ·
      obtain ⟨hn16, h⟩ := need_some h
      exact .skip (.then (.rg [oo, oo, oo, ([5003], [48, 5003]), ([48], [7, 48])] mx (.mvA rfl (.ldA ty38 rfl (.cA (.buildSlice (xs := [_]) .none sl64 ty38 hz38 (.cons (.s rfl) .nil) rfl (by decide)) (.cW (.append (k := 5003) rk64 rfl (.told (.s rfl) rfl) (.s rfl) hn16) (.cW (.passRow rfl (.tmp rfl)) (.nil (.blkNormal (Ends.j _ (some_eq h)))))))))))
    ·
     have h := resd_nx hK10 hj10
     exact .nameRow (t := 7) (g := 5004) rfl rfl rfl (fun s5004 => (.rn mx (.adi rfl (.mv rfl (.nil (.anon (t := 7) (g := 5004) rfl rfl trivial rfl (Ends.ag (some_eq h))))))))
   ·
    refine .exit (.thenExit (.thenExit (.blkExit (.anon (t := 7) (g := 5003) rfl rfl trivial rfl ?_))))
    replace h := hD8 _ (some_eq h)
    exact Ends.j _ (some_eq h)
  ·
   have h := resb_nx hK7 hj7
   obtain ⟨r4, hv17, h⟩ := bind_some h
   refine .freezeRowA (t := 7) rfl rfl (.k 5001 rfl .nil) rfl (.sr [oo, oo, oo, oo, oo, ([], [12]), ([12], [12]), oo] mx (.mvA rfl (.cA (.call .none (ref_HullOf_ok hv17) (.cons (.s rfl) .nil)) (.mvA rfl (.exA rfl rfl (.exA rfl rfl (.al zo38 rfl (.st ty38 rfl rfl rfl (.asnA rfl (.nil (.nameBox (t := 12) (g := 5005) rfl rfl (fun m5005 => (.seq (.sn mx (.mv rfl (.nei rfl (.nil (.cb rfl h (fun _ h => ?_) fun _ h => ?_))))))))))))))))))
   ·
    obtain ⟨v5, hv19, h⟩ := bnd_some h
    refine .sr [oo, oo, ([5001], [5001]), oo] mx (.cA (.re hv19 (.buildF (y := (⟨(0 : Int), (0 : Int), (0 : Int), (0 : Int)⟩ : Box)) .none bu38 zc38 rfl .nil .nil)) (.mvA rfl (.s0 5001 ty38 rfl rfl rfl (.asnA rfl (.nil (.fb 5001 [4] rfl (.cons (t := 4) rfl trivial .nil) (.ret (.thenRet ?_))))))))
    obtain rfl := some_eq h
    exact Ends.r2 Tryz.results23 ty38 rfl rfl
   ·
    obtain ⟨v6, hv20, h⟩ := bnd_some h
    obtain ⟨r5, hv21, h⟩ := bind_some h
    refine .skip (.then (.sr [oo, ([5005], []), oo, oo, ([5005], []), oo, oo, ([5005], []), oo, oo, ([5005], []), oo, oo, ([5005], [5005])] mx (.cA (.fieldPtr .none fd38_0 (.s rfl)) (.cA (.loadAt (k := 5005) .none ty3 rfl (.s rfl) hfd38_0) (.cA (.subW .none (.s rfl) .i) (.cA (.fieldPtr .none fd38_1 (.s rfl)) (.cA (.loadAt (k := 5005) .none ty3 rfl (.s rfl) hfd38_1) (.cA (.subW .none (.s rfl) .i) (.cA (.fieldPtr .none fd38_2 (.s rfl)) (.cA (.loadAt (k := 5005) .none ty3 rfl (.s rfl) hfd38_2) (.cA (.addW .none (.s rfl) .i) (.cA (.fieldPtr .none fd38_3 (.s rfl)) (.cA (.loadAt (k := 5005) .none ty3 rfl (.s rfl) hfd38_3) (.cA (.addW .none (.s rfl) .i) (.cA (.re hv20 (.buildF (y := (⟨W (r4.1.X - 10), W (r4.1.Y - 10), W (r4.1.W_ + 20), W (r4.1.H + 20)⟩ : Box)) .none bu38 zc38 rfl (.cons (.s rfl) (.cons (.s rfl) (.cons (.s rfl) (.cons (.s rfl) .nil)))) (.cons rfl sf38_0 (.cons rfl sf38_1 (.cons rfl sf38_2 (.cons rfl sf38_3 .nil)))))) (.s0 5005 ty38 rfl rfl rfl (.nil (.freezeBox (g := 5005) (ts := [12]) rfl (.cons (t := 12) rfl trivial .nil) (.k 5001 rfl .nil) rfl (.sr [oo, oo, oo, ([5001], [5001]), oo] mx (.ldA ty38 rfl (.ldA ty38 rfl (.cA (.call .none (ref_BoxError_ok hv21) (.cons (.s rfl) .nil)) (.s0 5001 ty38 rfl rfl rfl (.asnA rfl (.nil (.fb 5001 [4] rfl (.cons (t := 4) rfl trivial .nil) (.ret ?_)))))))))))))))))))))))))))
    obtain rfl := some_eq h
    exact Ends.r2 Tryz.results23 ty38 rfl rfl
theorem ref_BoxOfNode_okN : ∀ (k : Nat)  (x : (Doc × Str)) (r : (Box × Int)) (h : fixN ref_BoxOfNode_body k x = some r), FSpec Tryz.prog 23 [rep x.1, rep x.2] (tup [rep r.1, rep r.2])
 | 0, x, r, h => by simp [fixN] at h
 | k + 1, x, r, h => ref_BoxOfNode_okS (ref_BoxOfNode_okN k) h
theorem ref_BoxOfNode_ok {d1 : Doc} {id1 : Str} {r : (Box × Int)}  (h : ref_BoxOfNode d1 id1 = some r) : FSpec Tryz.prog 23 [rep d1, rep id1] (tup [rep r.1, rep r.2]) :=
 let ⟨k, hk⟩ := fixp_some h
 ref_BoxOfNode_okN k (d1, id1) r hk

theorem ref_DocError_ok {d1 : Doc} {r : Int}  (h : ref_DocError d1 = some r) : FSpec Tryz.prog 6 [rep d1] (rep r) := by
 unfold ref_DocError at h
 refine FSpec.i Tryz.func6 rfl Tryz.ntmps6 rfl (fun F => (.sn mx (.c (.box .none (.s rfl)) (.asi (.nil (.seq (.sn mx (.fa fd25_0 hfd25_0 rfl (.ld ty22 rfl (.ln sl22 rfl (.c (.gt .none (.s rfl) .i) (.mv rfl (.fg fd25_1 hfd25_1 rfl rfl rfl (.lg ty23 rfl rfl rfl (.c (.len (.at rfl rfl) sl23 (.tmp rfl id)) (.c (.gt (.at rfl rfl) (.tmp rfl id) .i) (.po rfl rfl (.nil (.cb rfl h (fun _ h => ?_) fun _ h => ?_)))))))))))))))))))
 ·
  refine .sn mx (.asi (.nil (.ret (.thenRet ?_))))
  obtain rfl := some_eq h
  exact Ends.rt Tryz.results6 rfl
 ·
  refine .skip (.then (.seq (.sn mx (.fa fd25_0 hfd25_0 rfl (.ld ty22 rfl (.ln sl22 rfl (.mvi (.nil ?_))))))))
  obtain ⟨o_2, h, hK2⟩ := bindR_some h
  refine .tJ (fun s => o_2 = Res.nx s) (.k 1 rfl .nil) SubB.nil ?_ (fun j_2 hj2 => ?_)
  ·
   refine .block (.rforEL h (fun p3_ => [(25, ⟨True, rep p3_.1⟩)]) (fun p3_ => []) (.k 25 rfl .nil) SubB.nil (.k2 1 24 rfl rfl .nil) SubB.nil (fun p3_ o_3 h hD3 => (.sn mx (.lt rfl rfl (.nil (.seq (.cb rfl h (fun _ h => ?_) fun _ h => ?_)))))))
   ·
    refine .skip (.then (.seq ?_))
    obtain ⟨o_5, h, hK5⟩ := bindD_some h
    unfold ref_DocError_L1 at h
    refine .tJ (fun s => o_5 = Res.nx s) (.k2 1 24 rfl rfl (.k 25 rfl .nil)) SubB.nil ?_ (fun j_5 hj5 => ?_)
    ·
     obtain ⟨e1, hv6, h⟩ := bind_some h
     refine .block (.sn mx (.mv rfl (.asn rfl (.nil (.sn mx (.ld ty25 rfl (.mv rfl (.c (.call .none (ref_nodeError_ok hv6) (.cons (.s rfl) (.cons (.s rfl) .nil))) (.asn rfl (.nil (.sn mx (.mv rfl (.nei rfl (.nil (.cb rfl h (fun _ h => ?_) fun _ h => ?_)))))))))))))))
     ·
      refine .sn mx (.mv rfl (.asn rfl (.nil (.ret (.blkRet (.thenRet (.thenRet (.blkRet (.thenRet ?_)))))))))
      replace h := resd_ab hK5 (some_eq h)
      replace h := hD3 _ (some_eq h)
      replace h := resb_ab hK2 (some_eq h)
      obtain rfl := some_eq h
      exact Ends.rt Tryz.results6 rfl
     ·
      exact .skip (.blkNormal (Ends.j _ (some_eq h)))
    ·
     have h := resd_nx hK5 hj5
     exact .rn mx (.adi rfl (.mv rfl (.nil (Ends.ag (some_eq h)))))
   ·
    refine .exit (.thenExit (.thenExit (.blkExit ?_)))
    replace h := hD3 _ (some_eq h)
    exact Ends.j _ (some_eq h)
  ·
   have h := resb_nx hK2 hj2
   obtain ⟨e2, hv8, h⟩ := bind_some h
   refine .seq (.sn mx (.ld ty25 rfl (.c (.call .none (ref_treeError_ok hv8) (.cons (.s rfl) .nil)) (.asn rfl (.nil (.sn mx (.mv rfl (.nei rfl (.nil (.cb rfl h (fun _ h => ?_) fun _ h => ?_))))))))))
   ·
    refine .sn mx (.mv rfl (.asn rfl (.nil (.ret (.thenRet ?_)))))
    obtain rfl := some_eq h
    exact Ends.rt Tryz.results6 rfl
   ·
    refine .skip (.then (.seq (.sn mx (.fa fd25_1 hfd25_1 rfl (.ld ty23 rfl (.ln sl23 rfl (.mvi (.nil ?_))))))))
    obtain ⟨o_10, h, hK10⟩ := bindR_some h
    refine .tJ (fun s => o_10 = Res.nx s) (.k 1 rfl .nil) SubB.nil ?_ (fun j_10 hj10 => ?_)
    ·
     refine .block (.rforEL h (fun p11_ => [(43, ⟨True, rep p11_.1⟩)]) (fun p11_ => []) (.k 43 rfl .nil) SubB.nil (.k2 1 42 rfl rfl .nil) SubB.nil (fun p11_ o_11 h hD11 => (.sn mx (.lt rfl rfl (.nil (.seq (.cb rfl h (fun _ h => ?_) fun _ h => ?_)))))))
     ·
      refine .skip (.then (.seq ?_))
      obtain ⟨o_13, h, hK13⟩ := bindD_some h
      unfold ref_DocError_L2 at h
      refine .tJ (fun s => o_13 = Res.nx s) (.k2 1 42 rfl rfl (.k 43 rfl .nil)) SubB.nil ?_ (fun j_13 hj13 => ?_)
      ·
       obtain ⟨e3, hv14, h⟩ := bind_some h
       refine .block (.sn mx (.mv rfl (.asn rfl (.nil (.sn mx (.ld ty25 rfl (.mv rfl (.c (.call .none (ref_edgeError_ok hv14) (.cons (.s rfl) (.cons (.s rfl) .nil))) (.asn rfl (.nil (.sn mx (.mv rfl (.nei rfl (.nil (.cb rfl h (fun _ h => ?_) fun _ h => ?_)))))))))))))))
       ·
        refine .sn mx (.mv rfl (.asn rfl (.nil (.ret (.blkRet (.thenRet (.thenRet (.blkRet (.thenRet ?_)))))))))
        replace h := resd_ab hK13 (some_eq h)
        replace h := hD11 _ (some_eq h)
        replace h := resb_ab hK10 (some_eq h)
        obtain rfl := some_eq h
        exact Ends.rt Tryz.results6 rfl
       ·
        exact .skip (.blkNormal (Ends.j _ (some_eq h)))
      ·
       have h := resd_nx hK13 hj13
       exact .rn mx (.adi rfl (.mv rfl (.nil (Ends.ag (some_eq h)))))
     ·
      refine .exit (.thenExit (.thenExit (.blkExit ?_)))
      replace h := hD11 _ (some_eq h)
      exact Ends.j _ (some_eq h)
    ·
     have h := resb_nx hK10 hj10
     refine .seq (.sn mx (.fa fd25_0 hfd25_0 rfl (.ld ty22 rfl (.ln sl22 rfl (.mvi (.nil ?_))))))
     obtain ⟨o_16, h, hK16⟩ := bindR_some h
     refine .tJ (fun s => o_16 = Res.nx s) Sub.nil SubB.nil ?_ (fun j_16 hj16 => ?_)
     ·
      refine .block (.rforEL h (fun p17_ => [(56, ⟨True, rep p17_.1⟩)]) (fun p17_ => []) (.k 56 rfl .nil) SubB.nil (.k2 1 54 rfl rfl (.k 55 rfl .nil)) SubB.nil (fun p17_ o_17 h hD17 => (.sn mx (.lt rfl rfl (.nil (.seq (.cb rfl h (fun _ h => ?_) fun _ h => ?_)))))))
      ·
       refine .skip (.then (.seq ?_))
       obtain ⟨o_19, h, hK19⟩ := bindD_some h
       unfold ref_DocError_L3 at h
       refine .tJ (fun s => o_19 = Res.nx s) (.k4 1 54 55 56 rfl rfl rfl rfl .nil) SubB.nil ?_ (fun j_19 hj19 => ?_)
       ·
        obtain ⟨hn20, h⟩ := need_some h
        obtain ⟨v1, hv21, h⟩ := bnd_some h
        obtain ⟨r1, hv22, h⟩ := bind_some h
        refine .block (.sr [oo, oo, ([], [9]), ([9], [9])] mx (.ixA sl22 ty40 rfl rfl hn20 (.rlA hv21 ty40 rfl (.al zo40 rfl (.st ty40 rfl rfl rfl (.nil (.freeze (t := 9) rfl rfl SubB.nil rfl (.sr [oo, oo, oo, oo, oo, oo, oo, ([], [10]), ([10], [10]), oo] mx (.ldA ty25 rfl (.faA fd40_0 hfd40_0 rfl (.ldA ty9 rfl (.cA (.call .none (ref_BoxOfNode_ok hv22) (.cons (.s rfl) (.cons (.s rfl) .nil))) (.mvA rfl (.exA rfl rfl (.exA rfl rfl (.al zo38 rfl (.st ty38 rfl rfl rfl (.asnA rfl (.nil (.sn mx (.mv rfl (.nei rfl (.nil (.cb rfl h (fun _ h => ?_) fun _ h => ?_))))))))))))))))))))))))
        ·
         refine .sn mx (.mv rfl (.asn rfl (.nil (.ret (.blkRet (.thenRet (.thenRet (.blkRet (.thenRet ?_)))))))))
         replace h := resd_ab hK19 (some_eq h)
         replace h := hD17 _ (some_eq h)
         replace h := resb_ab hK16 (some_eq h)
         obtain rfl := some_eq h
         exact Ends.rt Tryz.results6 rfl
        ·
         exact .skip (.blkNormal (Ends.j _ (some_eq h)))
       ·
        have h := resd_nx hK19 hj19
        exact .rn mx (.adi rfl (.mv rfl (.nil (Ends.ag (some_eq h)))))
      ·
       refine .exit (.thenExit (.thenExit (.blkExit ?_)))
       replace h := hD17 _ (some_eq h)
       exact Ends.j _ (some_eq h)
     ·
      have h := resb_nx hK16 hj16
      refine .sn mx (.asi (.nil (.ret ?_)))
      obtain rfl := some_eq h
      exact Ends.rt Tryz.results6 rfl

theorem ref_Down_ok {a1 : Int} {b1 : Int} {r : Int}  (h : ref_Down a1 b1 = some r) : FSpec Tryz.prog 24 [rep a1, rep b1] (rep r) := by
 unfold ref_Down at h
 obtain ⟨hn1, h⟩ := need_some h
 obtain ⟨q1, hv2, h⟩ := bnd_some h
 refine FSpec.i Tryz.func24 rfl Tryz.ntmps24 rfl (fun F => (.sn mx (.asi (.nil (.sn mx (.mv rfl (.mv rfl (.c (.quo .none (.s rfl) (.s rfl) (fun _ => hn1)) (.ra hv2 rfl (.nil (.seq (.sn mx (.mv rfl (.mv rfl (.c (.mulW .none (.s rfl) (.s rfl)) (.mv rfl (.c (.gt .none (.s rfl) (.s rfl)) (.nil ?_))))))))))))))))))
 obtain ⟨j_3, h, hK3⟩ := bind_some h
 refine .thenJ (ι := Int) (fun j_3 => [(5, ⟨True, rep j_3⟩)]) (fun j_3 => []) (fun s => j_3 = s) Sub.nil SubB.nil ?_ (fun j_3' hj3 => ?_)
 ·
  refine .cb rfl h (fun _ h => ?_) fun _ h => ?_
  ·
   obtain ⟨q2, hv5, h⟩ := bnd_some h
   exact .rn mx (.mv rfl (.c (.subW .none (.s rfl) .i) (.ra hv5 rfl (.nil (Ends.j _ (some_eq h))))))
  ·
   exact .skip (Ends.j _ (some_eq h))
 ·
  subst hj3; have h := hK3; clear hK3
  refine .sn mx (.mv rfl (.asn rfl (.nil (.ret ?_))))
  obtain rfl := some_eq h
  exact Ends.rt Tryz.results24 rfl

theorem ref_OrderOf_1_okS {self : (Str × Doc × (List Str)) → Option (List Str)} (hself : ∀ {m28 : Nat} {s29 : Value} {m30 : Nat} (x : (Str × Doc × (List Str))) (r : (List Str)), self x = some r → FSpecO Tryz.prog 99 [rep x.1, ref x.2.1, isV (ptr m28 0), isV (ptr m30 0)] [(ptr m28 0, cont 136 (⟨s29⟩ : Raw)), (s29, rowV 9 x.2.2), (ptr m30 0, contS 154 (cloV 99 [ref x.2.1, isV (ptr m28 0), isV (ptr m30 0)]))] (anyV) [some (deep (fun z0 => cont 136 (⟨z0⟩ : Raw)) (rowV 9 r)), none, some (contS 154 (cloV 99 [ref x.2.1, isV (ptr m28 0), isV (ptr m30 0)]))]) {m28 : Nat} {s29 : Value} {m30 : Nat} {x : (Str × Doc × (List Str))} {r : (List Str)} (h : ref_OrderOf_1_body self x = some r) : FSpecO Tryz.prog 99 [rep x.1, ref x.2.1, isV (ptr m28 0), isV (ptr m30 0)] [(ptr m28 0, cont 136 (⟨s29⟩ : Raw)), (s29, rowV 9 x.2.2), (ptr m30 0, contS 154 (cloV 99 [ref x.2.1, isV (ptr m28 0), isV (ptr m30 0)]))] (anyV) [some (deep (fun z0 => cont 136 (⟨z0⟩ : Raw)) (rowV 9 r)), none, some (contS 154 (cloV 99 [ref x.2.1, isV (ptr m28 0), isV (ptr m30 0)]))] := by
 unfold ref_OrderOf_1_body at h
 obtain ⟨r1, hv1, h⟩ := bind_some h
 refine FSpecO.i Tryz.func99 rfl Tryz.ntmps99 rfl (fun F => (.sn mx (.ld ty25 rfl (.mv rfl (.c (.call .none (ref_members_ok hv1).frz (.cons (.s rfl) (.cons (.s rfl) .nil))) (.ln sl22 rfl (.mvi (.nil ?_))))))))
 obtain ⟨j_2, h, hK2⟩ := bind_some h
 refine .tailJ (ι := (List Str)) (fun j_2 => []) (fun j_2 => [(28, some (CPred.at (ptr m28 0) (deep (fun z0 => cont 136 (⟨z0⟩ : Raw)) (rowV 9 j_2))))]) (fun s => j_2 = s) (.k2 2 3 rfl rfl .nil) (.k 30 rfl .nil) ?_ (fun j_2' hj2 => ?_)
 ·
  refine .block (.close (k := 28) (g := 29) (fun z => cont 136 (⟨z⟩ : Raw)) rfl rfl rfl (.rforL h (fun p3_ => [(11, ⟨True, rep p3_.1⟩)]) (fun p3_ => [(28, some (CPred.at (ptr m28 0) (deep (fun z0 => cont 136 (⟨z0⟩ : Raw)) (rowV 9 p3_.2))))]) (.k 11 rfl .nil) (.k 28 rfl .nil) (.k4 1 2 3 9 rfl rfl rfl rfl (.k 10 rfl .nil)) (.k 30 rfl .nil) (fun p3_ o_3 h hD3 => (.open (k := 28) (g := 5001) rfl rfl (fun s5001 => (.sn mx (.lt rfl rfl (.nil (.seq (.cb rfl h (fun _ h => ?_) fun _ h => ?_))))))))))
  ·
   refine .skip (.then (.seq ?_))
   obtain ⟨j_5, h, hK5⟩ := bind_some h
   unfold ref_OrderOf_1_L1 at h
   refine .thenJ (ι := (List Str)) (fun j_5 => []) (fun j_5 => [(28, some (CPred.at (ptr m28 0) (deep (fun z0 => cont 136 (⟨z0⟩ : Raw)) (rowV 9 j_5))))]) (fun s => j_5 = s) (.k4 1 2 3 9 rfl rfl rfl rfl (.k2 10 11 rfl rfl .nil)) (.k 30 rfl .nil) ?_ (fun j_5' hj5 => ?_)
   ·
    obtain ⟨hn6, h⟩ := need_some h
    obtain ⟨v1, hv7, h⟩ := bnd_some h
    obtain ⟨hn8, h⟩ := need_some h
    obtain ⟨c1, hv9, h⟩ := bnd_some h
    refine .block (.sr [oo, oo, ([], [6]), ([6], [6])] mx (.ixA sl22 ty40 rfl rfl hn6 (.rlA hv7 ty40 rfl (.al zo40 rfl (.st ty40 rfl rfl rfl (.nil (.freeze (t := 6) rfl rfl (.k2 28 30 rfl rfl (.k 5001 rfl .nil)) rfl (.sr [([28], []), oo, oo, oo, ([5001], [19, 5001]), ([28, 19], [28, 19])] mx (.cA (.loadAt0 (k := 28) .none tr136 rfl (.s rfl)) (.faA fd40_0 hfd40_0 rfl (.ldA ty9 rfl (.cA (.buildSlice (xs := [_]) .none sl136 ty9 hz9 (.cons (.s rfl) .nil) rfl (by decide)) (.cW (.append (k := 5001) rk136 rfl (.told (.s rfl) rfl) (.s rfl) hn8) (.cN (.storeRow (k := 28) (t := 19) (set := fun _ z => z) ty136 rfl (.s rfl) .self rfl rfl) (.nil (.open (k := 28) (g := 5002) rfl rfl (fun s5002 => (.sn mx (.fa fd40_1 hfd40_1 rfl (.ld ty3 rfl (.eqi rfl (.nil (.reB (t := 5002) rfl (congrArg (fun y => CPred.at s5002 (rowV 9 y)) hv9) (.cb rfl h (fun _ h => ?_) fun _ h => ?_))))))))))))))))))))))))
    ·
     obtain ⟨r2, hv11, h⟩ := bind_some h
     exact .rg [([30], []), oo, oo, ([28, 5002, 30], [28, 5002, 30])] mx (.cA (.loadS (k := 30) .none tr154 rfl (.s rfl) cloV_one) (.faA fd40_0 hfd40_0 rfl (.ldA ty9 rfl (.cW (.callClo [28, 5002, 30] (Ss := [rep v1.Id]) (Cs := [ref x.2.1, isV (ptr m28 0), isV (ptr m30 0)]) (.s rfl) (hself _ _ hv11) (.cons (.s rfl) .nil) (.cons (k := 28) rfl (.cons (k := 5002) rfl (.cons (k := 30) rfl .nil))) rfl (by decide) (by decide) (by intro d h; cases h; decide)) (.nil (.blkNormal (Ends.j _ (some_eq h))))))))
    ·
     exact .skip (.blkNormal (.close (k := 28) (g := 5002) (fun z => cont 136 (⟨z⟩ : Raw)) rfl rfl rfl (Ends.j _ (some_eq h))))
   ·
    subst hj5; have h := hK5; clear hK5
    exact .open (k := 28) (g := 5003) rfl rfl (fun s5003 => (.rn mx (.adi rfl (.mv rfl (.nil (.close (k := 28) (g := 5003) (fun z => cont 136 (⟨z⟩ : Raw)) rfl rfl rfl (Ends.ag (some_eq h))))))))
  ·
   refine .exit (.thenExit (.thenExit (.blkExit (.close (k := 28) (g := 5001) (fun z => cont 136 (⟨z⟩ : Raw)) rfl rfl rfl ?_))))
   replace h := hD3 _ (some_eq h)
   exact Ends.j _ (some_eq h)
 ·
  subst hj2; have h := hK2; clear hK2
  obtain rfl := some_eq h
  exact Ends.ret0O (.inr rfl) [28, 29, 30] Tryz.results99 (by decide) (.held rfl (.skip (.held rfl .nil)))
theorem ref_OrderOf_1_okN : ∀ (k : Nat) {m28 : Nat} {s29 : Value} {m30 : Nat} (x : (Str × Doc × (List Str))) (r : (List Str)) (h : fixN ref_OrderOf_1_body k x = some r), FSpecO Tryz.prog 99 [rep x.1, ref x.2.1, isV (ptr m28 0), isV (ptr m30 0)] [(ptr m28 0, cont 136 (⟨s29⟩ : Raw)), (s29, rowV 9 x.2.2), (ptr m30 0, contS 154 (cloV 99 [ref x.2.1, isV (ptr m28 0), isV (ptr m30 0)]))] (anyV) [some (deep (fun z0 => cont 136 (⟨z0⟩ : Raw)) (rowV 9 r)), none, some (contS 154 (cloV 99 [ref x.2.1, isV (ptr m28 0), isV (ptr m30 0)]))]
 | 0, _, _, _, x, r, h => by simp [fixN] at h
 | k + 1, _, _, _, x, r, h => ref_OrderOf_1_okS (ref_OrderOf_1_okN k) h
theorem ref_OrderOf_1_ok {parent1 : Str} {c0_1 : Doc} {c1_1 : (List Str)} {r : (List Str)} {m28 : Nat} {s29 : Value} {m30 : Nat} (h : ref_OrderOf_1 parent1 c0_1 c1_1 = some r) : FSpecO Tryz.prog 99 [rep parent1, ref c0_1, isV (ptr m28 0), isV (ptr m30 0)] [(ptr m28 0, cont 136 (⟨s29⟩ : Raw)), (s29, rowV 9 c1_1), (ptr m30 0, contS 154 (cloV 99 [ref c0_1, isV (ptr m28 0), isV (ptr m30 0)]))] (anyV) [some (deep (fun z0 => cont 136 (⟨z0⟩ : Raw)) (rowV 9 r)), none, some (contS 154 (cloV 99 [ref c0_1, isV (ptr m28 0), isV (ptr m30 0)]))] :=
 let ⟨k, hk⟩ := fixp_some h
 ref_OrderOf_1_okN k (parent1, c0_1, c1_1) r hk

theorem ref_OrderOf_ok {d1 : Doc} {r : (List Str)}  (h : ref_OrderOf d1 = some r) : FSpec Tryz.prog 85 [rep d1] (rep r) := by
 unfold ref_OrderOf at h
 obtain ⟨r1, hv1, h⟩ := bind_some h
 refine FSpec.i Tryz.func85 rfl Tryz.ntmps85 rfl (fun F => (.sn mx (.c (.box .none (.s rfl)) (.c (.assign .none (.const (x := ([] : (List Str))) (fun M w => ⟨_, ⟨none, 0, rfl, Nat.le_refl _, by decide, rfl⟩, rfl⟩))) (.nil (.sr [([], [3])] mx (.al zr136 rfl (.nil (.nameAt (t := 3) (g := 5001) rfl rfl isBox_cont rfl (fun m5001 => (.nilKey (g := 5002) (T := 9) (α := Str) rfl (.sr [([], [4])] mx (.al zr154 rfl (.nil (.nameAt (t := 4) (g := 5003) rfl rfl isBox_cont rfl (fun m5003 => (.sr [oo, ([5003], [5003])] mx (.cA (.makeFuncC (Cs := [ref d1, isV (ptr m5001 0), isV (ptr m5003 0)]) .none (.cons (.s rfl) (.cons (.s rfl) (.cons (.s rfl) .nil)))) (.cN (.storeS (k := 5003) (S := cloV 99 [ref d1, isV (ptr m5001 0), isV (ptr m5003 0)]) tr154 rfl cont_cells (.s rfl) (.s rfl) cloV_one) (.nil (.sr [([5003], []), ([5001, 5002, 5003], [5001, 5002, 5003])] mx (.cA (.loadS (k := 5003) .none tr154 rfl (.s rfl) cloV_one) (.cW (.callClo [5001, 5002, 5003] (Ss := [rep Str.nil]) (Cs := [ref d1, isV (ptr m5001 0), isV (ptr m5003 0)]) (.s rfl) (ref_OrderOf_1_ok hv1) (.cons (.str (l := []) (by decide)) .nil) (.cons (k := 5001) rfl (.cons (k := 5002) rfl (.cons (k := 5003) rfl .nil))) rfl (by decide) (by decide) (by intro d h; cases h; decide)) (.nil (.open (k := 5001) (g := 5004) rfl rfl (fun s5004 => (.seq (.sn mx (.fa fd25_1 hfd25_1 rfl (.ld ty23 rfl (.ln sl23 rfl (.mvi (.nil ?_)))))))))))))))))))))))))))))))))
 obtain ⟨j_2, h, hK2⟩ := bind_some h
 refine .thenJ (ι := (List Str)) (fun j_2 => []) (fun j_2 => [(5001, some (CPred.at (ptr m5001 0) (deep (fun z0 => cont 136 (⟨z0⟩ : Raw)) (rowV 9 j_2))))]) (fun s => j_2 = s) (.k 3 rfl .nil) SubB.nil ?_ (fun j_2' hj2 => ?_)
 ·
  refine .block (.close (k := 5001) (g := 5004) (fun z => cont 136 (⟨z⟩ : Raw)) rfl rfl rfl (.rforL h (fun p3_ => [(13, ⟨True, rep p3_.1⟩)]) (fun p3_ => [(5001, some (CPred.at (ptr m5001 0) (deep (fun z0 => cont 136 (⟨z0⟩ : Raw)) (rowV 9 p3_.2))))]) (.k 13 rfl .nil) (.k 5001 rfl .nil) (.k2 3 11 rfl rfl (.k 12 rfl .nil)) SubB.nil (fun p3_ o_3 h hD3 => (.open (k := 5001) (g := 5005) rfl rfl (fun s5005 => (.sn mx (.lt rfl rfl (.nil (.seq (.cb rfl h (fun _ h => ?_) fun _ h => ?_))))))))))
  ·
   refine .skip (.then (.seq ?_))
   obtain ⟨j_5, h, hK5⟩ := bind_some h
   unfold ref_OrderOf_L1 at h
   refine .thenJ (ι := (List Str)) (fun j_5 => []) (fun j_5 => [(5001, some (CPred.at (ptr m5001 0) (deep (fun z0 => cont 136 (⟨z0⟩ : Raw)) (rowV 9 j_5))))]) (fun s => j_5 = s) (.k4 3 11 12 13 rfl rfl rfl rfl .nil) SubB.nil ?_ (fun j_5' hj5 => ?_)
   ·
    obtain ⟨hn6, h⟩ := need_some h
    obtain ⟨v1, hv7, h⟩ := bnd_some h
    obtain ⟨hn8, h⟩ := need_some h
    exact .block (.sr [oo, oo, ([], [6]), ([6], [6])] mx (.ixA sl23 ty79 rfl rfl hn6 (.rlA hv7 ty79 rfl (.al zo79 rfl (.st ty79 rfl rfl rfl (.nil (.freeze (t := 6) rfl rfl (.k2 5001 5005 rfl rfl .nil) rfl (.rg [([5001], []), oo, oo, oo, ([5005], [21, 5005]), ([5001, 21], [5001, 21])] mx (.cA (.loadAt0 (k := 5001) .none tr136 rfl (.s rfl)) (.faA fd79_0 hfd79_0 rfl (.ldA ty9 rfl (.cA (.buildSlice (xs := [_]) .none sl136 ty9 hz9 (.cons (.s rfl) .nil) rfl (by decide)) (.cW (.append (k := 5005) rk136 rfl (.told (.s rfl) rfl) (.s rfl) hn8) (.cN (.storeRow (k := 5001) (t := 21) (set := fun _ z => z) ty136 rfl (.s rfl) .self rfl rfl) (.nil (.blkNormal (Ends.j _ (some_eq h))))))))))))))))))
   ·
    subst hj5; have h := hK5; clear hK5
    exact .open (k := 5001) (g := 5006) rfl rfl (fun s5006 => (.rn mx (.adi rfl (.mv rfl (.nil (.close (k := 5001) (g := 5006) (fun z => cont 136 (⟨z⟩ : Raw)) rfl rfl rfl (Ends.ag (some_eq h))))))))
  ·
   refine .exit (.thenExit (.thenExit (.blkExit (.close (k := 5001) (g := 5005) (fun z => cont 136 (⟨z⟩ : Raw)) rfl rfl rfl ?_))))
   replace h := hD3 _ (some_eq h)
   exact Ends.j _ (some_eq h)
 ·
  subst hj2; have h := hK2; clear hK2
  refine .open (k := 5001) (g := 5007) rfl rfl (fun s5007 => (.sr [([5001], []), oo] mx (.cA (.loadAt0 (k := 5001) .none tr136 rfl (.s rfl)) (.asnA rfl (.nil (.freezeRow (g := 5007) (ts := [2]) rfl (.cons (t := 2) rfl trivial .nil) SubB.nil rfl (.ret ?_)))))))
  obtain rfl := some_eq h
  exact Ends.rt Tryz.results85 rfl

theorem ref_Sign_ok {n1 : Int} {r : Int}  (h : ref_Sign n1 = some r) : FSpec Tryz.prog 101 [rep n1] (rep r) := by
 unfold ref_Sign at h
 refine FSpec.i Tryz.func101 rfl Tryz.ntmps101 rfl (fun F => (.sn mx (.asi (.nil (.sn mx (.mv rfl (.c (.max2 .none (.s rfl) .i) (.c (.min2 .none (.s rfl) .i) (.asn rfl (.nil (.ret ?_)))))))))))
 obtain rfl := some_eq h
 exact Ends.rt Tryz.results101 rfl

theorem ref_HasOf_1_ok {n1 : Int} {most1 : Int} {r : Int}  (h : ref_HasOf_1 n1 most1 = some r) : FSpec Tryz.prog 100 [rep n1, rep most1] (rep r) := by
 unfold ref_HasOf_1 at h
 obtain ⟨r1, hv1, h⟩ := bind_some h
 refine FSpec.i Tryz.func100 rfl Tryz.ntmps100 rfl (fun F => (.sn mx (.asi (.nil (.sn mx (.mv rfl (.mv rfl (.sub rfl rfl (.c (.call .none (ref_Sign_ok hv1) (.cons (.s rfl) .nil)) (.asn rfl (.nil (.ret ?_))))))))))))
 obtain rfl := some_eq h
 exact Ends.rt Tryz.results100 rfl

theorem ref_Abs_ok {n1 : Int} {r : Int}  (h : ref_Abs n1 = some r) : FSpec Tryz.prog 102 [rep n1] (rep r) := by
 unfold ref_Abs at h
 refine FSpec.i Tryz.func102 rfl Tryz.ntmps102 rfl (fun F => (.sn mx (.asi (.nil (.sn mx (.mv rfl (.mv rfl (.c (.negW .none (.s rfl)) (.c (.max2 .none (.s rfl) (.s rfl)) (.asn rfl (.nil (.ret ?_))))))))))))
 obtain rfl := some_eq h
 exact Ends.rt Tryz.results102 rfl

theorem ref_HasOf_ok {kind1 : Int} {b1 : Box} {p1 : Point} {r : Int}  (h : ref_HasOf kind1 b1 p1 = some r) : FSpec Tryz.prog 86 [rep kind1, rep b1, rep p1] (rep r) := by
 unfold ref_HasOf at h
 refine FSpec.i Tryz.func86 rfl Tryz.ntmps86 rfl (fun F => (.sn mx (.c (.box .none (.s rfl)) (.c (.box .none (.s rfl)) (.asi (.nil (.sn mx (.c (.assign .none (Opd.func (ι := Int × Int × Int) (pre := fun i => ref_HasOf_1 i.1 i.2.1 = some i.2.2) (Ss := fun i => [rep i.1, rep i.2.1]) (S := fun i => rep i.2.2) fnok100 (fun i h => ref_HasOf_1_ok h))) ?_))))))))
 obtain ⟨u1, hv1, h⟩ := bnd_some h
 obtain ⟨v1, hv2, h⟩ := bnd_some h
 obtain ⟨r1, hv3, h⟩ := bind_some h
 obtain ⟨r2, hv4, h⟩ := bind_some h
 refine .nil (.sn mx (.fa fd47_0 hfd47_0 rfl (.ld ty3 rfl (.fa fd38_0 hfd38_0 rfl (.ld ty3 rfl (.sub rfl rfl (.c (.mulW .none .i (.s rfl)) (.fa fd38_2 hfd38_2 rfl (.ld ty3 rfl (.sub rfl rfl (.fa fd47_1 hfd47_1 rfl (.ld ty3 rfl (.fa fd38_1 hfd38_1 rfl (.ld ty3 rfl (.sub rfl rfl (.c (.mulW .none .i (.s rfl)) (.fa fd38_3 hfd38_3 rfl (.ld ty3 rfl (.sub rfl rfl (.ra hv1 rfl (.ra hv2 rfl (.nil (.seq (.sn mx (.mv rfl (.c (.call .none (ref_Abs_ok hv3) (.cons (.s rfl) .nil)) (.fa fd38_2 hfd38_2 rfl (.ld ty3 rfl (.c (.gt .none (.s rfl) (.s rfl)) (.mv rfl (.mg rfl rfl rfl (.c (.callIf (.at rfl rfl) fnok102 (fun hg => ref_Abs_ok ((fun hg => gd_some hv4 ((notT hg.2))) hg)) (.cons (.tmp rfl id) .nil) (fun h => h)) (.fg fd38_3 hfd38_3 rfl rfl rfl (.lg ty3 rfl rfl rfl (.c (.gt (.at rfl rfl) (.tmp rfl id) (.tmp rfl id)) (.po rfl rfl (.nil (.cb rfl h (fun _ h => ?_) fun _ h => ?_))))))))))))))))))))))))))))))))))))))
 ·
  refine .sn mx (.asi (.nil (.ret (.thenRet ?_))))
  obtain rfl := some_eq h
  exact Ends.rt Tryz.results86 rfl
 ·
  obtain ⟨r3, hv6, h⟩ := bind_some h
  obtain ⟨r4, hv7, h⟩ := bind_some h
  refine .skip (.then (.sn mx (.asi (.nil (.seq (.sn mx (.mv rfl (.c (.call .none (ref_Abs_ok hv6) (.cons (.s rfl) .nil)) (.fa fd38_2 hfd38_2 rfl (.ld ty3 rfl (.c (.eqI .none (.s rfl) (.s rfl)) (.mv rfl (.mg rfl rfl rfl (.c (.callIf (.at rfl rfl) fnok102 (fun hg => ref_Abs_ok ((fun hg => gd_some hv7 ((notT hg.2))) hg)) (.cons (.tmp rfl id) .nil) (fun h => h)) (.fg fd38_3 hfd38_3 rfl rfl rfl (.lg ty3 rfl rfl rfl (.c (.eqI (.at rfl rfl) (.tmp rfl id) (.tmp rfl id)) (.po rfl rfl (.nil ?_)))))))))))))))))))
  obtain ⟨j_8, h, hK8⟩ := bind_some h
  refine .thenJ (ι := Int) (fun j_8 => [(10, ⟨True, rep j_8⟩)]) (fun j_8 => []) (fun s => j_8 = s) (.k4 0 4 5 7 rfl rfl rfl rfl (.k2 8 9 rfl rfl .nil)) SubB.nil ?_ (fun j_8' hj8 => ?_)
  ·
   refine .cb rfl h (fun _ h => ?_) fun _ h => ?_
   ·
    exact .rn mx (.asi (.nil (Ends.j _ (some_eq h))))
   ·
    exact .skip (Ends.j _ (some_eq h))
  ·
   subst hj8; have h := hK8; clear hK8
   refine .seq (.sn mx (.mv rfl (.nil ?_)))
   obtain ⟨o_10, h, hK10⟩ := bindR_some h
   refine .tJ (fun s => o_10 = Res.nx s) (.k 10 rfl .nil) SubB.nil ?_ (fun j_10 hj10 => ?_)
   ·
    refine .block (.sn mx (.eqi rfl (.asn rfl (.nil (.cb rfl h (fun _ h => ?_) fun _ h => ?_)))))
    ·
     obtain ⟨r5, hv12, h⟩ := bind_some h
     refine .sn mx (.mv rfl (.mv rfl (.mv rfl (.c (.mulW .none (.s rfl) (.s rfl)) (.fa fd38_3 hfd38_3 rfl (.ld ty3 rfl (.c (.mulW .none (.s rfl) (.s rfl)) (.fa fd38_3 hfd38_3 rfl (.ld ty3 rfl (.c (.mulW .none (.s rfl) (.s rfl)) (.mv rfl (.mv rfl (.c (.mulW .none (.s rfl) (.s rfl)) (.fa fd38_2 hfd38_2 rfl (.ld ty3 rfl (.c (.mulW .none (.s rfl) (.s rfl)) (.fa fd38_2 hfd38_2 rfl (.ld ty3 rfl (.c (.mulW .none (.s rfl) (.s rfl)) (.add rfl rfl (.fa fd38_2 hfd38_2 rfl (.ld ty3 rfl (.fa fd38_2 hfd38_2 rfl (.ld ty3 rfl (.c (.mulW .none (.s rfl) (.s rfl)) (.fa fd38_3 hfd38_3 rfl (.ld ty3 rfl (.c (.mulW .none (.s rfl) (.s rfl)) (.fa fd38_3 hfd38_3 rfl (.ld ty3 rfl (.c (.mulW .none (.s rfl) (.s rfl)) (.c (.callV (W ((W ((W ((W (u1 * u1)) * b1.H)) * b1.H)) + (W ((W ((W (v1 * v1)) * b1.W_)) * b1.W_))), W ((W ((W (b1.W_ * b1.W_)) * b1.H)) * b1.H), r5) .none (.s rfl) (fun _ => hv12) (.cons (.s rfl) (.cons (.s rfl) .nil))) (.asn rfl (.nil (.ret (.blkRet (.thenRet ?_)))))))))))))))))))))))))))))))))))))
     replace h := resb_ab hK10 (some_eq h)
     obtain rfl := some_eq h
     exact Ends.rt Tryz.results86 rfl
    ·
     refine .sn mx (.eqi rfl (.asn rfl (.nil (.cb rfl h (fun _ h => ?_) fun _ h => ?_))))
     ·
      obtain ⟨r6, hv14, h⟩ := bind_some h
      obtain ⟨r7, hv15, h⟩ := bind_some h
      obtain ⟨r8, hv16, h⟩ := bind_some h
      refine .sn mx (.mv rfl (.mv rfl (.c (.call .none (ref_Abs_ok hv14) (.cons (.s rfl) .nil)) (.fa fd38_3 hfd38_3 rfl (.ld ty3 rfl (.c (.mulW .none (.s rfl) (.s rfl)) (.mv rfl (.c (.call .none (ref_Abs_ok hv15) (.cons (.s rfl) .nil)) (.fa fd38_2 hfd38_2 rfl (.ld ty3 rfl (.c (.mulW .none (.s rfl) (.s rfl)) (.add rfl rfl (.fa fd38_2 hfd38_2 rfl (.ld ty3 rfl (.fa fd38_3 hfd38_3 rfl (.ld ty3 rfl (.c (.mulW .none (.s rfl) (.s rfl)) (.c (.callV (W ((W (r6 * b1.H)) + (W (r7 * b1.W_))), W (b1.W_ * b1.H), r8) .none (.s rfl) (fun _ => hv16) (.cons (.s rfl) (.cons (.s rfl) .nil))) (.asn rfl (.nil (.ret (.blkRet (.thenRet ?_)))))))))))))))))))))))
      replace h := resb_ab hK10 (some_eq h)
      obtain rfl := some_eq h
      exact Ends.rt Tryz.results86 rfl
     ·
      refine .sn mx (.eqi rfl (.asn rfl (.nil (.cb rfl h (fun _ h => ?_) fun _ h => ?_))))
      ·
       refine .sn mx (.fa fd38_2 hfd38_2 rfl (.ld ty3 rfl (.fa fd38_3 hfd38_3 rfl (.ld ty3 rfl (.asn rfl (.asn rfl (.nil (.seq (.sn mx (.mv rfl (.mv rfl (.lt rfl rfl (.nil ?_)))))))))))))
       obtain ⟨j_18, h, hK18⟩ := bind_some h
       refine .thenJ (ι := (Int × Int × Int × Int)) (fun j_18 => [(8, ⟨True, rep j_18.1⟩), (9, ⟨True, rep j_18.2.1⟩), (11, ⟨True, rep j_18.2.2.1⟩), (12, ⟨True, rep j_18.2.2.2⟩)]) (fun j_18 => []) (fun s => j_18 = s) (.k 7 rfl .nil) SubB.nil ?_ (fun j_18' hj18 => ?_)
       ·
        refine .cb rfl h (fun _ h => ?_) fun _ h => ?_
        ·
         exact .rn mx (.mv rfl (.mv rfl (.mv rfl (.mv rfl (.asn rfl (.asn rfl (.asn rfl (.asn rfl (.nil (Ends.j _ (some_eq h)))))))))))
        ·
         exact .skip (Ends.j _ (some_eq h))
       ·
        subst hj18; have h := hK18; clear hK18
        obtain ⟨r9, hv20, h⟩ := bind_some h
        obtain ⟨s1, hv21, h⟩ := bnd_some h
        obtain ⟨r10, hv22, h⟩ := bind_some h
        refine .sn mx (.mv rfl (.c (.call .none (ref_Abs_ok hv20) (.cons (.s rfl) .nil)) (.mv rfl (.mv rfl (.sub rfl rfl (.sub rfl rfl (.c (.max2 .none (.s rfl) .i) (.ra hv21 rfl (.nil (.sn mx (.mv rfl (.mv rfl (.mv rfl (.c (.mulW .none (.s rfl) (.s rfl)) (.mv rfl (.mv rfl (.c (.mulW .none (.s rfl) (.s rfl)) (.add rfl rfl (.mv rfl (.mv rfl (.c (.mulW .none (.s rfl) (.s rfl)) (.c (.callV (W ((W (s1 * s1)) + (W (j_18.2.1 * j_18.2.1))), W (j_18.2.2.2 * j_18.2.2.2), r10) .none (.s rfl) (fun _ => hv22) (.cons (.s rfl) (.cons (.s rfl) .nil))) (.asn rfl (.nil (.ret (.blkRet (.thenRet ?_)))))))))))))))))))))))))))
        replace h := resb_ab hK10 (some_eq h)
        obtain rfl := some_eq h
        exact Ends.rt Tryz.results86 rfl
      ·
       refine .sn mx (.eqi rfl (.asn rfl (.nil (.cb rfl h (fun _ h => ?_) fun _ h => ?_))))
       ·
        obtain ⟨n1, hv24, h⟩ := bnd_some h
        obtain ⟨d1, hv25, h⟩ := bnd_some h
        refine .sn mx (.fa fd38_2 hfd38_2 rfl (.ld ty3 rfl (.fa fd38_3 hfd38_3 rfl (.ld ty3 rfl (.c (.min2 .none (.s rfl) (.s rfl)) (.c (.quo .none (.s rfl) .i (fun _ => by decide)) (.ra hv24 rfl (.nil (.sn mx (.fa fd47_0 hfd47_0 rfl (.ld ty3 rfl (.fa fd38_0 hfd38_0 rfl (.ld ty3 rfl (.sub rfl rfl (.fa fd38_2 hfd38_2 rfl (.ld ty3 rfl (.sub rfl rfl (.mv rfl (.add rfl rfl (.fa fd47_1 hfd47_1 rfl (.ld ty3 rfl (.fa fd38_1 hfd38_1 rfl (.ld ty3 rfl (.sub rfl rfl (.sub rfl rfl (.ra hv25 rfl (.nil (.seq (.sn mx (.mv rfl (.c (.gt .none (.s rfl) .i) (.mv rfl (.mg rfl rfl rfl (.c (.gt (.at rfl rfl) (.tmp rfl id) .i) (.pa rfl rfl (.nil (.cb rfl h (fun _ h => ?_) fun _ h => ?_)))))))))))))))))))))))))))))))))))))
        ·
         refine .sn mx (.asi (.nil (.ret (.thenRet (.blkRet (.thenRet ?_))))))
         replace h := resb_ab hK10 (some_eq h)
         obtain rfl := some_eq h
         exact Ends.rt Tryz.results86 rfl
        ·
         refine .skip (.then (.sn mx (.mv rfl (.eqi rfl (.mv rfl (.mg rfl rfl rfl (.c (.gt (.at rfl rfl) (.tmp rfl id) .i) (.pa rfl rfl (.nil (.cb rfl h (fun _ h => ?_) fun _ h => ?_))))))))))
         ·
          refine .sn mx (.asi (.nil (.ret (.blkRet (.thenRet ?_)))))
          replace h := resb_ab hK10 (some_eq h)
          obtain rfl := some_eq h
          exact Ends.rt Tryz.results86 rfl
         ·
          exact .skip (.blkNormal (Ends.j _ (some_eq h)))
       ·
        exact .skip (.blkNormal (Ends.j _ (some_eq h)))
   ·
    have h := resb_nx hK10 hj10
    refine .sn mx (.mv rfl (.asn rfl (.nil (.ret ?_))))
    obtain rfl := some_eq h
    exact Ends.rt Tryz.results86 rfl

theorem ref_HitOf_ok {d1 : Doc} {p1 : Point} {r : Str}  (h : ref_HitOf d1 p1 = some r) : FSpec Tryz.prog 56 [rep d1, rep p1] (rep r) := by
 unfold ref_HitOf at h
 obtain ⟨r1, hv1, h⟩ := bind_some h
 refine FSpec.i Tryz.func56 rfl Tryz.ntmps56 rfl (fun F => (.sn mx (.c (.box .none (.s rfl)) (.c (.box .none (.s rfl)) (.c (.assign .none (.str (l := []) (by decide))) (.nil (.sn mx (.c (.assign .none (.str (l := []) (by decide))) (.c (.assign .none (.str (l := []) (by decide))) (.nil (.seq (.sn mx (.ld ty25 rfl (.c (.call .none (ref_OrderOf_ok hv1) (.cons (.s rfl) .nil)) (.ln sl136 rfl (.mvi (.nil ?_)))))))))))))))))
 obtain ⟨j_2, h, hK2⟩ := bind_some h
 refine .thenJ (ι := (Str × Str)) (fun j_2 => [(5, ⟨True, rep j_2.1⟩), (6, ⟨True, rep j_2.2⟩)]) (fun j_2 => []) (fun s => j_2 = s) Sub.nil SubB.nil ?_ (fun j_2' hj2 => ?_)
 ·
  refine .block (.rforL h (fun p3_ => [(15, ⟨True, rep p3_.1⟩), (5, ⟨True, rep p3_.2.1⟩), (6, ⟨True, rep p3_.2.2⟩)]) (fun p3_ => []) (.k2 15 5 rfl rfl (.k 6 rfl .nil)) SubB.nil (.k4 2 3 13 14 rfl rfl rfl rfl .nil) SubB.nil (fun p3_ o_3 h hD3 => (.sn mx (.lt rfl rfl (.nil (.seq (.cb rfl h (fun _ h => ?_) fun _ h => ?_)))))))
  ·
   refine .skip (.then (.seq ?_))
   obtain ⟨j_5, h, hK5⟩ := bind_some h
   unfold ref_HitOf_L1 at h
   refine .thenJ (ι := (Str × Str)) (fun j_5 => [(5, ⟨True, rep j_5.1⟩), (6, ⟨True, rep j_5.2⟩)]) (fun j_5 => []) (fun s => j_5 = s) (.k4 2 3 13 14 rfl rfl rfl rfl (.k 15 rfl .nil)) SubB.nil ?_ (fun j_5' hj5 => ?_)
   ·
    obtain ⟨hn6, h⟩ := need_some h
    obtain ⟨id1, hv7, h⟩ := bnd_some h
    obtain ⟨k1, hv8, h⟩ := bind_some h
    refine .block (.sn mx (.ix sl136 ty9 rfl rfl hn6 (.ld ty9 rfl (.ra hv7 rfl (.nil (.sn mx (.ld ty25 rfl (.mv rfl (.c (.call .none (ref_NodeAt_ok hv8) (.cons (.s rfl) (.cons (.s rfl) .nil))) (.asn rfl (.nil (.seq (.sn mx (.mv rfl (.c (.lt .none (.s rfl) .i) (.nil (.cb rfl h (fun _ h => ?_) fun _ h => ?_)))))))))))))))))
    ·
     exact .exit (.thenExit (.blkExit (Ends.j _ (some_eq h))))
    ·
     obtain ⟨r2, hv10, h⟩ := bind_some h
     obtain ⟨hn11, h⟩ := need_some h
     obtain ⟨hn12, h⟩ := need_some h
     obtain ⟨r3, hv13, h⟩ := bind_some h
     refine .skip (.then (.sr [oo, oo, oo, oo, oo, oo, ([], [10]), ([10], [10]), oo] mx (.ldA ty25 rfl (.mvA rfl (.cA (.call .none (ref_BoxOfNode_ok hv10) (.cons (.s rfl) (.cons (.s rfl) .nil))) (.mvA rfl (.exA rfl rfl (.exA rfl rfl (.al zo38 rfl (.st ty38 rfl rfl rfl (.asnA rfl (.nil (.freeze (t := 10) rfl rfl SubB.nil rfl (.block (.sn mx (.fa fd25_0 hfd25_0 rfl (.ld ty22 rfl (.mv rfl (.ix sl22 ty40 rfl rfl hn11 (.fa fd40_1 hfd40_1 rfl (.ld ty3 rfl (.nei rfl (.mv rfl (.fg fd25_0 hfd25_0 rfl rfl rfl (.lg ty22 rfl rfl rfl (.mg rfl rfl rfl (.c (.indexAddr (.at rfl rfl) sl22 ty40 (.tmp rfl id) (.tmp rfl id) (fun hg => hn12 hg.2)) (.c (.fieldAddr (.at rfl rfl) fd40_1 hfd40_1 (.tmp rfl id)) (.lg ty3 rfl rfl rfl (.c (.load (.at rfl rfl) ty38 (.s rfl)) (.c (.load (.at rfl rfl) ty47 (.s rfl)) (.c (.callIf (.at rfl rfl) fnok86 (fun hg => ref_HasOf_ok ((fun hg => gd_some hv13 (hg.2)) hg)) (.cons (.tmp rfl id) (.cons (.tmp rfl id) (.cons (.tmp rfl id) .nil))) (fun h => h)) (.c (.ge (.at rfl rfl) (.tmp rfl id) .i) (.pa rfl rfl (.asn rfl (.nil (.cb rfl h (fun _ h => ?_) fun _ h => ?_)))))))))))))))))))))))))))))))))))))
     ·
      exact .rn mx (.mv rfl (.asn rfl (.nil (.blkNormal (.blkNormal (Ends.j _ (some_eq h)))))))
     ·
      obtain ⟨hn15, h⟩ := need_some h
      obtain ⟨r4, hv16, h⟩ := bind_some h
      refine .sn mx (.fa fd25_0 hfd25_0 rfl (.ld ty22 rfl (.mv rfl (.ix sl22 ty40 rfl rfl hn15 (.fa fd40_1 hfd40_1 rfl (.ld ty3 rfl (.eqi rfl (.mv rfl (.fg fd47_0 hfd47_0 rfl rfl rfl (.lg ty3 rfl rfl rfl (.fg fd38_0 hfd38_0 rfl rfl rfl (.lg ty3 rfl rfl rfl (.fg fd38_0 hfd38_0 rfl rfl rfl (.lg ty3 rfl rfl rfl (.fg fd38_2 hfd38_2 rfl rfl rfl (.lg ty3 rfl rfl rfl (.c (.addW (.at rfl rfl) (.tmp rfl id) (.tmp rfl id)) (.c (.callIf (.at rfl rfl) fnok8 (fun hg => ref_In_ok ((fun hg => gd_some hv16 (hg.2)) hg)) (.cons (.tmp rfl id) (.cons (.tmp rfl id) (.cons (.tmp rfl id) .nil))) (fun h => h)) ?_))))))))))))))))))
      obtain ⟨r5, hv17, h⟩ := bind_some h
      refine .pa rfl rfl (.mv rfl (.fg fd47_1 hfd47_1 rfl rfl rfl (.lg ty3 rfl rfl rfl (.fg fd38_1 hfd38_1 rfl rfl rfl (.lg ty3 rfl rfl rfl (.fg fd38_1 hfd38_1 rfl rfl rfl (.lg ty3 rfl rfl rfl (.fg fd38_3 hfd38_3 rfl rfl rfl (.lg ty3 rfl rfl rfl (.c (.addW (.at rfl rfl) (.tmp rfl id) (.tmp rfl id)) (.c (.callIf (.at rfl rfl) fnok8 (fun hg => ref_In_ok ((fun hg => gd_some hv17 (hg.2)) hg)) (.cons (.tmp rfl id) (.cons (.tmp rfl id) (.cons (.tmp rfl id) .nil))) (fun h => h)) (.pa rfl rfl (.asn rfl (.nil (.cb rfl h (fun _ h => ?_) fun _ h => ?_)))))))))))))))
      ·
       exact .rn mx (.mv rfl (.asn rfl (.nil (.blkNormal (.blkNormal (Ends.j _ (some_eq h)))))))
      ·
       exact .skip (.blkNormal (.blkNormal (Ends.j _ (some_eq h))))
   ·
    subst hj5; have h := hK5; clear hK5
    exact .rn mx (.adi rfl (.mv rfl (.nil (Ends.ag (some_eq h)))))
  ·
   refine .exit (.thenExit (.thenExit (.blkExit ?_)))
   replace h := hD3 _ (some_eq h)
   exact Ends.j _ (some_eq h)
 ·
  subst hj2; have h := hK2; clear hK2
  refine .seq (.sn mx (.mv rfl (.c (.neS .none (eqAt_str Tryz.underlying9) (.s rfl) (.str (l := []) (by decide))) (.nil (.cb rfl h (fun _ h => ?_) fun _ h => ?_)))))
  ·
   refine .sn mx (.mv rfl (.asn rfl (.nil (.ret (.thenRet ?_)))))
   obtain rfl := some_eq h
   exact Ends.rt Tryz.results56 rfl
  ·
   refine .skip (.then (.sn mx (.mv rfl (.asn rfl (.nil (.ret ?_))))))
   obtain rfl := some_eq h
   exact Ends.rt Tryz.results56 rfl

theorem ref_PortOf_ok {kind1 : Int} {b1 : Box} {side1 : Int} {at1 : Int} {r : Point}  (h : ref_PortOf kind1 b1 side1 at1 = some r) : FSpec Tryz.prog 103 [rep kind1, rep b1, rep side1, rep at1] (rep r) := by
 unfold ref_PortOf at h
 obtain ⟨v1, hv1, h⟩ := bnd_some h
 obtain ⟨r1, hv2, h⟩ := bind_some h
 obtain ⟨r2, hv3, h⟩ := bind_some h
 obtain ⟨x1, hv4, h⟩ := bnd_some h
 obtain ⟨y1, hv5, h⟩ := bnd_some h
 refine FSpec.i Tryz.func103 rfl Tryz.ntmps103 rfl (fun F => (.sr [oo, ([], [8])] mx (.cA (.box .none (.s rfl)) (.al zo47 rfl (.nil (.reB (t := 8) rfl (congrArg (cont 47) hv1) (.nameBox (t := 8) (g := 5001) rfl rfl (fun m5001 => (.sn mx (.fa fd38_0 hfd38_0 rfl (.ld ty3 rfl (.fa fd38_2 hfd38_2 rfl (.ld ty3 rfl (.mv rfl (.c (.mulW .none (.s rfl) (.s rfl)) (.c (.call .none (ref_Down_ok hv2) (.cons (.s rfl) (.cons .i .nil))) (.add rfl rfl (.fa fd38_1 hfd38_1 rfl (.ld ty3 rfl (.fa fd38_3 hfd38_3 rfl (.ld ty3 rfl (.mv rfl (.c (.mulW .none (.s rfl) (.s rfl)) (.c (.call .none (ref_Down_ok hv3) (.cons (.s rfl) (.cons .i .nil))) (.add rfl rfl (.ra hv4 rfl (.ra hv5 rfl (.nil (.seq (.sn mx (.mv rfl (.nil ?_))))))))))))))))))))))))))))))))
 obtain ⟨o_6, h, hK6⟩ := bindR_some h
 refine .tJ (fun s => o_6 = Res.nx s) (.k4 2 5 8 9 rfl rfl rfl rfl (.k 10 rfl .nil)) (.k 5001 rfl .nil) ?_ (fun j_6 hj6 => ?_)
 ·
  refine .block (.sn mx (.eqi rfl (.asn rfl (.nil (.cb rfl h (fun _ h => ?_) fun _ h => ?_)))))
  ·
   refine .sn mx (.fa fd38_1 hfd38_1 rfl (.ld ty3 rfl (.asn rfl (.nil (.block (.loopL h (fun s8_ => [(11, ⟨True, rep s8_⟩)]) (fun s8_ => []) (.k 11 rfl .nil) SubB.nil (.k4 0 2 5 8 rfl rfl rfl rfl (.k2 9 10 rfl rfl .nil)) (.k 5001 rfl .nil) (fun s8_ o_8 h hD8 => ?_)))))))
   unfold ref_PortOf_L1 at h
   refine .seq (.sn mx (.mv rfl (.fa fd38_1 hfd38_1 rfl (.ld ty3 rfl (.fa fd38_3 hfd38_3 rfl (.ld ty3 rfl (.add rfl rfl (.c (.le .none (.s rfl) (.s rfl)) (.nil (.cb rfl h (fun _ h => ?_) fun _ h => ?_))))))))))
   ·
    obtain ⟨v2, hv10, h⟩ := bnd_some h
    obtain ⟨r3, hv11, h⟩ := bind_some h
    refine .skip (.then (.seq (.block (.sr [oo, oo, oo, ([], [12]), ([12], [12])] mx (.mvA rfl (.mvA rfl (.cA (.re hv10 (.buildF (y := (⟨x1, s8_⟩ : Point)) .none bu47 zc47 rfl (.cons (.s rfl) (.cons (.s rfl) .nil)) (.cons rfl sf47_0 (.cons rfl sf47_1 .nil)))) (.al zo47 rfl (.st ty47 rfl rfl rfl (.nil (.freeze (t := 12) rfl rfl (.k 5001 rfl .nil) rfl (.sn mx (.mv rfl (.ld ty38 rfl (.ld ty47 rfl (.c (.call .none (ref_HasOf_ok hv11) (.cons (.s rfl) (.cons (.s rfl) (.cons (.s rfl) .nil)))) (.c (.ge .none (.s rfl) .i) (.nil (.cb rfl h (fun _ h => ?_) fun _ h => ?_)))))))))))))))))))
    ·
     refine .sr [oo, ([5001], [5001])] mx (.ldA ty47 rfl (.s0 5001 ty47 rfl rfl rfl (.nil (.fb 5001 [8] rfl (.cons (t := 8) rfl trivial .nil) (.ret (.blkRet (.thenRet (.thenRet (.blkRet (.blkRet (.thenRet ?_)))))))))))
     replace h := hD8 _ (some_eq h)
     replace h := resb_ab hK6 (some_eq h)
     obtain rfl := some_eq h
     exact Ends.ret1 (.inl rfl) Tryz.results103 (ResOK.cellR ty47 rfl trivial Imp.refl)
    ·
     obtain ⟨k1, hv13, h⟩ := bnd_some h
     exact .skip (.blkNormal (.then (.rn mx (.mv rfl (.adi rfl (.ra hv13 rfl (.nil (Ends.ag (some_eq h)))))))))
   ·
    refine .exit (.thenExit (.thenExit (.blkExit (.blkNormal ?_))))
    replace h := hD8 _ (some_eq h)
    exact Ends.j _ (some_eq h)
  ·
   refine .sn mx (.eqi rfl (.asn rfl (.nil (.cb rfl h (fun _ h => ?_) fun _ h => ?_))))
   ·
    obtain ⟨k2, hv15, h⟩ := bnd_some h
    refine .sn mx (.fa fd38_1 hfd38_1 rfl (.ld ty3 rfl (.fa fd38_3 hfd38_3 rfl (.ld ty3 rfl (.add rfl rfl (.ra hv15 rfl (.nil (.block (.loopL h (fun s16_ => [(13, ⟨True, rep s16_⟩)]) (fun s16_ => []) (.k 13 rfl .nil) SubB.nil (.k4 0 2 5 8 rfl rfl rfl rfl (.k2 9 10 rfl rfl .nil)) (.k 5001 rfl .nil) (fun s16_ o_16 h hD16 => ?_))))))))))
    unfold ref_PortOf_L2 at h
    refine .seq (.sn mx (.mv rfl (.fa fd38_1 hfd38_1 rfl (.ld ty3 rfl (.c (.ge .none (.s rfl) (.s rfl)) (.nil (.cb rfl h (fun _ h => ?_) fun _ h => ?_)))))))
    ·
     obtain ⟨v3, hv18, h⟩ := bnd_some h
     obtain ⟨r4, hv19, h⟩ := bind_some h
     refine .skip (.then (.seq (.block (.sr [oo, oo, oo, ([], [14]), ([14], [14])] mx (.mvA rfl (.mvA rfl (.cA (.re hv18 (.buildF (y := (⟨x1, s16_⟩ : Point)) .none bu47 zc47 rfl (.cons (.s rfl) (.cons (.s rfl) .nil)) (.cons rfl sf47_0 (.cons rfl sf47_1 .nil)))) (.al zo47 rfl (.st ty47 rfl rfl rfl (.nil (.freeze (t := 14) rfl rfl (.k 5001 rfl .nil) rfl (.sn mx (.mv rfl (.ld ty38 rfl (.ld ty47 rfl (.c (.call .none (ref_HasOf_ok hv19) (.cons (.s rfl) (.cons (.s rfl) (.cons (.s rfl) .nil)))) (.c (.ge .none (.s rfl) .i) (.nil (.cb rfl h (fun _ h => ?_) fun _ h => ?_)))))))))))))))))))
     ·
      refine .sr [oo, ([5001], [5001])] mx (.ldA ty47 rfl (.s0 5001 ty47 rfl rfl rfl (.nil (.fb 5001 [8] rfl (.cons (t := 8) rfl trivial .nil) (.ret (.blkRet (.thenRet (.thenRet (.blkRet (.blkRet (.thenRet ?_)))))))))))
      replace h := hD16 _ (some_eq h)
      replace h := resb_ab hK6 (some_eq h)
      obtain rfl := some_eq h
      exact Ends.ret1 (.inl rfl) Tryz.results103 (ResOK.cellR ty47 rfl trivial Imp.refl)
     ·
      obtain ⟨k3, hv21, h⟩ := bnd_some h
      exact .skip (.blkNormal (.then (.rn mx (.mv rfl (.c (.subW .none (.s rfl) .i) (.ra hv21 rfl (.nil (Ends.ag (some_eq h)))))))))
    ·
     refine .exit (.thenExit (.thenExit (.blkExit (.blkNormal ?_))))
     replace h := hD16 _ (some_eq h)
     exact Ends.j _ (some_eq h)
   ·
    refine .sn mx (.eqi rfl (.asn rfl (.nil (.cb rfl h (fun _ h => ?_) fun _ h => ?_))))
    ·
     refine .sn mx (.fa fd38_0 hfd38_0 rfl (.ld ty3 rfl (.asn rfl (.nil (.block (.loopL h (fun s23_ => [(15, ⟨True, rep s23_⟩)]) (fun s23_ => []) (.k 15 rfl .nil) SubB.nil (.k4 0 2 5 8 rfl rfl rfl rfl (.k2 9 10 rfl rfl .nil)) (.k 5001 rfl .nil) (fun s23_ o_23 h hD23 => ?_)))))))
     unfold ref_PortOf_L3 at h
     refine .seq (.sn mx (.mv rfl (.fa fd38_0 hfd38_0 rfl (.ld ty3 rfl (.fa fd38_2 hfd38_2 rfl (.ld ty3 rfl (.add rfl rfl (.c (.le .none (.s rfl) (.s rfl)) (.nil (.cb rfl h (fun _ h => ?_) fun _ h => ?_))))))))))
     ·
      obtain ⟨v4, hv25, h⟩ := bnd_some h
      obtain ⟨r5, hv26, h⟩ := bind_some h
      refine .skip (.then (.seq (.block (.sr [oo, oo, oo, ([], [16]), ([16], [16])] mx (.mvA rfl (.mvA rfl (.cA (.re hv25 (.buildF (y := (⟨s23_, y1⟩ : Point)) .none bu47 zc47 rfl (.cons (.s rfl) (.cons (.s rfl) .nil)) (.cons rfl sf47_0 (.cons rfl sf47_1 .nil)))) (.al zo47 rfl (.st ty47 rfl rfl rfl (.nil (.freeze (t := 16) rfl rfl (.k 5001 rfl .nil) rfl (.sn mx (.mv rfl (.ld ty38 rfl (.ld ty47 rfl (.c (.call .none (ref_HasOf_ok hv26) (.cons (.s rfl) (.cons (.s rfl) (.cons (.s rfl) .nil)))) (.c (.ge .none (.s rfl) .i) (.nil (.cb rfl h (fun _ h => ?_) fun _ h => ?_)))))))))))))))))))
      ·
       refine .sr [oo, ([5001], [5001])] mx (.ldA ty47 rfl (.s0 5001 ty47 rfl rfl rfl (.nil (.fb 5001 [8] rfl (.cons (t := 8) rfl trivial .nil) (.ret (.blkRet (.thenRet (.thenRet (.blkRet (.blkRet (.thenRet ?_)))))))))))
       replace h := hD23 _ (some_eq h)
       replace h := resb_ab hK6 (some_eq h)
       obtain rfl := some_eq h
       exact Ends.ret1 (.inl rfl) Tryz.results103 (ResOK.cellR ty47 rfl trivial Imp.refl)
      ·
       obtain ⟨k4, hv28, h⟩ := bnd_some h
       exact .skip (.blkNormal (.then (.rn mx (.mv rfl (.adi rfl (.ra hv28 rfl (.nil (Ends.ag (some_eq h)))))))))
     ·
      refine .exit (.thenExit (.thenExit (.blkExit (.blkNormal ?_))))
      replace h := hD23 _ (some_eq h)
      exact Ends.j _ (some_eq h)
    ·
     obtain ⟨k5, hv29, h⟩ := bnd_some h
     refine .sn mx (.fa fd38_0 hfd38_0 rfl (.ld ty3 rfl (.fa fd38_2 hfd38_2 rfl (.ld ty3 rfl (.add rfl rfl (.ra hv29 rfl (.nil (.block (.loopL h (fun s30_ => [(17, ⟨True, rep s30_⟩)]) (fun s30_ => []) (.k 17 rfl .nil) SubB.nil (.k4 0 2 5 8 rfl rfl rfl rfl (.k2 9 10 rfl rfl .nil)) (.k 5001 rfl .nil) (fun s30_ o_30 h hD30 => ?_))))))))))
     unfold ref_PortOf_L4 at h
     refine .seq (.sn mx (.mv rfl (.fa fd38_0 hfd38_0 rfl (.ld ty3 rfl (.c (.ge .none (.s rfl) (.s rfl)) (.nil (.cb rfl h (fun _ h => ?_) fun _ h => ?_)))))))
     ·
      obtain ⟨v5, hv32, h⟩ := bnd_some h
      obtain ⟨r6, hv33, h⟩ := bind_some h
      refine .skip (.then (.seq (.block (.sr [oo, oo, oo, ([], [18]), ([18], [18])] mx (.mvA rfl (.mvA rfl (.cA (.re hv32 (.buildF (y := (⟨s30_, y1⟩ : Point)) .none bu47 zc47 rfl (.cons (.s rfl) (.cons (.s rfl) .nil)) (.cons rfl sf47_0 (.cons rfl sf47_1 .nil)))) (.al zo47 rfl (.st ty47 rfl rfl rfl (.nil (.freeze (t := 18) rfl rfl (.k 5001 rfl .nil) rfl (.sn mx (.mv rfl (.ld ty38 rfl (.ld ty47 rfl (.c (.call .none (ref_HasOf_ok hv33) (.cons (.s rfl) (.cons (.s rfl) (.cons (.s rfl) .nil)))) (.c (.ge .none (.s rfl) .i) (.nil (.cb rfl h (fun _ h => ?_) fun _ h => ?_)))))))))))))))))))
      ·
       refine .sr [oo, ([5001], [5001])] mx (.ldA ty47 rfl (.s0 5001 ty47 rfl rfl rfl (.nil (.fb 5001 [8] rfl (.cons (t := 8) rfl trivial .nil) (.ret (.blkRet (.thenRet (.thenRet (.blkRet (.blkRet (.thenRet ?_)))))))))))
       replace h := hD30 _ (some_eq h)
       replace h := resb_ab hK6 (some_eq h)
       obtain rfl := some_eq h
       exact Ends.ret1 (.inl rfl) Tryz.results103 (ResOK.cellR ty47 rfl trivial Imp.refl)
      ·
       obtain ⟨k6, hv35, h⟩ := bnd_some h
       exact .skip (.blkNormal (.then (.rn mx (.mv rfl (.c (.subW .none (.s rfl) .i) (.ra hv35 rfl (.nil (Ends.ag (some_eq h)))))))))
     ·
      refine .exit (.thenExit (.thenExit (.blkExit (.blkNormal ?_))))
      replace h := hD30 _ (some_eq h)
      exact Ends.j _ (some_eq h)
 ·
  have h := resb_nx hK6 hj6
  refine .seq (.sn mx (.mv rfl (.eqi rfl (.mv rfl (.mg rfl rfl rfl (.c (.eqI (.at rfl rfl) (.tmp rfl id) .i) (.po rfl rfl (.nil (.cb rfl h (fun _ h => ?_) fun _ h => ?_)))))))))
  ·
   obtain ⟨r7, hv37, h⟩ := bind_some h
   obtain ⟨v6, hv38, h⟩ := bnd_some h
   refine .sr [oo, oo, oo, oo, oo, oo, oo, oo, ([5001], [5001])] mx (.mvA rfl (.faA fd38_1 hfd38_1 rfl (.ldA ty3 rfl (.faA fd38_3 hfd38_3 rfl (.ldA ty3 rfl (.cA (.call .none (ref_Down_ok hv37) (.cons (.s rfl) (.cons .i .nil))) (.addA rfl rfl (.cA (.re hv38 (.buildF (y := (⟨x1, W (b1.Y + r7)⟩ : Point)) .none bu47 zc47 rfl (.cons (.s rfl) (.cons (.s rfl) .nil)) (.cons rfl sf47_0 (.cons rfl sf47_1 .nil)))) (.s0 5001 ty47 rfl rfl rfl (.nil (.fb 5001 [8] rfl (.cons (t := 8) rfl trivial .nil) (.ret (.thenRet ?_)))))))))))))
   obtain rfl := some_eq h
   exact Ends.ret1 (.inl rfl) Tryz.results103 (ResOK.cellR ty47 rfl trivial Imp.refl)
  ·
   obtain ⟨r8, hv39, h⟩ := bind_some h
   obtain ⟨v7, hv40, h⟩ := bnd_some h
   refine .skip (.then (.sr [oo, oo, oo, oo, oo, oo, oo, oo, ([5001], [5001])] mx (.faA fd38_0 hfd38_0 rfl (.ldA ty3 rfl (.faA fd38_2 hfd38_2 rfl (.ldA ty3 rfl (.cA (.call .none (ref_Down_ok hv39) (.cons (.s rfl) (.cons .i .nil))) (.addA rfl rfl (.mvA rfl (.cA (.re hv40 (.buildF (y := (⟨W (b1.X + r8), y1⟩ : Point)) .none bu47 zc47 rfl (.cons (.s rfl) (.cons (.s rfl) .nil)) (.cons rfl sf47_0 (.cons rfl sf47_1 .nil)))) (.s0 5001 ty47 rfl rfl rfl (.nil (.fb 5001 [8] rfl (.cons (t := 8) rfl trivial .nil) (.ret ?_))))))))))))))
   obtain rfl := some_eq h
   exact Ends.ret1 (.inl rfl) Tryz.results103 (ResOK.cellR ty47 rfl trivial Imp.refl)

theorem ref_PortPoint_ok {d1 : Doc} {x1 : DEnd} {r : Point}  (h : ref_PortPoint d1 x1 = some r) : FSpec Tryz.prog 87 [rep d1, rep x1] (rep r) := by
 unfold ref_PortPoint at h
 obtain ⟨v1, hv1, h⟩ := bnd_some h
 obtain ⟨r1, hv2, h⟩ := bind_some h
 obtain ⟨hn3, h⟩ := need_some h
 obtain ⟨v2, hv4, h⟩ := bnd_some h
 obtain ⟨r2, hv5, h⟩ := bind_some h
 refine FSpec.i Tryz.func87 rfl Tryz.ntmps87 rfl (fun F => (.sr [oo, oo, ([], [4])] mx (.cA (.box .none (.s rfl)) (.cA (.box .none (.s rfl)) (.al zo47 rfl (.nil (.reB (t := 4) rfl (congrArg (cont 47) hv1) (.nameBox (t := 4) (g := 5001) rfl rfl (fun m5001 => (.sr [oo, oo, oo, oo, oo, oo, oo, oo, ([], [5]), ([5], [5])] mx (.faA fd25_0 hfd25_0 rfl (.ldA ty22 rfl (.ldA ty25 rfl (.faA fd76_0 hfd76_0 rfl (.ldA ty9 rfl (.cA (.call .none (ref_NodeAt_ok hv2) (.cons (.s rfl) (.cons (.s rfl) .nil))) (.ixA sl22 ty40 rfl rfl hn3 (.rlA hv4 ty40 rfl (.al zo40 rfl (.st ty40 rfl rfl rfl (.nil (.freeze (t := 5) rfl rfl (.k 5001 rfl .nil) rfl (.sr [oo, oo, oo, oo, oo, oo, oo, oo, oo, ([5001], [5001])] mx (.faA fd40_1 hfd40_1 rfl (.ldA ty3 rfl (.faA fd40_2 hfd40_2 rfl (.ldA ty38 rfl (.faA fd76_1 hfd76_1 rfl (.ldA ty3 rfl (.faA fd76_2 hfd76_2 rfl (.ldA ty3 rfl (.cA (.call .none (ref_PortOf_ok hv5) (.cons (.s rfl) (.cons (.s rfl) (.cons (.s rfl) (.cons (.s rfl) .nil))))) (.s0 5001 ty47 rfl rfl rfl (.nil (.fb 5001 [4] rfl (.cons (t := 4) rfl trivial .nil) (.ret ?_))))))))))))))))))))))))))))))))))))
 obtain rfl := some_eq h
 exact Ends.ret1 (.inl rfl) Tryz.results87 (ResOK.cellR ty47 rfl trivial Imp.refl)

theorem ref_LineOf_ok {d1 : Doc} {x1 : DEdge} {r : (List Point)}  (h : ref_LineOf d1 x1 = some r) : FSpec Tryz.prog 57 [rep d1, rep x1] (rep r) := by
 unfold ref_LineOf at h
 obtain ⟨r1, hv1, h⟩ := bind_some h
 obtain ⟨hn2, h⟩ := need_some h
 obtain ⟨l1, hv3, h⟩ := bnd_some h
 obtain ⟨r2, hv4, h⟩ := bind_some h
 obtain ⟨hn5, h⟩ := need_some h
 refine FSpec.i Tryz.func57 rfl Tryz.ntmps57 rfl (fun F => (.sn mx (.c (.box .none (.s rfl)) (.c (.box .none (.s rfl)) (.c (.assign .none (.const (x := ([] : (List Point))) (fun M w => ⟨_, ⟨none, 0, rfl, Nat.le_refl _, by decide, rfl⟩, rfl⟩))) (.nil (.sr [oo, oo, oo, oo, ([], [10]), oo, oo, ([10], [13, 10]), ([13], [5, 13])] mx (.ldA ty25 rfl (.faA fd79_1 hfd79_1 rfl (.ldA ty76 rfl (.cA (.call .none (ref_PortPoint_ok hv1) (.cons (.s rfl) (.cons (.s rfl) .nil))) (.cW (.buildSliceO (xs := [_]) rfl sl77 ty47 hz47 (.cons (.s rfl) .nil) rfl (by decide)) (.faA fd79_3 hfd79_3 rfl (.ldA ty77 rfl (.cW (.append (k := 10) rk77 rfl (.tmp rfl) (.s rfl) hn2) (.cW (.passRow rfl (.tmp rfl)) (.nil (.reB (t := 5) rfl (congrArg (rowV 47) hv3) (.nameRow (t := 5) (g := 5001) rfl rfl rfl (fun s5001 => (.sr [oo, oo, oo, oo, oo, oo, ([5001], [20, 5001]), ([20], [4, 20])] mx (.mvA rfl (.ldA ty25 rfl (.faA fd79_2 hfd79_2 rfl (.ldA ty76 rfl (.cA (.call .none (ref_PortPoint_ok hv4) (.cons (.s rfl) (.cons (.s rfl) .nil))) (.cA (.buildSlice (xs := [_]) .none sl77 ty47 hz47 (.cons (.s rfl) .nil) rfl (by decide)) (.cW (.append (k := 5001) rk77 rfl (.told (.s rfl) rfl) (.s rfl) hn5) (.cW (.passRow rfl (.tmp rfl)) (.nil (.freezeRowA (t := 4) rfl rfl SubB.nil rfl (.ret ?_))))))))))))))))))))))))))))))))
 obtain rfl := some_eq h
 exact Ends.rt Tryz.results57 rfl

theorem law_sign_ok {d1 : Doc} {c1 : Box} {r : Str}  (h : law_sign d1 c1 = some r) : FSpec Tryz.prog 25 [rep d1, rep c1] (rep r) := by
 unfold law_sign at h
 obtain ⟨r1, hv1, h⟩ := bind_some h
 obtain ⟨r2, hv2, h⟩ := bind_some h
 obtain ⟨v1, hv3, h⟩ := bnd_some h
 obtain ⟨r3, hv4, h⟩ := bind_some h
 refine FSpec.i Tryz.func25 rfl Tryz.ntmps25 rfl (fun F => (.sn mx (.c (.box .none (.s rfl)) (.c (.box .none (.s rfl)) (.c (.assign .none (.str (l := []) (by decide))) (.nil (.sr [oo, oo, oo, oo, oo, oo, oo, oo, oo, oo, oo, oo, oo, ([], [5]), ([5], [5])] mx (.faA fd38_0 hfd38_0 rfl (.ldA ty3 rfl (.faA fd38_2 hfd38_2 rfl (.ldA ty3 rfl (.cA (.call .none (ref_Down_ok hv1) (.cons (.s rfl) (.cons .i .nil))) (.addA rfl rfl (.faA fd38_1 hfd38_1 rfl (.ldA ty3 rfl (.faA fd38_3 hfd38_3 rfl (.ldA ty3 rfl (.cA (.call .none (ref_Down_ok hv2) (.cons (.s rfl) (.cons .i .nil))) (.addA rfl rfl (.cA (.re hv3 (.buildF (y := (⟨W (c1.X + r1), W (c1.Y + r2)⟩ : Point)) .none bu47 zc47 rfl (.cons (.s rfl) (.cons (.s rfl) .nil)) (.cons rfl sf47_0 (.cons rfl sf47_1 .nil)))) (.al zo47 rfl (.st ty47 rfl rfl rfl (.nil (.freeze (t := 5) rfl rfl SubB.nil rfl (.seq (.sn mx (.ld ty47 rfl (.c (.call .none (ref_PointError_ok hv4) (.cons (.s rfl) .nil)) (.eqi rfl (.nil ?_))))))))))))))))))))))))))))))
 obtain ⟨o_5, h, hK5⟩ := bindR_some h
 refine .tJ (fun s => o_5 = Res.nx s) (.k2 2 3 rfl rfl .nil) SubB.nil ?_ (fun j_5 hj5 => ?_)
 ·
  refine .cb rfl h (fun _ h => ?_) fun _ h => ?_
  ·
   obtain ⟨r4, hv7, h⟩ := bind_some h
   obtain ⟨k1, hv8, h⟩ := bind_some h
   obtain ⟨hn9, h⟩ := need_some h
   refine .sn mx (.ld ty25 rfl (.ld ty25 rfl (.ld ty47 rfl (.c (.call .none (ref_HitOf_ok hv7) (.cons (.s rfl) (.cons (.s rfl) .nil))) (.c (.call .none (ref_NodeAt_ok hv8) (.cons (.s rfl) (.cons (.s rfl) .nil))) (.asn rfl (.nil (.sn mx (.mv rfl (.c (.ge .none (.s rfl) .i) (.mv rfl (.fg fd25_0 hfd25_0 rfl rfl rfl (.lg ty22 rfl rfl rfl (.mg rfl rfl rfl (.c (.indexAddr (.at rfl rfl) sl22 ty40 (.tmp rfl id) (.tmp rfl id) (fun hg => hn9 hg.2)) (.c (.fieldAddr (.at rfl rfl) fd40_1 hfd40_1 (.tmp rfl id)) (.lg ty3 rfl rfl rfl (.c (.neI (.at rfl rfl) (.tmp rfl id) .i) (.pa rfl rfl (.nil (.cb rfl h (fun _ h => ?_) fun _ h => ?_)))))))))))))))))))))
   ·
    obtain ⟨hn11, h⟩ := need_some h
    obtain ⟨hn12, h⟩ := need_some h
    refine .sn mx (.fa fd25_0 hfd25_0 rfl (.ld ty22 rfl (.mv rfl (.ix sl22 ty40 rfl rfl hn11 (.fa fd40_0 hfd40_0 rfl (.ld ty9 rfl (.c (.sliceStr .none Tryz.underlying9 (.s rfl) rfl .i (fun _ => hn12)) (.asn rfl (.nil (.ret (.thenRet ?_)))))))))))
    replace h := resb_ab hK5 (some_eq h)
    obtain rfl := some_eq h
    exact Ends.rt Tryz.results25 rfl
   ·
    exact .skip (Ends.j _ (some_eq h))
  ·
   exact .skip (Ends.j _ (some_eq h))
 ·
  have h := resb_nx hK5 hj5
  refine .seq (.sn mx (.fa fd25_1 hfd25_1 rfl (.ld ty23 rfl (.ln sl23 rfl (.mvi (.nil ?_))))))
  obtain ⟨o_13, h, hK13⟩ := bindR_some h
  refine .tJ (fun s => o_13 = Res.nx s) Sub.nil SubB.nil ?_ (fun j_13 hj13 => ?_)
  ·
   refine .block (.rforEL h (fun p14_ => [(55, ⟨True, rep p14_.1⟩)]) (fun p14_ => []) (.k 55 rfl .nil) SubB.nil (.k4 2 3 53 54 rfl rfl rfl rfl .nil) SubB.nil (fun p14_ o_14 h hD14 => (.sn mx (.lt rfl rfl (.nil (.seq (.cb rfl h (fun _ h => ?_) fun _ h => ?_)))))))
   ·
    refine .skip (.then (.seq ?_))
    obtain ⟨o_16, h, hK16⟩ := bindD_some h
    unfold law_sign_L1 at h
    refine .tJ (fun s => o_16 = Res.nx s) (.k4 2 3 53 54 rfl rfl rfl rfl (.k 55 rfl .nil)) SubB.nil ?_ (fun j_16 hj16 => ?_)
    ·
     obtain ⟨hn17, h⟩ := need_some h
     obtain ⟨v2, hv18, h⟩ := bnd_some h
     obtain ⟨l1, hv19, h⟩ := bind_some h
     refine .block (.sr [oo, oo, ([], [8]), ([8], [8])] mx (.ixA sl23 ty79 rfl rfl hn17 (.rlA hv18 ty79 rfl (.al zo79 rfl (.st ty79 rfl rfl rfl (.nil (.freeze (t := 8) rfl rfl SubB.nil rfl (.sn mx (.ld ty25 rfl (.ld ty79 rfl (.c (.call .none (ref_LineOf_ok hv19) (.cons (.s rfl) (.cons (.s rfl) .nil))) (.asn rfl (.nil (.sn mx (.asi (.nil (.block (.loopL h (fun s20_ => [(10, ⟨True, rep s20_⟩)]) (fun s20_ => []) (.k 10 rfl .nil) SubB.nil (.k4 2 3 9 53 rfl rfl rfl rfl (.k2 54 55 rfl rfl .nil)) SubB.nil (fun s20_ o_20 h hD20 => ?_)))))))))))))))))))
     unfold law_sign_L2 at h
     refine .seq (.sn mx (.mv rfl (.mv rfl (.ln sl77 rfl (.lt rfl rfl (.nil (.cb rfl h (fun _ h => ?_) fun _ h => ?_)))))))
     ·
      refine .skip (.then (.seq ?_))
      obtain ⟨o_22, h, hK22⟩ := bindR_some h
      refine .tJ (fun s => o_22 = Res.nx s) (.k4 2 3 9 10 rfl rfl rfl rfl (.k2 53 54 rfl rfl (.k 55 rfl .nil))) SubB.nil ?_ (fun j_22 hj22 => ?_)
      ·
       obtain ⟨hn23, h⟩ := need_some h
       obtain ⟨v3, hv24, h⟩ := bnd_some h
       obtain ⟨hn25, h⟩ := need_some h
       obtain ⟨v4, hv26, h⟩ := bnd_some h
       refine .block (.sr [oo, oo, oo, oo, oo, oo, oo, oo, oo, ([], [11]), ([], [12]), ([11], [11]), ([12], [12])] mx (.mvA rfl (.mvA rfl (.cA (.subW .none (.s rfl) .i) (.ixA sl77 ty47 rfl rfl hn23 (.rlA hv24 ty47 rfl (.mvA rfl (.mvA rfl (.ixA sl77 ty47 rfl rfl hn25 (.rlA hv26 ty47 rfl (.al zo47 rfl (.al zo47 rfl (.st ty47 rfl rfl rfl (.st ty47 rfl rfl rfl (.nil (.freeze (t := 11) rfl rfl (.k 12 rfl .nil) rfl (.freeze (t := 12) rfl rfl SubB.nil rfl (.seq (.sn mx (.fa fd47_0 hfd47_0 rfl (.ld ty3 rfl (.fa fd47_0 hfd47_0 rfl (.ld ty3 rfl (.c (.eqI .none (.s rfl) (.s rfl)) (.fa fd47_1 hfd47_1 rfl (.ld ty3 rfl (.fa fd47_1 hfd47_1 rfl (.ld ty3 rfl (.c (.eqI .none (.s rfl) (.s rfl)) (.c (.eqS .none (eqAt_bool Tryz.underlying4) (.s rfl) (.s rfl)) (.nil (.cb rfl h (fun _ h => ?_) fun _ h => ?_))))))))))))))))))))))))))))))))
       ·
        exact .exit (.thenExit (.blkExit (Ends.j _ (some_eq h))))
       ·
        refine .skip (.then (.sn mx (.fa fd47_0 hfd47_0 rfl (.ld ty3 rfl (.fa fd47_0 hfd47_0 rfl (.ld ty3 rfl (.c (.min2 .none (.s rfl) (.s rfl)) (.fa fd38_0 hfd38_0 rfl (.ld ty3 rfl (.fa fd38_2 hfd38_2 rfl (.ld ty3 rfl (.add rfl rfl (.lt rfl rfl (.mv rfl (.fg fd47_0 hfd47_0 rfl rfl rfl (.lg ty3 rfl rfl rfl (.fg fd47_0 hfd47_0 rfl rfl rfl (.lg ty3 rfl rfl rfl (.c (.max2 (.at rfl rfl) (.tmp rfl id) (.tmp rfl id)) (.fg fd38_0 hfd38_0 rfl rfl rfl (.lg ty3 rfl rfl rfl (.c (.ge (.at rfl rfl) (.tmp rfl id) (.tmp rfl id)) (.pa rfl rfl (.mv rfl (.fg fd47_1 hfd47_1 rfl rfl rfl (.lg ty3 rfl rfl rfl (.fg fd47_1 hfd47_1 rfl rfl rfl (.lg ty3 rfl rfl rfl (.c (.min2 (.at rfl rfl) (.tmp rfl id) (.tmp rfl id)) (.fg fd38_1 hfd38_1 rfl rfl rfl (.lg ty3 rfl rfl rfl (.fg fd38_3 hfd38_3 rfl rfl rfl (.lg ty3 rfl rfl rfl (.c (.addW (.at rfl rfl) (.tmp rfl id) (.tmp rfl id)) (.c (.lt (.at rfl rfl) (.tmp rfl id) (.tmp rfl id)) (.pa rfl rfl (.mv rfl (.fg fd47_1 hfd47_1 rfl rfl rfl (.lg ty3 rfl rfl rfl (.fg fd47_1 hfd47_1 rfl rfl rfl (.lg ty3 rfl rfl rfl (.c (.max2 (.at rfl rfl) (.tmp rfl id) (.tmp rfl id)) (.fg fd38_1 hfd38_1 rfl rfl rfl (.lg ty3 rfl rfl rfl (.c (.ge (.at rfl rfl) (.tmp rfl id) (.tmp rfl id)) (.pa rfl rfl (.nil (.cb rfl h (fun _ h => ?_) fun _ h => ?_))))))))))))))))))))))))))))))))))))))))))))))))
        ·
         refine .sn mx (.c (.assign .none (.str (l := [42]) (by decide))) (.nil (.ret (.blkRet (.thenRet (.thenRet (.blkRet (.blkRet (.thenRet (.thenRet (.blkRet (.thenRet ?_))))))))))))
         replace h := resb_ab hK22 (some_eq h)
         replace h := hD20 _ (some_eq h)
         replace h := resd_ab hK16 (some_eq h)
         replace h := hD14 _ (some_eq h)
         replace h := resb_ab hK13 (some_eq h)
         obtain rfl := some_eq h
         exact Ends.rt Tryz.results25 rfl
        ·
         exact .skip (.blkNormal (Ends.j _ (some_eq h)))
      ·
       have h := resb_nx hK22 hj22
       obtain ⟨i1, hv29, h⟩ := bnd_some h
       exact .rn mx (.mv rfl (.adi rfl (.ra hv29 rfl (.nil (Ends.ag (some_eq h))))))
     ·
      refine .exit (.thenExit (.thenExit (.blkExit (.blkNormal ?_))))
      replace h := hD20 _ (some_eq h)
      exact Ends.j _ (some_eq h)
    ·
     have h := resd_nx hK16 hj16
     exact .rn mx (.adi rfl (.mv rfl (.nil (Ends.ag (some_eq h)))))
   ·
    refine .exit (.thenExit (.thenExit (.blkExit ?_)))
    replace h := hD14 _ (some_eq h)
    exact Ends.j _ (some_eq h)
  ·
   have h := resb_nx hK13 hj13
   refine .sn mx (.c (.assign .none (.str (l := [46]) (by decide))) (.nil (.ret ?_)))
   obtain rfl := some_eq h
   exact Ends.rt Tryz.results25 rfl

theorem law_sketchOf_ok {d1 : Doc} {w1 : Int} {h1 : Int} {r : (Str × Int)}  (h : law_sketchOf d1 w1 h1 = some r) : FSpec Tryz.prog 9 [rep d1, rep w1, rep h1] (tup [rep r.1, rep r.2]) := by
 unfold law_sketchOf at h
 refine FSpec.i Tryz.func9 rfl Tryz.ntmps9 rfl (fun F => (.sn mx (.c (.box .none (.s rfl)) (.c (.assign .none (.str (l := []) (by decide))) (.asi (.nil (.sr [([], [8])] mx (.cW (.nilRow (T := 38) (α := Box) rfl) (.nil (.nameRow (t := 8) (g := 5001) rfl rfl rfl (fun s5001 => (.seq (.sn mx (.fa fd25_0 hfd25_0 rfl (.ld ty22 rfl (.ln sl22 rfl (.mvi (.nil ?_))))))))))))))))))
 obtain ⟨j_1, h, hK1⟩ := bind_some h
 refine .thenJ (ι := (List Box)) (fun j_1 => []) (fun j_1 => [(8, some (rowV 38 j_1))]) (fun s => j_1 = s) (.k2 1 2 rfl rfl (.k 3 rfl .nil)) SubB.nil ?_ (fun j_1' hj1 => ?_)
 ·
  refine .block (.anon (t := 8) (g := 5001) rfl rfl trivial rfl (.rforL h (fun p2_ => [(25, ⟨True, rep p2_.1⟩)]) (fun p2_ => [(8, some (rowV 38 p2_.2))]) (.k 25 rfl .nil) (.k 8 rfl .nil) (.k4 1 2 3 23 rfl rfl rfl rfl (.k 24 rfl .nil)) SubB.nil (fun p2_ o_2 h hD2 => (.nameRow (t := 8) (g := 5002) rfl rfl rfl (fun s5002 => (.sn mx (.lt rfl rfl (.nil (.seq (.cb rfl h (fun _ h => ?_) fun _ h => ?_))))))))))
  ·
   refine .skip (.then (.seq ?_))
   obtain ⟨j_4, h, hK4⟩ := bind_some h
   unfold law_sketchOf_L1 at h
   refine .thenJ (ι := (List Box)) (fun j_4 => []) (fun j_4 => [(8, some (rowV 38 j_4))]) (fun s => j_4 = s) (.k4 1 2 3 23 rfl rfl rfl rfl (.k2 24 25 rfl rfl .nil)) SubB.nil ?_ (fun j_4' hj4 => ?_)
   ·
    obtain ⟨hn5, h⟩ := need_some h
    obtain ⟨v1, hv6, h⟩ := bnd_some h
    refine .block (.sr [oo, oo, ([], [10]), ([10], [10])] mx (.ixA sl22 ty40 rfl rfl hn5 (.rlA hv6 ty40 rfl (.al zo40 rfl (.st ty40 rfl rfl rfl (.nil (.freeze (t := 10) rfl rfl (.k 5002 rfl .nil) rfl (.sn mx (.fa fd40_1 hfd40_1 rfl (.ld ty3 rfl (.nei rfl (.nil (.cb rfl h (fun _ h => ?_) fun _ h => ?_)))))))))))))
    ·
     obtain ⟨hn8, h⟩ := need_some h
     exact .rg [oo, oo, oo, oo, ([5002], [36, 5002]), ([36], [8, 36])] mx (.mvA rfl (.faA fd40_2 hfd40_2 rfl (.ldA ty38 rfl (.cA (.buildSlice (xs := [_]) .none sl64 ty38 hz38 (.cons (.s rfl) .nil) rfl (by decide)) (.cW (.append (k := 5002) rk64 rfl (.told (.s rfl) rfl) (.s rfl) hn8) (.cW (.passRow rfl (.tmp rfl)) (.nil (.blkNormal (Ends.j _ (some_eq h))))))))))
    ·
     exact .skip (.blkNormal (.anon (t := 8) (g := 5002) rfl rfl trivial rfl (Ends.j _ (some_eq h))))
   ·
    subst hj4; have h := hK4; clear hK4
    exact .nameRow (t := 8) (g := 5003) rfl rfl rfl (fun s5003 => (.rn mx (.adi rfl (.mv rfl (.nil (.anon (t := 8) (g := 5003) rfl rfl trivial rfl (Ends.ag (some_eq h))))))))
  ·
   refine .exit (.thenExit (.thenExit (.blkExit (.anon (t := 8) (g := 5002) rfl rfl trivial rfl ?_))))
   replace h := hD2 _ (some_eq h)
   exact Ends.j _ (some_eq h)
 ·
  subst hj1; have h := hK1; clear hK1
  refine .freezeRowA (t := 8) rfl rfl SubB.nil rfl (.seq (.sn mx (.mv rfl (.ln sl64 rfl (.eqi rfl (.nil (.cb rfl h (fun _ h => ?_) fun _ h => ?_)))))))
  ·
   refine .sn mx (.c (.assign .none (.str (l := []) (by decide))) (.asi (.nil (.ret (.thenRet ?_)))))
   obtain rfl := some_eq h
   exact Ends.ret2 (.inl rfl) Tryz.results9 (ResOK.tmp rfl trivial Imp.refl) (ResOK.tmp rfl trivial Imp.refl)
  ·
   obtain ⟨hn10, h⟩ := need_some h
   obtain ⟨hn11, h⟩ := need_some h
   obtain ⟨hn12, h⟩ := need_some h
   obtain ⟨hn13, h⟩ := need_some h
   obtain ⟨x1, hv14, h⟩ := bnd_some h
   obtain ⟨y1, hv15, h⟩ := bnd_some h
   obtain ⟨r1, hv16, h⟩ := bnd_some h
   obtain ⟨b1, hv17, h⟩ := bnd_some h
   refine .skip (.then (.sn mx (.mv rfl (.c (.indexAddr .none sl64 ty38 (.s rfl) .i (fun _ => hn10)) (.fa fd38_0 hfd38_0 rfl (.ld ty3 rfl (.mv rfl (.c (.indexAddr .none sl64 ty38 (.s rfl) .i (fun _ => hn11)) (.fa fd38_1 hfd38_1 rfl (.ld ty3 rfl (.mv rfl (.c (.indexAddr .none sl64 ty38 (.s rfl) .i (fun _ => hn12)) (.fa fd38_0 hfd38_0 rfl (.ld ty3 rfl (.mv rfl (.c (.indexAddr .none sl64 ty38 (.s rfl) .i (fun _ => hn13)) (.fa fd38_1 hfd38_1 rfl (.ld ty3 rfl (.ra hv14 rfl (.ra hv15 rfl (.ra hv16 rfl (.ra hv17 rfl (.nil (.seq (.sn mx (.mv rfl (.ln sl64 rfl (.mvi (.nil ?_)))))))))))))))))))))))))))))
   obtain ⟨j_18, h, hK18⟩ := bind_some h
   refine .thenJ (ι := (Int × Int × Int × Int)) (fun j_18 => [(11, ⟨True, rep j_18.1⟩), (12, ⟨True, rep j_18.2.1⟩), (13, ⟨True, rep j_18.2.2.1⟩), (14, ⟨True, rep j_18.2.2.2⟩)]) (fun j_18 => []) (fun s => j_18 = s) (.k2 1 2 rfl rfl (.k 3 rfl .nil)) SubB.nil ?_ (fun j_18' hj18 => ?_)
   ·
    refine .block (.rforL h (fun p19_ => [(59, ⟨True, rep p19_.1⟩), (11, ⟨True, rep p19_.2.1⟩), (12, ⟨True, rep p19_.2.2.1⟩), (13, ⟨True, rep p19_.2.2.2.1⟩), (14, ⟨True, rep p19_.2.2.2.2⟩)]) (fun p19_ => []) (.k4 59 11 12 13 rfl rfl rfl rfl (.k 14 rfl .nil)) SubB.nil (.k4 1 2 3 57 rfl rfl rfl rfl (.k 58 rfl .nil)) SubB.nil (fun p19_ o_19 h hD19 => (.sn mx (.lt rfl rfl (.nil (.seq (.cb rfl h (fun _ h => ?_) fun _ h => ?_)))))))
    ·
     refine .skip (.then (.seq ?_))
     obtain ⟨j_21, h, hK21⟩ := bind_some h
     unfold law_sketchOf_L2 at h
     refine .thenJ (ι := (Int × Int × Int × Int)) (fun j_21 => [(11, ⟨True, rep j_21.1⟩), (12, ⟨True, rep j_21.2.1⟩), (13, ⟨True, rep j_21.2.2.1⟩), (14, ⟨True, rep j_21.2.2.2⟩)]) (fun j_21 => []) (fun s => j_21 = s) (.k4 1 2 3 57 rfl rfl rfl rfl (.k2 58 59 rfl rfl .nil)) SubB.nil ?_ (fun j_21' hj21 => ?_)
     ·
      obtain ⟨hn22, h⟩ := need_some h
      obtain ⟨v2, hv23, h⟩ := bnd_some h
      obtain ⟨x2, hv24, h⟩ := bnd_some h
      obtain ⟨y2, hv25, h⟩ := bnd_some h
      obtain ⟨r2, hv26, h⟩ := bnd_some h
      obtain ⟨b2, hv27, h⟩ := bnd_some h
      exact .block (.sr [oo, oo, ([], [16]), ([16], [16])] mx (.ixA sl64 ty38 rfl rfl hn22 (.rlA hv23 ty38 rfl (.al zo38 rfl (.st ty38 rfl rfl rfl (.nil (.freeze (t := 16) rfl rfl SubB.nil rfl (.rn mx (.mv rfl (.fa fd38_0 hfd38_0 rfl (.ld ty3 rfl (.c (.min2 .none (.s rfl) (.s rfl)) (.mv rfl (.fa fd38_1 hfd38_1 rfl (.ld ty3 rfl (.c (.min2 .none (.s rfl) (.s rfl)) (.mv rfl (.fa fd38_0 hfd38_0 rfl (.ld ty3 rfl (.fa fd38_2 hfd38_2 rfl (.ld ty3 rfl (.add rfl rfl (.c (.max2 .none (.s rfl) (.s rfl)) (.mv rfl (.fa fd38_1 hfd38_1 rfl (.ld ty3 rfl (.fa fd38_3 hfd38_3 rfl (.ld ty3 rfl (.add rfl rfl (.c (.max2 .none (.s rfl) (.s rfl)) (.ra hv24 rfl (.ra hv25 rfl (.ra hv26 rfl (.ra hv27 rfl (.nil (.blkNormal (Ends.j _ (some_eq h))))))))))))))))))))))))))))))))))))))
     ·
      subst hj21; have h := hK21; clear hK21
      exact .rn mx (.adi rfl (.mv rfl (.nil (Ends.ag (some_eq h)))))
    ·
     refine .exit (.thenExit (.thenExit (.blkExit ?_)))
     replace h := hD19 _ (some_eq h)
     exact Ends.j _ (some_eq h)
   ·
    subst hj18; have h := hK18; clear hK18
    obtain ⟨r3, hv28, h⟩ := bind_some h
    obtain ⟨r4, hv29, h⟩ := bind_some h
    obtain ⟨columns1, hv30, h⟩ := bnd_some h
    obtain ⟨rows1, hv31, h⟩ := bnd_some h
    refine .sn mx (.mv rfl (.mv rfl (.sub rfl rfl (.mv rfl (.c (.call .none (ref_Down_ok hv28) (.cons (.s rfl) (.cons (.s rfl) .nil))) (.c (.negW .none (.s rfl)) (.mv rfl (.mv rfl (.sub rfl rfl (.mv rfl (.c (.call .none (ref_Down_ok hv29) (.cons (.s rfl) (.cons (.s rfl) .nil))) (.c (.negW .none (.s rfl)) (.ra hv30 rfl (.ra hv31 rfl (.nil (.seq (.sn mx (.mv rfl (.c (.gt .none (.s rfl) .i) (.mv rfl (.mg rfl rfl rfl (.c (.gt (.at rfl rfl) (.tmp rfl id) .i) (.po rfl rfl (.nil (.cb rfl h (fun _ h => ?_) fun _ h => ?_)))))))))))))))))))))))))
    ·
     refine .sn mx (.c (.assign .none (.str (l := []) (by decide))) (.asi (.nil (.ret (.thenRet ?_)))))
     obtain rfl := some_eq h
     exact Ends.ret2 (.inl rfl) Tryz.results9 (ResOK.tmp rfl trivial Imp.refl) (ResOK.tmp rfl trivial Imp.refl)
    ·
     refine .skip (.then (.sn mx (.c (.assign .none (.str (l := []) (by decide))) (.nil (.seq (.sn mx (.mv rfl (.mvi (.nil ?_)))))))))
     obtain ⟨j_33, h, hK33⟩ := bind_some h
     refine .thenJ (ι := Str) (fun j_33 => [(19, ⟨True, rep j_33⟩)]) (fun j_33 => []) (fun s => j_33 = s) Sub.nil SubB.nil ?_ (fun j_33' hj33 => ?_)
     ·
      refine .block (.rforL h (fun p34_ => [(105, ⟨True, rep p34_.1⟩), (19, ⟨True, rep p34_.2⟩)]) (fun p34_ => []) (.k2 105 19 rfl rfl .nil) SubB.nil (.k4 1 2 3 11 rfl rfl rfl rfl (.k2 12 17 rfl rfl (.k 104 rfl .nil))) SubB.nil (fun p34_ o_34 h hD34 => (.sn mx (.lt rfl rfl (.nil (.seq (.cb rfl h (fun _ h => ?_) fun _ h => ?_)))))))
      ·
       refine .skip (.then (.seq ?_))
       obtain ⟨j_36, h, hK36⟩ := bind_some h
       unfold law_sketchOf_L3 at h
       refine .thenJ (ι := Str) (fun j_36 => [(19, ⟨True, rep j_36⟩)]) (fun j_36 => []) (fun s => j_36 = s) (.k4 1 2 3 11 rfl rfl rfl rfl (.k4 12 17 104 105 rfl rfl rfl rfl .nil)) SubB.nil ?_ (fun j_36' hj36 => ?_)
       ·
        refine .block (.sn mx (.mv rfl (.asn rfl (.nil (.seq (.sn mx (.mv rfl (.mvi (.nil ?_)))))))))
        obtain ⟨j_37, h, hK37⟩ := bind_some h
        refine .thenJ (ι := Str) (fun j_37 => [(19, ⟨True, rep j_37⟩)]) (fun j_37 => []) (fun s => j_37 = s) (.k4 1 2 3 11 rfl rfl rfl rfl (.k4 12 17 104 105 rfl rfl rfl rfl .nil)) SubB.nil ?_ (fun j_37' hj37 => ?_)
        ·
         refine .block (.rforL h (fun p38_ => [(109, ⟨True, rep p38_.1⟩), (19, ⟨True, rep p38_.2⟩)]) (fun p38_ => []) (.k2 109 19 rfl rfl .nil) SubB.nil (.k4 1 2 3 11 rfl rfl rfl rfl (.k4 12 17 20 104 rfl rfl rfl rfl (.k2 105 108 rfl rfl .nil))) SubB.nil (fun p38_ o_38 h hD38 => (.sn mx (.lt rfl rfl (.nil (.seq (.cb rfl h (fun _ h => ?_) fun _ h => ?_)))))))
         ·
          refine .skip (.then (.seq ?_))
          obtain ⟨j_40, h, hK40⟩ := bind_some h
          unfold law_sketchOf_L4 at h
          refine .thenJ (ι := Str) (fun j_40 => [(19, ⟨True, rep j_40⟩)]) (fun j_40 => []) (fun s => j_40 = s) (.k4 1 2 3 11 rfl rfl rfl rfl (.k4 12 17 20 104 rfl rfl rfl rfl (.k2 105 108 rfl rfl (.k 109 rfl .nil)))) SubB.nil ?_ (fun j_40' hj40 => ?_)
          ·
           obtain ⟨r5, hv41, h⟩ := bind_some h
           obtain ⟨hn42, h⟩ := need_some h
           obtain ⟨s1, hv43, h⟩ := bnd_some h
           exact .block (.sn mx (.mv rfl (.asn rfl (.nil (.rn mx (.mv rfl (.ld ty25 rfl (.mv rfl (.mv rfl (.mv rfl (.c (.mulW .none (.s rfl) (.s rfl)) (.add rfl rfl (.mv rfl (.mv rfl (.mv rfl (.c (.mulW .none (.s rfl) (.s rfl)) (.add rfl rfl (.mv rfl (.mv rfl (.c (.buildF (y := (⟨W (j_18.1 + (W (p38_.1 * w1))), W (j_18.2.1 + (W (p34_.1 * h1))), w1, h1⟩ : Box)) .none bu38 zc38 rfl (.cons (.s rfl) (.cons (.s rfl) (.cons (.s rfl) (.cons (.s rfl) .nil)))) (.cons rfl sf38_0 (.cons rfl sf38_1 (.cons rfl sf38_2 (.cons rfl sf38_3 .nil))))) (.c (.call .none (law_sign_ok hv41) (.cons (.s rfl) (.cons (.s rfl) .nil))) (.c (.addStr .none (.s rfl) (.s rfl) (fun _ => hn42)) (.ra hv43 rfl (.nil (.blkNormal (Ends.j _ (some_eq h)))))))))))))))))))))))))))
          ·
           subst hj40; have h := hK40; clear hK40
           exact .rn mx (.adi rfl (.mv rfl (.nil (Ends.ag (some_eq h)))))
         ·
          refine .exit (.thenExit (.thenExit (.blkExit ?_)))
          replace h := hD38 _ (some_eq h)
          exact Ends.j _ (some_eq h)
        ·
         subst hj37; have h := hK37; clear hK37
         obtain ⟨hn44, h⟩ := need_some h
         obtain ⟨s2, hv45, h⟩ := bnd_some h
         exact .rn mx (.mv rfl (.c (.addStr .none (.s rfl) (.str (l := [10]) (by decide)) (fun _ => hn44)) (.ra hv45 rfl (.nil (.blkNormal (Ends.j _ (some_eq h)))))))
       ·
        subst hj36; have h := hK36; clear hK36
        exact .rn mx (.adi rfl (.mv rfl (.nil (Ends.ag (some_eq h)))))
      ·
       refine .exit (.thenExit (.thenExit (.blkExit ?_)))
       replace h := hD34 _ (some_eq h)
       exact Ends.j _ (some_eq h)
     ·
      subst hj33; have h := hK33; clear hK33
      refine .sn mx (.mv rfl (.asn rfl (.asi (.nil (.ret ?_)))))
      obtain rfl := some_eq h
      exact Ends.ret2 (.inl rfl) Tryz.results9 (ResOK.tmp rfl trivial Imp.refl) (ResOK.tmp rfl trivial Imp.refl)

theorem desk_isName_ok {s1 : Str} {r : Bool}  (h : desk_isName s1 = some r) : FSpec Tryz.prog 58 [rep s1] (rep r) := by
 unfold desk_isName at h
 obtain ⟨hn1, h⟩ := need_some h
 obtain ⟨hn2, h⟩ := need_some h
 obtain ⟨r1, hv3, h⟩ := bind_some h
 refine FSpec.i Tryz.func58 rfl Tryz.ntmps58 rfl (fun F => (.sn mx (.asb (.nil (.sn mx (.mv rfl (.c (.neS .none (eqAt_str Tryz.underlying9) (.s rfl) (.str (l := []) (by decide))) (.mv rfl (.mg rfl rfl rfl (.c (.lenStr (.at rfl rfl) Tryz.underlying9 (.tmp rfl id)) (.c (.le (.at rfl rfl) (.tmp rfl id) .i) (.pa rfl rfl (.mv rfl (.mg rfl rfl rfl (.c (.indexStr (.at rfl rfl) Tryz.underlying9 (.tmp rfl id) .i (fun hg => hn1 hg.2)) (.c (.kgeq (.at rfl rfl) (.tmp rfl id) .ki) (.pa rfl rfl (.mv rfl (.mg rfl rfl rfl (.c (.indexStr (.at rfl rfl) Tryz.underlying9 (.tmp rfl id) .i (fun hg => hn2 hg.2)) (.c (.kleq (.at rfl rfl) (.tmp rfl id) .ki) (.pa rfl rfl (.mv rfl (.mg rfl rfl rfl (.c (.callIf (.at rfl rfl) fnok88 (fun hg => strings_Trim_ok ((fun hg => gd_some hv3 (hg.2)) hg)) (.cons (.tmp rfl id) (.cons (.str (l := [97, 98, 99, 100, 101, 102, 103, 104, 105, 106, 107, 108, 109, 110, 111, 112, 113, 114, 115, 116, 117, 118, 119, 120, 121, 122, 48, 49, 50, 51, 52, 53, 54, 55, 56, 57, 45]) (by decide)) .nil)) (fun h => h)) (.c (.eqS (.at rfl rfl) (eqAt_str Tryz.underlying9) (.tmp rfl id) (.str (l := []) (by decide))) (.pa rfl rfl (.asn rfl (.nil (.ret ?_))))))))))))))))))))))))))))))
 obtain rfl := some_eq h
 exact Ends.rt Tryz.results58 rfl

theorem desk_isValue_ok {s1 : Str} {r : Bool}  (h : desk_isValue s1 = some r) : FSpec Tryz.prog 59 [rep s1] (rep r) := by
 unfold desk_isValue at h
 refine FSpec.i Tryz.func59 rfl Tryz.ntmps59 rfl (fun F => (.sn mx (.asb (.nil (.seq (.sn mx (.mv rfl (.c (.eqS .none (eqAt_str Tryz.underlying9) (.s rfl) (.str (l := []) (by decide))) (.mv rfl (.mg rfl rfl rfl (.c (.lenStr (.at rfl rfl) Tryz.underlying9 (.tmp rfl id)) (.c (.gt (.at rfl rfl) (.tmp rfl id) .i) (.po rfl rfl (.nil (.cb rfl h (fun _ h => ?_) fun _ h => ?_)))))))))))))))
 ·
  refine .sn mx (.asb (.nil (.ret (.thenRet ?_))))
  obtain rfl := some_eq h
  exact Ends.rt Tryz.results59 rfl
 ·
  refine .skip (.then (.seq (.sn mx (.mv rfl (.c (.lenStr .none Tryz.underlying9 (.s rfl)) (.mvi (.nil ?_)))))))
  obtain ⟨o_2, h, hK2⟩ := bindR_some h
  refine .tJ (fun s => o_2 = Res.nx s) Sub.nil SubB.nil ?_ (fun j_2 hj2 => ?_)
  ·
   refine .block (.rforEL h (fun p3_ => [(13, ⟨True, rep p3_.1⟩)]) (fun p3_ => []) (.k 13 rfl .nil) SubB.nil (.k2 0 12 rfl rfl .nil) SubB.nil (fun p3_ o_3 h hD3 => (.sn mx (.lt rfl rfl (.nil (.seq (.cb rfl h (fun _ h => ?_) fun _ h => ?_)))))))
   ·
    refine .skip (.then (.seq ?_))
    obtain ⟨o_5, h, hK5⟩ := bindD_some h
    unfold desk_isValue_L1 at h
    refine .tJ (fun s => o_5 = Res.nx s) (.k2 0 12 rfl rfl (.k 13 rfl .nil)) SubB.nil ?_ (fun j_5 hj5 => ?_)
    ·
     obtain ⟨hn6, h⟩ := need_some h
     obtain ⟨hn7, h⟩ := need_some h
     obtain ⟨hn8, h⟩ := need_some h
     refine .block (.sn mx (.mv rfl (.asn rfl (.nil (.sn mx (.mv rfl (.mv rfl (.c (.indexStr .none Tryz.underlying9 (.s rfl) (.s rfl) (fun _ => hn6)) (.c (.klss .none (.s rfl) .ki) (.mv rfl (.mg rfl rfl rfl (.mg rfl rfl rfl (.c (.indexStr (.at rfl rfl) Tryz.underlying9 (.tmp rfl id) (.tmp rfl id) (fun hg => hn7 hg.2)) (.c (.kgtr (.at rfl rfl) (.tmp rfl id) .ki) (.po rfl rfl (.mv rfl (.mg rfl rfl rfl (.mg rfl rfl rfl (.c (.indexStr (.at rfl rfl) Tryz.underlying9 (.tmp rfl id) (.tmp rfl id) (fun hg => hn8 hg.2)) (.c (.keql (.at rfl rfl) (.tmp rfl id) .ki) (.po rfl rfl (.nil (.cb rfl h (fun _ h => ?_) fun _ h => ?_)))))))))))))))))))))))
     ·
      refine .sn mx (.asb (.nil (.ret (.blkRet (.thenRet (.thenRet (.blkRet (.thenRet ?_))))))))
      replace h := resd_ab hK5 (some_eq h)
      replace h := hD3 _ (some_eq h)
      replace h := resb_ab hK2 (some_eq h)
      obtain rfl := some_eq h
      exact Ends.rt Tryz.results59 rfl
     ·
      exact .skip (.blkNormal (Ends.j _ (some_eq h)))
    ·
     have h := resd_nx hK5 hj5
     exact .rn mx (.adi rfl (.mv rfl (.nil (Ends.ag (some_eq h)))))
   ·
    refine .exit (.thenExit (.thenExit (.blkExit ?_)))
    replace h := hD3 _ (some_eq h)
    exact Ends.j _ (some_eq h)
  ·
   have h := resb_nx hK2 hj2
   refine .sn mx (.asb (.nil (.ret ?_)))
   obtain rfl := some_eq h
   exact Ends.rt Tryz.results59 rfl

theorem desk_CheckRules_ok {l1 : (List Rule)} {r : Int}  (h : desk_CheckRules l1 = some r) : FSpec Tryz.prog 26 [rep l1] (rep r) := by
 unfold desk_CheckRules at h
 refine FSpec.i Tryz.func26 rfl Tryz.ntmps26 rfl (fun F => (.sn mx (.asi (.nil (.seq (.sn mx (.mv rfl (.ln sl69 rfl (.c (.gt .none (.s rfl) .i) (.nil (.cb rfl h (fun _ h => ?_) fun _ h => ?_)))))))))))
 ·
  refine .sn mx (.asi (.nil (.ret (.thenRet ?_))))
  obtain rfl := some_eq h
  exact Ends.rt Tryz.results26 rfl
 ·
  refine .skip (.then (.seq (.sn mx (.mv rfl (.ln sl69 rfl (.mvi (.nil ?_)))))))
  obtain ⟨o_2, h, hK2⟩ := bindR_some h
  refine .tJ (fun s => o_2 = Res.nx s) Sub.nil SubB.nil ?_ (fun j_2 hj2 => ?_)
  ·
   refine .block (.rforEL h (fun p3_ => [(10, ⟨True, rep p3_.1⟩)]) (fun p3_ => []) (.k 10 rfl .nil) SubB.nil (.k2 8 9 rfl rfl .nil) SubB.nil (fun p3_ o_3 h hD3 => (.sn mx (.lt rfl rfl (.nil (.seq (.cb rfl h (fun _ h => ?_) fun _ h => ?_)))))))
   ·
    refine .skip (.then (.seq ?_))
    obtain ⟨o_5, h, hK5⟩ := bindD_some h
    unfold desk_CheckRules_L1 at h
    refine .tJ (fun s => o_5 = Res.nx s) (.k2 8 9 rfl rfl (.k 10 rfl .nil)) SubB.nil ?_ (fun j_5 hj5 => ?_)
    ·
     obtain ⟨hn6, h⟩ := need_some h
     obtain ⟨v1, hv7, h⟩ := bnd_some h
     obtain ⟨r1, hv8, h⟩ := bind_some h
     refine .block (.sr [oo, oo, ([], [4]), ([4], [4])] mx (.ixA sl69 ty68 rfl rfl hn6 (.rlA hv7 ty68 rfl (.al zo68 rfl (.st ty68 rfl rfl rfl (.nil (.freeze (t := 4) rfl rfl SubB.nil rfl (.block (.seq (.sn mx (.fa fd68_0 hfd68_0 rfl (.ld ty9 rfl (.c (.neS .none (eqAt_str Tryz.underlying9) (.s rfl) (.str (l := []) (by decide))) (.mv rfl (.fg fd68_0 hfd68_0 rfl rfl rfl (.lg ty9 rfl rfl rfl (.c (.callIf (.at rfl rfl) fnok58 (fun hg => desk_isName_ok ((fun hg => gd_some hv8 (hg.2)) hg)) (.cons (.tmp rfl id) .nil) (fun h => h)) ?_)))))))))))))))))
     obtain ⟨v2, hv9, h⟩ := bnd_some h
     refine .c (.not (.at rfl rfl) (.tmp rfl id)) (.pa rfl rfl (.ra hv9 rfl (.nil ?_)))
     obtain ⟨j_10, h, hK10⟩ := bind_some h
     refine .thenJ (ι := Bool) (fun j_10 => [(14, ⟨True, rep j_10⟩)]) (fun j_10 => []) (fun s => j_10 = s) (.k4 4 8 9 10 rfl rfl rfl rfl .nil) SubB.nil ?_ (fun j_10' hj10 => ?_)
     ·
      refine .cb rfl h (fun _ h => ?_) fun _ h => ?_
      ·
       exact .skip (Ends.j _ (some_eq h))
      ·
       obtain ⟨r2, hv12, h⟩ := bind_some h
       obtain ⟨v3, hv13, h⟩ := bnd_some h
       exact .rn mx (.fa fd68_1 hfd68_1 rfl (.ld ty9 rfl (.c (.call .none (desk_isName_ok hv12) (.cons (.s rfl) .nil)) (.c (.not .none (.s rfl)) (.ra hv13 rfl (.nil (Ends.j _ (some_eq h))))))))
     ·
      subst hj10; have h := hK10; clear hK10
      refine .cb rfl h (fun _ h => ?_) fun _ h => ?_
      ·
       refine .sn mx (.asi (.nil (.ret (.blkRet (.blkRet (.thenRet (.thenRet (.blkRet (.thenRet ?_)))))))))
       replace h := resd_ab hK5 (some_eq h)
       replace h := hD3 _ (some_eq h)
       replace h := resb_ab hK2 (some_eq h)
       obtain rfl := some_eq h
       exact Ends.rt Tryz.results26 rfl
      ·
       obtain ⟨r3, hv15, h⟩ := bind_some h
       refine .sn mx (.fa fd68_2 hfd68_2 rfl (.ld ty9 rfl (.c (.call .none (desk_isValue_ok hv15) (.cons (.s rfl) .nil)) (.c (.not .none (.s rfl)) (.asn rfl (.nil (.cb rfl h (fun _ h => ?_) fun _ h => ?_)))))))
       ·
        refine .sn mx (.asi (.nil (.ret (.blkRet (.blkRet (.thenRet (.thenRet (.blkRet (.thenRet ?_)))))))))
        replace h := resd_ab hK5 (some_eq h)
        replace h := hD3 _ (some_eq h)
        replace h := resb_ab hK2 (some_eq h)
        obtain rfl := some_eq h
        exact Ends.rt Tryz.results26 rfl
       ·
        exact .skip (.blkNormal (.blkNormal (Ends.j _ (some_eq h))))
    ·
     have h := resd_nx hK5 hj5
     exact .rn mx (.adi rfl (.mv rfl (.nil (Ends.ag (some_eq h)))))
   ·
    refine .exit (.thenExit (.thenExit (.blkExit ?_)))
    replace h := hD3 _ (some_eq h)
    exact Ends.j _ (some_eq h)
  ·
   have h := resb_nx hK2 hj2
   refine .sn mx (.asi (.nil (.ret ?_)))
   obtain rfl := some_eq h
   exact Ends.rt Tryz.results26 rfl

theorem law_desks_ok  {r : Bool}  (h : law_desks  = some r) : FSpec Tryz.prog 10 [] (rep r) := by
 unfold law_desks at h
 obtain ⟨r1, hv1, h⟩ := bind_some h
 obtain ⟨r2, hv2, h⟩ := bind_some h
 refine FSpec.i Tryz.func10 rfl Tryz.ntmps10 rfl (fun F => (.sn mx (.asb (.nil (.sn mx (.c (.call .none (desk_CheckRules_ok hv1) (.cons (.const (x := ([] : (List Rule))) (fun M w => ⟨_, ⟨none, 0, rfl, Nat.le_refl _, by decide, rfl⟩, rfl⟩)) .nil)) (.eqi rfl (.mv rfl (.c (.buildF (y := (⟨Str.nil, Str.nil, Str.nil⟩ : Rule)) (.at rfl rfl) bu68 zc68 rfl .nil .nil) (.c (.buildSlice (xs := [_]) (.at rfl rfl) sl69 ty68 hz68 (.cons (.tmp rfl id) .nil) rfl (by decide)) (.c (.callIf (.at rfl rfl) fnok26 (fun hg => desk_CheckRules_ok ((fun hg => gd_some hv2 (hg.2)) hg)) (.cons (.tmp rfl id) .nil) (fun h => h)) (.c (.eqI (.at rfl rfl) (.tmp rfl id) .i) (.pa rfl rfl (.asn rfl (.nil (.ret ?_))))))))))))))))
 obtain rfl := some_eq h
 exact Ends.rt Tryz.results10 rfl

theorem law_SketchesMatch_1_ok {c0_1 : Str} {r : Str}  (h : law_SketchesMatch_1 c0_1 = some r) : FSpec Tryz.prog 12 [ref c0_1] (rep r) := by
 unfold law_SketchesMatch_1 at h
 refine FSpec.i Tryz.func12 rfl Tryz.ntmps12 rfl (fun F => (.sn mx (.c (.assign .none (.str (l := []) (by decide))) (.nil (.sn mx (.ld ty9 rfl (.asn rfl (.nil (.ret ?_)))))))))
 obtain rfl := some_eq h
 exact Ends.rt Tryz.results12 rfl

theorem law_is_string_ok {got1 : Str} {e1 : Int} {want1 : Int} {right1 : (Option Str)} {r : Bool}  (h : law_is_string got1 e1 want1 right1 = some r) : FSpec Tryz.prog 11 [rep got1, rep e1, rep want1, fn0 Tryz.prog (rep (α := Str)) right1] (rep r) := by
 unfold law_is_string at h
 refine FSpec.i Tryz.func11 rfl Tryz.ntmps11 rfl (fun F => (.sn mx (.asb (.nil (.sn mx (.c (.assign .none (.str (l := []) (by decide))) (.nil (.seq (.sn mx (.mv rfl (.nei rfl (.nil (.cb rfl h (fun _ h => ?_) fun _ h => ?_)))))))))))))
 ·
  refine .sn mx (.mv rfl (.mv rfl (.c (.eqS .none (eqAt_str Tryz.underlying9) (.s rfl) (.s rfl)) (.mv rfl (.mg rfl rfl rfl (.mg rfl rfl rfl (.c (.eqI (.at rfl rfl) (.tmp rfl id) (.tmp rfl id)) (.pa rfl rfl (.asn rfl (.nil (.ret (.thenRet ?_))))))))))))
  obtain rfl := some_eq h
  exact Ends.rt Tryz.results11 rfl
 ·
  obtain ⟨r1, hv2, h⟩ := bind_some h
  refine .skip (.then (.sn mx (.mv rfl (.eqi rfl (.mv rfl (.mg rfl rfl rfl (.mg rfl rfl rfl (.c (.callV _ (.at rfl rfl) (.tmp rfl id) (fun hg => gd_some hv2 (hg.2)) .nil) (.c (.eqS (.at rfl rfl) (eqAt_str Tryz.underlying9) (.tmp rfl id) (.tmp rfl id)) (.pa rfl rfl (.asn rfl (.nil (.ret ?_)))))))))))))
  obtain rfl := some_eq h
  exact Ends.rt Tryz.results11 rfl

theorem law_SketchesMatch_ok {d1 : Doc} {w1 : Int} {h1 : Int} {r : Bool}  (h : law_SketchesMatch d1 w1 h1 = some r) : FSpec Tryz.prog 3 [rep d1, rep w1, rep h1] (rep r) := by
 unfold law_SketchesMatch at h
 obtain ⟨r1, hv1, h⟩ := bind_some h
 obtain ⟨r2, hv2, h⟩ := bind_some h
 obtain ⟨r3, hv3, h⟩ := bind_some h
 obtain ⟨r4, hv4, h⟩ := bind_some h
 refine FSpec.i Tryz.func3 rfl Tryz.ntmps3 rfl (fun F => (.sn mx (.c (.box .none (.s rfl)) (.asb (.nil (.sn mx (.ld ty25 rfl (.mv rfl (.mv rfl (.c (.call .none (desk_Sketch_ok hv1) (.cons (.s rfl) (.cons (.s rfl) (.cons (.s rfl) .nil)))) (.mv rfl (.ex rfl rfl (.ex rfl rfl (.asn rfl (.asn rfl (.nil (.sn mx (.ld ty25 rfl (.c (.call .none (ref_DocError_ok hv2) (.cons (.s rfl) .nil)) (.mv rfl (.c (.call .none (ref_In_ok hv3) (.cons (.s rfl) (.cons .i (.cons .i .nil)))) (.c (.not .none (.s rfl)) (.mv rfl (.mg rfl rfl rfl (.c (.callIf (.at rfl rfl) fnok8 (fun hg => ref_In_ok ((fun hg => gd_some hv4 ((notT hg.2))) hg)) (.cons (.tmp rfl id) (.cons .i (.cons .i .nil))) (fun h => h)) ?_)))))))))))))))))))))))))
 obtain ⟨r5, hv5, h⟩ := bind_some h
 obtain ⟨want1, hv6, h⟩ := bind_some h
 refine .c (.not (.at rfl rfl) (.tmp rfl id)) (.po rfl rfl (.c (.call .none (ref_When_ok hv5) (.cons (.s rfl) (.cons .i .nil))) (.c (.buildSlice (xs := [_, _]) .none sl60 ty26 hz26 (.cons (.s rfl) (.cons (.s rfl) .nil)) rfl (by decide)) (.c (.call .none (ref_First_ok hv6) (.cons (.s rfl) .nil)) (.asn rfl (.nil (.sr [([], [10]), ([10], [10])] mx (.al zo9 rfl (.cN (.store ty9 rfl rfl (.str (l := []) (by decide))) (.nil (.nameBox (t := 10) (g := 5001) rfl rfl (fun m5001 => (.seq (.sn mx (.mv rfl (.eqi rfl (.nil ?_)))))))))))))))))
 obtain ⟨j_7, h, hK7⟩ := bind_some h
 refine .thenJ (ι := (Int × Str)) (fun j_7 => [(9, ⟨True, rep j_7.1⟩)]) (fun j_7 => [(5001, some (boxAt m5001 9 j_7.2))]) (fun s => j_7 = s) (.k2 7 8 rfl rfl (.k 10 rfl .nil)) SubB.nil ?_ (fun j_7' hj7 => ?_)
 ·
  refine .cb rfl h (fun _ h => ?_) fun _ h => ?_
  ·
   obtain ⟨r6, hv9, h⟩ := bind_some h
   exact .rg [oo, oo, oo, oo, oo, oo, oo, ([5001], [5001]), oo] mx (.ldA ty25 rfl (.mvA rfl (.mvA rfl (.cA (.call .none (law_sketchOf_ok hv9) (.cons (.s rfl) (.cons (.s rfl) (.cons (.s rfl) .nil)))) (.mvA rfl (.exA rfl rfl (.exA rfl rfl (.s0 5001 ty9 rfl rfl rfl (.asnA rfl (.nil (Ends.j _ (some_eq h))))))))))))
  ·
   exact .skip (Ends.j _ (some_eq h))
 ·
  subst hj7; have h := hK7; clear hK7
  obtain ⟨r7, hv10, h⟩ := bind_some h
  refine .fb 5001 [10] rfl (.cons (t := 10) rfl trivial .nil) (.sn mx (.c (.call .none (law_desks_ok hv10) .nil) (.mv rfl (.mg rfl rfl rfl (.mg rfl rfl rfl (.mg rfl rfl rfl (.c (.makeFunc (ι := Str) (pre := fun i => (law_SketchesMatch_1 j_7.2)  = some i) (Ss := fun i => []) (S := fun i => rep i) (.at rfl rfl) fnok12 (fun i h => law_SketchesMatch_1_ok h) (.cons (.s rfl) .nil)) ?_)))))))
  obtain ⟨r8, hv11, h⟩ := bind_some h
  refine .c (.callIf (.at rfl rfl) fnok11 (fun hg => law_is_string_ok ((fun hg => gd_some hv11 (hg.2)) hg)) (.cons (.tmp rfl id) (.cons (.tmp rfl id) (.cons (.tmp rfl id) (.cons (.tmp rfl id) .nil)))) (fun h => h)) (.pa rfl rfl (.asn rfl (.nil (.ret ?_))))
  obtain rfl := some_eq h
  exact Ends.rt Tryz.results3 rfl


end Go.Proofs.YtbogpbomhmabhaaGreatDoor
