/-
  The walks: what a function computes is what its plain function says (printed by a program of one's own).
-/
import Derived.Test.YtjkfpjpepjjhlaaTnbFa
set_option maxRecDepth 100000
set_option linter.unusedSimpArgs false
set_option linter.unusedVariables false
namespace Go.Proofs.Ytjkfpjpepjjhlaa
open Go Go.DB Go.RowKit

theorem slices_Compact_int_ok {l : List Int} {r : List Int} {s : Value} (h : slices_Compact_int l = some r) : FSpecO Try.prog 79 [isV s] [(s, rowV 3 l)] (anyV) [none, some (rowV 3 r)] := by
 obtain ⟨hl, h⟩ := need_some h
 obtain rfl := some_eq h
 exact compactI_spec compactI_lay rfl fnok79 hl

theorem slices_Sort_int_ok {l : List Int} {r : List Int} {s : Value} (h : slices_Sort_int l = some r) : FSpecO Try.prog 78 [isV s] [(s, rowV 3 l)] (anyV) [some (rowV 3 r)] := by
 obtain ⟨hl, h⟩ := need_some h
 obtain rfl := some_eq h
 exact sortI_spec sortI_lay rfl fnok78 hl

theorem geom_out_ok {n1 : Int} {r : Bool}  (h : geom_out n1 = some r) : FSpec Try.prog 73 [rep n1] (rep r) := by
 unfold geom_out at h
 refine FSpec.i Try.func73 rfl Try.ntmps73 rfl (fun F => (.sn mx (.asb (.nil (.sn mx (.mv rfl (.c (.lt .none (.s rfl) .i) (.mv rfl (.mg rfl rfl rfl (.c (.gt (.at rfl rfl) (.tmp rfl id) .i) (.po rfl rfl (.asn rfl (.nil (.ret ?_))))))))))))))
 obtain rfl := some_eq h
 exact Ends.rt Try.results73 rfl

theorem geom_CheckPoint_ok {p1 : Point} {r : Int}  (h : geom_CheckPoint p1 = some r) : FSpec Try.prog 31 [rep p1] (rep r) := by
 unfold geom_CheckPoint at h
 obtain ⟨r1, hv1, h⟩ := bind_some h
 obtain ⟨r2, hv2, h⟩ := bind_some h
 refine FSpec.i Try.func31 rfl Try.ntmps31 rfl (fun F => (.sn mx (.c (.box .none (.s rfl)) (.asi (.nil (.seq (.sn mx (.fa fd23_0 hfd23_0 rfl (.ld ty3 rfl (.c (.call .none (geom_out_ok hv1) (.cons (.s rfl) .nil)) (.mv rfl (.fg fd23_1 hfd23_1 rfl rfl rfl (.lg ty3 rfl rfl rfl (.c (.callIf (.at rfl rfl) fnok73 (fun hg => geom_out_ok ((fun hg => gd_some hv2 ((notT hg.2))) hg)) (.cons (.tmp rfl id) .nil) (fun h => h)) (.po rfl rfl (.nil (.cb rfl h (fun _ h => ?_) fun _ h => ?_)))))))))))))))))
 ·
  refine .sn mx (.asi (.nil (.ret (.thenRet ?_))))
  obtain rfl := some_eq h
  exact Ends.rt Try.results31 rfl
 ·
  refine .skip (.then (.sn mx (.asi (.nil (.ret ?_)))))
  obtain rfl := some_eq h
  exact Ends.rt Try.results31 rfl

theorem route_isSide_ok {side1 : Int} {r : Bool}  (h : route_isSide side1 = some r) : FSpec Try.prog 32 [rep side1] (rep r) := by
 unfold route_isSide at h
 refine FSpec.i Try.func32 rfl Try.ntmps32 rfl (fun F => (.sn mx (.asb (.nil (.sn mx (.mv rfl (.c (.ge .none (.s rfl) .i) (.mv rfl (.mg rfl rfl rfl (.c (.le (.at rfl rfl) (.tmp rfl id) .i) (.pa rfl rfl (.asn rfl (.nil (.ret ?_))))))))))))))
 obtain rfl := some_eq h
 exact Ends.rt Try.results32 rfl

theorem geom_CheckBox_ok {b1 : Box} {r : Int}  (h : geom_CheckBox b1 = some r) : FSpec Try.prog 33 [rep b1] (rep r) := by
 unfold geom_CheckBox at h
 obtain ⟨r1, hv1, h⟩ := bind_some h
 obtain ⟨r2, hv2, h⟩ := bind_some h
 refine FSpec.i Try.func33 rfl Try.ntmps33 rfl (fun F => (.sn mx (.c (.box .none (.s rfl)) (.asi (.nil (.seq (.sn mx (.fa fd70_0 hfd70_0 rfl (.ld ty3 rfl (.c (.call .none (geom_out_ok hv1) (.cons (.s rfl) .nil)) (.mv rfl (.fg fd70_1 hfd70_1 rfl rfl rfl (.lg ty3 rfl rfl rfl (.c (.callIf (.at rfl rfl) fnok73 (fun hg => geom_out_ok ((fun hg => gd_some hv2 ((notT hg.2))) hg)) (.cons (.tmp rfl id) .nil) (fun h => h)) (.po rfl rfl (.mv rfl (.fg fd70_2 hfd70_2 rfl rfl rfl (.lg ty3 rfl rfl rfl (.c (.lt (.at rfl rfl) (.tmp rfl id) .i) (.po rfl rfl (.mv rfl (.fg fd70_2 hfd70_2 rfl rfl rfl (.lg ty3 rfl rfl rfl (.c (.gt (.at rfl rfl) (.tmp rfl id) .i) (.po rfl rfl (.mv rfl (.fg fd70_3 hfd70_3 rfl rfl rfl (.lg ty3 rfl rfl rfl (.c (.lt (.at rfl rfl) (.tmp rfl id) .i) (.po rfl rfl (.mv rfl (.fg fd70_3 hfd70_3 rfl rfl rfl (.lg ty3 rfl rfl rfl (.c (.gt (.at rfl rfl) (.tmp rfl id) .i) (.po rfl rfl (.nil (.cb rfl h (fun _ h => ?_) fun _ h => ?_)))))))))))))))))))))))))))))))))))))
 ·
  refine .sn mx (.asi (.nil (.ret (.thenRet ?_))))
  obtain rfl := some_eq h
  exact Ends.rt Try.results33 rfl
 ·
  refine .skip (.then (.sn mx (.asi (.nil (.ret ?_)))))
  obtain rfl := some_eq h
  exact Ends.rt Try.results33 rfl

theorem route_toward_ok {side1 : Int} {r : Point}  (h : route_toward side1 = some r) : FSpec Try.prog 58 [rep side1] (rep r) := by
 unfold route_toward at h
 obtain ⟨v1, hv1, h⟩ := bnd_some h
 obtain ⟨hn2, h⟩ := need_some h
 obtain ⟨v2, hv3, h⟩ := bnd_some h
 refine FSpec.i Try.func58 rfl Try.ntmps58 rfl (fun F => (.sr [([], [2])] mx (.al zo23 rfl (.nil (.reB (t := 2) rfl (congrArg (cont 23) hv1) (.nameBox (t := 2) (g := 5001) rfl rfl (fun m5001 => (.sr [oo, oo, oo, oo, oo, oo, oo, oo, ([5001], [5001])] mx (.cA (.buildF (y := (⟨(0 : Int), (0 : Int)⟩ : Point)) .none bu23 zc23 rfl .nil .nil) (.cA (.buildF (y := (⟨(0 : Int), (-1)⟩ : Point)) .none bu23 zc23 rfl (.cons .i .nil) (.cons rfl sf23_1 .nil)) (.cA (.buildF (y := (⟨1, (0 : Int)⟩ : Point)) .none bu23 zc23 rfl (.cons .i .nil) (.cons rfl sf23_0 .nil)) (.cA (.buildF (y := (⟨(0 : Int), 1⟩ : Point)) .none bu23 zc23 rfl (.cons .i .nil) (.cons rfl sf23_1 .nil)) (.cA (.buildF (y := (⟨(-1), (0 : Int)⟩ : Point)) .none bu23 zc23 rfl (.cons .i .nil) (.cons rfl sf23_0 .nil)) (.cA (.buildArr (xs := [_, _, _, _, _]) .none ao123 ty23 az123 (.cons (.s rfl) (.cons (.s rfl) (.cons (.s rfl) (.cons (.s rfl) (.cons (.s rfl) .nil))))) rfl) (.mvA rfl (.cA (.re hv3 (.indexArr .none ao123 ty23 (.s rfl) (.s rfl) (fun _ => hn2))) (.s0 5001 ty23 rfl rfl rfl (.nil (.fb 5001 [2] rfl (.cons (t := 2) rfl trivial .nil) (.ret ?_))))))))))))))))))))
 obtain rfl := some_eq h
 exact Ends.ret1 (.inl rfl) Try.results58 (ResOK.cellR ty23 rfl trivial Imp.refl)

theorem route_away_ok {p1 : Point} {d1 : Point} {n1 : Int} {r : Point}  (h : route_away p1 d1 n1 = some r) : FSpec Try.prog 57 [rep p1, rep d1, rep n1] (rep r) := by
 unfold route_away at h
 obtain ⟨v1, hv1, h⟩ := bnd_some h
 obtain ⟨v2, hv2, h⟩ := bnd_some h
 refine FSpec.i Try.func57 rfl Try.ntmps57 rfl (fun F => (.sr [oo, oo, ([], [6])] mx (.cA (.box .none (.s rfl)) (.cA (.box .none (.s rfl)) (.al zo23 rfl (.nil (.reB (t := 6) rfl (congrArg (cont 23) hv1) (.nameBox (t := 6) (g := 5001) rfl rfl (fun m5001 => (.sr [oo, oo, oo, oo, oo, oo, oo, oo, oo, oo, oo, oo, oo, oo, oo, ([5001], [5001])] mx (.faA fd23_0 hfd23_0 rfl (.ldA ty3 rfl (.mvA rfl (.faA fd23_0 hfd23_0 rfl (.ldA ty3 rfl (.cA (.mulW .none (.s rfl) (.s rfl)) (.addA rfl rfl (.faA fd23_1 hfd23_1 rfl (.ldA ty3 rfl (.mvA rfl (.faA fd23_1 hfd23_1 rfl (.ldA ty3 rfl (.cA (.mulW .none (.s rfl) (.s rfl)) (.addA rfl rfl (.cA (.re hv2 (.buildF (y := (⟨W (p1.X + (W (n1 * d1.X))), W (p1.Y + (W (n1 * d1.Y)))⟩ : Point)) .none bu23 zc23 rfl (.cons (.s rfl) (.cons (.s rfl) .nil)) (.cons rfl sf23_0 (.cons rfl sf23_1 .nil)))) (.s0 5001 ty23 rfl rfl rfl (.nil (.fb 5001 [6] rfl (.cons (t := 6) rfl trivial .nil) (.ret ?_)))))))))))))))))))))))))))))
 obtain rfl := some_eq h
 exact Ends.ret1 (.inl rfl) Try.results57 (ResOK.cellR ty23 rfl trivial Imp.refl)

theorem route_ends_ok {t1 : Task} {r : (Point × Point)}  (h : route_ends t1 = some r) : FSpec Try.prog 22 [rep t1] (tup [rep r.1, rep r.2]) := by
 unfold route_ends at h
 obtain ⟨start1, hv1, h⟩ := bnd_some h
 obtain ⟨end1, hv2, h⟩ := bnd_some h
 obtain ⟨r1, hv3, h⟩ := bind_some h
 obtain ⟨r2, hv4, h⟩ := bind_some h
 obtain ⟨r3, hv5, h⟩ := bind_some h
 obtain ⟨r4, hv6, h⟩ := bind_some h
 refine FSpec.i Try.func22 rfl Try.ntmps22 rfl (fun F => (.sr [oo, ([], [2]), ([], [3])] mx (.cA (.box .none (.s rfl)) (.al zo23 rfl (.al zo23 rfl (.nil (.reB (t := 2) rfl (congrArg (cont 23) hv1) (.reB (t := 3) rfl (congrArg (cont 23) hv2) (.nameBox (t := 2) (g := 5001) rfl rfl (fun m5001 => (.nameBox (t := 3) (g := 5002) rfl rfl (fun m5002 => (.sr [oo, oo, oo, oo, oo, oo, oo, oo, oo, oo, oo, oo, oo, oo, oo, oo, ([5001], [5001]), ([5002], [5002])] mx (.faA fd26_0 hfd26_0 rfl (.ldA ty23 rfl (.faA fd26_1 hfd26_1 rfl (.ldA ty3 rfl (.cA (.call .none (route_toward_ok hv3) (.cons (.s rfl) .nil)) (.faA fd26_5 hfd26_5 rfl (.ldA ty3 rfl (.cA (.call .none (route_away_ok hv4) (.cons (.s rfl) (.cons (.s rfl) (.cons (.s rfl) .nil)))) (.faA fd26_2 hfd26_2 rfl (.ldA ty23 rfl (.faA fd26_3 hfd26_3 rfl (.ldA ty3 rfl (.cA (.call .none (route_toward_ok hv5) (.cons (.s rfl) .nil)) (.faA fd26_5 hfd26_5 rfl (.ldA ty3 rfl (.cA (.call .none (route_away_ok hv6) (.cons (.s rfl) (.cons (.s rfl) (.cons (.s rfl) .nil)))) (.s0 5001 ty23 rfl rfl rfl (.s0 5002 ty23 rfl rfl rfl (.nil (.freezeBox (g := 5001) (ts := [2]) rfl (.cons (t := 2) rfl trivial .nil) (.k 5002 rfl .nil) rfl (.fb 5002 [3] rfl (.cons (t := 3) rfl trivial .nil) (.ret ?_)))))))))))))))))))))))))))))))))))
 obtain rfl := some_eq h
 exact Ends.ret2 (.inl rfl) Try.results22 (ResOK.cellR ty23 rfl trivial Imp.refl) (ResOK.cellR ty23 rfl trivial Imp.refl)

theorem route_Check_ok {t1 : Task} {r : Int}  (h : route_Check t1 = some r) : FSpec Try.prog 8 [rep t1] (rep r) := by
 unfold route_Check at h
 obtain ⟨v1, hv1, h⟩ := bnd_some h
 refine FSpec.i Try.func8 rfl Try.ntmps8 rfl (fun F => (.sn mx (.c (.box .none (.s rfl)) (.asi (.nil (.seq (.sn mx (.fa fd26_0 hfd26_0 rfl (.ld ty23 rfl (.fa fd26_1 hfd26_1 rfl (.ld ty3 rfl (.c (.buildF (y := (⟨t1.From, t1.FromSide⟩ : Anon_p_side)) .none bu65 zc65 rfl (.cons (.s rfl) (.cons (.s rfl) .nil)) (.cons rfl sf65_0 (.cons rfl sf65_1 .nil))) (.fa fd26_2 hfd26_2 rfl (.ld ty23 rfl (.fa fd26_3 hfd26_3 rfl (.ld ty3 rfl (.c (.buildF (y := (⟨t1.To, t1.ToSide⟩ : Anon_p_side)) .none bu65 zc65 rfl (.cons (.s rfl) (.cons (.s rfl) .nil)) (.cons rfl sf65_0 (.cons rfl sf65_1 .nil))) (.c (.re hv1 (.buildSlice (xs := [_, _]) .none sl66 ty65 hz65 (.cons (.s rfl) (.cons (.s rfl) .nil)) rfl (by decide))) (.ln sl66 rfl (.mvi (.nil ?_)))))))))))))))))))))
 obtain ⟨o_2, h, hK2⟩ := bindR_some h
 refine .tJ (fun s => o_2 = Res.nx s) (.k 1 rfl .nil) SubB.nil ?_ (fun j_2 hj2 => ?_)
 ·
  refine .block (.rforEL h (fun p3_ => [(24, ⟨True, rep p3_.1⟩)]) (fun p3_ => []) (.k 24 rfl .nil) SubB.nil (.k2 1 22 rfl rfl (.k 23 rfl .nil)) SubB.nil (fun p3_ o_3 h hD3 => (.sn mx (.lt rfl rfl (.nil (.seq (.cb rfl h (fun _ h => ?_) fun _ h => ?_)))))))
  ·
   refine .skip (.then (.seq ?_))
   obtain ⟨o_5, h, hK5⟩ := bindD_some h
   unfold route_Check_L1 at h
   refine .tJ (fun s => o_5 = Res.nx s) (.k4 1 22 23 24 rfl rfl rfl rfl .nil) SubB.nil ?_ (fun j_5 hj5 => ?_)
   ·
    obtain ⟨hn6, h⟩ := need_some h
    obtain ⟨v2, hv7, h⟩ := bnd_some h
    obtain ⟨e1, hv8, h⟩ := bind_some h
    refine .block (.sr [oo, oo, ([], [4]), ([4], [4])] mx (.ixA sl66 ty65 rfl rfl hn6 (.rlA hv7 ty65 rfl (.al zo65 rfl (.st ty65 rfl rfl rfl (.nil (.freeze (t := 4) rfl rfl SubB.nil rfl (.seq (.sn mx (.fa fd65_0 hfd65_0 rfl (.ld ty23 rfl (.c (.call .none (geom_CheckPoint_ok hv8) (.cons (.s rfl) .nil)) (.asn rfl (.nil (.sn mx (.mv rfl (.nei rfl (.nil (.cb rfl h (fun _ h => ?_) fun _ h => ?_)))))))))))))))))))
    ·
     refine .sn mx (.mv rfl (.asn rfl (.nil (.ret (.thenRet (.blkRet (.thenRet (.thenRet (.blkRet (.thenRet ?_))))))))))
     replace h := resd_ab hK5 (some_eq h)
     replace h := hD3 _ (some_eq h)
     replace h := resb_ab hK2 (some_eq h)
     obtain rfl := some_eq h
     exact Ends.rt Try.results8 rfl
    ·
     obtain ⟨r1, hv10, h⟩ := bind_some h
     refine .skip (.then (.sn mx (.fa fd65_1 hfd65_1 rfl (.ld ty3 rfl (.c (.call .none (route_isSide_ok hv10) (.cons (.s rfl) .nil)) (.c (.not .none (.s rfl)) (.nil (.cb rfl h (fun _ h => ?_) fun _ h => ?_))))))))
     ·
      refine .sn mx (.asi (.nil (.ret (.blkRet (.thenRet (.thenRet (.blkRet (.thenRet ?_))))))))
      replace h := resd_ab hK5 (some_eq h)
      replace h := hD3 _ (some_eq h)
      replace h := resb_ab hK2 (some_eq h)
      obtain rfl := some_eq h
      exact Ends.rt Try.results8 rfl
     ·
      exact .skip (.blkNormal (Ends.j _ (some_eq h)))
   ·
    have h := resd_nx hK5 hj5
    exact .rn mx (.adi rfl (.mv rfl (.nil (Ends.ag (some_eq h)))))
  ·
   refine .exit (.thenExit (.thenExit (.blkExit ?_)))
   replace h := hD3 _ (some_eq h)
   exact Ends.j _ (some_eq h)
 ·
  have h := resb_nx hK2 hj2
  refine .seq (.sn mx (.fa fd26_4 hfd26_4 rfl (.ld ty24 rfl (.ln sl24 rfl (.c (.gt .none (.s rfl) .i) (.nil (.cb rfl h (fun _ h => ?_) fun _ h => ?_)))))))
  ·
   refine .sn mx (.asi (.nil (.ret (.thenRet ?_))))
   obtain rfl := some_eq h
   exact Ends.rt Try.results8 rfl
  ·
   refine .skip (.then (.seq (.sn mx (.fa fd26_4 hfd26_4 rfl (.ld ty24 rfl (.ln sl24 rfl (.mvi (.nil ?_))))))))
   obtain ⟨o_13, h, hK13⟩ := bindR_some h
   refine .tJ (fun s => o_13 = Res.nx s) (.k 1 rfl .nil) SubB.nil ?_ (fun j_13 hj13 => ?_)
   ·
    refine .block (.rforEL h (fun p14_ => [(46, ⟨True, rep p14_.1⟩)]) (fun p14_ => []) (.k 46 rfl .nil) SubB.nil (.k2 1 44 rfl rfl (.k 45 rfl .nil)) SubB.nil (fun p14_ o_14 h hD14 => (.sn mx (.lt rfl rfl (.nil (.seq (.cb rfl h (fun _ h => ?_) fun _ h => ?_)))))))
    ·
     refine .skip (.then (.seq ?_))
     obtain ⟨o_16, h, hK16⟩ := bindD_some h
     unfold route_Check_L2 at h
     refine .tJ (fun s => o_16 = Res.nx s) (.k4 1 44 45 46 rfl rfl rfl rfl .nil) SubB.nil ?_ (fun j_16 hj16 => ?_)
     ·
      obtain ⟨hn17, h⟩ := need_some h
      obtain ⟨v3, hv18, h⟩ := bnd_some h
      obtain ⟨e2, hv19, h⟩ := bind_some h
      refine .block (.sr [oo, oo, ([], [7]), ([7], [7])] mx (.ixA sl24 ty70 rfl rfl hn17 (.rlA hv18 ty70 rfl (.al zo70 rfl (.st ty70 rfl rfl rfl (.nil (.freeze (t := 7) rfl rfl SubB.nil rfl (.sn mx (.ld ty70 rfl (.c (.call .none (geom_CheckBox_ok hv19) (.cons (.s rfl) .nil)) (.asn rfl (.nil (.sn mx (.mv rfl (.nei rfl (.nil (.cb rfl h (fun _ h => ?_) fun _ h => ?_)))))))))))))))))
      ·
       refine .sn mx (.mv rfl (.asn rfl (.nil (.ret (.blkRet (.thenRet (.thenRet (.blkRet (.thenRet ?_)))))))))
       replace h := resd_ab hK16 (some_eq h)
       replace h := hD14 _ (some_eq h)
       replace h := resb_ab hK13 (some_eq h)
       obtain rfl := some_eq h
       exact Ends.rt Try.results8 rfl
      ·
       exact .skip (.blkNormal (Ends.j _ (some_eq h)))
     ·
      have h := resd_nx hK16 hj16
      exact .rn mx (.adi rfl (.mv rfl (.nil (Ends.ag (some_eq h)))))
    ·
     refine .exit (.thenExit (.thenExit (.blkExit ?_)))
     replace h := hD14 _ (some_eq h)
     exact Ends.j _ (some_eq h)
   ·
    have h := resb_nx hK13 hj13
    refine .seq (.sn mx (.fa fd26_5 hfd26_5 rfl (.ld ty3 rfl (.c (.lt .none (.s rfl) .i) (.mv rfl (.fg fd26_5 hfd26_5 rfl rfl rfl (.lg ty3 rfl rfl rfl (.c (.gt (.at rfl rfl) (.tmp rfl id) .i) (.po rfl rfl (.nil (.cb rfl h (fun _ h => ?_) fun _ h => ?_)))))))))))
    ·
     refine .sn mx (.asi (.nil (.ret (.thenRet ?_))))
     obtain rfl := some_eq h
     exact Ends.rt Try.results8 rfl
    ·
     obtain ⟨r2, hv22, h⟩ := bind_some h
     obtain ⟨e3, hv23, h⟩ := bind_some h
     refine .skip (.then (.sr [oo, oo, oo, oo, oo, ([], [9]), ([], [10]), ([9], [9]), ([10], [10])] mx (.ldA ty26 rfl (.cA (.call .none (route_ends_ok hv22) (.cons (.s rfl) .nil)) (.mvA rfl (.exA rfl rfl (.exA rfl rfl (.al zo23 rfl (.al zo23 rfl (.st ty23 rfl rfl rfl (.st ty23 rfl rfl rfl (.nil (.freeze (t := 9) rfl rfl (.k 10 rfl .nil) rfl (.freeze (t := 10) rfl rfl SubB.nil rfl (.seq (.sn mx (.ld ty23 rfl (.c (.call .none (geom_CheckPoint_ok hv23) (.cons (.s rfl) .nil)) (.asn rfl (.nil (.sn mx (.mv rfl (.nei rfl (.nil (.cb rfl h (fun _ h => ?_) fun _ h => ?_)))))))))))))))))))))))))
     ·
      refine .sn mx (.mv rfl (.asn rfl (.nil (.ret (.thenRet ?_)))))
      obtain rfl := some_eq h
      exact Ends.rt Try.results8 rfl
     ·
      obtain ⟨r3, hv25, h⟩ := bind_some h
      refine .skip (.then (.sn mx (.ld ty23 rfl (.c (.call .none (geom_CheckPoint_ok hv25) (.cons (.s rfl) .nil)) (.asn rfl (.nil (.ret ?_)))))))
      obtain rfl := some_eq h
      exact Ends.rt Try.results8 rfl

theorem route_zones_ok {t1 : Task} {r : (List Route_zone)}  (h : route_zones t1 = some r) : FSpec Try.prog 23 [rep t1] (rep r) := by
 unfold route_zones at h
 refine FSpec.i Try.func23 rfl Try.ntmps23 rfl (fun F => (.sn mx (.c (.box .none (.s rfl)) (.c (.assign .none (.const (x := ([] : (List Route_zone))) (fun M w => ⟨_, ⟨none, 0, rfl, Nat.le_refl _, by decide, rfl⟩, rfl⟩))) (.nil (.sr [([], [3])] mx (.cW (.nilRow (T := 95) (α := Route_zone) rfl) (.nil (.nameRow (t := 3) (g := 5001) rfl rfl rfl (fun s5001 => (.seq (.sn mx (.fa fd26_4 hfd26_4 rfl (.ld ty24 rfl (.ln sl24 rfl (.mvi (.nil ?_)))))))))))))))))
 obtain ⟨j_1, h, hK1⟩ := bind_some h
 refine .thenJ (ι := (List Route_zone)) (fun j_1 => []) (fun j_1 => [(3, some (rowV 95 j_1))]) (fun s => j_1 = s) Sub.nil SubB.nil ?_ (fun j_1' hj1 => ?_)
 ·
  refine .block (.anon (t := 3) (g := 5001) rfl rfl trivial rfl (.rforL h (fun p2_ => [(9, ⟨True, rep p2_.1⟩)]) (fun p2_ => [(3, some (rowV 95 p2_.2))]) (.k 9 rfl .nil) (.k 3 rfl .nil) (.k2 1 7 rfl rfl (.k 8 rfl .nil)) SubB.nil (fun p2_ o_2 h hD2 => (.nameRow (t := 3) (g := 5002) rfl rfl rfl (fun s5002 => (.sn mx (.lt rfl rfl (.nil (.seq (.cb rfl h (fun _ h => ?_) fun _ h => ?_))))))))))
  ·
   refine .skip (.then (.seq ?_))
   obtain ⟨j_4, h, hK4⟩ := bind_some h
   unfold route_zones_L1 at h
   refine .thenJ (ι := (List Route_zone)) (fun j_4 => []) (fun j_4 => [(3, some (rowV 95 j_4))]) (fun s => j_4 = s) (.k4 1 7 8 9 rfl rfl rfl rfl .nil) SubB.nil ?_ (fun j_4' hj4 => ?_)
   ·
    obtain ⟨hn5, h⟩ := need_some h
    obtain ⟨v1, hv6, h⟩ := bnd_some h
    obtain ⟨hn7, h⟩ := need_some h
    exact .block (.sr [oo, oo, ([], [5]), ([5], [5])] mx (.ixA sl24 ty70 rfl rfl hn5 (.rlA hv6 ty70 rfl (.al zo70 rfl (.st ty70 rfl rfl rfl (.nil (.freeze (t := 5) rfl rfl (.k 5002 rfl .nil) rfl (.rg [oo, oo, oo, oo, oo, oo, oo, oo, oo, oo, oo, oo, oo, oo, oo, oo, oo, oo, oo, oo, oo, oo, oo, oo, oo, oo, oo, oo, oo, ([5002], [42, 5002]), ([42], [3, 42])] mx (.mvA rfl (.faA fd70_0 hfd70_0 rfl (.ldA ty3 rfl (.faA fd26_5 hfd26_5 rfl (.ldA ty3 rfl (.subA rfl rfl (.faA fd70_1 hfd70_1 rfl (.ldA ty3 rfl (.faA fd26_5 hfd26_5 rfl (.ldA ty3 rfl (.subA rfl rfl (.faA fd70_0 hfd70_0 rfl (.ldA ty3 rfl (.faA fd70_2 hfd70_2 rfl (.ldA ty3 rfl (.addA rfl rfl (.faA fd26_5 hfd26_5 rfl (.ldA ty3 rfl (.addA rfl rfl (.faA fd70_1 hfd70_1 rfl (.ldA ty3 rfl (.faA fd70_3 hfd70_3 rfl (.ldA ty3 rfl (.addA rfl rfl (.faA fd26_5 hfd26_5 rfl (.ldA ty3 rfl (.addA rfl rfl (.cA (.buildF (y := (⟨W (v1.X - t1.Clear), W (v1.Y - t1.Clear), W ((W (v1.X + v1.W_)) + t1.Clear), W ((W (v1.Y + v1.H)) + t1.Clear)⟩ : Route_zone)) .none bu95 zc95 rfl (.cons (.s rfl) (.cons (.s rfl) (.cons (.s rfl) (.cons (.s rfl) .nil)))) (.cons rfl sf95_0 (.cons rfl sf95_1 (.cons rfl sf95_2 (.cons rfl sf95_3 .nil))))) (.cA (.buildSlice (xs := [_]) .none sl49 ty95 hz95 (.cons (.s rfl) .nil) rfl (by decide)) (.cW (.append (k := 5002) rk49 rfl (.told (.s rfl) rfl) (.s rfl) hn7) (.cW (.passRow rfl (.tmp rfl)) (.nil (.blkNormal (Ends.j _ (some_eq h)))))))))))))))))))))))))))))))))))))))))))
   ·
    subst hj4; have h := hK4; clear hK4
    exact .nameRow (t := 3) (g := 5003) rfl rfl rfl (fun s5003 => (.rn mx (.adi rfl (.mv rfl (.nil (.anon (t := 3) (g := 5003) rfl rfl trivial rfl (Ends.ag (some_eq h))))))))
  ·
   refine .exit (.thenExit (.thenExit (.blkExit (.anon (t := 3) (g := 5002) rfl rfl trivial rfl ?_))))
   replace h := hD2 _ (some_eq h)
   exact Ends.j _ (some_eq h)
 ·
  subst hj1; have h := hK1; clear hK1
  refine .freezeRowA (t := 3) rfl rfl SubB.nil rfl (.sn mx (.mv rfl (.asn rfl (.nil (.ret ?_)))))
  obtain rfl := some_eq h
  exact Ends.rt Try.results23 rfl

theorem route_free_1_ok {z1 : Route_zone} {c0_1 : Point} {c1_1 : Point} {r : Bool}  (h : route_free_1 z1 c0_1 c1_1 = some r) : FSpec Try.prog 60 [rep z1, ref c0_1, ref c1_1] (rep r) := by
 unfold route_free_1 at h
 refine FSpec.i Try.func60 rfl Try.ntmps60 rfl (fun F => (.sn mx (.c (.box .none (.s rfl)) (.asb (.nil (.sn mx (.fa fd23_0 hfd23_0 rfl (.ld ty3 rfl (.fa fd23_0 hfd23_0 rfl (.ld ty3 rfl (.c (.max2 .none (.s rfl) (.s rfl)) (.fa fd95_0 hfd95_0 rfl (.ld ty3 rfl (.c (.gt .none (.s rfl) (.s rfl)) (.mv rfl (.fg fd23_0 hfd23_0 rfl rfl rfl (.lg ty3 rfl rfl rfl (.fg fd23_0 hfd23_0 rfl rfl rfl (.lg ty3 rfl rfl rfl (.c (.min2 (.at rfl rfl) (.tmp rfl id) (.tmp rfl id)) (.fg fd95_2 hfd95_2 rfl rfl rfl (.lg ty3 rfl rfl rfl (.c (.lt (.at rfl rfl) (.tmp rfl id) (.tmp rfl id)) (.pa rfl rfl (.mv rfl (.fg fd23_1 hfd23_1 rfl rfl rfl (.lg ty3 rfl rfl rfl (.fg fd23_1 hfd23_1 rfl rfl rfl (.lg ty3 rfl rfl rfl (.c (.max2 (.at rfl rfl) (.tmp rfl id) (.tmp rfl id)) (.fg fd95_1 hfd95_1 rfl rfl rfl (.lg ty3 rfl rfl rfl (.c (.gt (.at rfl rfl) (.tmp rfl id) (.tmp rfl id)) (.pa rfl rfl (.mv rfl (.fg fd23_1 hfd23_1 rfl rfl rfl (.lg ty3 rfl rfl rfl (.fg fd23_1 hfd23_1 rfl rfl rfl (.lg ty3 rfl rfl rfl (.c (.min2 (.at rfl rfl) (.tmp rfl id) (.tmp rfl id)) (.fg fd95_3 hfd95_3 rfl rfl rfl (.lg ty3 rfl rfl rfl (.c (.lt (.at rfl rfl) (.tmp rfl id) (.tmp rfl id)) (.pa rfl rfl (.asn rfl (.nil (.ret ?_)))))))))))))))))))))))))))))))))))))))))))))))
 obtain rfl := some_eq h
 exact Ends.rt Try.results60 rfl

theorem slices_IndexFunc_zone_ok {s1 : (List Route_zone)} {f1 : (Route_zone → Option Bool)} {r : Int}  (h : slices_IndexFunc_zone s1 f1 = some r) : FSpec Try.prog 84 [rep s1, fn1 Try.prog (rep (α := Bool)) f1] (rep r) := by
 unfold slices_IndexFunc_zone at h
 refine FSpec.i Try.func84 rfl Try.ntmps84 rfl (fun F => (.sn mx (.asi (.nil (.seq (.sn mx (.mv rfl (.ln sl49 rfl (.mvi (.nil ?_))))))))))
 obtain ⟨o_1, h, hK1⟩ := bindR_some h
 refine .tJ (fun s => o_1 = Res.nx s) Sub.nil SubB.nil ?_ (fun j_1 hj1 => ?_)
 ·
  refine .block (.rforEL h (fun p2_ => [(8, ⟨True, rep p2_.1⟩)]) (fun p2_ => []) (.k 8 rfl .nil) SubB.nil (.k2 0 1 rfl rfl (.k 7 rfl .nil)) SubB.nil (fun p2_ o_2 h hD2 => (.sn mx (.lt rfl rfl (.nil (.seq (.cb rfl h (fun _ h => ?_) fun _ h => ?_)))))))
  ·
   refine .skip (.then (.seq ?_))
   obtain ⟨o_4, h, hK4⟩ := bindD_some h
   unfold slices_IndexFunc_zone_L1 at h
   refine .tJ (fun s => o_4 = Res.nx s) (.k4 0 1 7 8 rfl rfl rfl rfl .nil) SubB.nil ?_ (fun j_4 hj4 => ?_)
   ·
    obtain ⟨hn5, h⟩ := need_some h
    obtain ⟨r1, hv6, h⟩ := bind_some h
    refine .block (.sn mx (.mv rfl (.asn rfl (.nil (.sn mx (.mv rfl (.mv rfl (.mv rfl (.ix sl49 ty95 rfl rfl hn5 (.ld ty95 rfl (.c (.callV (gx s1 p2_.1, r1) .none (.s rfl) (fun _ => hv6) (.cons (.s rfl) .nil)) (.nil (.cb rfl h (fun _ h => ?_) fun _ h => ?_)))))))))))))
    ·
     refine .sn mx (.mv rfl (.asn rfl (.nil (.ret (.blkRet (.thenRet (.thenRet (.blkRet (.thenRet ?_)))))))))
     replace h := resd_ab hK4 (some_eq h)
     replace h := hD2 _ (some_eq h)
     replace h := resb_ab hK1 (some_eq h)
     obtain rfl := some_eq h
     exact Ends.rt Try.results84 rfl
    ·
     exact .skip (.blkNormal (Ends.j _ (some_eq h)))
   ·
    have h := resd_nx hK4 hj4
    exact .rn mx (.adi rfl (.mv rfl (.nil (Ends.ag (some_eq h)))))
  ·
   refine .exit (.thenExit (.thenExit (.blkExit ?_)))
   replace h := hD2 _ (some_eq h)
   exact Ends.j _ (some_eq h)
 ·
  have h := resb_nx hK1 hj1
  refine .sn mx (.asi (.nil (.ret ?_)))
  obtain rfl := some_eq h
  exact Ends.rt Try.results84 rfl

theorem slices_ContainsFunc_zone_ok {s1 : (List Route_zone)} {f1 : (Route_zone → Option Bool)} {r : Bool}  (h : slices_ContainsFunc_zone s1 f1 = some r) : FSpec Try.prog 59 [rep s1, fn1 Try.prog (rep (α := Bool)) f1] (rep r) := by
 unfold slices_ContainsFunc_zone at h
 obtain ⟨r1, hv1, h⟩ := bind_some h
 refine FSpec.i Try.func59 rfl Try.ntmps59 rfl (fun F => (.sn mx (.asb (.nil (.sn mx (.mv rfl (.mv rfl (.c (.call .none (slices_IndexFunc_zone_ok hv1) (.cons (.s rfl) (.cons (.s rfl) .nil))) (.c (.ge .none (.s rfl) .i) (.asn rfl (.nil (.ret ?_))))))))))))
 obtain rfl := some_eq h
 exact Ends.rt Try.results59 rfl

theorem route_free_ok {l1 : (List Route_zone)} {a1 : Point} {b1 : Point} {r : Bool}  (h : route_free l1 a1 b1 = some r) : FSpec Try.prog 24 [rep l1, rep a1, rep b1] (rep r) := by
 unfold route_free at h
 refine FSpec.i Try.func24 rfl Try.ntmps24 rfl (fun F => (.sn mx (.c (.box .none (.s rfl)) (.c (.box .none (.s rfl)) (.asb (.nil (.sn mx (.mv rfl (.c (.makeFunc (ι := Route_zone × Bool) (pre := fun i => (fun x0 => route_free_1 x0 a1 b1) i.1 = some i.2) (Ss := fun i => [rep i.1]) (S := fun i => rep i.2) .none fnok60 (fun i h => route_free_1_ok h) (.cons (.s rfl) (.cons (.s rfl) .nil))) ?_)))))))))
 obtain ⟨r1, hv1, h⟩ := bind_some h
 refine .c (.call .none (slices_ContainsFunc_zone_ok hv1) (.cons (.s rfl) (.cons (.s rfl) .nil))) (.c (.not .none (.s rfl)) (.asn rfl (.nil (.ret ?_))))
 obtain rfl := some_eq h
 exact Ends.rt Try.results24 rfl

theorem route_lines_1_ok {l1 : (List Int)} {at1 : (List Int)} {r : (List Int)} {s34 : Value} (h : route_lines_1 l1 at1 = some r) : FSpecO Try.prog 85 [isV s34, rep at1] [(s34, rowV 3 l1)] (anyV) [none, some (rowV 3 r)] := by
 unfold route_lines_1 at h
 refine FSpecO.i Try.func85 rfl Try.ntmps85 rfl (fun F => (.sn mx (.c (.assign .none (.const (x := ([] : (List Int))) (fun M w => ⟨_, ⟨none, 0, rfl, Nat.le_refl _, by decide, rfl⟩, rfl⟩))) (.nil (.seq (.sn mx (.mv rfl (.ln sl61 rfl (.mvi (.nil ?_))))))))))
 obtain ⟨j_1, h, hK1⟩ := bind_some h
 refine .thenJ (ι := (List Int)) (fun j_1 => []) (fun j_1 => [(0, some (rowV 3 j_1))]) (fun s => j_1 = s) Sub.nil SubB.nil ?_ (fun j_1' hj1 => ?_)
 ·
  refine .block (.anon (t := 0) (g := 34) rfl rfl trivial rfl (.rforL h (fun p2_ => [(10, ⟨True, rep p2_.1⟩)]) (fun p2_ => [(0, some (rowV 3 p2_.2))]) (.k 10 rfl .nil) (.k 0 rfl .nil) (.k2 8 9 rfl rfl .nil) SubB.nil (fun p2_ o_2 h hD2 => (.nameRow (t := 0) (g := 5001) rfl rfl rfl (fun s5001 => (.sn mx (.lt rfl rfl (.nil (.seq (.cb rfl h (fun _ h => ?_) fun _ h => ?_))))))))))
  ·
   refine .skip (.then (.seq ?_))
   obtain ⟨j_4, h, hK4⟩ := bind_some h
   unfold route_lines_1_L1 at h
   refine .thenJ (ι := (List Int)) (fun j_4 => []) (fun j_4 => [(0, some (rowV 3 j_4))]) (fun s => j_4 = s) (.k2 8 9 rfl rfl (.k 10 rfl .nil)) SubB.nil ?_ (fun j_4' hj4 => ?_)
   ·
    obtain ⟨hn5, h⟩ := need_some h
    obtain ⟨n1, hv6, h⟩ := bnd_some h
    obtain ⟨k1, hv7, h⟩ := bnd_some h
    refine .block (.sn mx (.ix sl61 ty3 rfl rfl hn5 (.ld ty3 rfl (.ra hv6 rfl (.nil (.sn mx (.mv rfl (.c (.subW .none (.s rfl) .i) (.ra hv7 rfl (.nil (.block (.anon (t := 0) (g := 5001) rfl rfl trivial rfl (.loopL h (fun s8_ => [(7, ⟨True, rep s8_.2⟩)]) (fun s8_ => [(0, some (rowV 3 s8_.1))]) (.k 7 rfl .nil) (.k 0 rfl .nil) (.k4 6 8 9 10 rfl rfl rfl rfl .nil) SubB.nil (fun s8_ o_8 h hD8 => ?_))))))))))))))
    unfold route_lines_1_L2 at h
    refine .nameRow (t := 0) (g := 5002) rfl rfl rfl (fun s5002 => (.seq (.sn mx (.mv rfl (.mv rfl (.adi rfl (.c (.le .none (.s rfl) (.s rfl)) (.nil (.cb rfl h (fun _ h => ?_) fun _ h => ?_)))))))))
    ·
     refine .skip (.then (.seq ?_))
     obtain ⟨j_10, h, hK10⟩ := bind_some h
     refine .thenJ (ι := (List Int)) (fun j_10 => []) (fun j_10 => [(0, some (rowV 3 j_10))]) (fun s => j_10 = s) (.k4 6 7 8 9 rfl rfl rfl rfl (.k 10 rfl .nil)) SubB.nil ?_ (fun j_10' hj10 => ?_)
     ·
      refine .block (.sn mx (.mv rfl (.c (.ge .none (.s rfl) .i) (.mv rfl (.mg rfl rfl rfl (.c (.le (.at rfl rfl) (.tmp rfl id) .i) (.pa rfl rfl (.nil (.cb rfl h (fun _ h => ?_) fun _ h => ?_)))))))))
      ·
       obtain ⟨hn12, h⟩ := need_some h
       exact .rg [oo, oo, oo, ([5002], [31, 5002]), ([31], [0, 31])] mx (.mvA rfl (.mvA rfl (.cA (.buildSlice (xs := [_]) .none sl61 ty3 hz3 (.cons (.s rfl) .nil) rfl (by decide)) (.cW (.append (k := 5002) rk61 rfl (.told (.s rfl) rfl) (.s rfl) hn12) (.consWD (.passRow rfl (.tmp rfl)) rfl rfl (.nil (.blkNormal (Ends.j _ (some_eq h)))))))))
      ·
       exact .skip (.blkNormal (.anon (t := 0) (g := 5002) rfl rfl trivial rfl (Ends.j _ (some_eq h))))
     ·
      subst hj10; have h := hK10; clear hK10
      obtain ⟨k2, hv13, h⟩ := bnd_some h
      exact .nameRow (t := 0) (g := 5003) rfl rfl rfl (fun s5003 => (.rn mx (.mv rfl (.adi rfl (.ra hv13 rfl (.nil (.anon (t := 0) (g := 5003) rfl rfl trivial rfl (Ends.ag (some_eq h)))))))))
    ·
     refine .exit (.thenExit (.thenExit (.blkExit (.blkNormal (.anon (t := 0) (g := 5002) rfl rfl trivial rfl ?_)))))
     replace h := hD8 _ (some_eq h)
     exact Ends.j _ (some_eq h)
   ·
    subst hj4; have h := hK4; clear hK4
    exact .nameRow (t := 0) (g := 5004) rfl rfl rfl (fun s5004 => (.rn mx (.adi rfl (.mv rfl (.nil (.anon (t := 0) (g := 5004) rfl rfl trivial rfl (Ends.ag (some_eq h))))))))
  ·
   refine .exit (.thenExit (.thenExit (.blkExit (.anon (t := 0) (g := 5001) rfl rfl trivial rfl ?_))))
   replace h := hD2 _ (some_eq h)
   exact Ends.j _ (some_eq h)
 ·
  subst hj1; have h := hK1; clear hK1
  refine .nameRow (t := 0) (g := 5005) rfl rfl rfl (fun s5005 => (.sn mx (.mv rfl (.asn rfl (.nil (.ret (.anon (t := 4) (g := 5005) rfl rfl trivial rfl ?_)))))))
  obtain rfl := some_eq h
  exact Ends.ret1O (.inl rfl) [34, 4] Try.results85 (by decide) (.skip (.res rfl rfl)) (ResOK.tmp rfl trivial (fun _ _ _ _ => trivial))

theorem route_lines_ok {t1 : Task} {r : ((List Int) × (List Int))}  (h : route_lines t1 = some r) : FSpec Try.prog 61 [rep t1] (tup [rep r.1, rep r.2]) := by
 unfold route_lines at h
 obtain ⟨r1, hv1, h⟩ := bind_some h
 obtain ⟨xs1, hv2, h⟩ := bind_some h
 refine FSpec.i Try.func61 rfl Try.ntmps61 rfl (fun F => (.sr [oo, ([], [2]), ([], [3])] mx (.cA (.box .none (.s rfl)) (.cW (.nilRow (T := 3) (α := Int) rfl) (.cW (.nilRow (T := 3) (α := Int) rfl) (.nil (.nameRow (t := 2) (g := 5001) rfl rfl rfl (fun s5001 => (.nameRow (t := 3) (g := 5002) rfl rfl rfl (fun s5002 => (.sr [oo, oo, oo, oo, oo, ([], [4]), ([], [5]), ([4], [4]), ([5], [5])] mx (.ldA ty26 rfl (.cA (.call .none (route_ends_ok hv1) (.cons (.s rfl) .nil)) (.mvA rfl (.exA rfl rfl (.exA rfl rfl (.al zo23 rfl (.al zo23 rfl (.st ty23 rfl rfl rfl (.st ty23 rfl rfl rfl (.nil (.freeze (t := 4) rfl rfl (.k2 5 5001 rfl rfl (.k 5002 rfl .nil)) rfl (.freeze (t := 5) rfl rfl (.k2 5001 5002 rfl rfl .nil) rfl (.sn mx (.c (.assign .none .funcC) (.nil (.sr [oo, oo, oo, oo, oo, oo, oo, ([5001], [5001, 21]), oo, oo, oo, oo, oo, oo, oo, ([5002], [5002, 29]), ([21], [2, 21]), ([29], [3, 29])] mx (.mvA rfl (.mvA rfl (.faA fd23_0 hfd23_0 rfl (.ldA ty3 rfl (.faA fd23_0 hfd23_0 rfl (.ldA ty3 rfl (.cA (.buildSlice (xs := [_, _]) .none sl61 ty3 hz3 (.cons (.s rfl) (.cons (.s rfl) .nil)) rfl (by decide)) (.cW (.callClo [5001] (Ss := [isV _, rep [r1.1.X, r1.2.X]]) (Cs := []) (.s rfl) (route_lines_1_ok hv2) (.cons (.s rfl) (.cons (.s rfl) .nil)) (.cons (k := 5001) rfl .nil) rfl (by decide) (by decide) (by intro d h; cases h; decide)) ?_)))))))))))))))))))))))))))))))))))
 obtain ⟨ys1, hv3, h⟩ := bind_some h
 refine .mvA rfl (.mvA rfl (.faA fd23_1 hfd23_1 rfl (.ldA ty3 rfl (.faA fd23_1 hfd23_1 rfl (.ldA ty3 rfl (.cA (.buildSlice (xs := [_, _]) .none sl61 ty3 hz3 (.cons (.s rfl) (.cons (.s rfl) .nil)) rfl (by decide)) (.cW (.callClo [5002] (Ss := [isV _, rep [r1.1.Y, r1.2.Y]]) (Cs := []) (.s rfl) (route_lines_1_ok hv3) (.cons (.s rfl) (.cons (.s rfl) .nil)) (.cons (k := 5002) rfl .nil) rfl (by decide) (by decide) (by intro d h; cases h; decide)) ?_)))))))
 obtain ⟨r2, hv4, h⟩ := bind_some h
 refine .cW (.passRow rfl (.tmp rfl)) (.cW (.passRow rfl (.tmp rfl)) (.nil (.nameRow (t := 2) (g := 5003) rfl rfl rfl (fun s5003 => (.nameRow (t := 3) (g := 5004) rfl rfl rfl (fun s5004 => (.seq (.sn mx (.ld ty26 rfl (.c (.call .none (route_zones_ok hv4) (.cons (.s rfl) .nil)) (.ln sl49 rfl (.mvi (.nil ?_)))))))))))))
 obtain ⟨j_5, h, hK5⟩ := bind_some h
 refine .thenJ (ι := ((List Int) × (List Int))) (fun j_5 => []) (fun j_5 => [(2, some (rowV 3 j_5.1)), (3, some (rowV 3 j_5.2))]) (fun s => j_5 = s) Sub.nil SubB.nil ?_ (fun j_5' hj5 => ?_)
 ·
  refine .block (.anon (t := 2) (g := 5003) rfl rfl trivial rfl (.anon (t := 3) (g := 5004) rfl rfl trivial rfl (.rforL h (fun p6_ => [(33, ⟨True, rep p6_.1⟩)]) (fun p6_ => [(2, some (rowV 3 p6_.2.1)), (3, some (rowV 3 p6_.2.2))]) (.k 33 rfl .nil) (.k2 2 3 rfl rfl .nil) (.k2 6 31 rfl rfl (.k 32 rfl .nil)) SubB.nil (fun p6_ o_6 h hD6 => (.nameRow (t := 2) (g := 5005) rfl rfl rfl (fun s5005 => (.nameRow (t := 3) (g := 5006) rfl rfl rfl (fun s5006 => (.sn mx (.lt rfl rfl (.nil (.seq (.cb rfl h (fun _ h => ?_) fun _ h => ?_)))))))))))))
  ·
   refine .skip (.then (.seq ?_))
   obtain ⟨j_8, h, hK8⟩ := bind_some h
   unfold route_lines_L1 at h
   refine .thenJ (ι := ((List Int) × (List Int))) (fun j_8 => []) (fun j_8 => [(2, some (rowV 3 j_8.1)), (3, some (rowV 3 j_8.2))]) (fun s => j_8 = s) (.k4 6 31 32 33 rfl rfl rfl rfl .nil) SubB.nil ?_ (fun j_8' hj8 => ?_)
   ·
    obtain ⟨hn9, h⟩ := need_some h
    obtain ⟨v1, hv10, h⟩ := bnd_some h
    obtain ⟨xs2, hv11, h⟩ := bind_some h
    refine .block (.sr [oo, oo, ([], [8]), ([8], [8])] mx (.ixA sl49 ty95 rfl rfl hn9 (.rlA hv10 ty95 rfl (.al zo95 rfl (.st ty95 rfl rfl rfl (.nil (.freeze (t := 8) rfl rfl (.k2 5005 5006 rfl rfl .nil) rfl (.rg [oo, oo, oo, oo, oo, oo, oo, ([5005], [5005, 44]), oo, oo, oo, oo, oo, oo, oo, ([5006], [5006, 52]), ([44], [2, 44]), ([52], [3, 52])] mx (.mvA rfl (.mvA rfl (.faA fd95_0 hfd95_0 rfl (.ldA ty3 rfl (.faA fd95_2 hfd95_2 rfl (.ldA ty3 rfl (.cA (.buildSlice (xs := [_, _]) .none sl61 ty3 hz3 (.cons (.s rfl) (.cons (.s rfl) .nil)) rfl (by decide)) (.cW (.callClo [5005] (Ss := [isV _, rep [v1.left, v1.right]]) (Cs := []) (.s rfl) (route_lines_1_ok hv11) (.cons (.s rfl) (.cons (.s rfl) .nil)) (.cons (k := 5005) rfl .nil) rfl (by decide) (by decide) (by intro d h; cases h; decide)) ?_))))))))))))))))
    obtain ⟨ys2, hv12, h⟩ := bind_some h
    exact .mvA rfl (.mvA rfl (.faA fd95_1 hfd95_1 rfl (.ldA ty3 rfl (.faA fd95_3 hfd95_3 rfl (.ldA ty3 rfl (.cA (.buildSlice (xs := [_, _]) .none sl61 ty3 hz3 (.cons (.s rfl) (.cons (.s rfl) .nil)) rfl (by decide)) (.cW (.callClo [5006] (Ss := [isV _, rep [v1.top, v1.bottom]]) (Cs := []) (.s rfl) (route_lines_1_ok hv12) (.cons (.s rfl) (.cons (.s rfl) .nil)) (.cons (k := 5006) rfl .nil) rfl (by decide) (by decide) (by intro d h; cases h; decide)) (.cW (.passRow rfl (.tmp rfl)) (.cW (.passRow rfl (.tmp rfl)) (.nil (.blkNormal (Ends.j _ (some_eq h)))))))))))))
   ·
    subst hj8; have h := hK8; clear hK8
    exact .nameRow (t := 2) (g := 5007) rfl rfl rfl (fun s5007 => (.nameRow (t := 3) (g := 5008) rfl rfl rfl (fun s5008 => (.rn mx (.adi rfl (.mv rfl (.nil (.anon (t := 2) (g := 5007) rfl rfl trivial rfl (.anon (t := 3) (g := 5008) rfl rfl trivial rfl (Ends.ag (some_eq h)))))))))))
  ·
   refine .exit (.thenExit (.thenExit (.blkExit (.anon (t := 2) (g := 5005) rfl rfl trivial rfl (.anon (t := 3) (g := 5006) rfl rfl trivial rfl ?_)))))
   replace h := hD6 _ (some_eq h)
   exact Ends.j _ (some_eq h)
 ·
  subst hj5; have h := hK5; clear hK5
  obtain ⟨r3, hv13, h⟩ := bind_some h
  obtain ⟨r4, hv14, h⟩ := bind_some h
  obtain ⟨xs3, hv15, h⟩ := bind_some h
  obtain ⟨ys3, hv16, h⟩ := bind_some h
  refine .nameRow (t := 2) (g := 5009) rfl rfl rfl (fun s5009 => (.nameRow (t := 3) (g := 5010) rfl rfl rfl (fun s5010 => (.sr [oo, ([5009], [5009])] mx (.mvA rfl (.cW (.cO [5009] (slices_Sort_int_ok hv13) (.cons (.s rfl) .nil) (.cons (k := 5009) rfl .nil) rfl) (.nil (.sr [oo, ([5010], [5010])] mx (.mvA rfl (.cW (.cO [5010] (slices_Sort_int_ok hv14) (.cons (.s rfl) .nil) (.cons (k := 5010) rfl .nil) rfl) (.nil (.sr [oo, ([5009], [5009]), oo, ([5010], [5010]), oo, oo] mx (.mvA rfl (.cW (.cO [5009] ((slices_Compact_int_ok hv15).frzO1) (.cons (.s rfl) .nil) (.cons (k := 5009) rfl .nil) rfl) (.mvA rfl (.cW (.cO [5010] ((slices_Compact_int_ok hv16).frzO1) (.cons (.s rfl) .nil) (.cons (k := 5010) rfl .nil) rfl) (.consD (.assign .none (.s rfl)) rfl (.consD (.assign .none (.s rfl)) rfl (.nil (.ret ?_))))))))))))))))))))
  obtain rfl := some_eq h
  exact Ends.ret2 (.inl rfl) Try.results61 (ResOK.tmp rfl trivial Imp.refl) (ResOK.tmp rfl trivial Imp.refl)

theorem cmp_isNaN_int_ok {x1 : Int} {r : Bool}  (h : cmp_isNaN_int x1 = some r) : FSpec Try.prog 91 [rep x1] (rep r) := by
 unfold cmp_isNaN_int at h
 refine FSpec.i Try.func91 rfl Try.ntmps91 rfl (fun F => (.sn mx (.asb (.nil (.sn mx (.mv rfl (.mv rfl (.c (.neI .none (.s rfl) (.s rfl)) (.asn rfl (.nil (.ret ?_)))))))))))
 obtain rfl := some_eq h
 exact Ends.rt Try.results91 rfl

theorem cmp_Less_int_ok {x1 : Int} {y1 : Int} {r : Bool}  (h : cmp_Less_int x1 y1 = some r) : FSpec Try.prog 80 [rep x1, rep y1] (rep r) := by
 unfold cmp_Less_int at h
 obtain ⟨r1, hv1, h⟩ := bind_some h
 obtain ⟨r2, hv2, h⟩ := bind_some h
 refine FSpec.i Try.func80 rfl Try.ntmps80 rfl (fun F => (.sn mx (.asb (.nil (.sn mx (.mv rfl (.c (.call .none (cmp_isNaN_int_ok hv1) (.cons (.s rfl) .nil)) (.mv rfl (.mg rfl rfl rfl (.c (.callIf (.at rfl rfl) fnok91 (fun hg => cmp_isNaN_int_ok ((fun hg => gd_some hv2 (hg.2)) hg)) (.cons (.tmp rfl id) .nil) (fun h => h)) (.c (.not (.at rfl rfl) (.tmp rfl id)) (.pa rfl rfl (.mv rfl (.mg rfl rfl rfl (.mg rfl rfl rfl (.c (.lt (.at rfl rfl) (.tmp rfl id) (.tmp rfl id)) (.po rfl rfl (.asn rfl (.nil (.ret ?_))))))))))))))))))))
 obtain rfl := some_eq h
 exact Ends.rt Try.results80 rfl

theorem slices_isNaN_int_ok {x1 : Int} {r : Bool}  (h : slices_isNaN_int x1 = some r) : FSpec Try.prog 81 [rep x1] (rep r) := by
 unfold slices_isNaN_int at h
 refine FSpec.i Try.func81 rfl Try.ntmps81 rfl (fun F => (.sn mx (.asb (.nil (.sn mx (.mv rfl (.mv rfl (.c (.neI .none (.s rfl) (.s rfl)) (.asn rfl (.nil (.ret ?_)))))))))))
 obtain rfl := some_eq h
 exact Ends.rt Try.results81 rfl

theorem slices_BinarySearch_int_ok {x1 : (List Int)} {target1 : Int} {r : (Int × Bool)}  (h : slices_BinarySearch_int x1 target1 = some r) : FSpec Try.prog 49 [rep x1, rep target1] (tup [rep r.1, rep r.2]) := by
 unfold slices_BinarySearch_int at h
 obtain ⟨n1, hv1, h⟩ := bnd_some h
 refine FSpec.i Try.func49 rfl Try.ntmps49 rfl (fun F => (.sn mx (.asi (.asb (.nil (.sn mx (.mv rfl (.ln sl61 rfl (.ra hv1 rfl (.nil (.sn mx (.mv rfl (.asi (.asn rfl (.nil (.seq ?_))))))))))))))))
 obtain ⟨j_2, h, hK2⟩ := bind_some h
 refine .thenJ (ι := Int) (fun j_2 => [(7, ⟨True, rep j_2⟩)]) (fun j_2 => []) (fun s => j_2 = s) (.k2 0 1 rfl rfl (.k 6 rfl .nil)) SubB.nil ?_ (fun j_2' hj2 => ?_)
 ·
  refine .block (.loopL h (fun s3_ => [(7, ⟨True, rep s3_.1⟩), (8, ⟨True, rep s3_.2⟩)]) (fun s3_ => []) (.k2 7 8 rfl rfl .nil) SubB.nil (.k2 0 1 rfl rfl (.k 6 rfl .nil)) SubB.nil (fun s3_ o_3 h hD3 => ?_))
  unfold slices_BinarySearch_int_L1 at h
  refine .seq (.sn mx (.mv rfl (.mv rfl (.lt rfl rfl (.nil (.cb rfl h (fun _ h => ?_) fun _ h => ?_))))))
  ·
   obtain ⟨h1, hv5, h⟩ := bnd_some h
   obtain ⟨hn6, h⟩ := need_some h
   obtain ⟨r1, hv7, h⟩ := bind_some h
   refine .skip (.then (.block (.sn mx (.mv rfl (.mv rfl (.add rfl rfl (.c (.toK .none (by kernel_rfl) Try.underlying119 (.s rfl)) (.c (.kshr .none (.s rfl) .ki (fun _ => by decide)) (.c (.toInt .none (by kernel_rfl) Try.underlying3 (.s rfl)) (.ra hv5 rfl (.nil (.sn mx (.mv rfl (.mv rfl (.ix sl61 ty3 rfl rfl hn6 (.ld ty3 rfl (.mv rfl (.c (.call .none (cmp_Less_int_ok hv7) (.cons (.s rfl) (.cons (.s rfl) .nil))) (.nil (.cb rfl h (fun _ h => ?_) fun _ h => ?_))))))))))))))))))))
   ·
    obtain ⟨i1, hv9, h⟩ := bnd_some h
    exact .rn mx (.mv rfl (.adi rfl (.ra hv9 rfl (.nil (.blkNormal (Ends.ag (some_eq h)))))))
   ·
    exact .rn mx (.mv rfl (.asn rfl (.nil (.blkNormal (Ends.ag (some_eq h))))))
  ·
   refine .exit (.thenExit (.thenExit (.blkExit ?_)))
   replace h := hD3 _ (some_eq h)
   exact Ends.j _ (some_eq h)
 ·
  subst hj2; have h := hK2; clear hK2
  obtain ⟨hn10, h⟩ := need_some h
  obtain ⟨hn11, h⟩ := need_some h
  obtain ⟨r2, hv12, h⟩ := bind_some h
  refine .sn mx (.mv rfl (.mv rfl (.mv rfl (.lt rfl rfl (.mv rfl (.mg rfl rfl rfl (.mg rfl rfl rfl (.c (.indexAddr (.at rfl rfl) sl61 ty3 (.tmp rfl id) (.tmp rfl id) (fun hg => hn10 hg.2)) (.lg ty3 rfl rfl rfl (.mg rfl rfl rfl (.c (.eqI (.at rfl rfl) (.tmp rfl id) (.tmp rfl id)) (.c (.move (.at rfl rfl) (.tmp rfl id)) (.mg rfl rfl rfl (.mg rfl rfl rfl (.c (.indexAddr (.at rfl rfl) sl61 ty3 (.tmp rfl id) (.tmp rfl id) (fun hg => hn11 hg.1.2 hg.2)) (.lg ty3 rfl rfl rfl (.c (.callIf (.at rfl rfl) fnok81 (fun hg => slices_isNaN_int_ok ((fun hg => gd_some hv12 ((andT hg.1.2 (notT hg.2)))) hg)) (.cons (.tmp rfl id) .nil) (fun h => h)) ?_)))))))))))))))))
  obtain ⟨r3, hv13, h⟩ := bind_some h
  refine .c (.move (.at rfl rfl) (.tmp rfl id)) (.mg rfl rfl rfl (.c (.callIf (.at rfl rfl) fnok81 (fun hg => slices_isNaN_int_ok ((fun hg => gd_some hv13 ((andT (andT hg.1.1.2 (notT hg.1.2)) hg.2))) hg)) (.cons (.tmp rfl id) .nil) (fun h => h)) (.c (.pickAnd (.at rfl rfl) (.tmp rfl id) (.tmp rfl id)) (.c (.pickOr (.at rfl rfl) (.tmp rfl id) (.tmp rfl id)) (.pa rfl rfl (.asn rfl (.asn rfl (.nil (.ret ?_)))))))))
  obtain rfl := some_eq h
  exact Ends.ret2 (.inl rfl) Try.results49 (ResOK.tmp rfl trivial Imp.refl) (ResOK.tmp rfl trivial Imp.refl)

theorem route_newSearch_1_ok {l1 : (List Int)} {low1 : Int} {high1 : Int} {r : ((Arr 1 Int) × (Arr 1 Int))}  (h : route_newSearch_1 l1 low1 high1 = some r) : FSpec Try.prog 62 [rep l1, rep low1, rep high1] (tup [rep r.1, rep r.2]) := by
 unfold route_newSearch_1 at h
 obtain ⟨lines1, hv1, h⟩ := bnd_some h
 obtain ⟨stretches1, hv2, h⟩ := bnd_some h
 obtain ⟨r1, hv3, h⟩ := bind_some h
 obtain ⟨r2, hv4, h⟩ := bind_some h
 obtain ⟨v1, hv5, h⟩ := bnd_some h
 obtain ⟨v2, hv6, h⟩ := bnd_some h
 refine FSpec.i Try.func62 rfl Try.ntmps62 rfl (fun F => (.sr [([], [6]), ([], [7])] mx (.al zo98 rfl (.al zo98 rfl (.nil (.reB (t := 6) rfl (congrArg (cont 98) hv1) (.reB (t := 7) rfl (congrArg (cont 98) hv2) (.nameBox (t := 6) (g := 5001) rfl rfl (fun m5001 => (.nameBox (t := 7) (g := 5002) rfl rfl (fun m5002 => (.sn mx (.mv rfl (.mv rfl (.adi rfl (.c (.call .none (slices_BinarySearch_int_ok hv3) (.cons (.s rfl) (.cons (.s rfl) .nil))) (.mv rfl (.ex rfl rfl (.ex rfl rfl (.asn rfl (.asn rfl (.nil (.sn mx (.mv rfl (.mv rfl (.c (.call .none (slices_BinarySearch_int_ok hv4) (.cons (.s rfl) (.cons (.s rfl) .nil))) (.mv rfl (.ex rfl rfl (.ex rfl rfl (.asn rfl (.asn rfl (.nil (.sr [oo, oo, oo, oo, oo, oo, oo, oo, ([5001], [5001]), ([5002], [5002])] mx (.mvA rfl (.mvA rfl (.cA (.re hv5 (.buildArr (xs := [_, _]) .none ao98 ty3 az98 (.cons (.s rfl) (.cons (.s rfl) .nil)) rfl)) (.mvA rfl (.cA (.subW .none (.s rfl) .i) (.cA (.max2 .none (.s rfl) .i) (.mvA rfl (.cA (.re hv6 (.buildArr (xs := [_, _]) .none ao98 ty3 az98 (.cons (.s rfl) (.cons (.s rfl) .nil)) rfl)) (.s0 5001 ty98 rfl rfl rfl (.s0 5002 ty98 rfl rfl rfl (.nil (.freezeBox (g := 5001) (ts := [6]) rfl (.cons (t := 6) rfl trivial .nil) (.k 5002 rfl .nil) rfl (.fb 5002 [7] rfl (.cons (t := 7) rfl trivial .nil) (.ret ?_)))))))))))))))))))))))))))))))))))))))))))))))
 obtain rfl := some_eq h
 exact Ends.ret2 (.inl rfl) Try.results62 (ResOK.cellR ty98 rfl trivial Imp.refl) (ResOK.cellR ty98 rfl trivial Imp.refl)

set_option maxHeartbeats 4000000 in
theorem route_newSearch_ok {t1 : Task} {r : (Option Route_search)}  (h : route_newSearch t1 = some r) : FSpec Try.prog 25 [rep t1] (rep r) := by
 unfold route_newSearch at h
 obtain ⟨v1, hv1, h⟩ := bnd_some h
 obtain ⟨r1, hv2, h⟩ := bind_some h
 obtain ⟨s1, hv3, h⟩ := bnd_some h
 obtain ⟨w1, hv4, h⟩ := bnd_some h
 obtain ⟨h1, hv5, h⟩ := bnd_some h
 obtain ⟨v2, hv6, h⟩ := bnd_some h
 obtain ⟨hn7, h⟩ := need_some h
 obtain ⟨v3, hv8, h⟩ := bnd_some h
 obtain ⟨hn9, h⟩ := need_some h
 obtain ⟨c1, hv10, h⟩ := bnd_some h
 obtain ⟨c2, hv11, h⟩ := bnd_some h
 refine FSpec.i Try.func25 rfl Try.ntmps25 rfl (fun F => (.sn mx (.c (.box .none (.s rfl)) (.c (.assign .none (.const (x := (none : (Option Route_search))) (fun M w => ⟨_, ptr_zero, rfl⟩))) (.nil (.sr [oo, ([], [19]), ([19], [3, 19])] mx (.cA (.re hv1 (.buildF (y := (⟨([] : (List Int)), ([] : (List Int)), ([] : (List Bool)), ([] : (List Bool))⟩ : Route_search)) .none bu64 zc64 rfl .nil .nil)) (.cW (.boxO rfl (.s rfl)) (.cW (.passRow rfl (.tmp rfl)) (.nil (.nameBox (t := 3) (g := 5001) rfl rfl (fun m5001 => (.sr [oo, oo, oo, oo, oo, oo, oo, oo, oo, ([5001], [5001]), oo, oo, ([5001], [5001])] mx (.mvA rfl (.mvA rfl (.ldA ty26 rfl (.cA (.call .none (route_lines_ok hv2) (.cons (.s rfl) .nil)) (.mvA rfl (.exA rfl rfl (.exA rfl rfl (.cA (.nilCheckP .none (.s rfl)) (.cA (.fieldPtr .none fd64_0 (.s rfl)) (.cN (.storeAt (g := 5001) ty61 rfl (.s rfl) sf64_0 (.s rfl)) (.cA (.nilCheckP .none (.s rfl)) (.cA (.fieldPtr .none fd64_1 (.s rfl)) (.cN (.storeAt (g := 5001) ty61 rfl (.s rfl) sf64_1 (.s rfl)) (.nil (.reB (t := 5001) rfl (congrArg (fun y => boxAt m5001 64 y) hv3) (.sr [oo, oo, oo, ([5001], []), oo, oo, oo, oo, ([5001], []), oo, oo, oo] mx (.mvA rfl (.cA (.nilCheckP .none (.s rfl)) (.cA (.fieldPtr .none fd64_0 (.s rfl)) (.cA (.loadAt (k := 5001) .none ty61 rfl (.s rfl) hfd64_0) (.cA (.len .none sl61 (.s rfl)) (.mvA rfl (.cA (.nilCheckP .none (.s rfl)) (.cA (.fieldPtr .none fd64_1 (.s rfl)) (.cA (.loadAt (k := 5001) .none ty61 rfl (.s rfl) hfd64_1) (.cA (.len .none sl61 (.s rfl)) (.cA (.re hv4 (.assign .none (.s rfl))) (.cA (.re hv5 (.assign .none (.s rfl))) (.nil (.sr [oo, oo, oo, oo, oo, ([], [46]), oo, oo, oo, ([], [50]), oo, oo, ([5001, 46], [5001, 46]), oo, oo, ([5001, 50], [5001, 50])] mx (.mvA rfl (.mvA rfl (.mvA rfl (.mvA rfl ?_)))))))))))))))))))))))))))))))))))))))))))))))
 refine .cA (.re hv6 (.mulW .none (.s rfl) (.s rfl))) (.cW (.makeSlice rk62 zo4 rfl (.s rfl) (.s rfl) hn7) (.mvA rfl (.mvA rfl (.cA (.re hv8 (.mulW .none (.s rfl) (.s rfl))) (.cW (.makeSlice rk62 zo4 rfl (.s rfl) (.s rfl) hn9) (.cA (.nilCheckP .none (.s rfl)) (.cA (.fieldPtr .none fd64_2 (.s rfl)) (.cN (.storeRowF (k := 5001) (t := 46) (off := 2) (set := fun s => (⟨s1.xs, s1.ys, ⟨s⟩, s1.down⟩ : Route_search_o2)) ty62 rfl (.s rfl) (by decide) (fun M s cs w hc hs => by obtain ⟨c0, q0, e0, h0, c1, q1, e1, h1, c2, q2, e2, h2, h3⟩ := hc; obtain ⟨v, _, hv⟩ := cells_one rfl rfl h2; exact sv_Route_search_o2_2.2 M (⟨s1.xs, s1.ys, ⟨v⟩, s1.down⟩ : Route_search_o2) ⟨s⟩ cs [s] w ⟨c0, q0, e0, h0, c1, q1, e1, h1, c2, q2, e2, hv, h3⟩ hs) rfl rfl) (.cA (.nilCheckP .none (.s rfl)) (.cA (.fieldPtr .none fd64_3 (.s rfl)) (.cN (.storeRowD (k := 5001) (t := 50) (off := 3) (mk := fun z => (⟨s1.xs, s1.ys, ⟨z⟩, s1.down⟩ : Route_search_o2)) (set := fun s z => (⟨s1.xs, s1.ys, ⟨z⟩, ⟨s⟩⟩ : Route_search_o23)) ty62 rfl (.s rfl) (by decide) (fun M z s cs w hc hs => by obtain ⟨c0, q0, e0, h0, c1, q1, e1, h1, c2, q2, e2, h2, h3⟩ := hc; obtain ⟨v, _, hv⟩ := cells_one rfl rfl h3; exact sv_Route_search_o23_3.2 M (⟨s1.xs, s1.ys, ⟨z⟩, ⟨v⟩⟩ : Route_search_o23) ⟨s⟩ cs [s] w ⟨c0, q0, e0, h0, c1, q1, e1, h1, c2, q2, e2, h2, hv⟩ hs) rfl rfl) (.nil (.open (k := 5001) (g := 5002) rfl rfl (fun s5002 => (.open (k := 5001) (g := 5003) rfl rfl (fun s5003 => (.seq (.sr [oo, oo, oo, ([5001], []), ([5003], []), oo] mx (.mvA rfl (.cA (.nilCheckP .none (.s rfl)) (.cA (.fieldPtr .none fd64_2 (.s rfl)) (.cA (.loadAt (k := 5001) .none tr62 rfl (.s rfl) hv_Route_search_o23_2) (.cA (.lenO (k := 5003) sl62 (.told (.s rfl) rfl)) (.cA (.move .none .i) (.nil (.reB (t := 5002) rfl (congrArg (fun y => CPred.at s5002 (rowV 4 y)) hv10) ?_))))))))))))))))))))))))))
 refine .reB (t := 5003) rfl (congrArg (fun y => CPred.at s5003 (rowV 4 y)) hv11) ?_
 obtain ⟨j_12, h, hK12⟩ := bind_some h
 refine .thenJ (ι := ((List Bool) × (List Bool))) (fun j_12 => []) (fun j_12 => [(5002, some (CPred.at s5002 (rowV 4 j_12.1))), (5003, some (CPred.at s5003 (rowV 4 j_12.2)))]) (fun s => j_12 = s) (.k2 1 3 rfl rfl (.k 4 rfl .nil)) (.k 5001 rfl .nil) ?_ (fun j_12' hj12 => ?_)
 ·
  refine .block (.rforL h (fun p13_ => [(60, ⟨True, rep p13_.1⟩)]) (fun p13_ => [(5002, some (CPred.at s5002 (rowV 4 p13_.2.1))), (5003, some (CPred.at s5003 (rowV 4 p13_.2.2)))]) (.k 60 rfl .nil) (.k2 5002 5003 rfl rfl .nil) (.k4 1 3 4 5 rfl rfl rfl rfl (.k 59 rfl .nil)) (.k 5001 rfl .nil) (fun p13_ o_13 h hD13 => (.sn mx (.lt rfl rfl (.nil (.seq (.cb rfl h (fun _ h => ?_) fun _ h => ?_)))))))
  ·
   refine .skip (.then (.seq ?_))
   obtain ⟨j_15, h, hK15⟩ := bind_some h
   unfold route_newSearch_L1 at h
   refine .thenJ (ι := ((List Bool) × (List Bool))) (fun j_15 => []) (fun j_15 => [(5002, some (CPred.at s5002 (rowV 4 j_15.1))), (5003, some (CPred.at s5003 (rowV 4 j_15.2)))]) (fun s => j_15 = s) (.k4 1 3 4 5 rfl rfl rfl rfl (.k2 59 60 rfl rfl .nil)) (.k 5001 rfl .nil) ?_ (fun j_15' hj15 => ?_)
   ·
    obtain ⟨hn16, h⟩ := need_some h
    obtain ⟨v4, hv17, h⟩ := bnd_some h
    obtain ⟨hn18, h⟩ := need_some h
    obtain ⟨v5, hv19, h⟩ := bnd_some h
    obtain ⟨hn20, h⟩ := need_some h
    obtain ⟨hn21, h⟩ := need_some h
    exact .block (.sn mx (.mv rfl (.asn rfl (.nil (.rg [oo, oo, oo, ([5001], []), oo, oo, oo, oo, ([5001], []), oo, oo, oo, oo, oo, oo, oo, oo, oo, oo, oo, oo, oo, ([5003], []), ([5003], [5003]), ([5002], []), ([5002], [5002])] mx (.mvA rfl (.cA (.nilCheckP .none (.s rfl)) (.cA (.fieldPtr .none fd64_2 (.s rfl)) (.cA (.loadAt (k := 5001) .none tr62 rfl (.s rfl) hv_Route_search_o23_2) (.mvA rfl (.mvA rfl (.cA (.nilCheckP .none (.s rfl)) (.cA (.fieldPtr .none fd64_3 (.s rfl)) (.cA (.loadAt (k := 5001) .none tr62 rfl (.s rfl) hv_Route_search_o23_3) (.mvA rfl (.mvA rfl (.mvA rfl (.cA (.rem .none (.s rfl) (.s rfl) (fun _ => hn16)) (.mvA rfl (.cA (.subW .none (.s rfl) .i) (.cA (.re hv17 (.lt .none (.s rfl) (.s rfl))) (.mvA rfl (.mvA rfl (.cA (.quo .none (.s rfl) (.s rfl) (fun _ => hn18)) (.mvA rfl (.cA (.subW .none (.s rfl) .i) (.cA (.re hv19 (.lt .none (.s rfl) (.s rfl))) (.ixO 5003 sl62 ty4 rfl rfl rfl hn20 (.cN (.storeElem0 (k := 5003) ty4 (.s rfl) rfl (.s rfl) hn20) (.ixO 5002 sl62 ty4 rfl rfl rfl hn21 (.cN (.storeElem0 (k := 5002) ty4 (.s rfl) rfl (.s rfl) hn21) (.nil (.blkNormal (Ends.j _ (some_eq h)))))))))))))))))))))))))))))))))))
   ·
    subst hj15; have h := hK15; clear hK15
    exact .rn mx (.adi rfl (.mv rfl (.nil (Ends.ag (some_eq h)))))
  ·
   refine .exit (.thenExit (.thenExit (.blkExit ?_)))
   replace h := hD13 _ (some_eq h)
   exact Ends.j _ (some_eq h)
 ·
  subst hj12; have h := hK12; clear hK12
  obtain ⟨r2, hv22, h⟩ := bind_some h
  refine .seq (.sn mx (.ld ty26 rfl (.c (.call .none (route_zones_ok hv22) (.cons (.s rfl) .nil)) (.ln sl49 rfl (.mvi (.nil ?_))))))
  obtain ⟨j_23, h, hK23⟩ := bind_some h
  refine .thenJ (ι := ((List Bool) × (List Bool))) (fun j_23 => []) (fun j_23 => [(5002, some (CPred.at s5002 (rowV 4 j_23.1))), (5003, some (CPred.at s5003 (rowV 4 j_23.2)))]) (fun s => j_23 = s) (.k 3 rfl .nil) (.k 5001 rfl .nil) ?_ (fun j_23' hj23 => ?_)
  ·
   refine .block (.rforL h (fun p24_ => [(91, ⟨True, rep p24_.1⟩)]) (fun p24_ => [(5002, some (CPred.at s5002 (rowV 4 p24_.2.1))), (5003, some (CPred.at s5003 (rowV 4 p24_.2.2)))]) (.k 91 rfl .nil) (.k2 5002 5003 rfl rfl .nil) (.k4 3 4 89 90 rfl rfl rfl rfl .nil) (.k 5001 rfl .nil) (fun p24_ o_24 h hD24 => (.sn mx (.lt rfl rfl (.nil (.seq (.cb rfl h (fun _ h => ?_) fun _ h => ?_)))))))
   ·
    refine .skip (.then (.seq ?_))
    obtain ⟨j_26, h, hK26⟩ := bind_some h
    unfold route_newSearch_L2 at h
    refine .thenJ (ι := ((List Bool) × (List Bool))) (fun j_26 => []) (fun j_26 => [(5002, some (CPred.at s5002 (rowV 4 j_26.1))), (5003, some (CPred.at s5003 (rowV 4 j_26.2)))]) (fun s => j_26 = s) (.k4 3 4 89 90 rfl rfl rfl rfl (.k 91 rfl .nil)) (.k 5001 rfl .nil) ?_ (fun j_26' hj26 => ?_)
    ·
     obtain ⟨hn27, h⟩ := need_some h
     obtain ⟨v6, hv28, h⟩ := bnd_some h
     refine .block (.sr [oo, oo, ([], [8]), ([8], [8])] mx (.ixA sl49 ty95 rfl rfl hn27 (.rlA hv28 ty95 rfl (.al zo95 rfl (.st ty95 rfl rfl rfl (.nil (.freeze (t := 8) rfl rfl (.k2 5001 5002 rfl rfl (.k 5003 rfl .nil)) rfl (.sn mx (.c (.assign .none (Opd.func (ι := (List Int) × Int × Int × ((Arr 1 Int) × (Arr 1 Int))) (pre := fun i => route_newSearch_1 i.1 i.2.1 i.2.2.1 = some i.2.2.2) (Ss := fun i => [rep i.1, rep i.2.1, rep i.2.2.1]) (S := fun i => tup2 i.2.2.2) fnok62 (fun i h => route_newSearch_1_ok h))) ?_)))))))))
     obtain ⟨r3, hv29, h⟩ := bind_some h
     obtain ⟨r4, hv30, h⟩ := bind_some h
     obtain ⟨y1, hv31, h⟩ := bnd_some h
     refine .nil (.sr [oo, oo, oo, oo, ([5001], []), oo, oo, oo, oo, oo, oo, oo, oo, ([], [10]), ([], [11]), ([10], [10]), ([11], [11])] mx (.mvA rfl (.mvA rfl (.cA (.nilCheckP .none (.s rfl)) (.cA (.fieldPtr .none fd64_1 (.s rfl)) (.cA (.loadAt (k := 5001) .none ty61 rfl (.s rfl) hv_Route_search_o23_1) (.faA fd95_1 hfd95_1 rfl (.ldA ty3 rfl (.faA fd95_3 hfd95_3 rfl (.ldA ty3 rfl (.cA (.callV (s1.ys, v6.top, v6.bottom, r3) .none (.s rfl) (fun _ => hv29) (.cons (.s rfl) (.cons (.s rfl) (.cons (.s rfl) .nil)))) (.mvA rfl (.exA rfl rfl (.exA rfl rfl (.al zo98 rfl (.al zo98 rfl (.st ty98 rfl rfl rfl (.st ty98 rfl rfl rfl (.nil (.freeze (t := 10) rfl rfl (.k2 11 5001 rfl rfl (.k2 5002 5003 rfl rfl .nil)) rfl (.freeze (t := 11) rfl rfl (.k2 5001 5002 rfl rfl (.k 5003 rfl .nil)) rfl (.sr [oo, oo, oo, oo, ([5001], []), oo, oo, oo, oo, oo, oo, oo, oo, ([], [12]), ([], [13]), ([12], [12]), ([13], [13])] mx (.mvA rfl (.mvA rfl (.cA (.nilCheckP .none (.s rfl)) (.cA (.fieldPtr .none fd64_0 (.s rfl)) (.cA (.loadAt (k := 5001) .none ty61 rfl (.s rfl) hv_Route_search_o23_0) (.faA fd95_0 hfd95_0 rfl (.ldA ty3 rfl (.faA fd95_2 hfd95_2 rfl (.ldA ty3 rfl (.cA (.callV (s1.xs, v6.left, v6.right, r4) .none (.s rfl) (fun _ => hv30) (.cons (.s rfl) (.cons (.s rfl) (.cons (.s rfl) .nil)))) (.mvA rfl (.exA rfl rfl (.exA rfl rfl (.al zo98 rfl (.al zo98 rfl (.st ty98 rfl rfl rfl (.st ty98 rfl rfl rfl (.nil (.freeze (t := 12) rfl rfl (.k2 13 5001 rfl rfl (.k2 5002 5003 rfl rfl .nil)) rfl (.freeze (t := 13) rfl rfl (.k2 5001 5002 rfl rfl (.k 5003 rfl .nil)) rfl (.seq (.sn mx (.c (.indexAddrA .none ao98 ty3 (.s rfl) .i (fun _ => by decide)) (.ld ty3 rfl (.ra hv31 rfl (.nil ?_))))))))))))))))))))))))))))))))))))))))))))))))
     obtain ⟨j_32, h, hK32⟩ := bind_some h
     refine .thenJ (ι := (List Bool)) (fun j_32 => []) (fun j_32 => [(5003, some (CPred.at s5003 (rowV 4 j_32)))]) (fun s => j_32 = s) (.k4 3 4 11 12 rfl rfl rfl rfl (.k2 89 90 rfl rfl (.k 91 rfl .nil))) (.k2 5001 5002 rfl rfl .nil) ?_ (fun j_32' hj32 => ?_)
     ·
      refine .block (.loopL h (fun s33_ => [(14, ⟨True, rep s33_.1⟩)]) (fun s33_ => [(5003, some (CPred.at s5003 (rowV 4 s33_.2)))]) (.k 14 rfl .nil) (.k 5003 rfl .nil) (.k4 3 4 10 11 rfl rfl rfl rfl (.k4 12 13 89 90 rfl rfl rfl rfl (.k 91 rfl .nil))) (.k2 5001 5002 rfl rfl .nil) (fun s33_ o_33 h hD33 => ?_))
      unfold route_newSearch_L3 at h
      refine .seq (.sn mx (.mv rfl (.c (.indexAddrA .none ao98 ty3 (.s rfl) .i (fun _ => by decide)) (.ld ty3 rfl (.lt rfl rfl (.nil (.cb rfl h (fun _ h => ?_) fun _ h => ?_)))))))
      ·
       refine .skip (.then (.seq ?_))
       obtain ⟨j_35, h, hK35⟩ := bind_some h
       refine .thenJ (ι := (List Bool)) (fun j_35 => []) (fun j_35 => [(5003, some (CPred.at s5003 (rowV 4 j_35)))]) (fun s => j_35 = s) (.k4 3 4 10 11 rfl rfl rfl rfl (.k4 12 13 14 89 rfl rfl rfl rfl (.k2 90 91 rfl rfl .nil))) (.k2 5001 5002 rfl rfl .nil) ?_ (fun j_35' hj35 => ?_)
       ·
        obtain ⟨x1, hv36, h⟩ := bnd_some h
        refine .block (.sn mx (.c (.indexAddrA .none ao98 ty3 (.s rfl) .i (fun _ => by decide)) (.ld ty3 rfl (.ra hv36 rfl (.nil (.block (.loopL h (fun s37_ => [(15, ⟨True, rep s37_.1⟩)]) (fun s37_ => [(5003, some (CPred.at s5003 (rowV 4 s37_.2)))]) (.k 15 rfl .nil) (.k 5003 rfl .nil) (.k4 3 4 10 11 rfl rfl rfl rfl (.k4 12 13 14 89 rfl rfl rfl rfl (.k2 90 91 rfl rfl .nil))) (.k2 5001 5002 rfl rfl .nil) (fun s37_ o_37 h hD37 => ?_))))))))
        unfold route_newSearch_L4 at h
        refine .seq (.sn mx (.mv rfl (.c (.indexAddrA .none ao98 ty3 (.s rfl) .i (fun _ => by decide)) (.ld ty3 rfl (.lt rfl rfl (.nil (.cb rfl h (fun _ h => ?_) fun _ h => ?_)))))))
        ·
         obtain ⟨hn39, h⟩ := need_some h
         obtain ⟨c3, hv40, h⟩ := bnd_some h
         obtain ⟨x2, hv41, h⟩ := bnd_some h
         exact .skip (.then (.seq (.block (.rg [oo, oo, oo, ([5001], []), oo, oo, oo, oo, oo, ([5003], []), ([5003], [5003])] mx (.mvA rfl (.cA (.nilCheckP .none (.s rfl)) (.cA (.fieldPtr .none fd64_2 (.s rfl)) (.cA (.loadAt (k := 5001) .none tr62 rfl (.s rfl) hv_Route_search_o23_2) (.mvA rfl (.mvA rfl (.cA (.mulW .none (.s rfl) (.s rfl)) (.mvA rfl (.addA rfl rfl (.ixO 5003 sl62 ty4 rfl rfl rfl hn39 (.cN (.storeElem0 (k := 5003) ty4 (.s rfl) rfl .bool hn39) (.nil (.blkNormal (.then (.reB (t := 5003) rfl (congrArg (fun y => CPred.at s5003 (rowV 4 y)) hv40) (.rn mx (.mv rfl (.adi rfl (.ra hv41 rfl (.nil (Ends.ag (some_eq h))))))))))))))))))))))))))
        ·
         refine .exit (.thenExit (.thenExit (.blkExit (.blkNormal ?_))))
         replace h := hD37 _ (some_eq h)
         exact Ends.j _ (some_eq h)
       ·
        subst hj35; have h := hK35; clear hK35
        obtain ⟨y2, hv42, h⟩ := bnd_some h
        exact .rn mx (.mv rfl (.adi rfl (.ra hv42 rfl (.nil (Ends.ag (some_eq h))))))
      ·
       refine .exit (.thenExit (.thenExit (.blkExit ?_)))
       replace h := hD33 _ (some_eq h)
       exact Ends.j _ (some_eq h)
     ·
      subst hj32; have h := hK32; clear hK32
      obtain ⟨x3, hv43, h⟩ := bnd_some h
      refine .sn mx (.c (.indexAddrA .none ao98 ty3 (.s rfl) .i (fun _ => by decide)) (.ld ty3 rfl (.ra hv43 rfl (.nil (.block (.loopL h (fun s44_ => [(16, ⟨True, rep s44_.1⟩)]) (fun s44_ => [(5002, some (CPred.at s5002 (rowV 4 s44_.2)))]) (.k 16 rfl .nil) (.k 5002 rfl .nil) (.k4 3 4 11 12 rfl rfl rfl rfl (.k2 89 90 rfl rfl (.k 91 rfl .nil))) (.k2 5001 5003 rfl rfl .nil) (fun s44_ o_44 h hD44 => ?_)))))))
      unfold route_newSearch_L5 at h
      refine .seq (.sn mx (.mv rfl (.c (.indexAddrA .none ao98 ty3 (.s rfl) .i (fun _ => by decide)) (.ld ty3 rfl (.lt rfl rfl (.nil (.cb rfl h (fun _ h => ?_) fun _ h => ?_)))))))
      ·
       refine .skip (.then (.seq ?_))
       obtain ⟨j_46, h, hK46⟩ := bind_some h
       refine .thenJ (ι := (List Bool)) (fun j_46 => []) (fun j_46 => [(5002, some (CPred.at s5002 (rowV 4 j_46)))]) (fun s => j_46 = s) (.k4 3 4 11 12 rfl rfl rfl rfl (.k4 16 89 90 91 rfl rfl rfl rfl .nil)) (.k2 5001 5003 rfl rfl .nil) ?_ (fun j_46' hj46 => ?_)
       ·
        obtain ⟨y3, hv47, h⟩ := bnd_some h
        refine .block (.sn mx (.c (.indexAddrA .none ao98 ty3 (.s rfl) .i (fun _ => by decide)) (.ld ty3 rfl (.ra hv47 rfl (.nil (.block (.loopL h (fun s48_ => [(17, ⟨True, rep s48_.1⟩)]) (fun s48_ => [(5002, some (CPred.at s5002 (rowV 4 s48_.2)))]) (.k 17 rfl .nil) (.k 5002 rfl .nil) (.k4 3 4 11 12 rfl rfl rfl rfl (.k4 16 89 90 91 rfl rfl rfl rfl .nil)) (.k2 5001 5003 rfl rfl .nil) (fun s48_ o_48 h hD48 => ?_))))))))
        unfold route_newSearch_L6 at h
        refine .seq (.sn mx (.mv rfl (.c (.indexAddrA .none ao98 ty3 (.s rfl) .i (fun _ => by decide)) (.ld ty3 rfl (.lt rfl rfl (.nil (.cb rfl h (fun _ h => ?_) fun _ h => ?_)))))))
        ·
         obtain ⟨hn50, h⟩ := need_some h
         obtain ⟨c4, hv51, h⟩ := bnd_some h
         obtain ⟨y4, hv52, h⟩ := bnd_some h
         exact .skip (.then (.seq (.block (.rg [oo, oo, oo, ([5001], []), oo, oo, oo, oo, oo, ([5002], []), ([5002], [5002])] mx (.mvA rfl (.cA (.nilCheckP .none (.s rfl)) (.cA (.fieldPtr .none fd64_3 (.s rfl)) (.cA (.loadAt (k := 5001) .none tr62 rfl (.s rfl) hv_Route_search_o23_3) (.mvA rfl (.mvA rfl (.cA (.mulW .none (.s rfl) (.s rfl)) (.mvA rfl (.addA rfl rfl (.ixO 5002 sl62 ty4 rfl rfl rfl hn50 (.cN (.storeElem0 (k := 5002) ty4 (.s rfl) rfl .bool hn50) (.nil (.blkNormal (.then (.reB (t := 5002) rfl (congrArg (fun y => CPred.at s5002 (rowV 4 y)) hv51) (.rn mx (.mv rfl (.adi rfl (.ra hv52 rfl (.nil (Ends.ag (some_eq h))))))))))))))))))))))))))
        ·
         refine .exit (.thenExit (.thenExit (.blkExit (.blkNormal ?_))))
         replace h := hD48 _ (some_eq h)
         exact Ends.j _ (some_eq h)
       ·
        subst hj46; have h := hK46; clear hK46
        obtain ⟨x4, hv53, h⟩ := bnd_some h
        exact .rn mx (.mv rfl (.adi rfl (.ra hv53 rfl (.nil (Ends.ag (some_eq h))))))
      ·
       refine .exit (.thenExit (.thenExit (.blkExit (.blkNormal ?_))))
       replace h := hD44 _ (some_eq h)
       exact Ends.j _ (some_eq h)
    ·
     subst hj26; have h := hK26; clear hK26
     exact .rn mx (.adi rfl (.mv rfl (.nil (Ends.ag (some_eq h)))))
   ·
    refine .exit (.thenExit (.thenExit (.blkExit ?_)))
    replace h := hD24 _ (some_eq h)
    exact Ends.j _ (some_eq h)
  ·
   subst hj23; have h := hK23; clear hK23
   refine .close (k := 5001) (g := 5002) (fun z => cont 64 (⟨s1.xs, s1.ys, ⟨s5003⟩, ⟨z⟩⟩ : Route_search_o23)) rfl rfl rfl (.close (k := 5001) (g := 5003) (fun z => deep (fun z0 => cont 64 (⟨s1.xs, s1.ys, ⟨z⟩, ⟨z0⟩⟩ : Route_search_o23)) (rowV 4 j_23.1)) rfl rfl rfl (.freezeAt (g := 5001) (S := ref ({ s1 with across := j_23.2, down := j_23.1 } : Route_search)) (ts := [3]) rfl (.cons (t := 3) rfl trivial .nil) SubB.nil rfl (fun M D w h hms => deep_ref2 (mk := (fun s1_ s2_ => (⟨s1.xs, s1.ys, ⟨s1_⟩, ⟨s2_⟩⟩ : Route_search_o23))) (y := ({ s1 with across := j_23.2, down := j_23.1 } : Route_search)) frzRow frzRow rfl (fun M s1_ s2_ cs w hc g1 g2 => by obtain ⟨c0, q0, e0, h0, c1, q1, e1, h1, c2, q2, e2, h2, h3⟩ := hc; exact ⟨c0, q0, e0, h0, c1, q1, e1, h1, c2, q2, e2, raw_cells rfl rfl h2 g1, raw_cells rfl rfl h3 g2⟩) M D w h hms) (.sn mx (.mv rfl (.asn rfl (.nil (.ret ?_)))))))
   obtain rfl := some_eq h
   exact Ends.ret1 (.inl rfl) Try.results25 (ResOK.tmp rfl trivial Imp.refSome)

theorem route_search_spotAt_ok {s1 : Route_search} {p1 : Point} {side1 : Int} {r : Route_spot}  (h : route_search_spotAt s1 p1 side1 = some r) : FSpec Try.prog 27 [ref s1, rep p1, rep side1] (rep r) := by
 unfold route_search_spotAt at h
 obtain ⟨v1, hv1, h⟩ := bnd_some h
 obtain ⟨r1, hv2, h⟩ := bind_some h
 obtain ⟨r2, hv3, h⟩ := bind_some h
 obtain ⟨v2, hv4, h⟩ := bnd_some h
 refine FSpec.i Try.func27 rfl Try.ntmps27 rfl (fun F => (.sr [oo, ([], [6])] mx (.cA (.box .none (.s rfl)) (.al zo58 rfl (.nil (.reB (t := 6) rfl (congrArg (cont 58) hv1) (.nameBox (t := 6) (g := 5001) rfl rfl (fun m5001 => (.sn mx (.mv rfl (.c (.nilCheckR .none (.s rfl)) (.fa fd64_0 hfd64_0 rfl (.ld ty61 rfl (.fa fd23_0 hfd23_0 rfl (.ld ty3 rfl (.c (.call .none (slices_BinarySearch_int_ok hv2) (.cons (.s rfl) (.cons (.s rfl) .nil))) (.mv rfl (.ex rfl rfl (.ex rfl rfl (.asn rfl (.asn rfl (.nil (.sn mx (.mv rfl (.c (.nilCheckR .none (.s rfl)) (.fa fd64_1 hfd64_1 rfl (.ld ty61 rfl (.fa fd23_1 hfd23_1 rfl (.ld ty3 rfl (.c (.call .none (slices_BinarySearch_int_ok hv3) (.cons (.s rfl) (.cons (.s rfl) .nil))) (.mv rfl (.ex rfl rfl (.ex rfl rfl (.asn rfl (.asn rfl (.nil (.sr [oo, oo, oo, oo, ([5001], [5001])] mx (.mvA rfl (.mvA rfl (.mvA rfl (.cA (.re hv4 (.buildF (y := (⟨r1.1, r2.1, side1⟩ : Route_spot)) .none bu58 zc58 rfl (.cons (.s rfl) (.cons (.s rfl) (.cons (.s rfl) .nil))) (.cons rfl sf58_0 (.cons rfl sf58_1 (.cons rfl sf58_2 .nil))))) (.s0 5001 ty58 rfl rfl rfl (.nil (.fb 5001 [6] rfl (.cons (t := 6) rfl trivial .nil) (.ret ?_)))))))))))))))))))))))))))))))))))))))))))))
 obtain rfl := some_eq h
 exact Ends.ret1 (.inl rfl) Try.results27 (ResOK.cellR ty58 rfl trivial Imp.refl)

theorem route_back_ok {side1 : Int} {r : Int}  (h : route_back side1 = some r) : FSpec Try.prog 28 [rep side1] (rep r) := by
 unfold route_back at h
 refine FSpec.i Try.func28 rfl Try.ntmps28 rfl (fun F => (.sn mx (.asi (.nil (.sn mx (.mv rfl (.adi rfl (.c (.rem .none (.s rfl) .i (fun _ => by decide)) (.adi rfl (.asn rfl (.nil (.ret ?_))))))))))))
 obtain rfl := some_eq h
 exact Ends.rt Try.results28 rfl

theorem route_search_key_ok {s1 : Route_search} {p1 : Route_spot} {r : Int}  (h : route_search_key s1 p1 = some r) : FSpec Try.prog 64 [ref s1, rep p1] (rep r) := by
 unfold route_search_key at h
 refine FSpec.i Try.func64 rfl Try.ntmps64 rfl (fun F => (.sn mx (.c (.box .none (.s rfl)) (.asi (.nil (.sn mx (.fa fd58_1 hfd58_1 rfl (.ld ty3 rfl (.mv rfl (.c (.nilCheckR .none (.s rfl)) (.fa fd64_0 hfd64_0 rfl (.ld ty61 rfl (.ln sl61 rfl (.c (.mulW .none (.s rfl) (.s rfl)) (.fa fd58_0 hfd58_0 rfl (.ld ty3 rfl (.add rfl rfl (.c (.mulW .none (.s rfl) .i) (.fa fd58_2 hfd58_2 rfl (.ld ty3 rfl (.add rfl rfl (.c (.subW .none (.s rfl) .i) (.asn rfl (.nil (.ret ?_)))))))))))))))))))))))))
 obtain rfl := some_eq h
 exact Ends.rt Try.results64 rfl

theorem route_queue_Push_ok {q1 : (List Route_reached)} {x1 : Route_reached} {r : (List Route_reached)} {m13 : Nat} {s14 : Value} (h : route_queue_Push q1 x1 = some r) : FSpecO Try.prog 127 [isV (ptr m13 0), ifcS 105 (rep x1)] [(ptr m13 0, cont 103 (⟨s14⟩ : Raw)), (s14, rowV 105 q1)] (anyV) [some (deep (fun z0 => cont 103 (⟨z0⟩ : Raw)) (rowV 105 r)), none] := by
 unfold route_queue_Push at h
 obtain ⟨hn1, h⟩ := need_some h
 refine FSpecO.i Try.func127 rfl Try.ntmps127 rfl (fun F => (.rg [oo, oo, oo, ([13], []), oo, oo, oo, ([14], [11, 14]), oo, ([13, 11], [13, 11])] mx (.mvA rfl (.mvA rfl (.cA (.nilCheckP .none (.s rfl)) (.cA (.loadAt0 (k := 13) .none tr103 rfl (.s rfl)) (.mvA rfl (.cA (.assertV .none ni105 (.s rfl)) (.cA (.buildSlice (xs := [_]) .none sl103 ty105 hz105 (.cons (.s rfl) .nil) rfl (by decide)) (.cW (.append (k := 14) rk103 rfl (.told (.s rfl) rfl) (.s rfl) hn1) (.cA (.nilCheckP .none (.s rfl)) (.cN (.storeRow (k := 13) (t := 11) (set := fun _ z => z) ty103 rfl (.s rfl) .self rfl rfl) (.nil ?_)))))))))))))
 obtain rfl := some_eq h
 exact Ends.ret0O (.inr rfl) [13, 14] Try.results127 (by decide) (.held rfl (.skip .nil))

theorem route_queue_Len_ok {q1 : (List Route_reached)} {r : Int}  (h : route_queue_Len q1 = some r) : FSpec Try.prog 66 [rep q1] (rep r) := by
 unfold route_queue_Len at h
 refine FSpec.i Try.func66 rfl Try.ntmps66 rfl (fun F => (.sn mx (.asi (.nil (.sn mx (.mv rfl (.ln sl103 rfl (.asn rfl (.nil (.ret ?_))))))))))
 obtain rfl := some_eq h
 exact Ends.rt Try.results66 rfl

theorem route_queue_Less_ok {q1 : (List Route_reached)} {i1 : Int} {j1 : Int} {r : Bool}  (h : route_queue_Less q1 i1 j1 = some r) : FSpec Try.prog 125 [rep q1, rep i1, rep j1] (rep r) := by
 unfold route_queue_Less at h
 obtain ⟨hn1, h⟩ := need_some h
 obtain ⟨hn2, h⟩ := need_some h
 refine FSpec.i Try.func125 rfl Try.ntmps125 rfl (fun F => (.sn mx (.asb (.nil (.seq (.sn mx (.mv rfl (.mv rfl (.ix sl103 ty105 rfl rfl hn1 (.fa fd105_1 hfd105_1 rfl (.ld ty3 rfl (.mv rfl (.mv rfl (.ix sl103 ty105 rfl rfl hn2 (.fa fd105_1 hfd105_1 rfl (.ld ty3 rfl (.c (.neI .none (.s rfl) (.s rfl)) (.nil (.cb rfl h (fun _ h => ?_) fun _ h => ?_)))))))))))))))))))
 ·
  obtain ⟨hn4, h⟩ := need_some h
  obtain ⟨hn5, h⟩ := need_some h
  refine .sn mx (.mv rfl (.mv rfl (.ix sl103 ty105 rfl rfl hn4 (.fa fd105_1 hfd105_1 rfl (.ld ty3 rfl (.mv rfl (.mv rfl (.ix sl103 ty105 rfl rfl hn5 (.fa fd105_1 hfd105_1 rfl (.ld ty3 rfl (.lt rfl rfl (.asn rfl (.nil (.ret (.thenRet ?_)))))))))))))))
  obtain rfl := some_eq h
  exact Ends.rt Try.results125 rfl
 ·
  obtain ⟨hn6, h⟩ := need_some h
  obtain ⟨hn7, h⟩ := need_some h
  refine .skip (.then (.sn mx (.mv rfl (.mv rfl (.ix sl103 ty105 rfl rfl hn6 (.fa fd105_2 hfd105_2 rfl (.ld ty3 rfl (.mv rfl (.mv rfl (.ix sl103 ty105 rfl rfl hn7 (.fa fd105_2 hfd105_2 rfl (.ld ty3 rfl (.lt rfl rfl (.asn rfl (.nil (.ret ?_))))))))))))))))
  obtain rfl := some_eq h
  exact Ends.rt Try.results125 rfl

theorem route_queue_Swap_ok {q1 : (List Route_reached)} {i1 : Int} {j1 : Int} {r : (List Route_reached)} {s20 : Value} (h : route_queue_Swap q1 i1 j1 = some r) : FSpecO Try.prog 128 [isV s20, rep i1, rep j1] [(s20, rowV 105 q1)] (anyV) [some (rowV 105 r)] := by
 unfold route_queue_Swap at h
 obtain ⟨hn1, h⟩ := need_some h
 obtain ⟨v1, hv2, h⟩ := bnd_some h
 obtain ⟨hn3, h⟩ := need_some h
 obtain ⟨v2, hv4, h⟩ := bnd_some h
 obtain ⟨hn5, h⟩ := need_some h
 obtain ⟨hn6, h⟩ := need_some h
 refine FSpecO.i Try.func128 rfl Try.ntmps128 rfl (fun F => (.rg [oo, oo, oo, oo, oo, oo, ([20], []), ([20], []), oo, oo, ([20], []), ([20], []), ([20], []), ([20], [20]), ([20], []), ([20], [20])] mx (.mvA rfl (.mvA rfl (.mvA rfl (.mvA rfl (.mvA rfl (.mvA rfl (.ixO 20 sl103 ty105 rfl rfl rfl hn1 (.cA (.re hv2 (.loadElem0 (k := 20) .none ty105 (.s rfl) rfl (fun _ => hn1))) (.mvA rfl (.mvA rfl (.ixO 20 sl103 ty105 rfl rfl rfl hn3 (.cA (.re hv4 (.loadElem0 (k := 20) .none ty105 (.s rfl) rfl (fun _ => hn3))) (.ixO 20 sl103 ty105 rfl rfl rfl hn5 (.cN (.storeElem0 (k := 20) ty105 (.s rfl) rfl (.s rfl) hn5) (.ixO 20 sl103 ty105 rfl rfl rfl hn6 (.cN (.storeElem0 (k := 20) ty105 (.s rfl) rfl (.s rfl) hn6) (.nil ?_)))))))))))))))))))
 obtain rfl := some_eq h
 exact Ends.ret0O (.inr rfl) [20] Try.results128 (by decide) (.held rfl .nil)

theorem heap_up_ok {h1 : (List Route_reached)} {j1 : Int} {r : (List Route_reached)} {m23 : Nat} {s24 : Value} (h : heap_up h1 j1 = some r) : FSpecO Try.prog 86 [ifcS 102 (isV (ptr m23 0)), rep j1] [(ptr m23 0, cont 103 (⟨s24⟩ : Raw)), (s24, rowV 105 h1)] (anyV) [some (deep (fun z0 => cont 103 (⟨z0⟩ : Raw)) (rowV 105 r)), none] := by
 unfold heap_up at h
 refine FSpecO.i Try.func86 rfl Try.ntmps86 rfl (fun F => (.block (.loopL h (fun s1_ => [(1, ⟨True, rep s1_.1⟩)]) (fun s1_ => [(24, some (CPred.at s24 (rowV 105 s1_.2)))]) (.k 1 rfl .nil) (.k 24 rfl .nil) (.k 0 rfl .nil) (.k 23 rfl .nil) (fun s1_ o_1 h hD1 => ?_))))
 unfold heap_up_L1 at h
 obtain ⟨i1, hv2, h⟩ := bnd_some h
 obtain ⟨r1, hv3, h⟩ := bind_some h
 refine .block (.sn mx (.mv rfl (.c (.subW .none (.s rfl) .i) (.c (.quo .none (.s rfl) .i (fun _ => by decide)) (.ra hv2 rfl (.nil (.seq (.sr [oo, oo, oo, oo, oo, oo, oo, ([23, 24], []), oo, oo] mx (.mvA rfl (.mvA rfl (.cA (.eqI .none (.s rfl) (.s rfl)) (.mvA rfl (.cA (.move (.at rfl rfl) (.s rfl)) (.cA (.move (.at rfl rfl) (.s rfl)) (.cA (.move (.at rfl rfl) (.s rfl)) (.cA (.invokeC (k := 23) (q := 24) (.at rfl rfl) me102_Less Try.underlying102 tr103 (.tmp rfl id) rfl rfl fnok125 (fun hg => route_queue_Less_ok ((fun hg => gd_some hv3 ((notT hg.2))) hg)) .rep (.cons (.tmp rfl id) (.cons (.tmp rfl id) .nil))) (.cA (.not (.at rfl rfl) (.tmp rfl id)) (.cA (.pickOr .none (.s rfl) (.tmp rfl id)) (.nil (.cb rfl h (fun _ h => ?_) fun _ h => ?_))))))))))))))))))))
 ·
  refine .exit (.thenExit (.blkExitNe (by decide) (.thenExit (.blkExit (.close (k := 23) (g := 24) (fun z => cont 103 (⟨z⟩ : Raw)) rfl rfl rfl ?_)))))
  replace h := hD1 _ (some_eq h)
  obtain rfl := some_eq h
  exact Ends.ret0O (.inr rfl) [23, 24] Try.results86 (by decide) (.held rfl (.skip .nil))
 ·
  obtain ⟨r2, hv5, h⟩ := bind_some h
  exact .skip (.then (.sr [oo, oo, oo, ([23, 24], [24])] mx (.mvA rfl (.mvA rfl (.mvA rfl (.cW (.invokeOV (k := 23) [24] me102_Swap Try.underlying102 tr103 (.s rfl) rfl (route_queue_Swap_ok hv5) (.cons (.s rfl) (.cons (.s rfl) .nil)) (.cons (k := 24) rfl .nil) rfl (by decide) (by decide) (by intro d h; cases h; decide)) (.nil (.rn mx (.mv rfl (.asn rfl (.nil (.blkNormal (Ends.ag (some_eq h))))))))))))))

theorem heap_Push_ok {h1 : (List Route_reached)} {x1 : Route_reached} {r : (List Route_reached)} {m12 : Nat} {s13 : Value} (h : heap_Push h1 x1 = some r) : FSpecO Try.prog 65 [ifcS 102 (isV (ptr m12 0)), ifcS 105 (rep x1)] [(ptr m12 0, cont 103 (⟨s13⟩ : Raw)), (s13, rowV 105 h1)] (anyV) [some (deep (fun z0 => cont 103 (⟨z0⟩ : Raw)) (rowV 105 r)), none] := by
 unfold heap_Push at h
 obtain ⟨r1, hv1, h⟩ := bind_some h
 refine FSpecO.i Try.func65 rfl Try.ntmps65 rfl (fun F => (.sr [oo, oo, ([12, 13], [12, 13])] mx (.mvA rfl (.mvA rfl (.cW (.invokeO [12, 13] me102_Push Try.underlying102 (.s rfl) (route_queue_Push_ok hv1) (.cons (.s rfl) .nil) (.cons (k := 12) rfl (.cons (k := 13) rfl .nil)) rfl (by decide) (by decide) (by intro d h; cases h; decide)) ?_)))))
 obtain ⟨r2, hv2, h⟩ := bind_some h
 obtain ⟨r3, hv3, h⟩ := bind_some h
 refine .nil (.open (k := 12) (g := 5001) rfl rfl (fun s5001 => (.rg [oo, oo, ([12, 5001], []), oo, ([12, 5001], [12, 5001])] mx (.mvA rfl (.mvA rfl (.cA (.invokeC (k := 12) (q := 5001) .none me102_Len Try.underlying102 tr103 (.s rfl) rfl rfl fnok66 (fun hg => route_queue_Len_ok  hv2) .rep .nil) (.cA (.subW .none (.s rfl) .i) (.cW (.cO [12, 5001] (heap_up_ok hv3) (.cons (.s rfl) (.cons (.s rfl) .nil)) (.cons (k := 12) rfl (.cons (k := 5001) rfl .nil)) rfl) (.nil ?_)))))))))
 obtain rfl := some_eq h
 exact Ends.ret0O (.inr rfl) [12, 13] Try.results65 (by decide) (.held rfl (.skip .nil))

theorem route_search_find_1_ok {r1 : Route_reached} {by1 : Int} {c0_1 : (Option Route_search)} {c1_1 : (List Bool)} {c2_1 : (List Route_reached)} {c3_1 : (List Int)} {c4_1 : (List Route_reached)} {r : ((List Bool) × (List Route_reached) × (List Int) × (List Route_reached))} {m64 : Nat} {s65 : Value} {m66 : Nat} {s67 : Value} {m68 : Nat} {s69 : Value} {m70 : Nat} {s71 : Value} (h : route_search_find_1 r1 by1 c0_1 c1_1 c2_1 c3_1 c4_1 = some r) : FSpecO Try.prog 63 [rep r1, rep by1, ref c0_1, isV (ptr m64 0), isV (ptr m66 0), isV (ptr m68 0), ref (⟨ptr m70 0⟩ : Raw)] [(ptr m64 0, cont 62 (⟨s65⟩ : Raw)), (s65, rowV 4 c1_1), (ptr m66 0, cont 101 (⟨s67⟩ : Raw)), (s67, rowV 105 c2_1), (ptr m68 0, cont 61 (⟨s69⟩ : Raw)), (s69, rowV 3 c3_1), (ptr m70 0, cont 103 (⟨s71⟩ : Raw)), (s71, rowV 105 c4_1)] (anyV) [some (deep (fun z0 => cont 62 (⟨z0⟩ : Raw)) (rowV 4 r.1)), none, some (deep (fun z0 => cont 101 (⟨z0⟩ : Raw)) (rowV 105 r.2.1)), none, some (deep (fun z0 => cont 61 (⟨z0⟩ : Raw)) (rowV 3 r.2.2.1)), none, some (deep (fun z0 => cont 103 (⟨z0⟩ : Raw)) (rowV 105 r.2.2.2)), none] := by
 unfold route_search_find_1 at h
 obtain ⟨p1, hv1, h⟩ := bind_some h
 obtain ⟨k1, hv2, h⟩ := bind_some h
 obtain ⟨hn3, h⟩ := need_some h
 obtain ⟨hn4, h⟩ := need_some h
 obtain ⟨hn5, h⟩ := need_some h
 obtain ⟨hn6, h⟩ := need_some h
 refine FSpecO.i Try.func63 rfl Try.ntmps63 rfl (fun F => (.sn mx (.c (.box .none (.s rfl)) (.nil (.sn mx (.c (.isRef hv1 (.load .none ty52 (.s rfl))) (.fa fd105_0 hfd105_0 rfl (.ld ty58 rfl (.c (.call .none (route_search_key_ok hv2) (.cons (.s rfl) (.cons (.s rfl) .nil))) (.asn rfl (.nil (.seq (.sr [([64], []), oo, ([65], []), ([65], []), oo, ([66], []), oo, ([67], []), ([67], []), ([67], []), oo, oo, oo, oo, ([66], []), oo, ([67], []), ([67], []), ([67], []), oo, oo, oo, oo, ([66], []), oo, ([67], []), ([67], []), ([67], []), oo, oo, oo, oo, oo, oo] mx (.cA (.loadAt0 (k := 64) .none tr62 rfl (.s rfl)) (.mvA rfl (.ixO 65 sl62 ty4 rfl rfl rfl hn3 (.cA (.loadElem0 (k := 65) .none ty4 (.s rfl) rfl (fun _ => hn3)) (.mvA rfl (.cA (.loadAt0 (k := 66) (.at rfl rfl) tr101 rfl (.s rfl)) (.cA (.move (.at rfl rfl) (.s rfl)) (.cA (.indexAddrO (k := 67) (.at rfl rfl) sl101 ty105 (.tmp rfl id) rfl (.tmp rfl id) (fun hg => hn4 hg.2)) (.cA (.fieldElem (k := 67) (.at rfl rfl) fd105_1 (.tmp rfl id) rfl (fun hg => hn4 hg.2)) (.cA (.loadElem (k := 67) (.at rfl rfl) ty3 (.tmp rfl id) rfl hfd105_1 (fun hg => hn4 hg.2)) (.cA (.fieldAddr (.at rfl rfl) fd105_1 hfd105_1 (.s rfl)) (.cA (.load (.at rfl rfl) ty3 (.tmp rfl id)) (.cA (.lt (.at rfl rfl) (.tmp rfl id) (.tmp rfl id)) (.cA (.move (.at rfl rfl) (.tmp rfl id)) (.cA (.loadAt0 (k := 66) (.at rfl rfl) tr101 rfl (.s rfl)) (.cA (.move (.at rfl rfl) (.s rfl)) (.cA (.indexAddrO (k := 67) (.at rfl rfl) sl101 ty105 (.tmp rfl id) rfl (.tmp rfl id) (fun hg => hn5 hg.1.2 hg.2)) (.cA (.fieldElem (k := 67) (.at rfl rfl) fd105_1 (.tmp rfl id) rfl (fun hg => hn5 hg.1.2 hg.2)) (.cA (.loadElem (k := 67) (.at rfl rfl) ty3 (.tmp rfl id) rfl hfd105_1 (fun hg => hn5 hg.1.2 hg.2)) (.cA (.fieldAddr (.at rfl rfl) fd105_1 hfd105_1 (.s rfl)) ?_)))))))))))))))))))))))))))))))))
 refine .cA (.load (.at rfl rfl) ty3 (.tmp rfl id)) (.cA (.eqI (.at rfl rfl) (.tmp rfl id) (.tmp rfl id)) (.cA (.move (.at rfl rfl) (.tmp rfl id)) (.cA (.loadAt0 (k := 66) (.at rfl rfl) tr101 rfl (.s rfl)) (.cA (.move (.at rfl rfl) (.s rfl)) (.cA (.indexAddrO (k := 67) (.at rfl rfl) sl101 ty105 (.tmp rfl id) rfl (.tmp rfl id) (fun hg => hn6 hg.1.1.2 hg.1.2 hg.2)) (.cA (.fieldElem (k := 67) (.at rfl rfl) fd105_2 (.tmp rfl id) rfl (fun hg => hn6 hg.1.1.2 hg.1.2 hg.2)) (.cA (.loadElem (k := 67) (.at rfl rfl) ty3 (.tmp rfl id) rfl hfd105_2 (fun hg => hn6 hg.1.1.2 hg.1.2 hg.2)) (.cA (.fieldAddr (.at rfl rfl) fd105_2 hfd105_2 (.s rfl)) (.cA (.load (.at rfl rfl) ty3 (.tmp rfl id)) (.cA (.le (.at rfl rfl) (.tmp rfl id) (.tmp rfl id)) (.cA (.pickAnd (.at rfl rfl) (.tmp rfl id) (.tmp rfl id)) (.cA (.pickOr (.at rfl rfl) (.tmp rfl id) (.tmp rfl id)) (.cA (.pickAnd .none (.s rfl) (.tmp rfl id)) (.nil (.cb rfl h (fun _ h => ?_) fun _ h => ?_)))))))))))))))
 ·
  refine .ret (.thenRet (.close (k := 64) (g := 65) (fun z => cont 62 (⟨z⟩ : Raw)) rfl rfl rfl (.close (k := 66) (g := 67) (fun z => cont 101 (⟨z⟩ : Raw)) rfl rfl rfl (.close (k := 68) (g := 69) (fun z => cont 61 (⟨z⟩ : Raw)) rfl rfl rfl (.close (k := 70) (g := 71) (fun z => cont 103 (⟨z⟩ : Raw)) rfl rfl rfl ?_)))))
  obtain rfl := some_eq h
  exact Ends.ret0O (.inl rfl) [64, 65, 66, 67, 68, 69, 70, 71] Try.results63 (by decide) (.held rfl (.skip (.held rfl (.skip (.held rfl (.skip (.held rfl (.skip .nil))))))))
 ·
  obtain ⟨hn8, h⟩ := need_some h
  obtain ⟨hn9, h⟩ := need_some h
  obtain ⟨hn10, h⟩ := need_some h
  obtain ⟨c1, hv11, h⟩ := bnd_some h
  obtain ⟨c2, hv12, h⟩ := bnd_some h
  obtain ⟨c3, hv13, h⟩ := bnd_some h
  obtain ⟨r2, hv14, h⟩ := bind_some h
  refine .skip (.then (.sr [([66], []), oo, ([68], []), oo, ([64], []), oo, oo, oo, ([67], []), ([67], [67]), ([69], []), ([69], [69]), ([65], []), ([65], [65])] mx (.cA (.loadAt0 (k := 66) .none tr101 rfl (.s rfl)) (.mvA rfl (.cA (.loadAt0 (k := 68) .none tr61 rfl (.s rfl)) (.mvA rfl (.cA (.loadAt0 (k := 64) .none tr62 rfl (.s rfl)) (.mvA rfl (.ldA ty105 rfl (.mvA rfl (.ixO 67 sl101 ty105 rfl rfl rfl hn8 (.cN (.storeElem0 (k := 67) ty105 (.s rfl) rfl (.s rfl) hn8) (.ixO 69 sl61 ty3 rfl rfl rfl hn9 (.cN (.storeElem0 (k := 69) ty3 (.s rfl) rfl (.s rfl) hn9) (.ixO 65 sl62 ty4 rfl rfl rfl hn10 (.cN (.storeElem0 (k := 65) ty4 (.s rfl) rfl .bool hn10) (.nil (.reB (t := 65) rfl (congrArg (fun y => CPred.at s65 (rowV 4 y)) hv11) (.reB (t := 67) rfl (congrArg (fun y => CPred.at s67 (rowV 105 y)) hv12) (.reB (t := 69) rfl (congrArg (fun y => CPred.at s69 (rowV 3 y)) hv13) (.rg [oo, oo, oo, oo, ([70, 71], [70, 71])] mx (.ldA tr102 rfl (.cA (.mkIface .none ni102 (.s rfl)) (.ldA ty105 rfl (.cA (.mkIface .none ni105 (.s rfl)) (.cW (.cO [70, 71] (heap_Push_ok hv14) (.cons (.s rfl) (.cons (.s rfl) .nil)) (.cons (k := 70) rfl (.cons (k := 71) rfl .nil)) rfl) (.nil (.close (k := 64) (g := 65) (fun z => cont 62 (⟨z⟩ : Raw)) rfl rfl rfl (.close (k := 66) (g := 67) (fun z => cont 101 (⟨z⟩ : Raw)) rfl rfl rfl (.close (k := 68) (g := 69) (fun z => cont 61 (⟨z⟩ : Raw)) rfl rfl rfl ?_))))))))))))))))))))))))))))))
  obtain rfl := some_eq h
  exact Ends.ret0O (.inr rfl) [64, 65, 66, 67, 68, 69, 70, 71] Try.results63 (by decide) (.held rfl (.skip (.held rfl (.skip (.held rfl (.skip (.held rfl (.skip .nil))))))))

theorem heap_down_ok {h1 : (List Route_reached)} {i0_1 : Int} {n1 : Int} {r : (Bool × (List Route_reached))} {m48 : Nat} {s49 : Value} (h : heap_down h1 i0_1 n1 = some r) : FSpecO Try.prog 87 [ifcS 102 (isV (ptr m48 0)), rep i0_1, rep n1] [(ptr m48 0, cont 103 (⟨s49⟩ : Raw)), (s49, rowV 105 h1)] (rep r.1) [some (deep (fun z0 => cont 103 (⟨z0⟩ : Raw)) (rowV 105 r.2)), none] := by
 unfold heap_down at h
 refine FSpecO.i Try.func87 rfl Try.ntmps87 rfl (fun F => (.sn mx (.asb (.nil (.sn mx (.mv rfl (.asn rfl (.nil (.seq ?_)))))))))
 obtain ⟨j_1, h, hK1⟩ := bind_some h
 refine .thenJ (ι := (Int × (List Route_reached))) (fun j_1 => [(7, ⟨True, rep j_1.1⟩)]) (fun j_1 => [(49, some (CPred.at s49 (rowV 105 j_1.2)))]) (fun s => j_1 = s) (.k 1 rfl .nil) (.k 48 rfl .nil) ?_ (fun j_1' hj1 => ?_)
 ·
  refine .block (.loopL h (fun s2_ => [(7, ⟨True, rep s2_.1⟩)]) (fun s2_ => [(49, some (CPred.at s49 (rowV 105 s2_.2)))]) (.k 7 rfl .nil) (.k 49 rfl .nil) (.k2 0 1 rfl rfl (.k 2 rfl .nil)) (.k 48 rfl .nil) (fun s2_ o_2 h hD2 => ?_))
  unfold heap_down_L1 at h
  obtain ⟨j1_1, hv3, h⟩ := bnd_some h
  refine .block (.sn mx (.mv rfl (.c (.mulW .none .i (.s rfl)) (.adi rfl (.ra hv3 rfl (.nil (.seq (.sn mx (.mv rfl (.mv rfl (.c (.ge .none (.s rfl) (.s rfl)) (.mv rfl (.mg rfl rfl rfl (.c (.lt (.at rfl rfl) (.tmp rfl id) .i) (.po rfl rfl (.nil (.cb rfl h (fun _ h => ?_) fun _ h => ?_)))))))))))))))))
  ·
   refine .exit (.thenExit (.blkExitNe (by decide) (.thenExit (.blkExit ?_))))
   replace h := hD2 _ (some_eq h)
   exact Ends.j _ (some_eq h)
  ·
   obtain ⟨j2_1, hv5, h⟩ := bnd_some h
   obtain ⟨r1, hv6, h⟩ := bind_some h
   refine .skip (.then (.sn mx (.mv rfl (.asn rfl (.nil (.seq (.sn mx (.mv rfl (.adi rfl (.ra hv5 rfl (.nil (.sr [oo, oo, oo, oo, oo, oo, oo, ([48, 49], []), oo] mx (.mvA rfl (.mvA rfl (.cA (.lt .none (.s rfl) (.s rfl)) (.mvA rfl (.cA (.move (.at rfl rfl) (.s rfl)) (.cA (.move (.at rfl rfl) (.s rfl)) (.cA (.move (.at rfl rfl) (.s rfl)) (.cA (.invokeC (k := 48) (q := 49) (.at rfl rfl) me102_Less Try.underlying102 tr103 (.tmp rfl id) rfl rfl fnok125 (fun hg => route_queue_Less_ok ((fun hg => gd_some hv6 (hg.2)) hg)) .rep (.cons (.tmp rfl id) (.cons (.tmp rfl id) .nil))) (.cA (.pickAnd .none (.s rfl) (.tmp rfl id)) (.nil ?_))))))))))))))))))))))
   obtain ⟨j_7, h, hK7⟩ := bind_some h
   refine .thenJ (ι := Int) (fun j_7 => [(9, ⟨True, rep j_7⟩)]) (fun j_7 => []) (fun s => j_7 = s) (.k4 0 1 2 7 rfl rfl rfl rfl .nil) (.k2 48 49 rfl rfl .nil) ?_ (fun j_7' hj7 => ?_)
   ·
    refine .cb rfl h (fun _ h => ?_) fun _ h => ?_
    ·
     exact .rn mx (.mv rfl (.asn rfl (.nil (Ends.j _ (some_eq h)))))
    ·
     exact .skip (Ends.j _ (some_eq h))
   ·
    subst hj7; have h := hK7; clear hK7
    obtain ⟨r2, hv9, h⟩ := bind_some h
    refine .seq (.sr [oo, oo, oo, ([48, 49], []), oo] mx (.mvA rfl (.mvA rfl (.mvA rfl (.cA (.invokeC (k := 48) (q := 49) .none me102_Less Try.underlying102 tr103 (.s rfl) rfl rfl fnok125 (fun hg => route_queue_Less_ok  hv9) .rep (.cons (.s rfl) (.cons (.s rfl) .nil))) (.cA (.not .none (.s rfl)) (.nil (.cb rfl h (fun _ h => ?_) fun _ h => ?_))))))))
    ·
     refine .exit (.thenExit (.blkExitNe (by decide) (.thenExit (.blkExit ?_))))
     replace h := hD2 _ (some_eq h)
     exact Ends.j _ (some_eq h)
    ·
     obtain ⟨r3, hv11, h⟩ := bind_some h
     exact .skip (.then (.sr [oo, oo, oo, ([48, 49], [49])] mx (.mvA rfl (.mvA rfl (.mvA rfl (.cW (.invokeOV (k := 48) [49] me102_Swap Try.underlying102 tr103 (.s rfl) rfl (route_queue_Swap_ok hv11) (.cons (.s rfl) (.cons (.s rfl) .nil)) (.cons (k := 49) rfl .nil) rfl (by decide) (by decide) (by intro d h; cases h; decide)) (.nil (.rn mx (.mv rfl (.asn rfl (.nil (.blkNormal (Ends.ag (some_eq h))))))))))))))
 ·
  subst hj1; have h := hK1; clear hK1
  refine .sn mx (.mv rfl (.mv rfl (.c (.gt .none (.s rfl) (.s rfl)) (.asn rfl (.nil (.ret (.close (k := 48) (g := 49) (fun z => cont 103 (⟨z⟩ : Raw)) rfl rfl rfl ?_)))))))
  obtain rfl := some_eq h
  exact Ends.ret1O (.inl rfl) [48, 49] Try.results87 (by decide) (.held rfl (.skip .nil)) (ResOK.tmp rfl trivial Imp.refl)

theorem route_queue_Pop_ok {q1 : (List Route_reached)} {r : (Route_reached × (List Route_reached))} {m23 : Nat} {s24 : Value} (h : route_queue_Pop q1 = some r) : FSpecO Try.prog 126 [isV (ptr m23 0)] [(ptr m23 0, cont 103 (⟨s24⟩ : Raw)), (s24, rowV 105 q1)] (ifcS 105 (rep r.1)) [some (deep (fun z0 => cont 103 (⟨z0⟩ : Raw)) (rowV 105 r.2)), none] := by
 unfold route_queue_Pop at h
 obtain ⟨hn1, h⟩ := need_some h
 obtain ⟨v1, hv2, h⟩ := bnd_some h
 obtain ⟨hn3, h⟩ := need_some h
 obtain ⟨c1, hv4, h⟩ := bnd_some h
 refine FSpecO.i Try.func126 rfl Try.ntmps126 rfl (fun F => (.sn mx (.c (.assign .none Opd.nilI) (.nil (.sr [oo, oo, ([23], []), oo] mx (.mvA rfl (.cA (.nilCheckP .none (.s rfl)) (.cA (.loadAt0 (k := 23) .none tr103 rfl (.s rfl)) (.asnA rfl (.nil (.sr [oo, oo, ([24], []), oo, ([24], []), ([24], []), ([], [4]), ([4], [4])] mx (.mvA rfl (.mvA rfl (.cA (.lenO (k := 24) sl103 (.told (.s rfl) rfl)) (.cA (.subW .none (.s rfl) .i) (.ixO 24 sl103 ty105 rfl rfl rfl hn1 (.cA (.re hv2 (.loadElem0 (k := 24) .none ty105 (.s rfl) rfl (fun _ => hn1))) (.al zo105 rfl (.st ty105 rfl rfl rfl (.nil (.freeze (t := 4) rfl rfl (.k2 23 24 rfl rfl .nil) rfl (.sr [oo, oo, oo, ([24], []), oo, ([24], [19, 24]), oo, ([23, 19], [23, 19])] mx (.mvA rfl (.mvA rfl (.mvA rfl (.cA (.lenO (k := 24) sl103 (.told (.s rfl) rfl)) (.cA (.subW .none (.s rfl) .i) (.cW (.sliceRow (k := 24) sl103 ty105 rfl (.s rfl) rfl rfl (.s rfl) hn3) (.cA (.nilCheckP .none (.s rfl)) (.cN (.storeRow (k := 23) (t := 19) (set := fun _ z => z) ty103 rfl (.s rfl) .self rfl rfl) (.nil (.open (k := 23) (g := 5001) rfl rfl (fun s5001 => (.sn mx (.ld ty105 rfl (.c (.mkIface .none ni105 (.s rfl)) (.asn rfl (.nil (.reB (t := 5001) rfl (congrArg (fun y => CPred.at s5001 (rowV 105 y)) hv4) (.ret (.close (k := 23) (g := 5001) (fun z => cont 103 (⟨z⟩ : Raw)) rfl rfl rfl ?_)))))))))))))))))))))))))))))))))))))))))
 obtain rfl := some_eq h
 exact Ends.ret1O (.inl rfl) [23, 24] Try.results126 (by decide) (.held rfl (.skip .nil)) (ResOK.tmp rfl trivial Imp.refl)

theorem heap_Pop_ok {h1 : (List Route_reached)} {r : (Route_reached × (List Route_reached))} {m15 : Nat} {s16 : Value} (h : heap_Pop h1 = some r) : FSpecO Try.prog 67 [ifcS 102 (isV (ptr m15 0))] [(ptr m15 0, cont 103 (⟨s16⟩ : Raw)), (s16, rowV 105 h1)] (ifcS 105 (rep r.1)) [some (deep (fun z0 => cont 103 (⟨z0⟩ : Raw)) (rowV 105 r.2)), none] := by
 unfold heap_Pop at h
 obtain ⟨r1, hv1, h⟩ := bind_some h
 obtain ⟨n1, hv2, h⟩ := bnd_some h
 obtain ⟨r2, hv3, h⟩ := bind_some h
 refine FSpecO.i Try.func67 rfl Try.ntmps67 rfl (fun F => (.sn mx (.c (.assign .none Opd.nilI) (.nil (.sr [oo, ([15, 16], []), oo, oo] mx (.mvA rfl (.cA (.invokeC (k := 15) (q := 16) .none me102_Len Try.underlying102 tr103 (.s rfl) rfl rfl fnok66 (fun hg => route_queue_Len_ok  hv1) .rep .nil) (.cA (.subW .none (.s rfl) .i) (.cA (.re hv2 (.assign .none (.s rfl))) (.nil (.sr [oo, oo, ([15, 16], [16])] mx (.mvA rfl (.mvA rfl (.cW (.invokeOV (k := 15) [16] me102_Swap Try.underlying102 tr103 (.s rfl) rfl (route_queue_Swap_ok hv3) (.cons .i (.cons (.s rfl) .nil)) (.cons (k := 16) rfl .nil) rfl (by decide) (by decide) (by intro d h; cases h; decide)) ?_))))))))))))))
 obtain ⟨r3, hv4, h⟩ := bind_some h
 obtain ⟨r4, hv5, h⟩ := bind_some h
 refine .nil (.sr [oo, oo, ([15, 16], [15, 16])] mx (.mvA rfl (.mvA rfl (.cW (.cO [15, 16] (heap_down_ok hv4) (.cons (.s rfl) (.cons .i (.cons (.s rfl) .nil))) (.cons (k := 15) rfl (.cons (k := 16) rfl .nil)) rfl) (.nil (.open (k := 15) (g := 5001) rfl rfl (fun s5001 => (.sr [oo, ([15, 5001], [15, 5001]), oo] mx (.mvA rfl (.cW (.invokeO [15, 5001] me102_Pop Try.underlying102 (.s rfl) (route_queue_Pop_ok hv5) .nil (.cons (k := 15) rfl (.cons (k := 5001) rfl .nil)) rfl (by decide) (by decide) (by intro d h; cases h; decide)) (.asnA rfl (.nil (.open (k := 15) (g := 5002) rfl rfl (fun s5002 => (.ret (.close (k := 15) (g := 5002) (fun z => cont 103 (⟨z⟩ : Raw)) rfl rfl rfl ?_))))))))))))))))
 obtain rfl := some_eq h
 exact Ends.ret1O (.inl rfl) [15, 16] Try.results67 (by decide) (.held rfl (.skip .nil)) (ResOK.tmp rfl trivial Imp.refl)

theorem slices_Reverse_spot_ok {s1 : (List Route_spot)} {r : (List Route_spot)} {s28 : Value} (h : slices_Reverse_spot s1 = some r) : FSpecO Try.prog 68 [isV s28] [(s28, rowV 58 s1)] (anyV) [some (rowV 58 r)] := by
 unfold slices_Reverse_spot at h
 obtain ⟨j1, hv1, h⟩ := bnd_some h
 refine FSpecO.i Try.func68 rfl Try.ntmps68 rfl (fun F => (.sr [oo, ([28], []), oo, oo, oo] mx (.mvA rfl (.cA (.lenO (k := 28) sl54 (.told (.s rfl) rfl)) (.cA (.subW .none (.s rfl) .i) (.cA (.assign .none .i) (.cA (.re hv1 (.assign .none (.s rfl))) (.nil (.block (.loopL h (fun s2_ => [(2, ⟨True, rep s2_.1⟩), (3, ⟨True, rep s2_.2.1⟩)]) (fun s2_ => [(28, some (CPred.at s28 (rowV 58 s2_.2.2)))]) (.k2 2 3 rfl rfl .nil) (.k 28 rfl .nil) (.k 0 rfl .nil) SubB.nil (fun s2_ o_2 h hD2 => ?_)))))))))))
 unfold slices_Reverse_spot_L1 at h
 refine .seq (.sn mx (.mv rfl (.mv rfl (.lt rfl rfl (.nil (.cb rfl h (fun _ h => ?_) fun _ h => ?_))))))
 ·
  obtain ⟨hn4, h⟩ := need_some h
  obtain ⟨v1, hv5, h⟩ := bnd_some h
  obtain ⟨hn6, h⟩ := need_some h
  obtain ⟨v2, hv7, h⟩ := bnd_some h
  obtain ⟨hn8, h⟩ := need_some h
  obtain ⟨hn9, h⟩ := need_some h
  obtain ⟨s2, hv10, h⟩ := bnd_some h
  obtain ⟨i1, hv11, h⟩ := bnd_some h
  obtain ⟨j2, hv12, h⟩ := bnd_some h
  exact .skip (.then (.seq (.block (.rg [oo, oo, oo, oo, oo, oo, ([28], []), ([28], []), oo, oo, ([28], []), ([28], []), ([28], []), ([28], [28]), ([28], []), ([28], [28])] mx (.mvA rfl (.mvA rfl (.mvA rfl (.mvA rfl (.mvA rfl (.mvA rfl (.ixO 28 sl54 ty58 rfl rfl rfl hn4 (.cA (.re hv5 (.loadElem0 (k := 28) .none ty58 (.s rfl) rfl (fun _ => hn4))) (.mvA rfl (.mvA rfl (.ixO 28 sl54 ty58 rfl rfl rfl hn6 (.cA (.re hv7 (.loadElem0 (k := 28) .none ty58 (.s rfl) rfl (fun _ => hn6))) (.ixO 28 sl54 ty58 rfl rfl rfl hn8 (.cN (.storeElem0 (k := 28) ty58 (.s rfl) rfl (.s rfl) hn8) (.ixO 28 sl54 ty58 rfl rfl rfl hn9 (.cN (.storeElem0 (k := 28) ty58 (.s rfl) rfl (.s rfl) hn9) (.nil (.blkNormal (.then (.reB (t := 28) rfl (congrArg (fun y => CPred.at s28 (rowV 58 y)) hv10) (.rn mx (.mv rfl (.adi rfl (.mv rfl (.c (.subW .none (.s rfl) .i) (.ra hv11 rfl (.ra hv12 rfl (.nil (Ends.ag (some_eq h))))))))))))))))))))))))))))))))))
 ·
  refine .exit (.thenExit (.thenExit (.blkExit ?_)))
  replace h := hD2 _ (some_eq h)
  obtain rfl := some_eq h
  exact Ends.ret0O (.inr rfl) [28] Try.results68 (by decide) (.held rfl .nil)

theorem route_search_next_ok {s1 : Route_search} {p1 : Route_spot} {side1 : Int} {r : (Route_spot × Int × Bool)}  (h : route_search_next s1 p1 side1 = some r) : FSpec Try.prog 69 [ref s1, rep p1, rep side1] (tup [rep r.1, rep r.2.1, rep r.2.2]) := by
 unfold route_search_next at h
 obtain ⟨q1, hv1, h⟩ := bnd_some h
 obtain ⟨r1, hv2, h⟩ := bind_some h
 obtain ⟨v1, hv3, h⟩ := bnd_some h
 refine FSpec.i Try.func69 rfl Try.ntmps69 rfl (fun F => (.sr [oo, ([], [6]), oo, oo] mx (.cA (.box .none (.s rfl)) (.al zo58 rfl (.cA (.assign .none .i) (.cA (.assign .none .bool) (.nil (.reB (t := 6) rfl (congrArg (cont 58) hv1) (.nameBox (t := 6) (g := 5001) rfl rfl (fun m5001 => (.sr [oo, oo, ([], [9]), ([9], [9])] mx (.mvA rfl (.cA (.call .none (route_toward_ok hv2) (.cons (.s rfl) .nil)) (.al zo23 rfl (.st ty23 rfl rfl rfl (.nil (.freeze (t := 9) rfl rfl (.k 5001 rfl .nil) rfl (.sr [oo, oo, oo, oo, oo, oo, oo, oo, oo, oo, oo, oo, ([5001], [5001])] mx (.faA fd58_0 hfd58_0 rfl (.ldA ty3 rfl (.faA fd23_0 hfd23_0 rfl (.ldA ty3 rfl (.addA rfl rfl (.faA fd58_1 hfd58_1 rfl (.ldA ty3 rfl (.faA fd23_1 hfd23_1 rfl (.ldA ty3 rfl (.addA rfl rfl (.mvA rfl (.cA (.re hv3 (.buildF (y := (⟨W (p1.x + r1.X), W (p1.y + r1.Y), side1⟩ : Route_spot)) .none bu58 zc58 rfl (.cons (.s rfl) (.cons (.s rfl) (.cons (.s rfl) .nil))) (.cons rfl sf58_0 (.cons rfl sf58_1 (.cons rfl sf58_2 .nil))))) (.s0 5001 ty58 rfl rfl rfl (.nil (.seq (.sr [oo, ([5001], []), oo, oo, oo, ([5001], []), oo, oo, oo, oo, oo, oo, oo, oo, oo, ([5001], []), oo, oo, oo, oo, ([5001], []), oo, oo, oo, oo, oo, oo, oo] mx (.cA (.fieldPtr .none fd58_0 (.s rfl)) (.cA (.loadAt (k := 5001) .none ty3 rfl (.s rfl) hfd58_0) (.cA (.lt .none (.s rfl) .i) (.mvA rfl (.cA (.fieldPtr (.at rfl rfl) fd58_0 (.s rfl)) (.cA (.loadAt (k := 5001) (.at rfl rfl) ty3 rfl (.tmp rfl id) hfd58_0) (.cA (.move (.at rfl rfl) (.s rfl)) (.cA (.nilCheckR (.at rfl rfl) (.tmp rfl id)) (.cA (.fieldAddr (.at rfl rfl) fd64_0 hfd64_0 (.tmp rfl id)) (.cA (.load (.at rfl rfl) ty61 (.tmp rfl id)) (.cA (.len (.at rfl rfl) sl61 (.tmp rfl id)) (.cA (.ge (.at rfl rfl) (.tmp rfl id) (.tmp rfl id)) (.cA (.pickOr .none (.s rfl) (.tmp rfl id)) ?_)))))))))))))))))))))))))))))))))))))))))))))))
 refine .mvA rfl (.cA (.fieldPtr (.at rfl rfl) fd58_1 (.s rfl)) (.cA (.loadAt (k := 5001) (.at rfl rfl) ty3 rfl (.tmp rfl id) hfd58_1) (.cA (.lt (.at rfl rfl) (.tmp rfl id) .i) (.cA (.pickOr .none (.s rfl) (.tmp rfl id)) (.mvA rfl (.cA (.fieldPtr (.at rfl rfl) fd58_1 (.s rfl)) (.cA (.loadAt (k := 5001) (.at rfl rfl) ty3 rfl (.tmp rfl id) hfd58_1) (.cA (.move (.at rfl rfl) (.s rfl)) (.cA (.nilCheckR (.at rfl rfl) (.tmp rfl id)) (.cA (.fieldAddr (.at rfl rfl) fd64_1 hfd64_1 (.tmp rfl id)) (.cA (.load (.at rfl rfl) ty61 (.tmp rfl id)) (.cA (.len (.at rfl rfl) sl61 (.tmp rfl id)) (.cA (.ge (.at rfl rfl) (.tmp rfl id) (.tmp rfl id)) (.cA (.pickOr .none (.s rfl) (.tmp rfl id)) (.nil (.cb rfl h (fun _ h => ?_) fun _ h => ?_))))))))))))))))
 ·
  refine .sr [([5001], []), ([5001], [5001]), oo, oo] mx (.cA (.loadAt0 (k := 5001) .none ty58 rfl (.s rfl)) (.s0 5001 ty58 rfl rfl rfl (.cA (.assign .none .i) (.cA (.assign .none .bool) (.nil (.fb 5001 [6] rfl (.cons (t := 6) rfl trivial .nil) (.ret (.thenRet ?_))))))))
  obtain rfl := some_eq h
  exact Ends.ret3 (.inl rfl) Try.results69 (ResOK.cellR ty58 rfl trivial Imp.refl) (ResOK.tmp rfl trivial Imp.refl) (ResOK.tmp rfl trivial Imp.refl)
 ·
  obtain ⟨at1, hv5, h⟩ := bnd_some h
  refine .skip (.then (.sr [oo, oo, oo, ([5001], []), oo, oo, oo, oo, oo, oo, oo, oo, oo, oo, ([5001], []), oo, oo, oo] mx (.faA fd58_1 hfd58_1 rfl (.ldA ty3 rfl (.cA (.fieldPtr .none fd58_1 (.s rfl)) (.cA (.loadAt (k := 5001) .none ty3 rfl (.s rfl) hfd58_1) (.cA (.min2 .none (.s rfl) (.s rfl)) (.mvA rfl (.cA (.nilCheckR .none (.s rfl)) (.faA fd64_0 hfd64_0 rfl (.ldA ty61 rfl (.cA (.len .none sl61 (.s rfl)) (.cA (.mulW .none (.s rfl) (.s rfl)) (.faA fd58_0 hfd58_0 rfl (.ldA ty3 rfl (.cA (.fieldPtr .none fd58_0 (.s rfl)) (.cA (.loadAt (k := 5001) .none ty3 rfl (.s rfl) hfd58_0) (.cA (.min2 .none (.s rfl) (.s rfl)) (.addA rfl rfl (.cA (.re hv5 (.assign .none (.s rfl))) (.nil (.seq (.sn mx (.fa fd23_0 hfd23_0 rfl (.ld ty3 rfl (.nei rfl (.nil (.cb rfl h (fun _ h => ?_) fun _ h => ?_))))))))))))))))))))))))))))
  ·
   obtain ⟨hn7, h⟩ := need_some h
   obtain ⟨hn8, h⟩ := need_some h
   obtain ⟨hn9, h⟩ := need_some h
   obtain ⟨hn10, h⟩ := need_some h
   obtain ⟨hn11, h⟩ := need_some h
   refine .sr [([5001], []), oo, oo, oo, oo, oo, ([5001], []), oo, oo, oo, oo, oo, oo, oo, oo, oo, oo, oo, oo, oo, oo, oo, oo, oo, oo, oo, oo, oo, oo, oo, oo, ([5001], []), oo, oo, oo, oo, oo, oo, oo, oo, oo, oo, oo, ([5001], [5001]), oo, oo] mx (.cA (.loadAt0 (k := 5001) .none ty58 rfl (.s rfl)) (.mvA rfl (.cA (.nilCheckR .none (.s rfl)) (.faA fd64_0 hfd64_0 rfl (.ldA ty61 rfl (.cA (.fieldPtr .none fd58_0 (.s rfl)) (.cA (.loadAt (k := 5001) .none ty3 rfl (.s rfl) hfd58_0) (.ixA sl61 ty3 rfl rfl hn7 (.ldA ty3 rfl (.mvA rfl (.cA (.nilCheckR .none (.s rfl)) (.faA fd64_0 hfd64_0 rfl (.ldA ty61 rfl (.faA fd58_0 hfd58_0 rfl (.ldA ty3 rfl (.ixA sl61 ty3 rfl rfl hn8 (.ldA ty3 rfl (.subA rfl rfl (.mvA rfl (.cA (.nilCheckR .none (.s rfl)) (.faA fd64_0 hfd64_0 rfl (.ldA ty61 rfl (.faA fd58_0 hfd58_0 rfl (.ldA ty3 rfl (.ixA sl61 ty3 rfl rfl hn9 (.ldA ty3 rfl (.mvA rfl (.cA (.nilCheckR .none (.s rfl)) (.faA fd64_0 hfd64_0 rfl (.ldA ty61 rfl (.cA (.fieldPtr .none fd58_0 (.s rfl)) (.cA (.loadAt (k := 5001) .none ty3 rfl (.s rfl) hfd58_0) (.ixA sl61 ty3 rfl rfl hn10 (.ldA ty3 rfl (.subA rfl rfl (.cA (.max2 .none (.s rfl) (.s rfl)) (.mvA rfl (.cA (.nilCheckR .none (.s rfl)) (.faA fd64_2 hfd64_2 rfl (.ldA ty62 rfl (.mvA rfl (.ixA sl62 ty4 rfl rfl hn11 (.ldA ty4 rfl (.s0 5001 ty58 rfl rfl rfl (.asnA rfl (.asnA rfl (.nil (.fb 5001 [6] rfl (.cons (t := 6) rfl trivial .nil) (.ret (.thenRet ?_))))))))))))))))))))))))))))))))))))))))))))))))))
   obtain rfl := some_eq h
   exact Ends.ret3 (.inl rfl) Try.results69 (ResOK.cellR ty58 rfl trivial Imp.refl) (ResOK.tmp rfl trivial Imp.refl) (ResOK.tmp rfl trivial Imp.refl)
  ·
   obtain ⟨hn12, h⟩ := need_some h
   obtain ⟨hn13, h⟩ := need_some h
   obtain ⟨hn14, h⟩ := need_some h
   obtain ⟨hn15, h⟩ := need_some h
   obtain ⟨hn16, h⟩ := need_some h
   refine .skip (.then (.sr [([5001], []), oo, oo, oo, oo, oo, ([5001], []), oo, oo, oo, oo, oo, oo, oo, oo, oo, oo, oo, oo, oo, oo, oo, oo, oo, oo, oo, oo, oo, oo, oo, oo, ([5001], []), oo, oo, oo, oo, oo, oo, oo, oo, oo, oo, oo, ([5001], [5001]), oo, oo] mx (.cA (.loadAt0 (k := 5001) .none ty58 rfl (.s rfl)) (.mvA rfl (.cA (.nilCheckR .none (.s rfl)) (.faA fd64_1 hfd64_1 rfl (.ldA ty61 rfl (.cA (.fieldPtr .none fd58_1 (.s rfl)) (.cA (.loadAt (k := 5001) .none ty3 rfl (.s rfl) hfd58_1) (.ixA sl61 ty3 rfl rfl hn12 (.ldA ty3 rfl (.mvA rfl (.cA (.nilCheckR .none (.s rfl)) (.faA fd64_1 hfd64_1 rfl (.ldA ty61 rfl (.faA fd58_1 hfd58_1 rfl (.ldA ty3 rfl (.ixA sl61 ty3 rfl rfl hn13 (.ldA ty3 rfl (.subA rfl rfl (.mvA rfl (.cA (.nilCheckR .none (.s rfl)) (.faA fd64_1 hfd64_1 rfl (.ldA ty61 rfl (.faA fd58_1 hfd58_1 rfl (.ldA ty3 rfl (.ixA sl61 ty3 rfl rfl hn14 (.ldA ty3 rfl (.mvA rfl (.cA (.nilCheckR .none (.s rfl)) (.faA fd64_1 hfd64_1 rfl (.ldA ty61 rfl (.cA (.fieldPtr .none fd58_1 (.s rfl)) (.cA (.loadAt (k := 5001) .none ty3 rfl (.s rfl) hfd58_1) (.ixA sl61 ty3 rfl rfl hn15 (.ldA ty3 rfl (.subA rfl rfl (.cA (.max2 .none (.s rfl) (.s rfl)) (.mvA rfl (.cA (.nilCheckR .none (.s rfl)) (.faA fd64_3 hfd64_3 rfl (.ldA ty62 rfl (.mvA rfl (.ixA sl62 ty4 rfl rfl hn16 (.ldA ty4 rfl (.s0 5001 ty58 rfl rfl rfl (.asnA rfl (.asnA rfl (.nil (.fb 5001 [6] rfl (.cons (t := 6) rfl trivial .nil) (.ret ?_)))))))))))))))))))))))))))))))))))))))))))))))))))
   obtain rfl := some_eq h
   exact Ends.ret3 (.inl rfl) Try.results69 (ResOK.cellR ty58 rfl trivial Imp.refl) (ResOK.tmp rfl trivial Imp.refl) (ResOK.tmp rfl trivial Imp.refl)

set_option maxHeartbeats 4000000 in
theorem route_search_find_ok {s1 : Route_search} {from1 : Route_spot} {to1 : Route_spot} {r : ((List Route_spot) × Bool)}  (h : route_search_find s1 from1 to1 = some r) : FSpec Try.prog 26 [ref s1, rep from1, rep to1] (tup [rep r.1, rep r.2]) := by
 unfold route_search_find at h
 obtain ⟨v1, hv1, h⟩ := bnd_some h
 obtain ⟨hn2, h⟩ := need_some h
 obtain ⟨v2, hv3, h⟩ := bnd_some h
 obtain ⟨hn4, h⟩ := need_some h
 obtain ⟨c1, hv5, h⟩ := bnd_some h
 obtain ⟨v3, hv6, h⟩ := bnd_some h
 obtain ⟨hn7, h⟩ := need_some h
 obtain ⟨c2, hv8, h⟩ := bnd_some h
 obtain ⟨v4, hv9, h⟩ := bnd_some h
 obtain ⟨hn10, h⟩ := need_some h
 obtain ⟨done1, hv11, h⟩ := bnd_some h
 obtain ⟨c3, hv12, h⟩ := bnd_some h
 refine FSpec.i Try.func26 rfl Try.ntmps26 rfl (fun F => (.sn mx (.c (.boxRef .none (.s rfl)) (.c (.box .none (.s rfl)) (.c (.box .none (.s rfl)) (.c (.assign .none (.const (x := ([] : (List Route_spot))) (fun M w => ⟨_, ⟨none, 0, rfl, Nat.le_refl _, by decide, rfl⟩, rfl⟩))) (.asb (.nil (.sr [oo, oo, oo, oo, oo, oo, oo, oo, oo, oo, oo, oo, ([], [34]), ([], [8]), ([8, 34], [8, 34])] mx (.cA (.isRef rfl (.load .none ty52 (.s rfl))) (.cA (.nilCheckR .none (.s rfl)) (.faA fd64_0 hfd64_0 rfl (.ldA ty61 rfl (.cA (.len .none sl61 (.s rfl)) (.cA (.isRef rfl (.load .none ty52 (.s rfl))) (.cA (.nilCheckR .none (.s rfl)) (.faA fd64_1 hfd64_1 rfl (.ldA ty61 rfl (.cA (.len .none sl61 (.s rfl)) (.cA (.mulW .none (.s rfl) (.s rfl)) (.cA (.re hv1 (.mulW .none (.s rfl) .i)) (.cW (.makeSlice rk101 zo105 rfl (.s rfl) (.s rfl) hn2) (.al zr101 rfl (.cN (.storeRow0 (k := 8) (t := 34) ty101 rfl rfl rfl rfl) (.nil (.nameAt (t := 8) (g := 5001) rfl rfl (isBox_deep fun _ => isBox_cont) rfl (fun m5001 => (.open (k := 5001) (g := 5002) rfl rfl (fun s5002 => (.sr [([5001], []), ([5002], []), ([], [37]), ([], [9]), ([9, 37], [9, 37])] mx (.cA (.loadAt0 (k := 5001) .none tr101 rfl (.s rfl)) (.cA (.re hv3 (.lenO (k := 5002) sl101 (.told (.s rfl) rfl))) (.cW (.makeSlice rk61 zo3 rfl (.s rfl) (.s rfl) hn4) (.al zr61 rfl (.cN (.storeRow0 (k := 9) (t := 37) ty61 rfl rfl rfl rfl) (.nil (.reB (t := 5002) rfl (congrArg (fun y => CPred.at s5002 (rowV 105 y)) hv5) (.nameAt (t := 9) (g := 5003) rfl rfl (isBox_deep fun _ => isBox_cont) rfl (fun m5003 => (.open (k := 5003) (g := 5004) rfl rfl (fun s5004 => (.sr [([5001], []), ([5002], []), ([], [40]), ([], [10]), ([10, 40], [10, 40])] mx (.cA (.loadAt0 (k := 5001) .none tr101 rfl (.s rfl)) (.cA (.re hv6 (.lenO (k := 5002) sl101 (.told (.s rfl) rfl))) ?_))))))))))))))))))))))))))))))))))))))))))))
 refine .cW (.makeSlice rk62 zo4 rfl (.s rfl) (.s rfl) hn7) (.al zr62 rfl (.cN (.storeRow0 (k := 10) (t := 40) ty62 rfl rfl rfl rfl) (.nil (.reB (t := 5004) rfl (congrArg (fun y => CPred.at s5004 (rowV 3 y)) hv8) (.nameAt (t := 10) (g := 5005) rfl rfl (isBox_deep fun _ => isBox_cont) rfl (fun m5005 => (.open (k := 5005) (g := 5006) rfl rfl (fun s5006 => (.sr [([5001], []), ([5002], []), ([], [43]), ([43], [11, 43])] mx (.cA (.loadAt0 (k := 5001) .none tr101 rfl (.s rfl)) (.cA (.re hv9 (.lenO (k := 5002) sl101 (.told (.s rfl) rfl))) (.cW (.makeSlice rk62 zo4 rfl (.s rfl) (.s rfl) hn10) (.cW (.passRow rfl (.tmp rfl)) (.nil (.reB (t := 11) rfl (congrArg (rowV 4) hv11) (.reB (t := 5006) rfl (congrArg (fun y => CPred.at s5006 (rowV 4 y)) hv12) (.nameRow (t := 11) (g := 5007) rfl rfl rfl (fun s5007 => (.sr [([], [44]), ([44], [45, 44]), ([], [12]), ([12, 45], [12, 45])] mx (.cW (.buildSliceO (xs := []) rfl sl103 ty105 hz105 .nil rfl (by decide)) (.cW (.boxRow (t := 44) rfl rfl) (.al zr102 rfl (.cN (.storeRow0P (k := 12) (t := 45) tr102 rfl rfl rfl (oneBox (isBox_deep fun _ => isBox_cont)) rfl) (.nil (.nameAt (t := 12) (g := 5008) rfl rfl (isBox_deep fun _ => isBox_cont) rfl (fun m5008 => (.open (k := 5008) (g := 5009) rfl rfl (fun s5009 => (.boxTold (g := 5009) rfl (isBox_deep fun _ => isBox_cont) (fun m5009 hm13 => ?_))))))))))))))))))))))))))))))
 subst hm13
 obtain ⟨r1, hv14, h⟩ := bind_some h
 refine .freezeBox (g := 5008) (ts := [12]) rfl (.cons (t := 12) rfl trivial .nil) (.k2 5001 5002 rfl rfl (.k2 5003 5004 rfl rfl (.k2 5005 5006 rfl rfl (.k2 5007 5009 rfl rfl .nil)))) rfl (.open (k := 5009) (g := 5010) rfl rfl (fun s5010 => (.sn mx (.c (.makeFuncC (Cs := [ref (some s1), isV (ptr m5005 0), isV (ptr m5001 0), isV (ptr m5003 0), ref (⟨ptr m5009 0⟩ : Raw)]) .none (.cons (.s rfl) (.cons (.s rfl) (.cons (.s rfl) (.cons (.s rfl) (.cons (.s rfl) .nil)))))) (.asn rfl (.nil (.sr [oo, oo, oo, ([5005, 5006, 5001, 5002, 5003, 5004, 5009, 5010], [5005, 5006, 5001, 5002, 5003, 5004, 5009, 5010])] mx (.mvA rfl (.ldA ty58 rfl (.cA (.buildF (y := (⟨from1, (0 : Int), (0 : Int)⟩ : Route_reached)) .none bu105 zc105 rfl (.cons (.s rfl) .nil) (.cons rfl sf105_0 .nil)) (.cW (.callClo [5005, 5006, 5001, 5002, 5003, 5004, 5009, 5010] (Ss := [rep (⟨from1, (0 : Int), (0 : Int)⟩ : Route_reached), rep (-1)]) (Cs := [ref (some s1), isV (ptr m5005 0), isV (ptr m5001 0), isV (ptr m5003 0), ref (⟨ptr m5009 0⟩ : Raw)]) (.s rfl) (route_search_find_1_ok hv14) (.cons (.s rfl) (.cons .i .nil)) (.cons (k := 5005) rfl (.cons (k := 5006) rfl (.cons (k := 5001) rfl (.cons (k := 5002) rfl (.cons (k := 5003) rfl (.cons (k := 5004) rfl (.cons (k := 5009) rfl (.cons (k := 5010) rfl .nil)))))))) rfl (by decide) (by decide) (by intro d h; cases h; decide)) (.nil (.open (k := 5001) (g := 5011) rfl rfl (fun s5011 => (.open (k := 5003) (g := 5012) rfl rfl (fun s5012 => (.open (k := 5005) (g := 5013) rfl rfl (fun s5013 => (.open (k := 5009) (g := 5014) rfl rfl (fun s5014 => (.seq ?_)))))))))))))))))))))
 obtain ⟨o_15, h, hK15⟩ := bindR_some h
 refine .tJ (fun s => o_15 = Res.nx s) Sub.nil SubB.nil ?_ (fun j_15 hj15 => ?_)
 ·
  refine .block (.close (k := 5001) (g := 5011) (fun z => cont 101 (⟨z⟩ : Raw)) rfl rfl rfl (.close (k := 5003) (g := 5012) (fun z => cont 61 (⟨z⟩ : Raw)) rfl rfl rfl (.close (k := 5005) (g := 5013) (fun z => cont 62 (⟨z⟩ : Raw)) rfl rfl rfl (.close (k := 5009) (g := 5014) (fun z => cont 103 (⟨z⟩ : Raw)) rfl rfl rfl (.loopL h (fun s16_ => []) (fun s16_ => [(5001, some (CPred.at (ptr m5001 0) (deep (fun z0 => cont 101 (⟨z0⟩ : Raw)) (rowV 105 s16_.1)))), (5003, some (CPred.at (ptr m5003 0) (deep (fun z0 => cont 61 (⟨z0⟩ : Raw)) (rowV 3 s16_.2.1)))), (5005, some (CPred.at (ptr m5005 0) (deep (fun z0 => cont 62 (⟨z0⟩ : Raw)) (rowV 4 s16_.2.2.1)))), (5009, some (CPred.at (ptr m5009 0) (deep (fun z0 => cont 103 (⟨z0⟩ : Raw)) (rowV 105 s16_.2.2.2.1)))), (5007, some (CPred.at s5007 (rowV 4 s16_.2.2.2.2)))]) Sub.nil (.k2 5001 5003 rfl rfl (.k2 5005 5009 rfl rfl (.k 5007 rfl .nil))) (.k4 3 5 8 9 rfl rfl rfl rfl (.k4 10 11 12 13 rfl rfl rfl rfl .nil)) SubB.nil (fun s16_ o_16 h hD16 => ?_))))))
  unfold route_search_find_L1 at h
  obtain ⟨r2, hv17, h⟩ := bind_some h
  refine .open (k := 5001) (g := 5015) rfl rfl (fun s5015 => (.open (k := 5003) (g := 5016) rfl rfl (fun s5016 => (.open (k := 5005) (g := 5017) rfl rfl (fun s5017 => (.open (k := 5009) (g := 5018) rfl rfl (fun s5018 => (.seq (.sr [oo, oo, ([5009], []), ([5018], []), oo] mx (.ldA tr102 rfl (.cA (.nilCheckP .none (.s rfl)) (.cA (.loadAt0 (k := 5009) .none tr103 rfl (.s rfl)) (.cA (.callC .none fnok66 (fun hg => route_queue_Len_ok  hv17) .rep (.lend (k := 5018) (.told (.s rfl) rfl) .nil)) (.cA (.gt .none (.s rfl) .i) (.nil (.cb rfl h (fun _ h => ?_) fun _ h => ?_))))))))))))))))
  ·
   obtain ⟨r3, hv19, h⟩ := bind_some h
   obtain ⟨k1, hv20, h⟩ := bind_some h
   obtain ⟨hn21, h⟩ := need_some h
   refine .skip (.then (.block (.sr [oo, oo, ([5009, 5018], [5009, 5018]), oo, ([], [14]), ([14], [14])] mx (.ldA tr102 rfl (.cA (.mkIface .none ni102 (.s rfl)) (.cW (.cO [5009, 5018] (heap_Pop_ok hv19) (.cons (.s rfl) .nil) (.cons (k := 5009) rfl (.cons (k := 5018) rfl .nil)) rfl) (.cA (.assertV .none ni105 (.s rfl)) (.al zo105 rfl (.st ty105 rfl rfl rfl (.nil (.freeze (t := 14) rfl rfl (.k2 5001 5003 rfl rfl (.k2 5005 5007 rfl rfl (.k2 5009 5015 rfl rfl (.k2 5016 5017 rfl rfl .nil)))) rfl (.open (k := 5009) (g := 5019) rfl rfl (fun s5019 => (.sn mx (.c (.isRef rfl (.load .none ty52 (.s rfl))) (.fa fd105_0 hfd105_0 rfl (.ld ty58 rfl (.c (.call .none (route_search_key_ok hv20) (.cons (.s rfl) (.cons (.s rfl) .nil))) (.asn rfl (.nil (.seq (.sr [oo, oo, ([5007], []), ([5007], [])] mx (.mvA rfl (.mvA rfl (.ixO 5007 sl62 ty4 rfl rfl rfl hn21 (.cA (.loadElem0 (k := 5007) .none ty4 (.s rfl) rfl (fun _ => hn21)) (.nil (.cb rfl h (fun _ h => ?_) fun _ h => ?_))))))))))))))))))))))))))))
   ·
    exact .exit (.thenExit (.blkExit (.close (k := 5001) (g := 5015) (fun z => cont 101 (⟨z⟩ : Raw)) rfl rfl rfl (.close (k := 5003) (g := 5016) (fun z => cont 61 (⟨z⟩ : Raw)) rfl rfl rfl (.close (k := 5005) (g := 5017) (fun z => cont 62 (⟨z⟩ : Raw)) rfl rfl rfl (.close (k := 5009) (g := 5019) (fun z => cont 103 (⟨z⟩ : Raw)) rfl rfl rfl (Ends.ag (some_eq h))))))))
   ·
    obtain ⟨hn23, h⟩ := need_some h
    obtain ⟨done2, hv24, h⟩ := bnd_some h
    refine .skip (.then (.sr [oo, oo, ([5007], []), ([5007], [5007])] mx (.mvA rfl (.mvA rfl (.ixO 5007 sl62 ty4 rfl rfl rfl hn23 (.cN (.storeElem0 (k := 5007) ty4 (.s rfl) rfl .bool hn23) (.nil (.reB (t := 5007) rfl (congrArg (fun y => CPred.at s5007 (rowV 4 y)) hv24) (.seq (.sn mx (.fa fd105_0 hfd105_0 rfl (.ld ty58 rfl (.ld ty58 rfl (.c (.eqS .none eq58 (.s rfl) (.s rfl)) (.nil ?_)))))))))))))))
    obtain ⟨o_25, h, hK25⟩ := bindR_some h
    refine .tJ (fun s => o_25 = Res.nx s) (.k4 3 5 8 9 rfl rfl rfl rfl (.k4 10 11 12 13 rfl rfl rfl rfl (.k2 14 15 rfl rfl .nil))) (.k2 5001 5003 rfl rfl (.k2 5005 5007 rfl rfl (.k2 5009 5015 rfl rfl (.k2 5016 5017 rfl rfl (.k 5019 rfl .nil))))) ?_ (fun j_25 hj25 => ?_)
    ·
     refine .cb rfl h (fun _ h => ?_) fun _ h => ?_
     ·
      refine .sr [([], [16])] mx (.cW (.nilRow (T := 58) (α := Route_spot) rfl) (.nil (.nameRow (t := 16) (g := 5020) rfl rfl rfl (fun s5020 => (.seq ?_)))))
      obtain ⟨j_27, h, hK27⟩ := bind_some h
      refine .thenJ (ι := (List Route_spot)) (fun j_27 => []) (fun j_27 => [(16, some (rowV 58 j_27))]) (fun s => j_27 = s) Sub.nil SubB.nil ?_ (fun j_27' hj27 => ?_)
      ·
       refine .block (.anon (t := 16) (g := 5020) rfl rfl trivial rfl (.loopL h (fun s28_ => [(15, ⟨True, rep s28_.1⟩)]) (fun s28_ => [(16, some (rowV 58 s28_.2))]) (.k 15 rfl .nil) (.k 16 rfl .nil) (.k2 8 9 rfl rfl .nil) (.k2 5001 5003 rfl rfl (.k2 5015 5016 rfl rfl .nil)) (fun s28_ o_28 h hD28 => ?_)))
       unfold route_search_find_L2 at h
       refine .nameRow (t := 16) (g := 5021) rfl rfl rfl (fun s5021 => (.seq (.sn mx (.mv rfl (.c (.ge .none (.s rfl) .i) (.nil (.cb rfl h (fun _ h => ?_) fun _ h => ?_)))))))
       ·
        obtain ⟨hn30, h⟩ := need_some h
        obtain ⟨hn31, h⟩ := need_some h
        obtain ⟨way1, hv32, h⟩ := bnd_some h
        obtain ⟨hn33, h⟩ := need_some h
        obtain ⟨k2, hv34, h⟩ := bnd_some h
        exact .skip (.then (.seq (.block (.rg [oo, ([5001], []), oo, ([5015], []), ([5015], []), ([5015], []), oo, ([5021], [88, 5021]), ([88], [16, 88])] mx (.mvA rfl (.cA (.loadAt0 (k := 5001) .none tr101 rfl (.s rfl)) (.mvA rfl (.ixO 5015 sl101 ty105 rfl rfl rfl hn30 (.fe 5015 fd105_0 rfl rfl hn30 (.cA (.loadElem (k := 5015) .none ty58 (.s rfl) rfl hfd105_0 (fun _ => hn30)) (.cA (.buildSlice (xs := [_]) .none sl54 ty58 hz58 (.cons (.s rfl) .nil) rfl (by decide)) (.cW (.append (k := 5021) rk54 rfl (.told (.s rfl) rfl) (.s rfl) hn31) (.consWD (.passRow rfl (.tmp rfl)) rfl rfl (.nil (.blkNormal (.then (.reB (t := 16) rfl (congrArg (rowV 58) hv32) (.nameRow (t := 16) (g := 5022) rfl rfl rfl (fun s5022 => (.rg [([5003], []), oo, ([5016], []), ([5016], []), oo] mx (.cA (.loadAt0 (k := 5003) .none tr61 rfl (.s rfl)) (.mvA rfl (.ixO 5016 sl61 ty3 rfl rfl rfl hn33 (.cA (.loadElem0 (k := 5016) .none ty3 (.s rfl) rfl (fun _ => hn33)) (.cA (.re hv34 (.assign .none (.s rfl))) (.nil (.anon (t := 16) (g := 5022) rfl rfl trivial rfl (Ends.ag (some_eq h)))))))))))))))))))))))))))))
       ·
        refine .exit (.thenExit (.thenExit (.blkExit (.anon (t := 16) (g := 5021) rfl rfl trivial rfl ?_))))
        replace h := hD28 _ (some_eq h)
        exact Ends.j _ (some_eq h)
      ·
       subst hj27; have h := hK27; clear hK27
       obtain ⟨r4, hv35, h⟩ := bind_some h
       refine .nameRow (t := 16) (g := 5023) rfl rfl rfl (fun s5023 => (.sr [oo, ([5023], [5023])] mx (.mvA rfl (.cW (.cO [5023] (slices_Reverse_spot_ok hv35) (.cons (.s rfl) .nil) (.cons (k := 5023) rfl .nil) rfl) (.nil (.freezeRow (g := 5023) (ts := [16]) rfl (.cons (t := 16) rfl trivial .nil) SubB.nil rfl (.sn mx (.mv rfl (.asn rfl (.asb (.nil (.ret (.thenRet (.blkRet (.thenRet (.blkRet (.thenRet ?_)))))))))))))))))
       replace h := resb_ab hK25 (some_eq h)
       replace h := hD16 _ (some_eq h)
       replace h := resb_ab hK15 (some_eq h)
       obtain rfl := some_eq h
       exact Ends.ret2 (.inl rfl) Try.results26 (ResOK.tmp rfl trivial Imp.refl) (ResOK.tmp rfl trivial Imp.refl)
     ·
      exact .skip (Ends.j _ (some_eq h))
    ·
     have h := resb_nx hK25 hj25
     obtain ⟨r5, hv36, h⟩ := bind_some h
     refine .seq (.sn mx (.fa fd105_0 hfd105_0 rfl (.fa fd58_0 hfd58_0 rfl (.ld ty3 rfl (.fa fd58_0 hfd58_0 rfl (.ld ty3 rfl (.c (.eqI .none (.s rfl) (.s rfl)) (.mv rfl (.fg fd105_0 hfd105_0 rfl rfl rfl (.c (.fieldAddr (.at rfl rfl) fd58_1 hfd58_1 (.tmp rfl id)) (.lg ty3 rfl rfl rfl (.fg fd58_1 hfd58_1 rfl rfl rfl (.lg ty3 rfl rfl rfl (.c (.eqI (.at rfl rfl) (.tmp rfl id) (.tmp rfl id)) (.pa rfl rfl (.mv rfl (.fg fd105_0 hfd105_0 rfl rfl rfl (.c (.fieldAddr (.at rfl rfl) fd58_2 hfd58_2 (.tmp rfl id)) (.lg ty3 rfl rfl rfl (.fg fd58_2 hfd58_2 rfl rfl rfl (.lg ty3 rfl rfl rfl (.c (.callIf (.at rfl rfl) fnok28 (fun hg => route_back_ok ((fun hg => gd_some hv36 (hg.2)) hg)) (.cons (.tmp rfl id) .nil) (fun h => h)) (.c (.neI (.at rfl rfl) (.tmp rfl id) (.tmp rfl id)) (.pa rfl rfl (.nil ?_)))))))))))))))))))))))))
     obtain ⟨j_37, h, hK37⟩ := bind_some h
     refine .thenJ (ι := ((List Route_reached) × (List Int) × (List Bool) × (List Route_reached))) (fun j_37 => []) (fun j_37 => [(5001, some (CPred.at (ptr m5001 0) (deep (fun z0 => cont 101 (⟨z0⟩ : Raw)) (rowV 105 j_37.1)))), (5003, some (CPred.at (ptr m5003 0) (deep (fun z0 => cont 61 (⟨z0⟩ : Raw)) (rowV 3 j_37.2.1)))), (5005, some (CPred.at (ptr m5005 0) (deep (fun z0 => cont 62 (⟨z0⟩ : Raw)) (rowV 4 j_37.2.2.1)))), (5009, some (CPred.at (ptr m5009 0) (deep (fun z0 => cont 103 (⟨z0⟩ : Raw)) (rowV 105 j_37.2.2.2))))]) (fun s => j_37 = s) (.k4 3 5 8 9 rfl rfl rfl rfl (.k4 10 11 12 13 rfl rfl rfl rfl (.k2 14 15 rfl rfl .nil))) (.k 5007 rfl .nil) ?_ (fun j_37' hj37 => ?_)
     ·
      refine .cb rfl h (fun _ h => ?_) fun _ h => ?_
      ·
       obtain ⟨r6, hv39, h⟩ := bind_some h
       exact .rg [oo, oo, oo, oo, oo, oo, oo, oo, oo, ([5005, 5017, 5001, 5015, 5003, 5016, 5009, 5019], [5005, 5017, 5001, 5015, 5003, 5016, 5009, 5019])] mx (.mvA rfl (.ldA ty58 rfl (.faA fd105_1 hfd105_1 rfl (.ldA ty3 rfl (.cA (.addW .none (.s rfl) .i) (.faA fd105_2 hfd105_2 rfl (.ldA ty3 rfl (.cA (.buildF (y := (⟨to1, W (r3.1.bends + 1), r3.1.long⟩ : Route_reached)) .none bu105 zc105 rfl (.cons (.s rfl) (.cons (.s rfl) (.cons (.s rfl) .nil))) (.cons rfl sf105_0 (.cons rfl sf105_1 (.cons rfl sf105_2 .nil)))) (.mvA rfl (.cW (.callClo [5005, 5017, 5001, 5015, 5003, 5016, 5009, 5019] (Ss := [rep (⟨to1, W (r3.1.bends + 1), r3.1.long⟩ : Route_reached), rep k1]) (Cs := [ref (some s1), isV (ptr m5005 0), isV (ptr m5001 0), isV (ptr m5003 0), ref (⟨ptr m5009 0⟩ : Raw)]) (.s rfl) (route_search_find_1_ok hv39) (.cons (.s rfl) (.cons (.s rfl) .nil)) (.cons (k := 5005) rfl (.cons (k := 5017) rfl (.cons (k := 5001) rfl (.cons (k := 5015) rfl (.cons (k := 5003) rfl (.cons (k := 5016) rfl (.cons (k := 5009) rfl (.cons (k := 5019) rfl .nil)))))))) rfl (by decide) (by decide) (by intro d h; cases h; decide)) (.nil (Ends.j _ (some_eq h)))))))))))))
      ·
       exact .skip (.close (k := 5001) (g := 5015) (fun z => cont 101 (⟨z⟩ : Raw)) rfl rfl rfl (.close (k := 5003) (g := 5016) (fun z => cont 61 (⟨z⟩ : Raw)) rfl rfl rfl (.close (k := 5005) (g := 5017) (fun z => cont 62 (⟨z⟩ : Raw)) rfl rfl rfl (.close (k := 5009) (g := 5019) (fun z => cont 103 (⟨z⟩ : Raw)) rfl rfl rfl (Ends.j _ (some_eq h))))))
     ·
      subst hj37; have h := hK37; clear hK37
      refine .open (k := 5001) (g := 5024) rfl rfl (fun s5024 => (.open (k := 5003) (g := 5025) rfl rfl (fun s5025 => (.open (k := 5005) (g := 5026) rfl rfl (fun s5026 => (.open (k := 5009) (g := 5027) rfl rfl (fun s5027 => (.sn mx (.asi (.nil (.block (.close (k := 5001) (g := 5024) (fun z => cont 101 (⟨z⟩ : Raw)) rfl rfl rfl (.close (k := 5003) (g := 5025) (fun z => cont 61 (⟨z⟩ : Raw)) rfl rfl rfl (.close (k := 5005) (g := 5026) (fun z => cont 62 (⟨z⟩ : Raw)) rfl rfl rfl (.close (k := 5009) (g := 5027) (fun z => cont 103 (⟨z⟩ : Raw)) rfl rfl rfl (.loopL h (fun s40_ => [(17, ⟨True, rep s40_.1⟩)]) (fun s40_ => [(5001, some (CPred.at (ptr m5001 0) (deep (fun z0 => cont 101 (⟨z0⟩ : Raw)) (rowV 105 s40_.2.1)))), (5003, some (CPred.at (ptr m5003 0) (deep (fun z0 => cont 61 (⟨z0⟩ : Raw)) (rowV 3 s40_.2.2.1)))), (5005, some (CPred.at (ptr m5005 0) (deep (fun z0 => cont 62 (⟨z0⟩ : Raw)) (rowV 4 s40_.2.2.2.1)))), (5009, some (CPred.at (ptr m5009 0) (deep (fun z0 => cont 103 (⟨z0⟩ : Raw)) (rowV 105 s40_.2.2.2.2))))]) (.k 17 rfl .nil) (.k2 5001 5003 rfl rfl (.k2 5005 5009 rfl rfl .nil)) (.k4 3 5 8 9 rfl rfl rfl rfl (.k4 10 11 12 13 rfl rfl rfl rfl (.k2 14 15 rfl rfl .nil))) (.k 5007 rfl .nil) (fun s40_ o_40 h hD40 => ?_)))))))))))))))))
      unfold route_search_find_L3 at h
      refine .open (k := 5001) (g := 5028) rfl rfl (fun s5028 => (.open (k := 5003) (g := 5029) rfl rfl (fun s5029 => (.open (k := 5005) (g := 5030) rfl rfl (fun s5030 => (.open (k := 5009) (g := 5031) rfl rfl (fun s5031 => (.seq (.sn mx (.mv rfl (.c (.le .none (.s rfl) .i) (.nil (.cb rfl h (fun _ h => ?_) fun _ h => ?_)))))))))))))
      ·
       refine .skip (.then (.seq ?_))
       obtain ⟨j_42, h, hK42⟩ := bind_some h
       refine .thenJ (ι := ((List Route_reached) × (List Int) × (List Bool) × (List Route_reached))) (fun j_42 => []) (fun j_42 => [(5001, some (CPred.at (ptr m5001 0) (deep (fun z0 => cont 101 (⟨z0⟩ : Raw)) (rowV 105 j_42.1)))), (5003, some (CPred.at (ptr m5003 0) (deep (fun z0 => cont 61 (⟨z0⟩ : Raw)) (rowV 3 j_42.2.1)))), (5005, some (CPred.at (ptr m5005 0) (deep (fun z0 => cont 62 (⟨z0⟩ : Raw)) (rowV 4 j_42.2.2.1)))), (5009, some (CPred.at (ptr m5009 0) (deep (fun z0 => cont 103 (⟨z0⟩ : Raw)) (rowV 105 j_42.2.2.2))))]) (fun s => j_42 = s) (.k4 3 5 8 9 rfl rfl rfl rfl (.k4 10 11 12 13 rfl rfl rfl rfl (.k2 14 15 rfl rfl (.k 17 rfl .nil)))) (.k 5007 rfl .nil) ?_ (fun j_42' hj42 => ?_)
       ·
        obtain ⟨r7, hv43, h⟩ := bind_some h
        refine .block (.seq (.sn mx (.mv rfl (.fa fd105_0 hfd105_0 rfl (.fa fd58_2 hfd58_2 rfl (.ld ty3 rfl (.c (.call .none (route_back_ok hv43) (.cons (.s rfl) .nil)) (.c (.eqI .none (.s rfl) (.s rfl)) (.nil (.cb rfl h (fun _ h => ?_) fun _ h => ?_))))))))))
        ·
         exact .exit (.thenExit (.blkExit (.close (k := 5001) (g := 5028) (fun z => cont 101 (⟨z⟩ : Raw)) rfl rfl rfl (.close (k := 5003) (g := 5029) (fun z => cont 61 (⟨z⟩ : Raw)) rfl rfl rfl (.close (k := 5005) (g := 5030) (fun z => cont 62 (⟨z⟩ : Raw)) rfl rfl rfl (.close (k := 5009) (g := 5031) (fun z => cont 103 (⟨z⟩ : Raw)) rfl rfl rfl (Ends.j _ (some_eq h))))))))
        ·
         obtain ⟨r8, hv45, h⟩ := bind_some h
         refine .skip (.then (.sr [oo, oo, oo, oo, oo, oo, oo, oo, oo, ([], [18]), ([18], [18]), oo, oo] mx (.cA (.isRef rfl (.load .none ty52 (.s rfl))) (.faA fd105_0 hfd105_0 rfl (.ldA ty58 rfl (.mvA rfl (.cA (.call .none (route_search_next_ok hv45) (.cons (.s rfl) (.cons (.s rfl) (.cons (.s rfl) .nil)))) (.mvA rfl (.exA rfl rfl (.exA rfl rfl (.exA rfl rfl (.al zo58 rfl (.st ty58 rfl rfl rfl (.asnA rfl (.asnA rfl (.nil (.freeze (t := 18) rfl rfl (.k2 5001 5003 rfl rfl (.k2 5005 5007 rfl rfl (.k2 5009 5028 rfl rfl (.k2 5029 5030 rfl rfl (.k 5031 rfl .nil))))) rfl (.seq (.sn mx (.mv rfl (.c (.not .none (.s rfl)) (.nil (.cb rfl h (fun _ h => ?_) fun _ h => ?_)))))))))))))))))))))))
         ·
          exact .exit (.thenExit (.blkExit (.close (k := 5001) (g := 5028) (fun z => cont 101 (⟨z⟩ : Raw)) rfl rfl rfl (.close (k := 5003) (g := 5029) (fun z => cont 61 (⟨z⟩ : Raw)) rfl rfl rfl (.close (k := 5005) (g := 5030) (fun z => cont 62 (⟨z⟩ : Raw)) rfl rfl rfl (.close (k := 5009) (g := 5031) (fun z => cont 103 (⟨z⟩ : Raw)) rfl rfl rfl (Ends.j _ (some_eq h))))))))
         ·
          refine .skip (.then (.sn mx (.fa fd105_1 hfd105_1 rfl (.ld ty3 rfl (.asn rfl (.nil (.seq (.sn mx (.mv rfl (.fa fd105_0 hfd105_0 rfl (.fa fd58_2 hfd58_2 rfl (.ld ty3 rfl (.c (.neI .none (.s rfl) (.s rfl)) (.nil ?_))))))))))))))
          obtain ⟨j_47, h, hK47⟩ := bind_some h
          refine .thenJ (ι := Int) (fun j_47 => [(21, ⟨True, rep j_47⟩)]) (fun j_47 => []) (fun s => j_47 = s) (.k4 3 5 8 9 rfl rfl rfl rfl (.k4 10 11 12 13 rfl rfl rfl rfl (.k4 14 15 17 18 rfl rfl rfl rfl (.k 19 rfl .nil)))) (.k2 5001 5003 rfl rfl (.k2 5005 5007 rfl rfl (.k2 5009 5028 rfl rfl (.k2 5029 5030 rfl rfl (.k 5031 rfl .nil))))) ?_ (fun j_47' hj47 => ?_)
          ·
           refine .cb rfl h (fun _ h => ?_) fun _ h => ?_
           ·
            obtain ⟨bends1, hv49, h⟩ := bnd_some h
            exact .rn mx (.mv rfl (.adi rfl (.ra hv49 rfl (.nil (Ends.j _ (some_eq h))))))
           ·
            exact .skip (Ends.j _ (some_eq h))
          ·
           subst hj47; have h := hK47; clear hK47
           obtain ⟨r9, hv50, h⟩ := bind_some h
           exact .rg [oo, oo, oo, oo, oo, oo, oo, oo, oo, ([5005, 5030, 5001, 5028, 5003, 5029, 5009, 5031], [5005, 5030, 5001, 5028, 5003, 5029, 5009, 5031])] mx (.mvA rfl (.ldA ty58 rfl (.mvA rfl (.faA fd105_2 hfd105_2 rfl (.ldA ty3 rfl (.mvA rfl (.addA rfl rfl (.cA (.buildF (y := (⟨r8.1, j_47, W (r3.1.long + r8.2.1)⟩ : Route_reached)) .none bu105 zc105 rfl (.cons (.s rfl) (.cons (.s rfl) (.cons (.s rfl) .nil))) (.cons rfl sf105_0 (.cons rfl sf105_1 (.cons rfl sf105_2 .nil)))) (.mvA rfl (.cW (.callClo [5005, 5030, 5001, 5028, 5003, 5029, 5009, 5031] (Ss := [rep (⟨r8.1, j_47, W (r3.1.long + r8.2.1)⟩ : Route_reached), rep k1]) (Cs := [ref (some s1), isV (ptr m5005 0), isV (ptr m5001 0), isV (ptr m5003 0), ref (⟨ptr m5009 0⟩ : Raw)]) (.s rfl) (route_search_find_1_ok hv50) (.cons (.s rfl) (.cons (.s rfl) .nil)) (.cons (k := 5005) rfl (.cons (k := 5030) rfl (.cons (k := 5001) rfl (.cons (k := 5028) rfl (.cons (k := 5003) rfl (.cons (k := 5029) rfl (.cons (k := 5009) rfl (.cons (k := 5031) rfl .nil)))))))) rfl (by decide) (by decide) (by intro d h; cases h; decide)) (.nil (.blkNormal (Ends.j _ (some_eq h))))))))))))))
       ·
        subst hj42; have h := hK42; clear hK42
        obtain ⟨side1, hv51, h⟩ := bnd_some h
        exact .open (k := 5001) (g := 5032) rfl rfl (fun s5032 => (.open (k := 5003) (g := 5033) rfl rfl (fun s5033 => (.open (k := 5005) (g := 5034) rfl rfl (fun s5034 => (.open (k := 5009) (g := 5035) rfl rfl (fun s5035 => (.rn mx (.mv rfl (.adi rfl (.ra hv51 rfl (.nil (.close (k := 5001) (g := 5032) (fun z => cont 101 (⟨z⟩ : Raw)) rfl rfl rfl (.close (k := 5003) (g := 5033) (fun z => cont 61 (⟨z⟩ : Raw)) rfl rfl rfl (.close (k := 5005) (g := 5034) (fun z => cont 62 (⟨z⟩ : Raw)) rfl rfl rfl (.close (k := 5009) (g := 5035) (fun z => cont 103 (⟨z⟩ : Raw)) rfl rfl rfl (Ends.ag (some_eq h))))))))))))))))))
      ·
       refine .exit (.thenExit (.thenExit (.blkExit (.blkNormal (.close (k := 5001) (g := 5028) (fun z => cont 101 (⟨z⟩ : Raw)) rfl rfl rfl (.close (k := 5003) (g := 5029) (fun z => cont 61 (⟨z⟩ : Raw)) rfl rfl rfl (.close (k := 5005) (g := 5030) (fun z => cont 62 (⟨z⟩ : Raw)) rfl rfl rfl (.close (k := 5009) (g := 5031) (fun z => cont 103 (⟨z⟩ : Raw)) rfl rfl rfl ?_))))))))
       replace h := hD40 _ (some_eq h)
       exact Ends.ag (some_eq h)
  ·
   refine .exit (.thenExit (.thenExit (.blkExit ?_)))
   replace h := hD16 _ (some_eq h)
   exact Ends.j _ (some_eq h)
 ·
  have h := resb_nx hK15 hj15
  refine .sn mx (.c (.assign .none (.const (x := ([] : (List Route_spot))) (fun M w => ⟨_, ⟨none, 0, rfl, Nat.le_refl _, by decide, rfl⟩, rfl⟩))) (.asb (.nil (.ret ?_))))
  obtain rfl := some_eq h
  exact Ends.ret2 (.inl rfl) Try.results26 (ResOK.tmp rfl trivial Imp.refl) (ResOK.tmp rfl trivial Imp.refl)

theorem route_Route_ok {t1 : Task} {r : ((List Point) × Int)}  (h : route_Route t1 = some r) : FSpec Try.prog 6 [rep t1] (tup [rep r.1, rep r.2]) := by
 unfold route_Route at h
 obtain ⟨e1, hv1, h⟩ := bind_some h
 refine FSpec.i Try.func6 rfl Try.ntmps6 rfl (fun F => (.sn mx (.c (.box .none (.s rfl)) (.c (.assign .none (.const (x := ([] : (List Point))) (fun M w => ⟨_, ⟨none, 0, rfl, Nat.le_refl _, by decide, rfl⟩, rfl⟩))) (.asi (.nil (.seq (.sn mx (.ld ty26 rfl (.c (.call .none (route_Check_ok hv1) (.cons (.s rfl) .nil)) (.asn rfl (.nil (.sn mx (.mv rfl (.nei rfl (.nil (.cb rfl h (fun _ h => ?_) fun _ h => ?_)))))))))))))))))
 ·
  refine .sn mx (.mv rfl (.c (.assign .none (.const (x := ([] : (List Point))) (fun M w => ⟨_, ⟨none, 0, rfl, Nat.le_refl _, by decide, rfl⟩, rfl⟩))) (.asn rfl (.nil (.ret (.thenRet ?_))))))
  obtain rfl := some_eq h
  exact Ends.ret2 (.inl rfl) Try.results6 (ResOK.tmp rfl trivial Imp.refl) (ResOK.tmp rfl trivial Imp.refl)
 ·
  obtain ⟨r1, hv3, h⟩ := bind_some h
  obtain ⟨walls1, hv4, h⟩ := bind_some h
  obtain ⟨r2, hv5, h⟩ := bind_some h
  obtain ⟨r3, hv6, h⟩ := bind_some h
  refine .skip (.then (.sr [oo, oo, oo, oo, oo, ([], [5]), ([], [6]), ([5], [5]), ([6], [6])] mx (.ldA ty26 rfl (.cA (.call .none (route_ends_ok hv3) (.cons (.s rfl) .nil)) (.mvA rfl (.exA rfl rfl (.exA rfl rfl (.al zo23 rfl (.al zo23 rfl (.st ty23 rfl rfl rfl (.st ty23 rfl rfl rfl (.nil (.freeze (t := 5) rfl rfl (.k 6 rfl .nil) rfl (.freeze (t := 6) rfl rfl SubB.nil rfl (.sn mx (.ld ty26 rfl (.c (.call .none (route_zones_ok hv4) (.cons (.s rfl) .nil)) (.asn rfl (.nil (.seq (.sn mx (.mv rfl (.ld ty23 rfl (.ld ty23 rfl (.c (.call .none (route_free_ok hv5) (.cons (.s rfl) (.cons (.s rfl) (.cons (.s rfl) .nil)))) (.c (.not .none (.s rfl)) (.mv rfl (.mg rfl rfl rfl (.c (.load (.at rfl rfl) ty23 (.s rfl)) (.c (.load (.at rfl rfl) ty23 (.s rfl)) (.c (.callIf (.at rfl rfl) fnok24 (fun hg => route_free_ok ((fun hg => gd_some hv6 ((notT hg.2))) hg)) (.cons (.tmp rfl id) (.cons (.tmp rfl id) (.cons (.tmp rfl id) .nil))) (fun h => h)) (.c (.not (.at rfl rfl) (.tmp rfl id)) (.po rfl rfl (.nil (.cb rfl h (fun _ h => ?_) fun _ h => ?_)))))))))))))))))))))))))))))))))))
  ·
   refine .sn mx (.c (.assign .none (.const (x := ([] : (List Point))) (fun M w => ⟨_, ⟨none, 0, rfl, Nat.le_refl _, by decide, rfl⟩, rfl⟩))) (.asi (.nil (.ret (.thenRet ?_)))))
   obtain rfl := some_eq h
   exact Ends.ret2 (.inl rfl) Try.results6 (ResOK.tmp rfl trivial Imp.refl) (ResOK.tmp rfl trivial Imp.refl)
  ·
   obtain ⟨s1, hv8, h⟩ := bind_some h
   obtain ⟨p1, hv9, h⟩ := bind_some h
   obtain ⟨r4, hv10, h⟩ := bind_some h
   obtain ⟨r5, hv11, h⟩ := bind_some h
   obtain ⟨r6, hv12, h⟩ := bind_some h
   obtain ⟨r7, hv13, h⟩ := bind_some h
   refine .skip (.then (.sn mx (.ld ty26 rfl (.c (.isRef hv9 (.call .none (route_newSearch_ok hv8) (.cons (.s rfl) .nil))) (.asn rfl (.nil (.sn mx (.mv rfl (.mv rfl (.ld ty23 rfl (.fa fd26_1 hfd26_1 rfl (.ld ty3 rfl (.c (.call .none (route_search_spotAt_ok hv10) (.cons (.s rfl) (.cons (.s rfl) (.cons (.s rfl) .nil)))) (.mv rfl (.ld ty23 rfl (.fa fd26_3 hfd26_3 rfl (.ld ty3 rfl (.c (.call .none (route_back_ok hv11) (.cons (.s rfl) .nil)) (.c (.call .none (route_search_spotAt_ok hv12) (.cons (.s rfl) (.cons (.s rfl) (.cons (.s rfl) .nil)))) (.c (.call .none (route_search_find_ok hv13) (.cons (.s rfl) (.cons (.s rfl) (.cons (.s rfl) .nil)))) (.mv rfl (.ex rfl rfl (.ex rfl rfl (.asn rfl (.asn rfl (.nil (.seq (.sn mx (.mv rfl (.c (.not .none (.s rfl)) (.nil (.cb rfl h (fun _ h => ?_) fun _ h => ?_))))))))))))))))))))))))))))))))
   ·
    refine .sn mx (.c (.assign .none (.const (x := ([] : (List Point))) (fun M w => ⟨_, ⟨none, 0, rfl, Nat.le_refl _, by decide, rfl⟩, rfl⟩))) (.asi (.nil (.ret (.thenRet ?_)))))
    obtain rfl := some_eq h
    exact Ends.ret2 (.inl rfl) Try.results6 (ResOK.tmp rfl trivial Imp.refl) (ResOK.tmp rfl trivial Imp.refl)
   ·
    obtain ⟨l1, hv15, h⟩ := bnd_some h
    refine .skip (.then (.sr [oo, oo, ([], [59]), ([59], [11, 59])] mx (.faA fd26_0 hfd26_0 rfl (.ldA ty23 rfl (.cW (.buildSliceO (xs := [_]) rfl sl27 ty23 hz23 (.cons (.s rfl) .nil) rfl (by decide)) (.cW (.passRow rfl (.tmp rfl)) (.nil (.reB (t := 11) rfl (congrArg (rowV 23) hv15) (.nameRow (t := 11) (g := 5001) rfl rfl rfl (fun s5001 => (.seq (.sn mx (.asi (.nil ?_))))))))))))))
    obtain ⟨j_16, h, hK16⟩ := bind_some h
    refine .thenJ (ι := (List Point)) (fun j_16 => []) (fun j_16 => [(11, some (rowV 23 j_16))]) (fun s => j_16 = s) (.k 1 rfl .nil) SubB.nil ?_ (fun j_16' hj16 => ?_)
    ·
     refine .block (.anon (t := 11) (g := 5001) rfl rfl trivial rfl (.loopL h (fun s17_ => [(12, ⟨True, rep s17_.2⟩)]) (fun s17_ => [(11, some (rowV 23 s17_.1))]) (.k 12 rfl .nil) (.k 11 rfl .nil) (.k2 1 8 rfl rfl (.k 9 rfl .nil)) SubB.nil (fun s17_ o_17 h hD17 => ?_)))
     unfold route_Route_L1 at h
     refine .nameRow (t := 11) (g := 5002) rfl rfl rfl (fun s5002 => (.seq (.sn mx (.mv rfl (.mv rfl (.ln sl54 rfl (.lt rfl rfl (.nil (.cb rfl h (fun _ h => ?_) fun _ h => ?_)))))))))
     ·
      refine .skip (.then (.seq ?_))
      obtain ⟨j_19, h, hK19⟩ := bind_some h
      refine .thenJ (ι := (List Point)) (fun j_19 => []) (fun j_19 => [(11, some (rowV 23 j_19))]) (fun s => j_19 = s) (.k4 1 8 9 12 rfl rfl rfl rfl .nil) SubB.nil ?_ (fun j_19' hj19 => ?_)
      ·
       obtain ⟨hn20, h⟩ := need_some h
       obtain ⟨hn21, h⟩ := need_some h
       refine .block (.sn mx (.mv rfl (.mv rfl (.ix sl54 ty58 rfl rfl hn20 (.fa fd58_2 hfd58_2 rfl (.ld ty3 rfl (.mv rfl (.mv rfl (.c (.subW .none (.s rfl) .i) (.ix sl54 ty58 rfl rfl hn21 (.fa fd58_2 hfd58_2 rfl (.ld ty3 rfl (.c (.neI .none (.s rfl) (.s rfl)) (.nil (.cb rfl h (fun _ h => ?_) fun _ h => ?_)))))))))))))))
       ·
        obtain ⟨hn23, h⟩ := need_some h
        obtain ⟨hn24, h⟩ := need_some h
        obtain ⟨hn25, h⟩ := need_some h
        obtain ⟨hn26, h⟩ := need_some h
        obtain ⟨hn27, h⟩ := need_some h
        exact .rg [oo, oo, oo, oo, oo, oo, oo, oo, oo, oo, oo, oo, oo, oo, oo, oo, oo, oo, oo, oo, oo, oo, oo, oo, oo, oo, oo, ([5002], [105, 5002]), ([105], [11, 105])] mx (.mvA rfl (.mvA rfl (.cA (.nilCheckR .none (.s rfl)) (.faA fd64_0 hfd64_0 rfl (.ldA ty61 rfl (.mvA rfl (.mvA rfl (.cA (.subW .none (.s rfl) .i) (.ixA sl54 ty58 rfl rfl hn23 (.faA fd58_0 hfd58_0 rfl (.ldA ty3 rfl (.ixA sl61 ty3 rfl rfl hn24 (.ldA ty3 rfl (.mvA rfl (.cA (.nilCheckR .none (.s rfl)) (.faA fd64_1 hfd64_1 rfl (.ldA ty61 rfl (.mvA rfl (.mvA rfl (.cA (.subW .none (.s rfl) .i) (.ixA sl54 ty58 rfl rfl hn25 (.faA fd58_1 hfd58_1 rfl (.ldA ty3 rfl (.ixA sl61 ty3 rfl rfl hn26 (.ldA ty3 rfl (.cA (.buildF (y := (⟨gx p1.xs ((gx r7.1 (W (s17_.2 - 1))).x), gx p1.ys ((gx r7.1 (W (s17_.2 - 1))).y)⟩ : Point)) .none bu23 zc23 rfl (.cons (.s rfl) (.cons (.s rfl) .nil)) (.cons rfl sf23_0 (.cons rfl sf23_1 .nil))) (.cA (.buildSlice (xs := [_]) .none sl27 ty23 hz23 (.cons (.s rfl) .nil) rfl (by decide)) (.cW (.append (k := 5002) rk27 rfl (.told (.s rfl) rfl) (.s rfl) hn27) (.consWD (.passRow rfl (.tmp rfl)) rfl rfl (.nil (.blkNormal (Ends.j _ (some_eq h)))))))))))))))))))))))))))))))))
       ·
        exact .skip (.blkNormal (.anon (t := 11) (g := 5002) rfl rfl trivial rfl (Ends.j _ (some_eq h))))
      ·
       subst hj19; have h := hK19; clear hK19
       obtain ⟨i1, hv28, h⟩ := bnd_some h
       exact .nameRow (t := 11) (g := 5003) rfl rfl rfl (fun s5003 => (.rn mx (.mv rfl (.adi rfl (.ra hv28 rfl (.nil (.anon (t := 11) (g := 5003) rfl rfl trivial rfl (Ends.ag (some_eq h)))))))))
     ·
      refine .exit (.thenExit (.thenExit (.blkExit (.anon (t := 11) (g := 5002) rfl rfl trivial rfl ?_))))
      replace h := hD17 _ (some_eq h)
      exact Ends.j _ (some_eq h)
    ·
     subst hj16; have h := hK16; clear hK16
     obtain ⟨hn29, h⟩ := need_some h
     refine .nameRow (t := 11) (g := 5004) rfl rfl rfl (fun s5004 => (.sr [oo, oo, oo, oo, ([5004], [110, 5004]), ([110], [2, 110]), oo] mx (.mvA rfl (.faA fd26_2 hfd26_2 rfl (.ldA ty23 rfl (.cA (.buildSlice (xs := [_]) .none sl27 ty23 hz23 (.cons (.s rfl) .nil) rfl (by decide)) (.cW (.append (k := 5004) rk27 rfl (.told (.s rfl) rfl) (.s rfl) hn29) (.cW (.passRow rfl (.tmp rfl)) (.cA (.assign .none .i) (.nil (.freezeRowA (t := 2) rfl rfl SubB.nil rfl (.ret ?_))))))))))))
     obtain rfl := some_eq h
     exact Ends.ret2 (.inl rfl) Try.results6 (ResOK.tmp rfl trivial Imp.refl) (ResOK.tmp rfl trivial Imp.refl)

theorem geom_points_ok {l1 : (List Point)} {r : Int}  (h : geom_points l1 = some r) : FSpec Try.prog 70 [rep l1] (rep r) := by
 unfold geom_points at h
 refine FSpec.i Try.func70 rfl Try.ntmps70 rfl (fun F => (.sn mx (.asi (.nil (.seq (.sn mx (.mv rfl (.ln sl27 rfl (.mvi (.nil ?_))))))))))
 obtain ⟨o_1, h, hK1⟩ := bindR_some h
 refine .tJ (fun s => o_1 = Res.nx s) Sub.nil SubB.nil ?_ (fun j_1 hj1 => ?_)
 ·
  refine .block (.rforEL h (fun p2_ => [(8, ⟨True, rep p2_.1⟩)]) (fun p2_ => []) (.k 8 rfl .nil) SubB.nil (.k2 6 7 rfl rfl .nil) SubB.nil (fun p2_ o_2 h hD2 => (.sn mx (.lt rfl rfl (.nil (.seq (.cb rfl h (fun _ h => ?_) fun _ h => ?_)))))))
  ·
   refine .skip (.then (.seq ?_))
   obtain ⟨o_4, h, hK4⟩ := bindD_some h
   unfold geom_points_L1 at h
   refine .tJ (fun s => o_4 = Res.nx s) (.k2 6 7 rfl rfl (.k 8 rfl .nil)) SubB.nil ?_ (fun j_4 hj4 => ?_)
   ·
    obtain ⟨hn5, h⟩ := need_some h
    obtain ⟨v1, hv6, h⟩ := bnd_some h
    obtain ⟨e1, hv7, h⟩ := bind_some h
    refine .block (.sr [oo, oo, ([], [4]), ([4], [4])] mx (.ixA sl27 ty23 rfl rfl hn5 (.rlA hv6 ty23 rfl (.al zo23 rfl (.st ty23 rfl rfl rfl (.nil (.freeze (t := 4) rfl rfl SubB.nil rfl (.sn mx (.ld ty23 rfl (.c (.call .none (geom_CheckPoint_ok hv7) (.cons (.s rfl) .nil)) (.asn rfl (.nil (.sn mx (.mv rfl (.nei rfl (.nil (.cb rfl h (fun _ h => ?_) fun _ h => ?_)))))))))))))))))
    ·
     refine .sn mx (.mv rfl (.asn rfl (.nil (.ret (.blkRet (.thenRet (.thenRet (.blkRet (.thenRet ?_)))))))))
     replace h := resd_ab hK4 (some_eq h)
     replace h := hD2 _ (some_eq h)
     replace h := resb_ab hK1 (some_eq h)
     obtain rfl := some_eq h
     exact Ends.rt Try.results70 rfl
    ·
     exact .skip (.blkNormal (Ends.j _ (some_eq h)))
   ·
    have h := resd_nx hK4 hj4
    exact .rn mx (.adi rfl (.mv rfl (.nil (Ends.ag (some_eq h)))))
  ·
   refine .exit (.thenExit (.thenExit (.blkExit ?_)))
   replace h := hD2 _ (some_eq h)
   exact Ends.j _ (some_eq h)
 ·
  have h := resb_nx hK1 hj1
  refine .sn mx (.asi (.nil (.ret ?_)))
  obtain rfl := some_eq h
  exact Ends.rt Try.results70 rfl

theorem geom_CheckPoints_ok {l1 : (List Point)} {r : Int}  (h : geom_CheckPoints l1 = some r) : FSpec Try.prog 29 [rep l1] (rep r) := by
 unfold geom_CheckPoints at h
 refine FSpec.i Try.func29 rfl Try.ntmps29 rfl (fun F => (.sn mx (.asi (.nil (.seq (.sn mx (.mv rfl (.ln sl27 rfl (.c (.gt .none (.s rfl) .i) (.nil (.cb rfl h (fun _ h => ?_) fun _ h => ?_)))))))))))
 ·
  refine .sn mx (.asi (.nil (.ret (.thenRet ?_))))
  obtain rfl := some_eq h
  exact Ends.rt Try.results29 rfl
 ·
  obtain ⟨r1, hv2, h⟩ := bind_some h
  refine .skip (.then (.sn mx (.mv rfl (.c (.call .none (geom_points_ok hv2) (.cons (.s rfl) .nil)) (.asn rfl (.nil (.ret ?_)))))))
  obtain rfl := some_eq h
  exact Ends.rt Try.results29 rfl

theorem geom_CheckPath_ok {l1 : (List Point)} {r : Int}  (h : geom_CheckPath l1 = some r) : FSpec Try.prog 34 [rep l1] (rep r) := by
 unfold geom_CheckPath at h
 obtain ⟨e1, hv1, h⟩ := bind_some h
 refine FSpec.i Try.func34 rfl Try.ntmps34 rfl (fun F => (.sn mx (.asi (.nil (.seq (.sn mx (.mv rfl (.c (.call .none (geom_CheckPoints_ok hv1) (.cons (.s rfl) .nil)) (.asn rfl (.nil (.sn mx (.mv rfl (.nei rfl (.nil (.cb rfl h (fun _ h => ?_) fun _ h => ?_)))))))))))))))
 ·
  refine .sn mx (.mv rfl (.asn rfl (.nil (.ret (.thenRet ?_)))))
  obtain rfl := some_eq h
  exact Ends.rt Try.results34 rfl
 ·
  refine .skip (.then (.seq (.sn mx (.mv rfl (.ln sl27 rfl (.c (.lt .none (.s rfl) .i) (.nil (.cb rfl h (fun _ h => ?_) fun _ h => ?_))))))))
  ·
   refine .sn mx (.asi (.nil (.ret (.thenRet ?_))))
   obtain rfl := some_eq h
   exact Ends.rt Try.results34 rfl
  ·
   refine .skip (.then (.seq (.sn mx (.asi (.nil ?_)))))
   obtain ⟨o_4, h, hK4⟩ := bindR_some h
   refine .tJ (fun s => o_4 = Res.nx s) Sub.nil SubB.nil ?_ (fun j_4 hj4 => ?_)
   ·
    refine .block (.loopL h (fun s5_ => [(4, ⟨True, rep s5_⟩)]) (fun s5_ => []) (.k 4 rfl .nil) SubB.nil (.k 0 rfl .nil) SubB.nil (fun s5_ o_5 h hD5 => ?_))
    unfold geom_CheckPath_L1 at h
    refine .seq (.sn mx (.mv rfl (.mv rfl (.ln sl27 rfl (.lt rfl rfl (.nil (.cb rfl h (fun _ h => ?_) fun _ h => ?_)))))))
    ·
     obtain ⟨hn7, h⟩ := need_some h
     obtain ⟨hn8, h⟩ := need_some h
     obtain ⟨hn9, h⟩ := need_some h
     obtain ⟨hn10, h⟩ := need_some h
     refine .skip (.then (.seq (.block (.sn mx (.mv rfl (.mv rfl (.ix sl27 ty23 rfl rfl hn7 (.fa fd23_0 hfd23_0 rfl (.ld ty3 rfl (.mv rfl (.mv rfl (.c (.subW .none (.s rfl) .i) (.ix sl27 ty23 rfl rfl hn8 (.fa fd23_0 hfd23_0 rfl (.ld ty3 rfl (.c (.eqI .none (.s rfl) (.s rfl)) (.mv rfl (.mv rfl (.ix sl27 ty23 rfl rfl hn9 (.fa fd23_1 hfd23_1 rfl (.ld ty3 rfl (.mv rfl (.mv rfl (.c (.subW .none (.s rfl) .i) (.ix sl27 ty23 rfl rfl hn10 (.fa fd23_1 hfd23_1 rfl (.ld ty3 rfl (.c (.eqI .none (.s rfl) (.s rfl)) (.c (.eqS .none (eqAt_bool Try.underlying4) (.s rfl) (.s rfl)) (.nil (.cb rfl h (fun _ h => ?_) fun _ h => ?_)))))))))))))))))))))))))))))))
     ·
      refine .sn mx (.asi (.nil (.ret (.blkRet (.thenRet (.thenRet (.blkRet (.thenRet ?_))))))))
      replace h := hD5 _ (some_eq h)
      replace h := resb_ab hK4 (some_eq h)
      obtain rfl := some_eq h
      exact Ends.rt Try.results34 rfl
     ·
      obtain ⟨i1, hv12, h⟩ := bnd_some h
      exact .skip (.blkNormal (.then (.rn mx (.mv rfl (.adi rfl (.ra hv12 rfl (.nil (Ends.ag (some_eq h)))))))))
    ·
     refine .exit (.thenExit (.thenExit (.blkExit ?_)))
     replace h := hD5 _ (some_eq h)
     exact Ends.j _ (some_eq h)
   ·
    have h := resb_nx hK4 hj4
    refine .sn mx (.asi (.nil (.ret ?_)))
    obtain rfl := some_eq h
    exact Ends.rt Try.results34 rfl

theorem route_heading_1_ok {n1 : Int} {r : Int}  (h : route_heading_1 n1 = some r) : FSpec Try.prog 88 [rep n1] (rep r) := by
 unfold route_heading_1 at h
 refine FSpec.i Try.func88 rfl Try.ntmps88 rfl (fun F => (.sn mx (.asi (.nil (.sn mx (.mv rfl (.c (.max2 .none (.s rfl) .i) (.c (.min2 .none (.s rfl) .i) (.asn rfl (.nil (.ret ?_)))))))))))
 obtain rfl := some_eq h
 exact Ends.rt Try.results88 rfl

theorem route_heading_ok {a1 : Point} {b1 : Point} {r : Point}  (h : route_heading a1 b1 = some r) : FSpec Try.prog 71 [rep a1, rep b1] (rep r) := by
 unfold route_heading at h
 obtain ⟨v1, hv1, h⟩ := bnd_some h
 refine FSpec.i Try.func71 rfl Try.ntmps71 rfl (fun F => (.sr [oo, oo, ([], [4])] mx (.cA (.box .none (.s rfl)) (.cA (.box .none (.s rfl)) (.al zo23 rfl (.nil (.reB (t := 4) rfl (congrArg (cont 23) hv1) (.nameBox (t := 4) (g := 5001) rfl rfl (fun m5001 => (.sn mx (.c (.assign .none (Opd.func (ι := Int × Int) (pre := fun i => route_heading_1 i.1 = some i.2) (Ss := fun i => [rep i.1]) (S := fun i => rep i.2) fnok88 (fun i h => route_heading_1_ok h))) ?_)))))))))))
 obtain ⟨r1, hv2, h⟩ := bind_some h
 obtain ⟨r2, hv3, h⟩ := bind_some h
 obtain ⟨v2, hv4, h⟩ := bnd_some h
 refine .nil (.sr [oo, oo, oo, oo, oo, oo, oo, oo, oo, oo, oo, oo, oo, oo, oo, ([5001], [5001])] mx (.mvA rfl (.faA fd23_0 hfd23_0 rfl (.ldA ty3 rfl (.faA fd23_0 hfd23_0 rfl (.ldA ty3 rfl (.subA rfl rfl (.cA (.callV (W (b1.X - a1.X), r1) .none (.s rfl) (fun _ => hv2) (.cons (.s rfl) .nil)) (.mvA rfl (.faA fd23_1 hfd23_1 rfl (.ldA ty3 rfl (.faA fd23_1 hfd23_1 rfl (.ldA ty3 rfl (.subA rfl rfl (.cA (.callV (W (b1.Y - a1.Y), r2) .none (.s rfl) (fun _ => hv3) (.cons (.s rfl) .nil)) (.cA (.re hv4 (.buildF (y := (⟨r1, r2⟩ : Point)) .none bu23 zc23 rfl (.cons (.s rfl) (.cons (.s rfl) .nil)) (.cons rfl sf23_0 (.cons rfl sf23_1 .nil)))) (.s0 5001 ty23 rfl rfl rfl (.nil (.fb 5001 [4] rfl (.cons (t := 4) rfl trivial .nil) (.ret ?_))))))))))))))))))))
 obtain rfl := some_eq h
 exact Ends.ret1 (.inl rfl) Try.results71 (ResOK.cellR ty23 rfl trivial Imp.refl)

theorem route_opposite_ok {d1 : Point} {r : Point}  (h : route_opposite d1 = some r) : FSpec Try.prog 72 [rep d1] (rep r) := by
 unfold route_opposite at h
 obtain ⟨v1, hv1, h⟩ := bnd_some h
 obtain ⟨v2, hv2, h⟩ := bnd_some h
 refine FSpec.i Try.func72 rfl Try.ntmps72 rfl (fun F => (.sr [oo, ([], [2])] mx (.cA (.box .none (.s rfl)) (.al zo23 rfl (.nil (.reB (t := 2) rfl (congrArg (cont 23) hv1) (.nameBox (t := 2) (g := 5001) rfl rfl (fun m5001 => (.sr [oo, oo, oo, oo, oo, oo, oo, ([5001], [5001])] mx (.faA fd23_0 hfd23_0 rfl (.ldA ty3 rfl (.cA (.negW .none (.s rfl)) (.faA fd23_1 hfd23_1 rfl (.ldA ty3 rfl (.cA (.negW .none (.s rfl)) (.cA (.re hv2 (.buildF (y := (⟨W (-d1.X), W (-d1.Y)⟩ : Point)) .none bu23 zc23 rfl (.cons (.s rfl) (.cons (.s rfl) .nil)) (.cons rfl sf23_0 (.cons rfl sf23_1 .nil)))) (.s0 5001 ty23 rfl rfl rfl (.nil (.fb 5001 [2] rfl (.cons (t := 2) rfl trivial .nil) (.ret ?_))))))))))))))))))))
 obtain rfl := some_eq h
 exact Ends.ret1 (.inl rfl) Try.results72 (ResOK.cellR ty23 rfl trivial Imp.refl)

theorem geom_apart_ok {a1 : Point} {b1 : Point} {r : Int}  (h : geom_apart a1 b1 = some r) : FSpec Try.prog 56 [rep a1, rep b1] (rep r) := by
 unfold geom_apart at h
 obtain ⟨x1, hv1, h⟩ := bnd_some h
 obtain ⟨y1, hv2, h⟩ := bnd_some h
 refine FSpec.i Try.func56 rfl Try.ntmps56 rfl (fun F => (.sn mx (.c (.box .none (.s rfl)) (.c (.box .none (.s rfl)) (.asi (.nil (.sn mx (.fa fd23_0 hfd23_0 rfl (.ld ty3 rfl (.fa fd23_0 hfd23_0 rfl (.ld ty3 rfl (.sub rfl rfl (.fa fd23_1 hfd23_1 rfl (.ld ty3 rfl (.fa fd23_1 hfd23_1 rfl (.ld ty3 rfl (.sub rfl rfl (.ra hv1 rfl (.ra hv2 rfl (.nil (.sn mx (.mv rfl (.mv rfl (.c (.negW .none (.s rfl)) (.c (.max2 .none (.s rfl) (.s rfl)) (.mv rfl (.mv rfl (.c (.negW .none (.s rfl)) (.c (.max2 .none (.s rfl) (.s rfl)) (.add rfl rfl (.asn rfl (.nil (.ret ?_)))))))))))))))))))))))))))))))))
 obtain rfl := some_eq h
 exact Ends.rt Try.results56 rfl

theorem geom_length_ok {l1 : (List Point)} {r : Int}  (h : geom_length l1 = some r) : FSpec Try.prog 35 [rep l1] (rep r) := by
 unfold geom_length at h
 refine FSpec.i Try.func35 rfl Try.ntmps35 rfl (fun F => (.sn mx (.asi (.nil (.sn mx (.asi (.nil (.seq (.sn mx (.asi (.nil ?_)))))))))))
 obtain ⟨j_1, h, hK1⟩ := bind_some h
 refine .thenJ (ι := Int) (fun j_1 => [(3, ⟨True, rep j_1⟩)]) (fun j_1 => []) (fun s => j_1 = s) Sub.nil SubB.nil ?_ (fun j_1' hj1 => ?_)
 ·
  refine .block (.loopL h (fun s2_ => [(3, ⟨True, rep s2_.1⟩), (4, ⟨True, rep s2_.2⟩)]) (fun s2_ => []) (.k2 3 4 rfl rfl .nil) SubB.nil (.k 0 rfl .nil) SubB.nil (fun s2_ o_2 h hD2 => ?_))
  unfold geom_length_L1 at h
  refine .seq (.sn mx (.mv rfl (.mv rfl (.ln sl27 rfl (.lt rfl rfl (.nil (.cb rfl h (fun _ h => ?_) fun _ h => ?_)))))))
  ·
   obtain ⟨hn4, h⟩ := need_some h
   obtain ⟨hn5, h⟩ := need_some h
   obtain ⟨r1, hv6, h⟩ := bind_some h
   obtain ⟨n1, hv7, h⟩ := bnd_some h
   obtain ⟨i1, hv8, h⟩ := bnd_some h
   exact .skip (.then (.seq (.block (.rn mx (.mv rfl (.mv rfl (.mv rfl (.c (.subW .none (.s rfl) .i) (.ix sl27 ty23 rfl rfl hn4 (.ld ty23 rfl (.mv rfl (.mv rfl (.ix sl27 ty23 rfl rfl hn5 (.ld ty23 rfl (.c (.call .none (geom_apart_ok hv6) (.cons (.s rfl) (.cons (.s rfl) .nil))) (.add rfl rfl (.ra hv7 rfl (.nil (.blkNormal (.then (.rn mx (.mv rfl (.adi rfl (.ra hv8 rfl (.nil (Ends.ag (some_eq h)))))))))))))))))))))))))))
  ·
   refine .exit (.thenExit (.thenExit (.blkExit ?_)))
   replace h := hD2 _ (some_eq h)
   exact Ends.j _ (some_eq h)
 ·
  subst hj1; have h := hK1; clear hK1
  refine .sn mx (.mv rfl (.asn rfl (.nil (.ret ?_))))
  obtain rfl := some_eq h
  exact Ends.rt Try.results35 rfl

theorem geom_Length_ok {l1 : (List Point)} {r : (Int × Int)}  (h : geom_Length l1 = some r) : FSpec Try.prog 9 [rep l1] (tup [rep r.1, rep r.2]) := by
 unfold geom_Length at h
 obtain ⟨e1, hv1, h⟩ := bind_some h
 refine FSpec.i Try.func9 rfl Try.ntmps9 rfl (fun F => (.sn mx (.asi (.asi (.nil (.seq (.sn mx (.mv rfl (.c (.call .none (geom_CheckPath_ok hv1) (.cons (.s rfl) .nil)) (.asn rfl (.nil (.sn mx (.mv rfl (.nei rfl (.nil (.cb rfl h (fun _ h => ?_) fun _ h => ?_))))))))))))))))
 ·
  refine .sn mx (.mv rfl (.asi (.asn rfl (.nil (.ret (.thenRet ?_))))))
  obtain rfl := some_eq h
  exact Ends.ret2 (.inl rfl) Try.results9 (ResOK.tmp rfl trivial Imp.refl) (ResOK.tmp rfl trivial Imp.refl)
 ·
  obtain ⟨r1, hv3, h⟩ := bind_some h
  refine .skip (.then (.sn mx (.mv rfl (.c (.call .none (geom_length_ok hv3) (.cons (.s rfl) .nil)) (.asn rfl (.asi (.nil (.ret ?_))))))))
  obtain rfl := some_eq h
  exact Ends.ret2 (.inl rfl) Try.results9 (ResOK.tmp rfl trivial Imp.refl) (ResOK.tmp rfl trivial Imp.refl)

theorem slices_Clone_Point_ok {s1 : (List Point)} {r : (List Point)}  (h : slices_Clone_Point s1 = some r) : FSpecO Try.prog 50 [rep s1] [] (anyV) [some (rowV 23 r)] := by
 unfold slices_Clone_Point at h
 refine FSpecO.i Try.func50 rfl Try.ntmps50 rfl (fun F => (.sn mx (.c (.assign .none (.const (x := ([] : (List Point))) (fun M w => ⟨_, ⟨none, 0, rfl, Nat.le_refl _, by decide, rfl⟩, rfl⟩))) (.nil (.seq (.sn mx (.mv rfl (.c (.eqNil .none sl27 (.s rfl)) (.nil (.condNil (t := 4) rfl trivial (fun hb1 => ?_) ?_))))))))))
 ·
  replace h := nilc_t h hb1
  refine .sr [([], [2])] mx (.cW (.nilRow (T := 23) (α := Point) rfl) (.nil (.nameRow (t := 2) (g := 5001) rfl rfl rfl (fun s5001 => (.ret (.thenRet (.anon (t := 2) (g := 5001) rfl rfl trivial rfl ?_)))))))
  obtain rfl := some_eq h
  exact Ends.ret1O (.inl rfl) [2] Try.results50 (by decide) (.res rfl rfl) (ResOK.tmp rfl trivial (fun _ _ _ _ => trivial))
 ·
  replace h := nilc_f h
  obtain ⟨hn2, h⟩ := need_some h
  obtain ⟨v1, hv3, h⟩ := bnd_some h
  refine .skip (.then (.sr [([], [5]), oo, ([5], [7, 5]), ([7], [2, 7])] mx (.cW (.buildSliceO (xs := []) rfl sl27 ty23 hz23 .nil rfl (by decide)) (.mvA rfl (.cW (.append (k := 5) rk27 rfl (.tmp rfl) (.s rfl) hn2) (.cW (.passRow rfl (.tmp rfl)) (.nil (.reB (t := 2) rfl (congrArg (rowV 23) hv3) (.nameRow (t := 2) (g := 5002) rfl rfl rfl (fun s5002 => (.ret (.anon (t := 2) (g := 5002) rfl rfl trivial rfl ?_))))))))))))
  obtain rfl := some_eq h
  exact Ends.ret1O (.inl rfl) [2] Try.results50 (by decide) (.res rfl rfl) (ResOK.tmp rfl trivial (fun _ _ _ _ => trivial))

theorem route_right_ok {t1 : Task} {l1 : (List Point)} {r : Bool}  (h : route_right t1 l1 = some r) : FSpec Try.prog 30 [rep t1, rep l1] (rep r) := by
 unfold route_right at h
 obtain ⟨r1, hv1, h⟩ := bind_some h
 obtain ⟨hn2, h⟩ := need_some h
 obtain ⟨hn3, h⟩ := need_some h
 refine FSpec.i Try.func30 rfl Try.ntmps30 rfl (fun F => (.sn mx (.c (.box .none (.s rfl)) (.asb (.nil (.seq (.sn mx (.mv rfl (.c (.call .none (geom_CheckPath_ok hv1) (.cons (.s rfl) .nil)) (.nei rfl (.mv rfl (.mg rfl rfl rfl (.c (.indexAddr (.at rfl rfl) sl27 ty23 (.tmp rfl id) .i (fun hg => hn2 hg.2)) (.lg ty23 rfl rfl rfl (.fg fd26_0 hfd26_0 rfl rfl rfl (.lg ty23 rfl rfl rfl (.c (.neS (.at rfl rfl) eq23 (.tmp rfl id) (.tmp rfl id)) (.po rfl rfl (.mv rfl (.mg rfl rfl rfl (.mg rfl rfl rfl (.c (.len (.at rfl rfl) sl27 (.tmp rfl id)) (.c (.subW (.at rfl rfl) (.tmp rfl id) .i) (.c (.indexAddr (.at rfl rfl) sl27 ty23 (.tmp rfl id) (.tmp rfl id) (fun hg => hn3 hg.2)) (.lg ty23 rfl rfl rfl (.fg fd26_2 hfd26_2 rfl rfl rfl (.lg ty23 rfl rfl rfl (.c (.neS (.at rfl rfl) eq23 (.tmp rfl id) (.tmp rfl id)) (.po rfl rfl (.nil (.cb rfl h (fun _ h => ?_) fun _ h => ?_)))))))))))))))))))))))))))))))
 ·
  refine .sn mx (.asb (.nil (.ret (.thenRet ?_))))
  obtain rfl := some_eq h
  exact Ends.rt Try.results30 rfl
 ·
  obtain ⟨n1, hv5, h⟩ := bnd_some h
  refine .skip (.then (.sn mx (.mv rfl (.ln sl27 rfl (.ra hv5 rfl (.nil (.seq (.sn mx (.asi (.nil ?_))))))))))
  obtain ⟨o_6, h, hK6⟩ := bindR_some h
  refine .tJ (fun s => o_6 = Res.nx s) (.k2 1 2 rfl rfl (.k 5 rfl .nil)) SubB.nil ?_ (fun j_6 hj6 => ?_)
  ·
   refine .block (.loopL h (fun s7_ => [(6, ⟨True, rep s7_⟩)]) (fun s7_ => []) (.k 6 rfl .nil) SubB.nil (.k2 1 2 rfl rfl (.k 5 rfl .nil)) SubB.nil (fun s7_ o_7 h hD7 => ?_))
   unfold route_right_L1 at h
   refine .seq (.sn mx (.mv rfl (.mv rfl (.lt rfl rfl (.nil (.cb rfl h (fun _ h => ?_) fun _ h => ?_))))))
   ·
    obtain ⟨hn9, h⟩ := need_some h
    obtain ⟨hn10, h⟩ := need_some h
    obtain ⟨r2, hv11, h⟩ := bind_some h
    obtain ⟨hn12, h⟩ := need_some h
    obtain ⟨hn13, h⟩ := need_some h
    obtain ⟨r3, hv14, h⟩ := bind_some h
    obtain ⟨r4, hv15, h⟩ := bind_some h
    refine .skip (.then (.seq (.block (.sr [oo, oo, oo, oo, oo, oo, oo, oo, oo, oo, oo, oo, oo, oo, oo, oo, oo, oo, oo, oo, oo, ([], [7]), ([], [8]), ([7], [7]), ([8], [8])] mx (.mvA rfl (.mvA rfl (.cA (.subW .none (.s rfl) .i) (.ixA sl27 ty23 rfl rfl hn9 (.ldA ty23 rfl (.mvA rfl (.mvA rfl (.cA (.subW .none (.s rfl) .i) (.ixA sl27 ty23 rfl rfl hn10 (.ldA ty23 rfl (.cA (.call .none (route_heading_ok hv11) (.cons (.s rfl) (.cons (.s rfl) .nil))) (.mvA rfl (.mvA rfl (.cA (.subW .none (.s rfl) .i) (.ixA sl27 ty23 rfl rfl hn12 (.ldA ty23 rfl (.mvA rfl (.mvA rfl (.ixA sl27 ty23 rfl rfl hn13 (.ldA ty23 rfl (.cA (.call .none (route_heading_ok hv14) (.cons (.s rfl) (.cons (.s rfl) .nil))) (.al zo23 rfl (.al zo23 rfl (.st ty23 rfl rfl rfl (.st ty23 rfl rfl rfl (.nil (.freeze (t := 7) rfl rfl (.k 8 rfl .nil) rfl (.freeze (t := 8) rfl rfl SubB.nil rfl (.sn mx (.ld ty23 rfl (.ld ty23 rfl (.c (.eqS .none eq23 (.s rfl) (.s rfl)) (.mv rfl (.c (.load (.at rfl rfl) ty23 (.s rfl)) (.c (.load (.at rfl rfl) ty23 (.s rfl)) (.c (.callIf (.at rfl rfl) fnok72 (fun hg => route_opposite_ok ((fun hg => gd_some hv15 ((notT hg.2))) hg)) (.cons (.tmp rfl id) .nil) (fun h => h)) (.c (.eqS (.at rfl rfl) eq23 (.tmp rfl id) (.tmp rfl id)) (.po rfl rfl (.nil (.cb rfl h (fun _ h => ?_) fun _ h => ?_))))))))))))))))))))))))))))))))))))))))))))
    ·
     refine .sn mx (.asb (.nil (.ret (.blkRet (.thenRet (.thenRet (.blkRet (.thenRet ?_))))))))
     replace h := hD7 _ (some_eq h)
     replace h := resb_ab hK6 (some_eq h)
     obtain rfl := some_eq h
     exact Ends.rt Try.results30 rfl
    ·
     obtain ⟨i1, hv17, h⟩ := bnd_some h
     exact .skip (.blkNormal (.then (.rn mx (.mv rfl (.adi rfl (.ra hv17 rfl (.nil (Ends.ag (some_eq h)))))))))
   ·
    refine .exit (.thenExit (.thenExit (.blkExit ?_)))
    replace h := hD7 _ (some_eq h)
    exact Ends.j _ (some_eq h)
  ·
   have h := resb_nx hK6 hj6
   obtain ⟨r5, hv18, h⟩ := bind_some h
   obtain ⟨r6, hv19, h⟩ := bind_some h
   obtain ⟨r7, hv20, h⟩ := bind_some h
   obtain ⟨r8, hv21, h⟩ := bind_some h
   obtain ⟨hn22, h⟩ := need_some h
   obtain ⟨hn23, h⟩ := need_some h
   obtain ⟨r9, hv24, h⟩ := bind_some h
   obtain ⟨hn25, h⟩ := need_some h
   obtain ⟨hn26, h⟩ := need_some h
   obtain ⟨r10, hv27, h⟩ := bind_some h
   refine .sr [oo, oo, oo, oo, oo, ([], [9]), ([], [10]), ([9], [9]), ([10], [10])] mx (.ldA ty26 rfl (.cA (.call .none (route_ends_ok hv18) (.cons (.s rfl) .nil)) (.mvA rfl (.exA rfl rfl (.exA rfl rfl (.al zo23 rfl (.al zo23 rfl (.st ty23 rfl rfl rfl (.st ty23 rfl rfl rfl (.nil (.freeze (t := 9) rfl rfl (.k 10 rfl .nil) rfl (.freeze (t := 10) rfl rfl SubB.nil rfl (.sr [oo, oo, oo, oo, oo, oo, oo, ([], [11]), ([], [12]), ([11], [11]), ([12], [12])] mx (.faA fd26_1 hfd26_1 rfl (.ldA ty3 rfl (.cA (.call .none (route_toward_ok hv19) (.cons (.s rfl) .nil)) (.faA fd26_3 hfd26_3 rfl (.ldA ty3 rfl (.cA (.call .none (route_toward_ok hv20) (.cons (.s rfl) .nil)) (.cA (.call .none (route_opposite_ok hv21) (.cons (.s rfl) .nil)) (.al zo23 rfl (.al zo23 rfl (.st ty23 rfl rfl rfl (.st ty23 rfl rfl rfl (.nil (.freeze (t := 11) rfl rfl (.k 12 rfl .nil) rfl (.freeze (t := 12) rfl rfl SubB.nil rfl (.seq (.sn mx (.mv rfl (.c (.indexAddr .none sl27 ty23 (.s rfl) .i (fun _ => hn22)) (.ld ty23 rfl (.mv rfl (.c (.indexAddr .none sl27 ty23 (.s rfl) .i (fun _ => hn23)) (.ld ty23 rfl (.c (.call .none (route_heading_ok hv24) (.cons (.s rfl) (.cons (.s rfl) .nil))) (.ld ty23 rfl (.c (.neS .none eq23 (.s rfl) (.s rfl)) (.mv rfl (.mg rfl rfl rfl (.mg rfl rfl rfl (.c (.subW (.at rfl rfl) (.tmp rfl id) .i) (.c (.indexAddr (.at rfl rfl) sl27 ty23 (.tmp rfl id) (.tmp rfl id) (fun hg => hn25 hg.2)) (.lg ty23 rfl rfl rfl (.mg rfl rfl rfl (.mg rfl rfl rfl (.c (.subW (.at rfl rfl) (.tmp rfl id) .i) (.c (.indexAddr (.at rfl rfl) sl27 ty23 (.tmp rfl id) (.tmp rfl id) (fun hg => hn26 hg.2)) (.lg ty23 rfl rfl rfl (.c (.callIf (.at rfl rfl) fnok71 (fun hg => route_heading_ok ((fun hg => gd_some hv27 ((notT hg.2))) hg)) (.cons (.tmp rfl id) (.cons (.tmp rfl id) .nil)) (fun h => h)) ?_))))))))))))))))))))))))))))))))))))))))))))))))))
   refine .c (.load (.at rfl rfl) ty23 (.s rfl)) (.c (.neS (.at rfl rfl) eq23 (.tmp rfl id) (.tmp rfl id)) (.po rfl rfl (.nil (.cb rfl h (fun _ h => ?_) fun _ h => ?_))))
   ·
    refine .sn mx (.asb (.nil (.ret (.thenRet ?_))))
    obtain rfl := some_eq h
    exact Ends.rt Try.results30 rfl
   ·
    obtain ⟨hn29, h⟩ := need_some h
    obtain ⟨r11, hv30, h⟩ := bind_some h
    obtain ⟨hn31, h⟩ := need_some h
    obtain ⟨r12, hv32, h⟩ := bind_some h
    refine .skip (.then (.sn mx (.mv rfl (.c (.slice .none sl27 ty23 (.s rfl) rfl .i (fun _ => hn29)) (.c (.call .none (geom_Length_ok hv30) (.cons (.s rfl) .nil)) (.mv rfl (.ex rfl rfl (.ex rfl rfl (.asn rfl (.asn rfl (.nil (.sn mx (.mv rfl (.mv rfl (.c (.subW .none (.s rfl) .i) (.c (.slice .none sl27 ty23 (.s rfl) (.s rfl) rfl (fun _ => hn31)) (.c (.call .none (geom_Length_ok hv32) (.cons (.s rfl) .nil)) (.mv rfl (.ex rfl rfl (.ex rfl rfl (.asn rfl (.asn rfl (.nil (.seq (.sn mx (.mv rfl (.fa fd26_5 hfd26_5 rfl (.ld ty3 rfl (.lt rfl rfl (.mv rfl (.mg rfl rfl rfl (.fg fd26_5 hfd26_5 rfl rfl rfl (.lg ty3 rfl rfl rfl (.c (.lt (.at rfl rfl) (.tmp rfl id) (.tmp rfl id)) (.po rfl rfl (.mv rfl (.mg rfl rfl rfl (.c (.eqI (.at rfl rfl) (.tmp rfl id) .i) (.c (.move (.at rfl rfl) (.tmp rfl id)) (.mg rfl rfl rfl (.fg fd26_5 hfd26_5 rfl rfl rfl (.lg ty3 rfl rfl rfl (.c (.mulW (.at rfl rfl) .i (.tmp rfl id)) (.c (.lt (.at rfl rfl) (.tmp rfl id) (.tmp rfl id)) (.c (.pickAnd (.at rfl rfl) (.tmp rfl id) (.tmp rfl id)) (.po rfl rfl (.nil (.cb rfl h (fun _ h => ?_) fun _ h => ?_))))))))))))))))))))))))))))))))))))))))))))))))
    ·
     refine .sn mx (.asb (.nil (.ret (.thenRet ?_))))
     obtain rfl := some_eq h
     exact Ends.rt Try.results30 rfl
    ·
     obtain ⟨walls1, hv34, h⟩ := bind_some h
     obtain ⟨way1, hv35, h⟩ := bind_some h
     obtain ⟨hn36, h⟩ := need_some h
     obtain ⟨hn37, h⟩ := need_some h
     refine .skip (.then (.sn mx (.ld ty26 rfl (.c (.call .none (route_zones_ok hv34) (.cons (.s rfl) .nil)) (.asn rfl (.nil (.sr [oo, ([], [161]), ([161], [18, 161])] mx (.mvA rfl (.cW (.cO [] (slices_Clone_Point_ok hv35) (.cons (.s rfl) .nil) .nil rfl) (.cW (.passRow rfl (.tmp rfl)) (.nil (.nameRow (t := 18) (g := 5001) rfl rfl rfl (fun s5001 => (.sr [oo, oo, oo, oo, oo, oo, ([5001], []), ([5001], [5001]), ([5001], []), ([5001], [5001])] mx (.mvA rfl (.mvA rfl (.mvA rfl (.cA (.subW .none (.s rfl) .i) (.ldA ty23 rfl (.ldA ty23 rfl (.cA (.indexAddrO (k := 5001) .none sl27 ty23 (.s rfl) rfl .i (fun _ => hn36)) (.cN (.storeElem0 (k := 5001) ty23 (.s rfl) rfl (.s rfl) hn36) (.ixO 5001 sl27 ty23 rfl rfl rfl hn37 (.cN (.storeElem0 (k := 5001) ty23 (.s rfl) rfl (.s rfl) hn37) (.nil (.freezeRow (g := 5001) (ts := [18]) rfl (.cons (t := 18) rfl trivial .nil) SubB.nil rfl (.seq (.sn mx (.asi (.nil ?_))))))))))))))))))))))))))))))
     obtain ⟨o_38, h, hK38⟩ := bindR_some h
     refine .tJ (fun s => o_38 = Res.nx s) (.k2 1 2 rfl rfl (.k 5 rfl .nil)) SubB.nil ?_ (fun j_38 hj38 => ?_)
     ·
      refine .block (.loopL h (fun s39_ => [(19, ⟨True, rep s39_⟩)]) (fun s39_ => []) (.k 19 rfl .nil) SubB.nil (.k4 1 2 5 17 rfl rfl rfl rfl (.k 18 rfl .nil)) SubB.nil (fun s39_ o_39 h hD39 => ?_))
      unfold route_right_L2 at h
      refine .seq (.sn mx (.mv rfl (.mv rfl (.lt rfl rfl (.nil (.cb rfl h (fun _ h => ?_) fun _ h => ?_))))))
      ·
       obtain ⟨hn41, h⟩ := need_some h
       obtain ⟨hn42, h⟩ := need_some h
       obtain ⟨r13, hv43, h⟩ := bind_some h
       refine .skip (.then (.seq (.block (.sn mx (.mv rfl (.mv rfl (.mv rfl (.c (.subW .none (.s rfl) .i) (.ix sl27 ty23 rfl rfl hn41 (.ld ty23 rfl (.mv rfl (.mv rfl (.ix sl27 ty23 rfl rfl hn42 (.ld ty23 rfl (.c (.call .none (route_free_ok hv43) (.cons (.s rfl) (.cons (.s rfl) (.cons (.s rfl) .nil)))) (.c (.not .none (.s rfl)) (.nil (.cb rfl h (fun _ h => ?_) fun _ h => ?_))))))))))))))))))
       ·
        refine .sn mx (.asb (.nil (.ret (.blkRet (.thenRet (.thenRet (.blkRet (.thenRet ?_))))))))
        replace h := hD39 _ (some_eq h)
        replace h := resb_ab hK38 (some_eq h)
        obtain rfl := some_eq h
        exact Ends.rt Try.results30 rfl
       ·
        obtain ⟨i2, hv45, h⟩ := bnd_some h
        exact .skip (.blkNormal (.then (.rn mx (.mv rfl (.adi rfl (.ra hv45 rfl (.nil (Ends.ag (some_eq h)))))))))
      ·
       refine .exit (.thenExit (.thenExit (.blkExit ?_)))
       replace h := hD39 _ (some_eq h)
       exact Ends.j _ (some_eq h)
     ·
      have h := resb_nx hK38 hj38
      obtain ⟨r14, hv46, h⟩ := bind_some h
      obtain ⟨hn47, h⟩ := need_some h
      obtain ⟨v1, hv48, h⟩ := bnd_some h
      refine .sn mx (.ld ty26 rfl (.c (.call .none (route_lines_ok hv46) (.cons (.s rfl) .nil)) (.mv rfl (.ex rfl rfl (.ex rfl rfl (.asn rfl (.asn rfl (.nil (.seq (.sn mx (.mv rfl (.mv rfl (.c (.subW .none (.s rfl) .i) (.c (.re hv48 (.slice .none sl27 ty23 (.s rfl) .i (.s rfl) (fun _ => hn47))) (.ln sl27 rfl (.mvi (.nil ?_)))))))))))))))))
      obtain ⟨o_49, h, hK49⟩ := bindR_some h
      refine .tJ (fun s => o_49 = Res.nx s) Sub.nil SubB.nil ?_ (fun j_49 hj49 => ?_)
      ·
       refine .block (.rforEL h (fun p50_ => [(197, ⟨True, rep p50_.1⟩)]) (fun p50_ => []) (.k 197 rfl .nil) SubB.nil (.k4 20 21 195 196 rfl rfl rfl rfl .nil) SubB.nil (fun p50_ o_50 h hD50 => (.sn mx (.lt rfl rfl (.nil (.seq (.cb rfl h (fun _ h => ?_) fun _ h => ?_)))))))
       ·
        refine .skip (.then (.seq ?_))
        obtain ⟨o_52, h, hK52⟩ := bindD_some h
        unfold route_right_L3 at h
        refine .tJ (fun s => o_52 = Res.nx s) (.k4 20 21 195 196 rfl rfl rfl rfl (.k 197 rfl .nil)) SubB.nil ?_ (fun j_52 hj52 => ?_)
        ·
         obtain ⟨hn53, h⟩ := need_some h
         obtain ⟨v2, hv54, h⟩ := bnd_some h
         obtain ⟨r15, hv55, h⟩ := bind_some h
         obtain ⟨r16, hv56, h⟩ := bind_some h
         refine .block (.sr [oo, oo, ([], [23]), ([23], [23])] mx (.ixA sl27 ty23 rfl rfl hn53 (.rlA hv54 ty23 rfl (.al zo23 rfl (.st ty23 rfl rfl rfl (.nil (.freeze (t := 23) rfl rfl SubB.nil rfl (.sn mx (.mv rfl (.fa fd23_0 hfd23_0 rfl (.ld ty3 rfl (.c (.call .none (slices_BinarySearch_int_ok hv55) (.cons (.s rfl) (.cons (.s rfl) .nil))) (.mv rfl (.ex rfl rfl (.ex rfl rfl (.asn rfl (.asn rfl (.nil (.sn mx (.mv rfl (.fa fd23_1 hfd23_1 rfl (.ld ty3 rfl (.c (.call .none (slices_BinarySearch_int_ok hv56) (.cons (.s rfl) (.cons (.s rfl) .nil))) (.mv rfl (.ex rfl rfl (.ex rfl rfl (.asn rfl (.asn rfl (.nil (.sn mx (.mv rfl (.c (.not .none (.s rfl)) (.mv rfl (.mg rfl rfl rfl (.c (.not (.at rfl rfl) (.tmp rfl id)) (.po rfl rfl (.nil (.cb rfl h (fun _ h => ?_) fun _ h => ?_))))))))))))))))))))))))))))))))))))))
         ·
          refine .sn mx (.asb (.nil (.ret (.blkRet (.thenRet (.thenRet (.blkRet (.thenRet ?_))))))))
          replace h := resd_ab hK52 (some_eq h)
          replace h := hD50 _ (some_eq h)
          replace h := resb_ab hK49 (some_eq h)
          obtain rfl := some_eq h
          exact Ends.rt Try.results30 rfl
         ·
          exact .skip (.blkNormal (Ends.j _ (some_eq h)))
        ·
         have h := resd_nx hK52 hj52
         exact .rn mx (.adi rfl (.mv rfl (.nil (Ends.ag (some_eq h)))))
       ·
        refine .exit (.thenExit (.thenExit (.blkExit ?_)))
        replace h := hD50 _ (some_eq h)
        exact Ends.j _ (some_eq h)
      ·
       have h := resb_nx hK49 hj49
       refine .sn mx (.asb (.nil (.ret ?_)))
       obtain rfl := some_eq h
       exact Ends.rt Try.results30 rfl

theorem route_Right_ok {t1 : Task} {l1 : (List Point)} {r : (Bool × Int)}  (h : route_Right t1 l1 = some r) : FSpec Try.prog 7 [rep t1, rep l1] (tup [rep r.1, rep r.2]) := by
 unfold route_Right at h
 obtain ⟨e1, hv1, h⟩ := bind_some h
 refine FSpec.i Try.func7 rfl Try.ntmps7 rfl (fun F => (.sn mx (.c (.box .none (.s rfl)) (.asb (.asi (.nil (.seq (.sn mx (.ld ty26 rfl (.c (.call .none (route_Check_ok hv1) (.cons (.s rfl) .nil)) (.asn rfl (.nil (.sn mx (.mv rfl (.nei rfl (.nil (.cb rfl h (fun _ h => ?_) fun _ h => ?_)))))))))))))))))
 ·
  refine .sn mx (.mv rfl (.asb (.asn rfl (.nil (.ret (.thenRet ?_))))))
  obtain rfl := some_eq h
  exact Ends.ret2 (.inl rfl) Try.results7 (ResOK.tmp rfl trivial Imp.refl) (ResOK.tmp rfl trivial Imp.refl)
 ·
  obtain ⟨e2, hv3, h⟩ := bind_some h
  refine .skip (.then (.seq (.sn mx (.mv rfl (.c (.call .none (geom_CheckPoints_ok hv3) (.cons (.s rfl) .nil)) (.asn rfl (.nil (.sn mx (.mv rfl (.nei rfl (.nil (.cb rfl h (fun _ h => ?_) fun _ h => ?_))))))))))))
  ·
   refine .sn mx (.mv rfl (.asb (.asn rfl (.nil (.ret (.thenRet ?_))))))
   obtain rfl := some_eq h
   exact Ends.ret2 (.inl rfl) Try.results7 (ResOK.tmp rfl trivial Imp.refl) (ResOK.tmp rfl trivial Imp.refl)
  ·
   obtain ⟨r1, hv5, h⟩ := bind_some h
   refine .skip (.then (.sn mx (.ld ty26 rfl (.mv rfl (.c (.call .none (route_right_ok hv5) (.cons (.s rfl) (.cons (.s rfl) .nil))) (.asn rfl (.asi (.nil (.ret ?_)))))))))
   obtain rfl := some_eq h
   exact Ends.ret2 (.inl rfl) Try.results7 (ResOK.tmp rfl trivial Imp.refl) (ResOK.tmp rfl trivial Imp.refl)

theorem geom_Bends_ok {l1 : (List Point)} {r : (Int × Int)}  (h : geom_Bends l1 = some r) : FSpec Try.prog 10 [rep l1] (tup [rep r.1, rep r.2]) := by
 unfold geom_Bends at h
 obtain ⟨e1, hv1, h⟩ := bind_some h
 refine FSpec.i Try.func10 rfl Try.ntmps10 rfl (fun F => (.sn mx (.asi (.asi (.nil (.seq (.sn mx (.mv rfl (.c (.call .none (geom_CheckPath_ok hv1) (.cons (.s rfl) .nil)) (.asn rfl (.nil (.sn mx (.mv rfl (.nei rfl (.nil (.cb rfl h (fun _ h => ?_) fun _ h => ?_))))))))))))))))
 ·
  refine .sn mx (.mv rfl (.asi (.asn rfl (.nil (.ret (.thenRet ?_))))))
  obtain rfl := some_eq h
  exact Ends.ret2 (.inl rfl) Try.results10 (ResOK.tmp rfl trivial Imp.refl) (ResOK.tmp rfl trivial Imp.refl)
 ·
  refine .skip (.then (.sn mx (.asi (.nil (.seq (.sn mx (.asi (.nil ?_))))))))
  obtain ⟨j_3, h, hK3⟩ := bind_some h
  refine .thenJ (ι := Int) (fun j_3 => [(5, ⟨True, rep j_3⟩)]) (fun j_3 => []) (fun s => j_3 = s) Sub.nil SubB.nil ?_ (fun j_3' hj3 => ?_)
  ·
   refine .block (.loopL h (fun s4_ => [(5, ⟨True, rep s4_.1⟩), (6, ⟨True, rep s4_.2⟩)]) (fun s4_ => []) (.k2 5 6 rfl rfl .nil) SubB.nil (.k 0 rfl .nil) SubB.nil (fun s4_ o_4 h hD4 => ?_))
   unfold geom_Bends_L1 at h
   refine .seq (.sn mx (.mv rfl (.mv rfl (.ln sl27 rfl (.lt rfl rfl (.nil (.cb rfl h (fun _ h => ?_) fun _ h => ?_)))))))
   ·
    refine .skip (.then (.seq ?_))
    obtain ⟨j_6, h, hK6⟩ := bind_some h
    refine .thenJ (ι := Int) (fun j_6 => [(5, ⟨True, rep j_6⟩)]) (fun j_6 => []) (fun s => j_6 = s) (.k2 0 6 rfl rfl .nil) SubB.nil ?_ (fun j_6' hj6 => ?_)
    ·
     obtain ⟨hn7, h⟩ := need_some h
     obtain ⟨hn8, h⟩ := need_some h
     obtain ⟨hn9, h⟩ := need_some h
     obtain ⟨hn10, h⟩ := need_some h
     refine .block (.sn mx (.mv rfl (.mv rfl (.c (.subW .none (.s rfl) .i) (.ix sl27 ty23 rfl rfl hn7 (.fa fd23_0 hfd23_0 rfl (.ld ty3 rfl (.mv rfl (.mv rfl (.c (.subW .none (.s rfl) .i) (.ix sl27 ty23 rfl rfl hn8 (.fa fd23_0 hfd23_0 rfl (.ld ty3 rfl (.c (.eqI .none (.s rfl) (.s rfl)) (.mv rfl (.mv rfl (.c (.subW .none (.s rfl) .i) (.ix sl27 ty23 rfl rfl hn9 (.fa fd23_0 hfd23_0 rfl (.ld ty3 rfl (.mv rfl (.mv rfl (.ix sl27 ty23 rfl rfl hn10 (.fa fd23_0 hfd23_0 rfl (.ld ty3 rfl (.c (.eqI .none (.s rfl) (.s rfl)) (.c (.neS .none (eqAt_bool Try.underlying4) (.s rfl) (.s rfl)) (.nil (.cb rfl h (fun _ h => ?_) fun _ h => ?_)))))))))))))))))))))))))))))
     ·
      obtain ⟨n1, hv12, h⟩ := bnd_some h
      exact .rn mx (.mv rfl (.adi rfl (.ra hv12 rfl (.nil (.blkNormal (Ends.j _ (some_eq h)))))))
     ·
      exact .skip (.blkNormal (Ends.j _ (some_eq h)))
    ·
     subst hj6; have h := hK6; clear hK6
     obtain ⟨i1, hv13, h⟩ := bnd_some h
     exact .rn mx (.mv rfl (.adi rfl (.ra hv13 rfl (.nil (Ends.ag (some_eq h))))))
   ·
    refine .exit (.thenExit (.thenExit (.blkExit ?_)))
    replace h := hD4 _ (some_eq h)
    exact Ends.j _ (some_eq h)
  ·
   subst hj3; have h := hK3; clear hK3
   refine .sn mx (.mv rfl (.asn rfl (.asi (.nil (.ret ?_)))))
   obtain rfl := some_eq h
   exact Ends.ret2 (.inl rfl) Try.results10 (ResOK.tmp rfl trivial Imp.refl) (ResOK.tmp rfl trivial Imp.refl)

theorem top_TopNoBetterWay_ok {t1 : Task} {other1 : (List Point)} {r : Bool}  (h : top_TopNoBetterWay t1 other1 = some r) : FSpec Try.prog 3 [rep t1, rep other1] (rep r) := by
 unfold top_TopNoBetterWay at h
 obtain ⟨r1, hv1, h⟩ := bind_some h
 obtain ⟨r2, hv2, h⟩ := bind_some h
 obtain ⟨r3, hv3, h⟩ := bind_some h
 refine FSpec.i Try.func3 rfl Try.ntmps3 rfl (fun F => (.sn mx (.c (.box .none (.s rfl)) (.asb (.nil (.sn mx (.ld ty26 rfl (.c (.call .none (route_Route_ok hv1) (.cons (.s rfl) .nil)) (.mv rfl (.ex rfl rfl (.ex rfl rfl (.asn rfl (.asn rfl (.nil (.sn mx (.ld ty26 rfl (.mv rfl (.c (.call .none (route_Right_ok hv2) (.cons (.s rfl) (.cons (.s rfl) .nil))) (.mv rfl (.ex rfl rfl (.ex rfl rfl (.asn rfl (.asn rfl (.nil (.seq (.sn mx (.ld ty26 rfl (.c (.call .none (route_Check_ok hv3) (.cons (.s rfl) .nil)) (.nei rfl (.nil (.cb rfl h (fun _ h => ?_) fun _ h => ?_)))))))))))))))))))))))))))))))
 ·
  refine .sn mx (.mv rfl (.nei rfl (.mv rfl (.mg rfl rfl rfl (.c (.len (.at rfl rfl) sl27 (.tmp rfl id)) (.c (.eqI (.at rfl rfl) (.tmp rfl id) .i) (.pa rfl rfl (.asn rfl (.nil (.ret (.thenRet ?_)))))))))))
  obtain rfl := some_eq h
  exact Ends.rt Try.results3 rfl
 ·
  refine .skip (.then (.seq (.sn mx (.mv rfl (.nei rfl (.nil (.cb rfl h (fun _ h => ?_) fun _ h => ?_)))))))
  ·
   refine .sn mx (.mv rfl (.eqi rfl (.mv rfl (.mg rfl rfl rfl (.c (.not (.at rfl rfl) (.tmp rfl id)) (.pa rfl rfl (.asn rfl (.nil (.ret (.thenRet ?_))))))))))
   obtain rfl := some_eq h
   exact Ends.rt Try.results3 rfl
  ·
   obtain ⟨r4, hv6, h⟩ := bind_some h
   obtain ⟨r5, hv7, h⟩ := bind_some h
   obtain ⟨r6, hv8, h⟩ := bind_some h
   refine .skip (.then (.sn mx (.ld ty26 rfl (.mv rfl (.c (.call .none (route_Right_ok hv6) (.cons (.s rfl) (.cons (.s rfl) .nil))) (.mv rfl (.ex rfl rfl (.ex rfl rfl (.asn rfl (.asn rfl (.nil (.sn mx (.mv rfl (.c (.call .none (geom_Length_ok hv7) (.cons (.s rfl) .nil)) (.mv rfl (.ex rfl rfl (.ex rfl rfl (.asn rfl (.asn rfl (.nil (.sn mx (.mv rfl (.c (.call .none (geom_Bends_ok hv8) (.cons (.s rfl) .nil)) (.mv rfl (.ex rfl rfl (.ex rfl rfl (.asn rfl (.asn rfl (.nil (.seq (.sn mx (.mv rfl (.c (.not .none (.s rfl)) (.mv rfl (.mg rfl rfl rfl (.c (.neI (.at rfl rfl) (.tmp rfl id) .i) (.po rfl rfl (.mv rfl (.mg rfl rfl rfl (.c (.neI (.at rfl rfl) (.tmp rfl id) .i) (.po rfl rfl (.mv rfl (.mg rfl rfl rfl (.c (.neI (.at rfl rfl) (.tmp rfl id) .i) (.po rfl rfl (.nil (.cb rfl h (fun _ h => ?_) fun _ h => ?_)))))))))))))))))))))))))))))))))))))))))))))))
   ·
    refine .sn mx (.asb (.nil (.ret (.thenRet ?_))))
    obtain rfl := some_eq h
    exact Ends.rt Try.results3 rfl
   ·
    refine .skip (.then (.seq (.sn mx (.mv rfl (.mv rfl (.mg rfl rfl rfl (.c (.eqI (.at rfl rfl) (.tmp rfl id) .i) (.pa rfl rfl (.nil ?_)))))))))
    obtain ⟨o_10, h, hK10⟩ := bindR_some h
    refine .tJ (fun s => o_10 = Res.nx s) (.k2 2 11 rfl rfl (.k 13 rfl .nil)) SubB.nil ?_ (fun j_10 hj10 => ?_)
    ·
     refine .cb rfl h (fun _ h => ?_) fun _ h => ?_
     ·
      obtain ⟨r7, hv12, h⟩ := bind_some h
      obtain ⟨r8, hv13, h⟩ := bind_some h
      refine .sn mx (.mv rfl (.c (.call .none (geom_Length_ok hv12) (.cons (.s rfl) .nil)) (.mv rfl (.ex rfl rfl (.ex rfl rfl (.asn rfl (.asn rfl (.nil (.sn mx (.mv rfl (.c (.call .none (geom_Bends_ok hv13) (.cons (.s rfl) .nil)) (.mv rfl (.ex rfl rfl (.ex rfl rfl (.asn rfl (.asn rfl (.nil (.sn mx (.mv rfl (.nei rfl (.mv rfl (.mg rfl rfl rfl (.c (.neI (.at rfl rfl) (.tmp rfl id) .i) (.po rfl rfl (.mv rfl (.mg rfl rfl rfl (.mg rfl rfl rfl (.c (.lt (.at rfl rfl) (.tmp rfl id) (.tmp rfl id)) (.po rfl rfl (.mv rfl (.mg rfl rfl rfl (.mg rfl rfl rfl (.c (.eqI (.at rfl rfl) (.tmp rfl id) (.tmp rfl id)) (.c (.move (.at rfl rfl) (.tmp rfl id)) (.mg rfl rfl rfl (.mg rfl rfl rfl (.c (.lt (.at rfl rfl) (.tmp rfl id) (.tmp rfl id)) (.c (.pickAnd (.at rfl rfl) (.tmp rfl id) (.tmp rfl id)) (.po rfl rfl (.nil (.cb rfl h (fun _ h => ?_) fun _ h => ?_)))))))))))))))))))))))))))))))))))))))))
      ·
       refine .sn mx (.asb (.nil (.ret (.thenRet ?_))))
       replace h := resb_ab hK10 (some_eq h)
       obtain rfl := some_eq h
       exact Ends.rt Try.results3 rfl
      ·
       exact .skip (Ends.j _ (some_eq h))
     ·
      exact .skip (Ends.j _ (some_eq h))
    ·
     have h := resb_nx hK10 hj10
     obtain ⟨r9, hv15, h⟩ := bind_some h
     obtain ⟨r10, hv16, h⟩ := bind_some h
     obtain ⟨r11, hv17, h⟩ := bind_some h
     refine .sr [oo, ([], [19]), ([19], [19])] mx (.ldA ty26 rfl (.al zo26 rfl (.st ty26 rfl rfl rfl (.nil (.nameBox (t := 19) (g := 5001) rfl rfl (fun m5001 => (.sr [oo, oo, oo, oo, oo, oo, oo, oo, oo, ([5001], [5001]), oo, ([5001], [5001]), oo, ([5001], [5001]), oo, ([5001], [5001])] mx (.faA fd26_2 hfd26_2 rfl (.ldA ty23 rfl (.faA fd26_3 hfd26_3 rfl (.ldA ty3 rfl (.faA fd26_0 hfd26_0 rfl (.ldA ty23 rfl (.faA fd26_1 hfd26_1 rfl (.ldA ty3 rfl (.cA (.fieldPtr .none fd26_0 (.s rfl)) (.cN (.storeAt (g := 5001) ty23 rfl (.s rfl) sf26_0 (.s rfl)) (.cA (.fieldPtr .none fd26_1 (.s rfl)) (.cN (.storeAt (g := 5001) ty3 rfl (.s rfl) sf26_1 (.s rfl)) (.cA (.fieldPtr .none fd26_2 (.s rfl)) (.cN (.storeAt (g := 5001) ty23 rfl (.s rfl) sf26_2 (.s rfl)) (.cA (.fieldPtr .none fd26_3 (.s rfl)) (.cN (.storeAt (g := 5001) ty3 rfl (.s rfl) sf26_3 (.s rfl)) (.nil (.fb 5001 [19] rfl (.cons (t := 19) rfl trivial .nil) (.sn mx (.ld ty26 rfl (.c (.call .none (route_Route_ok hv15) (.cons (.s rfl) .nil)) (.mv rfl (.ex rfl rfl (.ex rfl rfl (.asn rfl (.asn rfl (.nil (.sn mx (.mv rfl (.c (.call .none (geom_Length_ok hv16) (.cons (.s rfl) .nil)) (.mv rfl (.ex rfl rfl (.ex rfl rfl (.asn rfl (.asn rfl (.nil (.sn mx (.mv rfl (.c (.call .none (geom_Bends_ok hv17) (.cons (.s rfl) .nil)) (.mv rfl (.ex rfl rfl (.ex rfl rfl (.asn rfl (.asn rfl (.nil (.sn mx (.mv rfl (.eqi rfl (.mv rfl (.mg rfl rfl rfl (.c (.eqI (.at rfl rfl) (.tmp rfl id) .i) (.pa rfl rfl (.mv rfl (.mg rfl rfl rfl (.c (.eqI (.at rfl rfl) (.tmp rfl id) .i) (.pa rfl rfl (.mv rfl (.mg rfl rfl rfl (.mg rfl rfl rfl (.c (.eqI (.at rfl rfl) (.tmp rfl id) (.tmp rfl id)) (.pa rfl rfl (.mv rfl (.mg rfl rfl rfl (.mg rfl rfl rfl (.c (.eqI (.at rfl rfl) (.tmp rfl id) (.tmp rfl id)) (.pa rfl rfl ?_)))))))))))))))))))))))))))))))))))))))))))))))))))))))))))))))))))))))))
     refine .asn rfl (.nil (.ret ?_))
     obtain rfl := some_eq h
     exact Ends.rt Try.results3 rfl


end Go.Proofs.Ytjkfpjpepjjhlaa
