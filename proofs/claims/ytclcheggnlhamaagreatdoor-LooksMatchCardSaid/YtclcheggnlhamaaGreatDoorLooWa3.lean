/-
  The walks: what a function computes is what its plain function says (printed by a program of one's own).
-/
import Derived.Test.YtclcheggnlhamaaGreatDoorLooWa2
set_option maxRecDepth 100000
set_option linter.unusedSimpArgs false
set_option linter.unusedVariables false
namespace Go.Proofs.YtclcheggnlhamaaGreatDoor
open Go Go.DB Go.RowKit

theorem slices_Equal_string_ok {s1_1 : (List Str)} {s2_1 : (List Str)} {r : Bool}  (h : slices_Equal_string s1_1 s2_1 = some r) : FSpec Tryz.prog 80 [rep s1_1, rep s2_1] (rep r) := by
  unfold slices_Equal_string at h
  refine FSpec.intro (n := 26) fnok80 Tryz.func80 rfl Tryz.ntmps80 rfl (fun F => ?_)
  refine .seq ?_
  refine .region [] mixed (by kernel_rfl) ?_
  refine .cons (.assign .none .bool) rfl ?_
  refine .nil ?_
  refine .then ?_
  refine .seq ?_
  refine .seq ?_
  refine .region [] mixed (by kernel_rfl) ?_
  refine .cons (.move .none (.s rfl)) rfl ?_
  refine .cons (.len .none sl39 (.s rfl)) rfl ?_
  refine .cons (.move .none (.s rfl)) rfl ?_
  refine .cons (.len .none sl39 (.s rfl)) rfl ?_
  refine .cons (.neI .none (.s rfl) (.s rfl)) rfl ?_
  refine .nil ?_
  refine .then ?_
  refine .cond (t := 10) rfl trivial (fun hb1 => ?_) (fun hb1 => ?_)
  · replace h := bif_t h hb1
    refine .seq ?_
    refine .region [] mixed (by kernel_rfl) ?_
    refine .cons (.assign .none .bool) rfl ?_
    refine .nil ?_
    refine .then ?_
    refine .ret ?_
    refine .thenRet ?_
    obtain rfl := some_eq h
    exact Ends.ret1 (.inl rfl) Tryz.results80 (ResOK.tmp rfl trivial Imp.refl)
  · replace h := bif_f h hb1
    refine .skip ?_
    refine .then ?_
    refine .seq ?_
    refine .seq ?_
    refine .region [] mixed (by kernel_rfl) ?_
    refine .cons (.move .none (.s rfl)) rfl ?_
    refine .cons (.len .none sl39 (.s rfl)) rfl ?_
    refine .cons (.move .none (.int (by decide))) rfl ?_
    refine .nil ?_
    refine .then ?_
    obtain ⟨o_2, h, hK2⟩ := bindR_some h
    refine .thenJ (ι := Unit) (fun j_2 => []) (fun j_2 => []) (fun s => o_2 = Res.nx s) Sub.nil SubB.nil ?_ (fun j_2 hj2 => ?_)
    · skip
      refine .block ?_
      refine .rforEL h (fun p3_ => [(13, ⟨True, rep p3_.1⟩)]) (fun p3_ => []) (.cons (t := 13) rfl Sub.nil) SubB.nil (.cons (t := 0) rfl (.cons (t := 1) rfl (.cons (t := 12) rfl Sub.nil))) SubB.nil (fun p3_ o_3 h hD3 => ?_)
      refine .seq ?_
      refine .region [] mixed (by kernel_rfl) ?_
      refine .cons (.lt .none (.s rfl) (.s rfl)) rfl ?_
      refine .nil ?_
      refine .then ?_
      refine .seq ?_
      refine .cond (t := 14) rfl trivial (fun hb4 => ?_) (fun hb4 => ?_)
      · replace h := bif_t h hb4
        refine .skip ?_
        refine .then ?_
        refine .seq ?_
        obtain ⟨o_5, h, hK5⟩ := bindD_some h
        unfold slices_Equal_string_L1 at h
        refine .thenJ (ι := Unit) (fun j_5 => []) (fun j_5 => []) (fun s => o_5 = Res.nx s) (.cons (t := 0) rfl (.cons (t := 1) rfl (.cons (t := 12) rfl (.cons (t := 13) rfl Sub.nil)))) SubB.nil ?_ (fun j_5 hj5 => ?_)
        · skip
          refine .block ?_
          refine .seq ?_
          refine .region [] mixed (by kernel_rfl) ?_
          refine .cons (.move .none (.s rfl)) rfl ?_
          refine .cons (.assign .none (.s rfl)) rfl ?_
          refine .nil ?_
          refine .then ?_
          refine .seq ?_
          refine .region [] mixed (by kernel_rfl) ?_
          refine .cons (.move .none (.s rfl)) rfl ?_
          refine .cons (.move .none (.s rfl)) rfl ?_
          obtain ⟨hn6, h⟩ := need_some h
          refine .cons (.indexAddr .none sl39 ty9 (.s rfl) (.s rfl) (fun _ => hn6)) rfl ?_
          refine .cons (.load .none ty9 (.s rfl)) rfl ?_
          refine .cons (.move .none (.s rfl)) rfl ?_
          refine .cons (.move .none (.s rfl)) rfl ?_
          obtain ⟨hn7, h⟩ := need_some h
          refine .cons (.indexAddr .none sl39 ty9 (.s rfl) (.s rfl) (fun _ => hn7)) rfl ?_
          refine .cons (.load .none ty9 (.s rfl)) rfl ?_
          refine .cons (.neS .none (eqAt_str Tryz.underlying9) (.s rfl) (.s rfl)) rfl ?_
          refine .nil ?_
          refine .then ?_
          refine .cond (t := 24) rfl trivial (fun hb8 => ?_) (fun hb8 => ?_)
          · replace h := bif_t h hb8
            refine .seq ?_
            refine .region [] mixed (by kernel_rfl) ?_
            refine .cons (.assign .none .bool) rfl ?_
            refine .nil ?_
            refine .then ?_
            refine .ret ?_
            refine .blkRet ?_
            refine .thenRet ?_
            refine .thenRet ?_
            refine .blkRet ?_
            refine .thenRet ?_
            replace h := resd_ab hK5 (some_eq h)
            replace h := hD3 _ (some_eq h)
            replace h := resb_ab hK2 (some_eq h)
            obtain rfl := some_eq h
            exact Ends.ret1 (.inl rfl) Tryz.results80 (ResOK.tmp rfl trivial Imp.refl)
          · replace h := bif_f h hb8
            refine .skip ?_
            refine .blkNormal ?_
            exact Ends.join _ (some_eq h) (.cons (t := 0) rfl (.cons (t := 1) rfl (.cons (t := 12) rfl (.cons (t := 13) rfl Sub.nil)))) SubB.nil
        · have h := resd_nx hK5 hj5
          refine .region [] mixed (by kernel_rfl) ?_
          refine .cons (.addW .none (.s rfl) (.int (by decide))) rfl ?_
          refine .cons (.move .none (.s rfl)) rfl ?_
          refine .nil ?_
          exact Ends.againL (some_eq h) (.cons (t := 13) rfl (.cons (t := 0) rfl (.cons (t := 1) rfl (.cons (t := 12) rfl Sub.nil)))) SubB.nil
      · replace h := bif_f h hb4
        refine .exit ?_
        refine .thenExit ?_
        refine .thenExit ?_
        refine .blkExit ?_
        replace h := hD3 _ (some_eq h)
        exact Ends.join _ (some_eq h) Sub.nil SubB.nil
    · have h := resb_nx hK2 hj2
      refine .seq ?_
      refine .region [] mixed (by kernel_rfl) ?_
      refine .cons (.assign .none .bool) rfl ?_
      refine .nil ?_
      refine .then ?_
      refine .ret ?_
      obtain rfl := some_eq h
      exact Ends.ret1 (.inl rfl) Tryz.results80 (ResOK.tmp rfl trivial Imp.refl)

theorem law_lists_string_ok {got1 : (List Str)} {e1 : Int} {want1 : Int} {right1 : (Option (List Str))} {r : Bool}  (h : law_lists_string got1 e1 want1 right1 = some r) : FSpec Tryz.prog 17 [rep got1, rep e1, rep want1, fn0 Tryz.prog (rep (α := (List Str))) right1] (rep r) := by
  unfold law_lists_string at h
  refine FSpec.intro (n := 27) fnok17 Tryz.func17 rfl Tryz.ntmps17 rfl (fun F => ?_)
  refine .seq ?_
  refine .region [] mixed (by kernel_rfl) ?_
  refine .cons (.assign .none .bool) rfl ?_
  refine .nil ?_
  refine .then ?_
  refine .seq ?_
  refine .seq ?_
  refine .region [] mixed (by kernel_rfl) ?_
  refine .cons (.move .none (.s rfl)) rfl ?_
  refine .cons (.neI .none (.s rfl) (.int (by decide))) rfl ?_
  refine .nil ?_
  refine .then ?_
  refine .cond (t := 10) rfl trivial (fun hb1 => ?_) (fun hb1 => ?_)
  · replace h := bif_t h hb1
    refine .seq ?_
    refine .region [] mixed (by kernel_rfl) ?_
    refine .cons (.move .none (.s rfl)) rfl ?_
    refine .cons (.len .none sl39 (.s rfl)) rfl ?_
    refine .cons (.eqI .none (.s rfl) (.int (by decide))) rfl ?_
    refine .cons (.move .none (.s rfl)) rfl ?_
    refine .cons (.move (.at rfl rfl) (.s rfl)) rfl ?_
    refine .cons (.move (.at rfl rfl) (.s rfl)) rfl ?_
    refine .cons (.eqI (.at rfl rfl) (.tmp rfl id) (.tmp rfl id)) rfl ?_
    refine .cons (.pickAnd .none (.s rfl) (.tmp rfl id)) rfl ?_
    refine .cons (.assign .none (.s rfl)) rfl ?_
    refine .nil ?_
    refine .then ?_
    refine .ret ?_
    refine .thenRet ?_
    obtain rfl := some_eq h
    exact Ends.ret1 (.inl rfl) Tryz.results17 (ResOK.tmp rfl trivial Imp.refl)
  · replace h := bif_f h hb1
    refine .skip ?_
    refine .then ?_
    refine .seq ?_
    refine .region [] mixed (by kernel_rfl) ?_
    refine .cons (.move .none (.s rfl)) rfl ?_
    refine .cons (.eqI .none (.s rfl) (.int (by decide))) rfl ?_
    refine .cons (.move .none (.s rfl)) rfl ?_
    refine .cons (.move (.at rfl rfl) (.s rfl)) rfl ?_
    refine .cons (.move (.at rfl rfl) (.s rfl)) rfl ?_
    obtain ⟨r1, hv2, h⟩ := bind_some h
    refine .cons (.callV _ (.at rfl rfl) (.tmp rfl id) (fun hg => gd_some hv2 (hg.2)) .nil) rfl ?_
    obtain ⟨r2, hv3, h⟩ := bind_some h
    refine .cons (.callIf (.at rfl rfl) fnok80 (fun hg => slices_Equal_string_ok ((fun hg => gd_some hv3 (hg.2)) hg)) (.cons (.tmp rfl id) (.cons (.tmp rfl id) .nil)) (fun h => h)) rfl ?_
    refine .cons (.pickAnd .none (.s rfl) (.tmp rfl id)) rfl ?_
    refine .cons (.assign .none (.s rfl)) rfl ?_
    refine .nil ?_
    refine .then ?_
    refine .ret ?_
    obtain rfl := some_eq h
    exact Ends.ret1 (.inl rfl) Tryz.results17 (ResOK.tmp rfl trivial Imp.refl)

theorem page_view_order_1_okS {self : (Int × (List Int) × (Option Page_view)) → Option (List Int)} (hself : ∀ {m34 : Nat} {s35 : Value} {m36 : Nat} (x : (Int × (List Int) × (Option Page_view))) (r : (List Int)), self x = some r → FSpecO Tryz.prog 155 [rep x.1, isV (ptr m34 0), ref x.2.2, isV (ptr m36 0)] [(ptr m34 0, cont 118 (⟨s35⟩ : Raw)), (s35, rowV 3 x.2.1), (ptr m36 0, contS 189 (cloV 155 [isV (ptr m34 0), ref x.2.2, isV (ptr m36 0)]))] (anyV) [some (deep (fun z0 => cont 118 (⟨z0⟩ : Raw)) (rowV 3 r)), none, some (contS 189 (cloV 155 [isV (ptr m34 0), ref x.2.2, isV (ptr m36 0)]))]) {m34 : Nat} {s35 : Value} {m36 : Nat} {x : (Int × (List Int) × (Option Page_view))} {r : (List Int)} (h : page_view_order_1_body self x = some r) : FSpecO Tryz.prog 155 [rep x.1, isV (ptr m34 0), ref x.2.2, isV (ptr m36 0)] [(ptr m34 0, cont 118 (⟨s35⟩ : Raw)), (s35, rowV 3 x.2.1), (ptr m36 0, contS 189 (cloV 155 [isV (ptr m34 0), ref x.2.2, isV (ptr m36 0)]))] (anyV) [some (deep (fun z0 => cont 118 (⟨z0⟩ : Raw)) (rowV 3 r)), none, some (contS 189 (cloV 155 [isV (ptr m34 0), ref x.2.2, isV (ptr m36 0)]))] := by
  unfold page_view_order_1_body at h
  refine FSpecO.intro (n := 34) fnok155 Tryz.func155 rfl Tryz.ntmps155 rfl (fun F => ?_)
  refine .seq ?_
  refine .region [([34], []), ([], []), ([], []), ([35], [10, 35]), ([34, 10], [34, 10])] mixed (by kernel_rfl) ?_
  refine .consA (.loadAt0 (k := 34) .none tr118 rfl (.s rfl)) rfl ?_
  refine .consA (.move .none (.s rfl)) rfl ?_
  refine .consA (.buildSlice (xs := [_]) .none sl118 ty3 hz3 (.cons (.s rfl) .nil) rfl (by decide)) rfl ?_
  obtain ⟨hn1, h⟩ := need_some h
  refine .consW (.append (k := 35) rk118 rfl (.told (.s rfl) rfl) (.s rfl) hn1) rfl rfl ?_
  refine .consN (.storeRow (k := 34) (t := 10) (set := fun _ z => z) ty118 rfl (.s rfl) .self rfl rfl) rfl ?_
  refine .nil ?_
  refine .then ?_
  refine .open (k := 34) (g := 5001) rfl rfl (fun s5001 => ?_)
  refine .seq ?_
  refine .region [] mixed (by kernel_rfl) ?_
  obtain ⟨p1, hv2, h⟩ := bind_some h
  refine .cons (.isRef hv2 (.load .none ty100 (.s rfl))) rfl ?_
  refine .cons (.nilCheckR .none (.s rfl)) rfl ?_
  refine .cons (.fieldAddr .none fd148_2 hfd148_2 (.s rfl)) rfl ?_
  refine .cons (.load .none ty146 (.s rfl)) rfl ?_
  obtain ⟨p2, hv3, h⟩ := bind_some h
  refine .cons (.isRef hv3 (.load .none ty100 (.s rfl))) rfl ?_
  refine .cons (.nilCheckR .none (.s rfl)) rfl ?_
  refine .cons (.fieldAddr .none fd148_0 hfd148_0 (.s rfl)) rfl ?_
  refine .cons (.fieldAddr .none fd25_0 hfd25_0 (.s rfl)) rfl ?_
  refine .cons (.load .none ty22 (.s rfl)) rfl ?_
  refine .cons (.move .none (.s rfl)) rfl ?_
  obtain ⟨hn4, h⟩ := need_some h
  refine .cons (.indexAddr .none sl22 ty44 (.s rfl) (.s rfl) (fun _ => hn4)) rfl ?_
  refine .cons (.fieldAddr .none fd44_0 hfd44_0 (.s rfl)) rfl ?_
  refine .cons (.load .none ty9 (.s rfl)) rfl ?_
  obtain ⟨v1, hv5, h⟩ := bnd_some h
  refine .cons (.re hv5 (.lookup .none mo146 zo118 (.s rfl) (.s rfl))) rfl ?_
  refine .cons (.len .none sl118 (.s rfl)) rfl ?_
  refine .cons (.move .none (.int (by decide))) rfl ?_
  refine .nil ?_
  refine .then ?_
  obtain ⟨c1, hv6, h⟩ := bnd_some h
  refine .reB (t := 5001) rfl (congrArg (fun y => CPred.at s5001 (rowV 3 y)) hv6) ?_
  obtain ⟨j_7, h, hK7⟩ := bind_some h
  refine .tailJ (ι := (List Int)) (fun j_7 => []) (fun j_7 => [(34, some (CPred.at (ptr m34 0) (deep (fun z0 => cont 118 (⟨z0⟩ : Raw)) (rowV 3 j_7))))]) (fun s => j_7 = s) (.cons (t := 1) rfl (.cons (t := 3) rfl Sub.nil)) (.cons (t := 36) rfl SubB.nil) ?_ (fun j_7' hj7 => ?_)
  · skip
    refine .block ?_
    refine .close (k := 34) (g := 5001) (fun z => cont 118 (⟨z⟩ : Raw)) rfl rfl rfl ?_
    refine .rforL h (fun p8_ => [(26, ⟨True, rep p8_.1⟩)]) (fun p8_ => [(34, some (CPred.at (ptr m34 0) (deep (fun z0 => cont 118 (⟨z0⟩ : Raw)) (rowV 3 p8_.2))))]) (.cons (t := 26) rfl Sub.nil) (.cons (t := 34) rfl SubB.nil) (.cons (t := 1) rfl (.cons (t := 2) rfl (.cons (t := 3) rfl (.cons (t := 24) rfl (.cons (t := 25) rfl Sub.nil))))) (.cons (t := 36) rfl SubB.nil) (fun p8_ o_8 h hD8 => ?_)
    refine .open (k := 34) (g := 5002) rfl rfl (fun s5002 => ?_)
    refine .seq ?_
    refine .region [] mixed (by kernel_rfl) ?_
    refine .cons (.lt .none (.s rfl) (.s rfl)) rfl ?_
    refine .nil ?_
    refine .then ?_
    refine .seq ?_
    refine .cond (t := 27) rfl trivial (fun hb9 => ?_) (fun hb9 => ?_)
    · replace h := bif_t h hb9
      refine .skip ?_
      refine .then ?_
      refine .seq ?_
      obtain ⟨j_10, h, hK10⟩ := bind_some h
      unfold page_view_order_1_L1 at h
      refine .thenJ (ι := (List Int)) (fun j_10 => []) (fun j_10 => [(34, some (CPred.at (ptr m34 0) (deep (fun z0 => cont 118 (⟨z0⟩ : Raw)) (rowV 3 j_10))))]) (fun s => j_10 = s) (.cons (t := 1) rfl (.cons (t := 2) rfl (.cons (t := 3) rfl (.cons (t := 24) rfl (.cons (t := 25) rfl (.cons (t := 26) rfl Sub.nil)))))) (.cons (t := 36) rfl SubB.nil) ?_ (fun j_10' hj10 => ?_)
      · skip
        refine .block ?_
        refine .seq ?_
        refine .region [] mixed (by kernel_rfl) ?_
        obtain ⟨hn11, h⟩ := need_some h
        refine .cons (.indexAddr .none sl118 ty3 (.s rfl) (.s rfl) (fun _ => hn11)) rfl ?_
        refine .cons (.load .none ty3 (.s rfl)) rfl ?_
        refine .cons (.assign .none (.s rfl)) rfl ?_
        refine .nil ?_
        refine .then ?_
        refine .region [([36], []), ([], []), ([34, 5002, 36], [34, 5002, 36])] mixed (by kernel_rfl) ?_
        refine .consA (.loadS (k := 36) .none tr189 rfl (.s rfl) cloV_one) rfl ?_
        refine .consA (.move .none (.s rfl)) rfl ?_
        obtain ⟨r1, hv12, h⟩ := bind_some h
        refine .consW (.callClo [34, 5002, 36] (Ss := [rep (gx v1 p8_.1)]) (Cs := [isV (ptr m34 0), ref x.2.2, isV (ptr m36 0)]) (.s rfl) (hself _ _ hv12) (.cons (.s rfl) .nil) (.cons (k := 34) rfl (.cons (k := 5002) rfl (.cons (k := 36) rfl .nil))) rfl (by decide) (by decide) (by intro d h; cases h; decide)) rfl rfl ?_
        refine .nil ?_
        refine .blkNormal ?_
        exact Ends.join _ (some_eq h) (.cons (t := 1) rfl (.cons (t := 2) rfl (.cons (t := 3) rfl (.cons (t := 24) rfl (.cons (t := 25) rfl (.cons (t := 26) rfl Sub.nil)))))) (.cons (t := 34) rfl (.cons (t := 36) rfl SubB.nil))
      · subst hj10; have h := hK10; clear hK10
        refine .open (k := 34) (g := 5003) rfl rfl (fun s5003 => ?_)
        refine .region [] mixed (by kernel_rfl) ?_
        refine .cons (.addW .none (.s rfl) (.int (by decide))) rfl ?_
        refine .cons (.move .none (.s rfl)) rfl ?_
        refine .nil ?_
        refine .close (k := 34) (g := 5003) (fun z => cont 118 (⟨z⟩ : Raw)) rfl rfl rfl ?_
        exact Ends.againL (some_eq h) (.cons (t := 26) rfl (.cons (t := 1) rfl (.cons (t := 2) rfl (.cons (t := 3) rfl (.cons (t := 24) rfl (.cons (t := 25) rfl Sub.nil)))))) (.cons (t := 34) rfl (.cons (t := 36) rfl SubB.nil))
    · replace h := bif_f h hb9
      refine .exit ?_
      refine .thenExit ?_
      refine .thenExit ?_
      refine .blkExit ?_
      refine .close (k := 34) (g := 5002) (fun z => cont 118 (⟨z⟩ : Raw)) rfl rfl rfl ?_
      replace h := hD8 _ (some_eq h)
      exact Ends.join _ (some_eq h) (.cons (t := 1) rfl (.cons (t := 3) rfl Sub.nil)) (.cons (t := 34) rfl (.cons (t := 36) rfl SubB.nil))
  · subst hj7; have h := hK7; clear hK7
    obtain rfl := some_eq h
    exact Ends.ret0O (.inr rfl) [34, 35, 36] Tryz.results155 (by decide) (.held rfl (.skip (.held rfl .nil))) 
theorem page_view_order_1_okN : ∀ (k : Nat) {m34 : Nat} {s35 : Value} {m36 : Nat} (x : (Int × (List Int) × (Option Page_view))) (r : (List Int)) (h : fixN page_view_order_1_body k x = some r), FSpecO Tryz.prog 155 [rep x.1, isV (ptr m34 0), ref x.2.2, isV (ptr m36 0)] [(ptr m34 0, cont 118 (⟨s35⟩ : Raw)), (s35, rowV 3 x.2.1), (ptr m36 0, contS 189 (cloV 155 [isV (ptr m34 0), ref x.2.2, isV (ptr m36 0)]))] (anyV) [some (deep (fun z0 => cont 118 (⟨z0⟩ : Raw)) (rowV 3 r)), none, some (contS 189 (cloV 155 [isV (ptr m34 0), ref x.2.2, isV (ptr m36 0)]))]
  | 0, _, _, _, x, r, h => by simp [fixN] at h
  | k + 1, _, _, _, x, r, h => page_view_order_1_okS (page_view_order_1_okN k) h
theorem page_view_order_1_ok {k1 : Int} {c0_1 : (List Int)} {c1_1 : (Option Page_view)} {r : (List Int)} {m34 : Nat} {s35 : Value} {m36 : Nat} (h : page_view_order_1 k1 c0_1 c1_1 = some r) : FSpecO Tryz.prog 155 [rep k1, isV (ptr m34 0), ref c1_1, isV (ptr m36 0)] [(ptr m34 0, cont 118 (⟨s35⟩ : Raw)), (s35, rowV 3 c0_1), (ptr m36 0, contS 189 (cloV 155 [isV (ptr m34 0), ref c1_1, isV (ptr m36 0)]))] (anyV) [some (deep (fun z0 => cont 118 (⟨z0⟩ : Raw)) (rowV 3 r)), none, some (contS 189 (cloV 155 [isV (ptr m34 0), ref c1_1, isV (ptr m36 0)]))] :=
  let ⟨k, hk⟩ := fixp_some h
  page_view_order_1_okN k (k1, c0_1, c1_1) r hk

theorem page_view_order_ok {v1 : Page_view} {r : (List Int)}  (h : page_view_order v1 = some r) : FSpec Tryz.prog 82 [ref v1] (rep r) := by
  unfold page_view_order at h
  refine FSpec.intro (n := 27) fnok82 Tryz.func82 rfl Tryz.ntmps82 rfl (fun F => ?_)
  refine .seq ?_
  refine .region [] mixed (by kernel_rfl) ?_
  refine .cons (.boxRef .none (.s rfl)) rfl ?_
  refine .cons (.assign .none (.const (x := ([] : (List Int))) (fun M w => ⟨_, ⟨none, 0, rfl, Nat.le_refl _, by decide, rfl⟩, rfl⟩))) rfl ?_
  refine .nil ?_
  refine .then ?_
  refine .seq ?_
  refine .region [([], [3])] mixed (by kernel_rfl) ?_
  refine .consW (.alloc zr118 rfl) rfl rfl ?_
  refine .nil ?_
  refine .then ?_
  refine .nameAt (t := 3) (g := 5001) rfl rfl isBox_cont rfl (fun m5001 => ?_)
  refine .nilKey (g := 5002) (T := 3) (α := Int) rfl ?_
  refine .seq ?_
  refine .region [([], [4])] mixed (by kernel_rfl) ?_
  refine .consW (.alloc zr189 rfl) rfl rfl ?_
  refine .nil ?_
  refine .then ?_
  refine .nameAt (t := 4) (g := 5003) rfl rfl isBox_cont rfl (fun m5003 => ?_)
  refine .seq ?_
  refine .region [([], []), ([5003], [5003])] mixed (by kernel_rfl) ?_
  refine .consA (.makeFuncC (Cs := [isV (ptr m5001 0), ref (some v1), isV (ptr m5003 0)]) .none (.cons (.s rfl) (.cons (.s rfl) (.cons (.s rfl) .nil)))) rfl ?_
  refine .consN (.storeS (k := 5003) (S := cloV 155 [isV (ptr m5001 0), ref (some v1), isV (ptr m5003 0)]) tr189 rfl cont_cells (.s rfl) (.s rfl) cloV_one) rfl ?_
  refine .nil ?_
  refine .then ?_
  refine .seq ?_
  refine .seq ?_
  refine .region [] mixed (by kernel_rfl) ?_
  refine .cons (.isRef rfl (.load .none ty100 (.s rfl))) rfl ?_
  refine .cons (.nilCheckR .none (.s rfl)) rfl ?_
  refine .cons (.fieldAddr .none fd148_0 hfd148_0 (.s rfl)) rfl ?_
  refine .cons (.fieldAddr .none fd25_0 hfd25_0 (.s rfl)) rfl ?_
  refine .cons (.load .none ty22 (.s rfl)) rfl ?_
  refine .cons (.len .none sl22 (.s rfl)) rfl ?_
  refine .cons (.move .none (.int (by decide))) rfl ?_
  refine .nil ?_
  refine .then ?_
  obtain ⟨j_1, h, hK1⟩ := bind_some h
  refine .thenJ (ι := (List Int)) (fun j_1 => []) (fun j_1 => [(5001, some (CPred.at (ptr m5001 0) (deep (fun z0 => cont 118 (⟨z0⟩ : Raw)) (rowV 3 j_1))))]) (fun s => j_1 = s) (.cons (t := 3) rfl (.cons (t := 4) rfl Sub.nil)) (.cons (t := 5003) rfl SubB.nil) ?_ (fun j_1' hj1 => ?_)
  · skip
    refine .block ?_
    refine .close (k := 5001) (g := 5002) (fun z => cont 118 (⟨z⟩ : Raw)) rfl rfl rfl ?_
    refine .rforL h (fun p2_ => [(14, ⟨True, rep p2_.1⟩)]) (fun p2_ => [(5001, some (CPred.at (ptr m5001 0) (deep (fun z0 => cont 118 (⟨z0⟩ : Raw)) (rowV 3 p2_.2))))]) (.cons (t := 14) rfl Sub.nil) (.cons (t := 5001) rfl SubB.nil) (.cons (t := 1) rfl (.cons (t := 3) rfl (.cons (t := 4) rfl (.cons (t := 12) rfl (.cons (t := 13) rfl Sub.nil))))) (.cons (t := 5003) rfl SubB.nil) (fun p2_ o_2 h hD2 => ?_)
    refine .open (k := 5001) (g := 5004) rfl rfl (fun s5004 => ?_)
    refine .seq ?_
    refine .region [] mixed (by kernel_rfl) ?_
    refine .cons (.lt .none (.s rfl) (.s rfl)) rfl ?_
    refine .nil ?_
    refine .then ?_
    refine .seq ?_
    refine .cond (t := 15) rfl trivial (fun hb3 => ?_) (fun hb3 => ?_)
    · replace h := bif_t h hb3
      refine .skip ?_
      refine .then ?_
      refine .seq ?_
      obtain ⟨j_4, h, hK4⟩ := bind_some h
      unfold page_view_order_L1 at h
      refine .thenJ (ι := (List Int)) (fun j_4 => []) (fun j_4 => [(5001, some (CPred.at (ptr m5001 0) (deep (fun z0 => cont 118 (⟨z0⟩ : Raw)) (rowV 3 j_4))))]) (fun s => j_4 = s) (.cons (t := 1) rfl (.cons (t := 3) rfl (.cons (t := 4) rfl (.cons (t := 12) rfl (.cons (t := 13) rfl (.cons (t := 14) rfl Sub.nil)))))) (.cons (t := 5003) rfl SubB.nil) ?_ (fun j_4' hj4 => ?_)
      · skip
        refine .block ?_
        refine .seq ?_
        refine .region [([], []), ([], []), ([], []), ([], [6]), ([], []), ([6], [6])] mixed (by kernel_rfl) ?_
        refine .consA (.move .none (.s rfl)) rfl ?_
        obtain ⟨hn5, h⟩ := need_some h
        refine .consA (.indexAddr .none sl22 ty44 (.s rfl) (.s rfl) (fun _ => hn5)) rfl ?_
        obtain ⟨v2, hv6, h⟩ := bnd_some h
        refine .consA (.re hv6 (.load .none ty44 (.s rfl))) rfl ?_
        refine .consW (.alloc zo44 rfl) rfl rfl ?_
        refine .consA (.assign .none (.s rfl)) rfl ?_
        refine .consN (.store ty44 rfl rfl (.s rfl)) rfl ?_
        refine .nil ?_
        refine .then ?_
        refine .freeze (t := 6) rfl rfl (.cons (t := 5001) rfl (.cons (t := 5003) rfl (.cons (t := 5004) rfl SubB.nil))) rfl ?_
        refine .seq ?_
        refine .region [] mixed (by kernel_rfl) ?_
        refine .cons (.fieldAddr .none fd44_5 hfd44_5 (.s rfl)) rfl ?_
        refine .cons (.load .none ty9 (.s rfl)) rfl ?_
        refine .cons (.eqS .none (eqAt_str Tryz.underlying9) (.s rfl) (.str (l := []) (by decide))) rfl ?_
        refine .nil ?_
        refine .then ?_
        refine .cond (t := 21) rfl trivial (fun hb7 => ?_) (fun hb7 => ?_)
        · replace h := bif_t h hb7
          refine .region [([5003], []), ([], []), ([5001, 5004, 5003], [5001, 5004, 5003])] mixed (by kernel_rfl) ?_
          refine .consA (.loadS (k := 5003) .none tr189 rfl (.s rfl) cloV_one) rfl ?_
          refine .consA (.move .none (.s rfl)) rfl ?_
          obtain ⟨r1, hv8, h⟩ := bind_some h
          refine .consW (.callClo [5001, 5004, 5003] (Ss := [rep p2_.1]) (Cs := [isV (ptr m5001 0), ref (some v1), isV (ptr m5003 0)]) (.s rfl) (page_view_order_1_ok hv8) (.cons (.s rfl) .nil) (.cons (k := 5001) rfl (.cons (k := 5004) rfl (.cons (k := 5003) rfl .nil))) rfl (by decide) (by decide) (by intro d h; cases h; decide)) rfl rfl ?_
          refine .nil ?_
          refine .blkNormal ?_
          exact Ends.join _ (some_eq h) (.cons (t := 1) rfl (.cons (t := 3) rfl (.cons (t := 4) rfl (.cons (t := 12) rfl (.cons (t := 13) rfl (.cons (t := 14) rfl Sub.nil)))))) (.cons (t := 5001) rfl (.cons (t := 5003) rfl SubB.nil))
        · replace h := bif_f h hb7
          refine .skip ?_
          refine .blkNormal ?_
          refine .close (k := 5001) (g := 5004) (fun z => cont 118 (⟨z⟩ : Raw)) rfl rfl rfl ?_
          exact Ends.join _ (some_eq h) (.cons (t := 1) rfl (.cons (t := 3) rfl (.cons (t := 4) rfl (.cons (t := 12) rfl (.cons (t := 13) rfl (.cons (t := 14) rfl Sub.nil)))))) (.cons (t := 5001) rfl (.cons (t := 5003) rfl SubB.nil))
      · subst hj4; have h := hK4; clear hK4
        refine .open (k := 5001) (g := 5005) rfl rfl (fun s5005 => ?_)
        refine .region [] mixed (by kernel_rfl) ?_
        refine .cons (.addW .none (.s rfl) (.int (by decide))) rfl ?_
        refine .cons (.move .none (.s rfl)) rfl ?_
        refine .nil ?_
        refine .close (k := 5001) (g := 5005) (fun z => cont 118 (⟨z⟩ : Raw)) rfl rfl rfl ?_
        exact Ends.againL (some_eq h) (.cons (t := 14) rfl (.cons (t := 1) rfl (.cons (t := 3) rfl (.cons (t := 4) rfl (.cons (t := 12) rfl (.cons (t := 13) rfl Sub.nil)))))) (.cons (t := 5001) rfl (.cons (t := 5003) rfl SubB.nil))
    · replace h := bif_f h hb3
      refine .exit ?_
      refine .thenExit ?_
      refine .thenExit ?_
      refine .blkExit ?_
      refine .close (k := 5001) (g := 5004) (fun z => cont 118 (⟨z⟩ : Raw)) rfl rfl rfl ?_
      replace h := hD2 _ (some_eq h)
      exact Ends.join _ (some_eq h) (.cons (t := 3) rfl (.cons (t := 4) rfl Sub.nil)) (.cons (t := 5001) rfl (.cons (t := 5003) rfl SubB.nil))
  · subst hj1; have h := hK1; clear hK1
    refine .open (k := 5001) (g := 5006) rfl rfl (fun s5006 => ?_)
    refine .seq ?_
    refine .region [([5001], []), ([], [])] mixed (by kernel_rfl) ?_
    refine .consA (.loadAt0 (k := 5001) .none tr118 rfl (.s rfl)) rfl ?_
    refine .consA (.assign .none (.s rfl)) rfl ?_
    refine .nil ?_
    refine .then ?_
    refine .freezeRow (g := 5006) (ts := [2]) rfl (.cons (t := 2) rfl trivial .nil) SubB.nil rfl ?_
    refine .ret ?_
    obtain rfl := some_eq h
    exact Ends.ret1 (.inl rfl) Tryz.results82 (ResOK.tmp rfl trivial Imp.refl)

theorem page_Order_ok {d1 : Doc} {r : ((List Str) × Int)}  (h : page_Order d1 = some r) : FSpec Tryz.prog 20 [rep d1] (tup [rep r.1, rep r.2]) := by
  unfold page_Order at h
  refine FSpec.intro (n := 50) fnok20 Tryz.func20 rfl Tryz.ntmps20 rfl (fun F => ?_)
  refine .seq ?_
  refine .region [] mixed (by kernel_rfl) ?_
  refine .cons (.box .none (.s rfl)) rfl ?_
  refine .cons (.assign .none (.const (x := ([] : (List Str))) (fun M w => ⟨_, ⟨none, 0, rfl, Nat.le_refl _, by decide, rfl⟩, rfl⟩))) rfl ?_
  refine .cons (.assign .none (.int (by decide))) rfl ?_
  refine .nil ?_
  refine .then ?_
  refine .seq ?_
  refine .region [] mixed (by kernel_rfl) ?_
  refine .cons (.load .none ty25 (.s rfl)) rfl ?_
  obtain ⟨r1, hv1, h⟩ := bind_some h
  refine .cons (.call .none (page_look_ok hv1) (.cons (.s rfl) .nil)) rfl ?_
  refine .cons (.move .none (.s rfl)) rfl ?_
  refine .cons (.extract .none (.s rfl) rfl) rfl ?_
  refine .cons (.extract .none (.s rfl) rfl) rfl ?_
  refine .cons (.assign .none (.s rfl)) rfl ?_
  refine .cons (.assign .none (.s rfl)) rfl ?_
  refine .nil ?_
  refine .then ?_
  refine .seq ?_
  refine .seq ?_
  refine .region [] mixed (by kernel_rfl) ?_
  refine .cons (.move .none (.s rfl)) rfl ?_
  refine .cons (.neI .none (.s rfl) (.int (by decide))) rfl ?_
  refine .nil ?_
  refine .then ?_
  refine .cond (t := 17) rfl trivial (fun hb2 => ?_) (fun hb2 => ?_)
  · replace h := bif_t h hb2
    refine .seq ?_
    refine .region [] mixed (by kernel_rfl) ?_
    refine .cons (.move .none (.s rfl)) rfl ?_
    refine .cons (.assign .none (.const (x := ([] : (List Str))) (fun M w => ⟨_, ⟨none, 0, rfl, Nat.le_refl _, by decide, rfl⟩, rfl⟩))) rfl ?_
    refine .cons (.assign .none (.s rfl)) rfl ?_
    refine .nil ?_
    refine .then ?_
    refine .ret ?_
    refine .thenRet ?_
    obtain rfl := some_eq h
    exact Ends.ret2 (.inl rfl) Tryz.results20 (ResOK.tmp rfl trivial Imp.refl) (ResOK.tmp rfl trivial Imp.refl)
  · replace h := bif_f h hb2
    refine .skip ?_
    refine .then ?_
    refine .seq ?_
    refine .region [([], [6])] mixed (by kernel_rfl) ?_
    refine .consW (.nilRow (T := 9) (α := Str) rfl) rfl rfl ?_
    refine .nil ?_
    refine .then ?_
    refine .nameRow (t := 6) (g := 5001) rfl rfl rfl (fun s5001 => ?_)
    refine .seq ?_
    refine .seq ?_
    obtain ⟨v1, hv3, h⟩ := bind_some h
    refine .isRef (t := 4) hv3 rfl trivial ?_
    refine .region [] mixed (by kernel_rfl) ?_
    refine .cons (.move .none (.s rfl)) rfl ?_
    obtain ⟨r2, hv4, h⟩ := bind_some h
    refine .cons (.call .none (page_view_order_ok hv4) (.cons (.s rfl) .nil)) rfl ?_
    refine .cons (.len .none sl118 (.s rfl)) rfl ?_
    refine .cons (.move .none (.int (by decide))) rfl ?_
    refine .nil ?_
    refine .then ?_
    obtain ⟨j_5, h, hK5⟩ := bind_some h
    refine .thenJ (ι := (List Str)) (fun j_5 => []) (fun j_5 => [(6, some (rowV 9 j_5))]) (fun s => j_5 = s) (.cons (t := 1) rfl Sub.nil) SubB.nil ?_ (fun j_5' hj5 => ?_)
    · skip
      refine .block ?_
      refine .anon (t := 6) (g := 5001) rfl rfl trivial rfl ?_
      refine .rforL h (fun p6_ => [(22, ⟨True, rep p6_.1⟩)]) (fun p6_ => [(6, some (rowV 9 p6_.2))]) (.cons (t := 22) rfl Sub.nil) (.cons (t := 6) rfl SubB.nil) (.cons (t := 1) rfl (.cons (t := 20) rfl (.cons (t := 21) rfl Sub.nil))) SubB.nil (fun p6_ o_6 h hD6 => ?_)
      refine .nameRow (t := 6) (g := 5002) rfl rfl rfl (fun s5002 => ?_)
      refine .seq ?_
      refine .region [] mixed (by kernel_rfl) ?_
      refine .cons (.lt .none (.s rfl) (.s rfl)) rfl ?_
      refine .nil ?_
      refine .then ?_
      refine .seq ?_
      refine .cond (t := 23) rfl trivial (fun hb7 => ?_) (fun hb7 => ?_)
      · replace h := bif_t h hb7
        refine .skip ?_
        refine .then ?_
        refine .seq ?_
        obtain ⟨j_8, h, hK8⟩ := bind_some h
        unfold page_Order_L1 at h
        refine .thenJ (ι := (List Str)) (fun j_8 => []) (fun j_8 => [(6, some (rowV 9 j_8))]) (fun s => j_8 = s) (.cons (t := 1) rfl (.cons (t := 20) rfl (.cons (t := 21) rfl (.cons (t := 22) rfl Sub.nil)))) SubB.nil ?_ (fun j_8' hj8 => ?_)
        · skip
          refine .block ?_
          refine .seq ?_
          refine .region [] mixed (by kernel_rfl) ?_
          obtain ⟨hn9, h⟩ := need_some h
          refine .cons (.indexAddr .none sl118 ty3 (.s rfl) (.s rfl) (fun _ => hn9)) rfl ?_
          refine .cons (.load .none ty3 (.s rfl)) rfl ?_
          refine .cons (.assign .none (.s rfl)) rfl ?_
          refine .nil ?_
          refine .then ?_
          refine .region [([], []), ([], []), ([], []), ([], []), ([], []), ([], []), ([], []), ([], []), ([5002], [34, 5002]), ([34], [6, 34])] mixed (by kernel_rfl) ?_
          refine .consA (.move .none (.s rfl)) rfl ?_
          refine .consA (.fieldAddr .none fd25_0 hfd25_0 (.s rfl)) rfl ?_
          refine .consA (.load .none ty22 (.s rfl)) rfl ?_
          refine .consA (.move .none (.s rfl)) rfl ?_
          obtain ⟨hn10, h⟩ := need_some h
          refine .consA (.indexAddr .none sl22 ty44 (.s rfl) (.s rfl) (fun _ => hn10)) rfl ?_
          refine .consA (.fieldAddr .none fd44_0 hfd44_0 (.s rfl)) rfl ?_
          refine .consA (.load .none ty9 (.s rfl)) rfl ?_
          refine .consA (.buildSlice (xs := [_]) .none sl39 ty9 hz9 (.cons (.s rfl) .nil) rfl (by decide)) rfl ?_
          obtain ⟨hn11, h⟩ := need_some h
          refine .consW (.append (k := 5002) rk39 rfl (.told (.s rfl) rfl) (.s rfl) hn11) rfl rfl ?_
          refine .consWD (.passRow rfl (.tmp rfl)) rfl rfl ?_
          refine .nil ?_
          refine .blkNormal ?_
          exact Ends.join _ (some_eq h) (.cons (t := 1) rfl (.cons (t := 20) rfl (.cons (t := 21) rfl (.cons (t := 22) rfl Sub.nil)))) (.cons (t := 6) rfl SubB.nil)
        · subst hj8; have h := hK8; clear hK8
          refine .nameRow (t := 6) (g := 5003) rfl rfl rfl (fun s5003 => ?_)
          refine .region [] mixed (by kernel_rfl) ?_
          refine .cons (.addW .none (.s rfl) (.int (by decide))) rfl ?_
          refine .cons (.move .none (.s rfl)) rfl ?_
          refine .nil ?_
          refine .anon (t := 6) (g := 5003) rfl rfl trivial rfl ?_
          exact Ends.againL (some_eq h) (.cons (t := 22) rfl (.cons (t := 1) rfl (.cons (t := 20) rfl (.cons (t := 21) rfl Sub.nil)))) (.cons (t := 6) rfl SubB.nil)
      · replace h := bif_f h hb7
        refine .exit ?_
        refine .thenExit ?_
        refine .thenExit ?_
        refine .blkExit ?_
        refine .anon (t := 6) (g := 5002) rfl rfl trivial rfl ?_
        replace h := hD6 _ (some_eq h)
        exact Ends.join _ (some_eq h) (.cons (t := 1) rfl Sub.nil) (.cons (t := 6) rfl SubB.nil)
    · subst hj5; have h := hK5; clear hK5
      refine .nameRow (t := 6) (g := 5004) rfl rfl rfl (fun s5004 => ?_)
      refine .seq ?_
      refine .seq ?_
      refine .region [] mixed (by kernel_rfl) ?_
      refine .cons (.fieldAddr .none fd25_1 hfd25_1 (.s rfl)) rfl ?_
      refine .cons (.load .none ty23 (.s rfl)) rfl ?_
      refine .cons (.len .none sl23 (.s rfl)) rfl ?_
      refine .cons (.move .none (.int (by decide))) rfl ?_
      refine .nil ?_
      refine .then ?_
      obtain ⟨j_12, h, hK12⟩ := bind_some h
      refine .thenJ (ι := (List Str)) (fun j_12 => []) (fun j_12 => [(6, some (rowV 9 j_12))]) (fun s => j_12 = s) Sub.nil SubB.nil ?_ (fun j_12' hj12 => ?_)
      · skip
        refine .block ?_
        refine .anon (t := 6) (g := 5004) rfl rfl trivial rfl ?_
        refine .rforL h (fun p13_ => [(39, ⟨True, rep p13_.1⟩)]) (fun p13_ => [(6, some (rowV 9 p13_.2))]) (.cons (t := 39) rfl Sub.nil) (.cons (t := 6) rfl SubB.nil) (.cons (t := 37) rfl (.cons (t := 38) rfl Sub.nil)) SubB.nil (fun p13_ o_13 h hD13 => ?_)
        refine .nameRow (t := 6) (g := 5005) rfl rfl rfl (fun s5005 => ?_)
        refine .seq ?_
        refine .region [] mixed (by kernel_rfl) ?_
        refine .cons (.lt .none (.s rfl) (.s rfl)) rfl ?_
        refine .nil ?_
        refine .then ?_
        refine .seq ?_
        refine .cond (t := 40) rfl trivial (fun hb14 => ?_) (fun hb14 => ?_)
        · replace h := bif_t h hb14
          refine .skip ?_
          refine .then ?_
          refine .seq ?_
          obtain ⟨j_15, h, hK15⟩ := bind_some h
          unfold page_Order_L2 at h
          refine .thenJ (ι := (List Str)) (fun j_15 => []) (fun j_15 => [(6, some (rowV 9 j_15))]) (fun s => j_15 = s) (.cons (t := 37) rfl (.cons (t := 38) rfl (.cons (t := 39) rfl Sub.nil))) SubB.nil ?_ (fun j_15' hj15 => ?_)
          · skip
            refine .block ?_
            refine .seq ?_
            refine .region [([], []), ([], []), ([], [10]), ([10], [10])] mixed (by kernel_rfl) ?_
            obtain ⟨hn16, h⟩ := need_some h
            refine .consA (.indexAddr .none sl23 ty67 (.s rfl) (.s rfl) (fun _ => hn16)) rfl ?_
            obtain ⟨v2, hv17, h⟩ := bnd_some h
            refine .consA (.re hv17 (.load .none ty67 (.s rfl))) rfl ?_
            refine .consW (.alloc zo67 rfl) rfl rfl ?_
            refine .consN (.store ty67 rfl rfl (.s rfl)) rfl ?_
            refine .nil ?_
            refine .then ?_
            refine .freeze (t := 10) rfl rfl (.cons (t := 5005) rfl SubB.nil) rfl ?_
            refine .region [([], []), ([], []), ([], []), ([], []), ([5005], [47, 5005]), ([47], [6, 47])] mixed (by kernel_rfl) ?_
            refine .consA (.move .none (.s rfl)) rfl ?_
            refine .consA (.fieldAddr .none fd67_0 hfd67_0 (.s rfl)) rfl ?_
            refine .consA (.load .none ty9 (.s rfl)) rfl ?_
            refine .consA (.buildSlice (xs := [_]) .none sl39 ty9 hz9 (.cons (.s rfl) .nil) rfl (by decide)) rfl ?_
            obtain ⟨hn18, h⟩ := need_some h
            refine .consW (.append (k := 5005) rk39 rfl (.told (.s rfl) rfl) (.s rfl) hn18) rfl rfl ?_
            refine .consW (.passRow rfl (.tmp rfl)) rfl rfl ?_
            refine .nil ?_
            refine .blkNormal ?_
            exact Ends.join _ (some_eq h) (.cons (t := 37) rfl (.cons (t := 38) rfl (.cons (t := 39) rfl Sub.nil))) (.cons (t := 6) rfl SubB.nil)
          · subst hj15; have h := hK15; clear hK15
            refine .nameRow (t := 6) (g := 5006) rfl rfl rfl (fun s5006 => ?_)
            refine .region [] mixed (by kernel_rfl) ?_
            refine .cons (.addW .none (.s rfl) (.int (by decide))) rfl ?_
            refine .cons (.move .none (.s rfl)) rfl ?_
            refine .nil ?_
            refine .anon (t := 6) (g := 5006) rfl rfl trivial rfl ?_
            exact Ends.againL (some_eq h) (.cons (t := 39) rfl (.cons (t := 37) rfl (.cons (t := 38) rfl Sub.nil))) (.cons (t := 6) rfl SubB.nil)
        · replace h := bif_f h hb14
          refine .exit ?_
          refine .thenExit ?_
          refine .thenExit ?_
          refine .blkExit ?_
          refine .anon (t := 6) (g := 5005) rfl rfl trivial rfl ?_
          replace h := hD13 _ (some_eq h)
          exact Ends.join _ (some_eq h) Sub.nil (.cons (t := 6) rfl SubB.nil)
      · subst hj12; have h := hK12; clear hK12
        refine .freezeRowA (t := 6) rfl rfl SubB.nil rfl ?_
        refine .seq ?_
        refine .region [] mixed (by kernel_rfl) ?_
        refine .cons (.move .none (.s rfl)) rfl ?_
        refine .cons (.assign .none (.s rfl)) rfl ?_
        refine .cons (.assign .none (.int (by decide))) rfl ?_
        refine .nil ?_
        refine .then ?_
        refine .ret ?_
        obtain rfl := some_eq h
        exact Ends.ret2 (.inl rfl) Tryz.results20 (ResOK.tmp rfl trivial Imp.refl) (ResOK.tmp rfl trivial Imp.refl)

theorem shape_isKind_ok {kind1 : Int} {r : Bool}  (h : shape_isKind kind1 = some r) : FSpec Tryz.prog 157 [rep kind1] (rep r) := by
  unfold shape_isKind at h
  refine FSpec.intro (n := 9) fnok157 Tryz.func157 rfl Tryz.ntmps157 rfl (fun F => ?_)
  refine .seq ?_
  refine .region [] mixed (by kernel_rfl) ?_
  refine .cons (.assign .none .bool) rfl ?_
  refine .nil ?_
  refine .then ?_
  refine .seq ?_
  refine .region [] mixed (by kernel_rfl) ?_
  refine .cons (.move .none (.s rfl)) rfl ?_
  refine .cons (.ge .none (.s rfl) (.int (by decide))) rfl ?_
  refine .cons (.move .none (.s rfl)) rfl ?_
  refine .cons (.move (.at rfl rfl) (.s rfl)) rfl ?_
  refine .cons (.le (.at rfl rfl) (.tmp rfl id) (.int (by decide))) rfl ?_
  refine .cons (.pickAnd .none (.s rfl) (.tmp rfl id)) rfl ?_
  refine .cons (.assign .none (.s rfl)) rfl ?_
  refine .nil ?_
  refine .then ?_
  refine .ret ?_
  obtain rfl := some_eq h
  exact Ends.ret1 (.inl rfl) Tryz.results157 (ResOK.tmp rfl trivial Imp.refl)

theorem shape_than_ok {n1 : Int} {limit1 : Int} {r : Int}  (h : shape_than n1 limit1 = some r) : FSpec Tryz.prog 185 [rep n1, rep limit1] (rep r) := by
  unfold shape_than at h
  refine FSpec.intro (n := 13) fnok185 Tryz.func185 rfl Tryz.ntmps185 rfl (fun F => ?_)
  refine .seq ?_
  refine .region [] mixed (by kernel_rfl) ?_
  refine .cons (.assign .none (.int (by decide))) rfl ?_
  refine .nil ?_
  refine .then ?_
  refine .seq ?_
  refine .block ?_
  refine .seq ?_
  refine .region [] mixed (by kernel_rfl) ?_
  refine .cons (.move .none (.s rfl)) rfl ?_
  refine .cons (.move .none (.s rfl)) rfl ?_
  refine .cons (.lt .none (.s rfl) (.s rfl)) rfl ?_
  refine .cons (.assign .none (.s rfl)) rfl ?_
  refine .nil ?_
  refine .then ?_
  refine .cond (t := 5) rfl trivial (fun hb1 => ?_) (fun hb1 => ?_)
  · replace h := bif_t h hb1
    refine .seq ?_
    refine .region [] mixed (by kernel_rfl) ?_
    refine .cons (.assign .none (.int (by decide))) rfl ?_
    refine .nil ?_
    refine .then ?_
    refine .ret ?_
    refine .blkRet ?_
    refine .thenRet ?_
    obtain rfl := some_eq h
    exact Ends.ret1 (.inl rfl) Tryz.results185 (ResOK.tmp rfl trivial Imp.refl)
  · replace h := bif_f h hb1
    refine .seq ?_
    refine .region [] mixed (by kernel_rfl) ?_
    refine .cons (.move .none (.s rfl)) rfl ?_
    refine .cons (.move .none (.s rfl)) rfl ?_
    refine .cons (.eqI .none (.s rfl) (.s rfl)) rfl ?_
    refine .cons (.assign .none (.s rfl)) rfl ?_
    refine .nil ?_
    refine .then ?_
    refine .cond (t := 9) rfl trivial (fun hb2 => ?_) (fun hb2 => ?_)
    · replace h := bif_t h hb2
      refine .seq ?_
      refine .region [] mixed (by kernel_rfl) ?_
      refine .cons (.assign .none (.int (by decide))) rfl ?_
      refine .nil ?_
      refine .then ?_
      refine .ret ?_
      refine .blkRet ?_
      refine .thenRet ?_
      obtain rfl := some_eq h
      exact Ends.ret1 (.inl rfl) Tryz.results185 (ResOK.tmp rfl trivial Imp.refl)
    · replace h := bif_f h hb2
      refine .skip ?_
      refine .blkNormal ?_
      refine .then ?_
      refine .seq ?_
      refine .region [] mixed (by kernel_rfl) ?_
      refine .cons (.assign .none (.int (by decide))) rfl ?_
      refine .nil ?_
      refine .then ?_
      refine .ret ?_
      obtain rfl := some_eq h
      exact Ends.ret1 (.inl rfl) Tryz.results185 (ResOK.tmp rfl trivial Imp.refl)

theorem shape_size_ok {n1 : Int} {r : Int}  (h : shape_size n1 = some r) : FSpec Tryz.prog 186 [rep n1] (rep r) := by
  unfold shape_size at h
  refine FSpec.intro (n := 7) fnok186 Tryz.func186 rfl Tryz.ntmps186 rfl (fun F => ?_)
  refine .seq ?_
  refine .region [] mixed (by kernel_rfl) ?_
  refine .cons (.assign .none (.int (by decide))) rfl ?_
  refine .nil ?_
  refine .then ?_
  refine .seq ?_
  refine .region [] mixed (by kernel_rfl) ?_
  refine .cons (.move .none (.s rfl)) rfl ?_
  refine .cons (.move .none (.s rfl)) rfl ?_
  refine .cons (.negW .none (.s rfl)) rfl ?_
  refine .cons (.max2 .none (.s rfl) (.s rfl)) rfl ?_
  refine .cons (.assign .none (.s rfl)) rfl ?_
  refine .nil ?_
  refine .then ?_
  refine .ret ?_
  obtain rfl := some_eq h
  exact Ends.ret1 (.inl rfl) Tryz.results186 (ResOK.tmp rfl trivial Imp.refl)

theorem shape_has_ok {kind1 : Int} {b1 : Box} {p1 : Point} {r : Int}  (h : shape_has kind1 b1 p1 = some r) : FSpec Tryz.prog 158 [rep kind1, rep b1, rep p1] (rep r) := by
  unfold shape_has at h
  refine FSpec.intro (n := 166) fnok158 Tryz.func158 rfl Tryz.ntmps158 rfl (fun F => ?_)
  refine .seq ?_
  refine .region [] mixed (by kernel_rfl) ?_
  refine .cons (.box .none (.s rfl)) rfl ?_
  refine .cons (.box .none (.s rfl)) rfl ?_
  refine .cons (.assign .none (.int (by decide))) rfl ?_
  refine .nil ?_
  refine .then ?_
  refine .seq ?_
  refine .region [] mixed (by kernel_rfl) ?_
  refine .cons (.fieldAddr .none fd27_0 hfd27_0 (.s rfl)) rfl ?_
  refine .cons (.load .none ty3 (.s rfl)) rfl ?_
  refine .cons (.fieldAddr .none fd29_0 hfd29_0 (.s rfl)) rfl ?_
  refine .cons (.load .none ty3 (.s rfl)) rfl ?_
  refine .cons (.subW .none (.s rfl) (.s rfl)) rfl ?_
  refine .cons (.fieldAddr .none fd27_1 hfd27_1 (.s rfl)) rfl ?_
  refine .cons (.load .none ty3 (.s rfl)) rfl ?_
  refine .cons (.fieldAddr .none fd29_1 hfd29_1 (.s rfl)) rfl ?_
  refine .cons (.load .none ty3 (.s rfl)) rfl ?_
  refine .cons (.subW .none (.s rfl) (.s rfl)) rfl ?_
  obtain ⟨x1, hv1, h⟩ := bnd_some h
  refine .cons (.re hv1 (.assign .none (.s rfl))) rfl ?_
  obtain ⟨y1, hv2, h⟩ := bnd_some h
  refine .cons (.re hv2 (.assign .none (.s rfl))) rfl ?_
  refine .nil ?_
  refine .then ?_
  refine .seq ?_
  refine .seq ?_
  refine .region [] mixed (by kernel_rfl) ?_
  refine .cons (.move .none (.s rfl)) rfl ?_
  refine .cons (.lt .none (.s rfl) (.int (by decide))) rfl ?_
  refine .cons (.move .none (.s rfl)) rfl ?_
  refine .cons (.move (.at rfl rfl) (.s rfl)) rfl ?_
  refine .cons (.fieldAddr (.at rfl rfl) fd29_2 hfd29_2 (.s rfl)) rfl ?_
  refine .cons (.load (.at rfl rfl) ty3 (.tmp rfl id)) rfl ?_
  refine .cons (.gt (.at rfl rfl) (.tmp rfl id) (.tmp rfl id)) rfl ?_
  refine .cons (.pickOr .none (.s rfl) (.tmp rfl id)) rfl ?_
  refine .cons (.move .none (.s rfl)) rfl ?_
  refine .cons (.move (.at rfl rfl) (.s rfl)) rfl ?_
  refine .cons (.lt (.at rfl rfl) (.tmp rfl id) (.int (by decide))) rfl ?_
  refine .cons (.pickOr .none (.s rfl) (.tmp rfl id)) rfl ?_
  refine .cons (.move .none (.s rfl)) rfl ?_
  refine .cons (.move (.at rfl rfl) (.s rfl)) rfl ?_
  refine .cons (.fieldAddr (.at rfl rfl) fd29_3 hfd29_3 (.s rfl)) rfl ?_
  refine .cons (.load (.at rfl rfl) ty3 (.tmp rfl id)) rfl ?_
  refine .cons (.gt (.at rfl rfl) (.tmp rfl id) (.tmp rfl id)) rfl ?_
  refine .cons (.pickOr .none (.s rfl) (.tmp rfl id)) rfl ?_
  refine .nil ?_
  refine .then ?_
  refine .cond (t := 44) rfl trivial (fun hb3 => ?_) (fun hb3 => ?_)
  · replace h := bif_t h hb3
    refine .seq ?_
    refine .region [] mixed (by kernel_rfl) ?_
    refine .cons (.assign .none (.int (by decide))) rfl ?_
    refine .nil ?_
    refine .then ?_
    refine .ret ?_
    refine .thenRet ?_
    obtain rfl := some_eq h
    exact Ends.ret1 (.inl rfl) Tryz.results158 (ResOK.tmp rfl trivial Imp.refl)
  · replace h := bif_f h hb3
    refine .skip ?_
    refine .then ?_
    refine .seq ?_
    refine .region [] mixed (by kernel_rfl) ?_
    refine .cons (.move .none (.s rfl)) rfl ?_
    refine .cons (.mulW .none (.int (by decide)) (.s rfl)) rfl ?_
    refine .cons (.fieldAddr .none fd29_2 hfd29_2 (.s rfl)) rfl ?_
    refine .cons (.load .none ty3 (.s rfl)) rfl ?_
    refine .cons (.subW .none (.s rfl) (.s rfl)) rfl ?_
    refine .cons (.move .none (.s rfl)) rfl ?_
    refine .cons (.mulW .none (.int (by decide)) (.s rfl)) rfl ?_
    refine .cons (.fieldAddr .none fd29_3 hfd29_3 (.s rfl)) rfl ?_
    refine .cons (.load .none ty3 (.s rfl)) rfl ?_
    refine .cons (.subW .none (.s rfl) (.s rfl)) rfl ?_
    refine .cons (.fieldAddr .none fd29_2 hfd29_2 (.s rfl)) rfl ?_
    refine .cons (.load .none ty3 (.s rfl)) rfl ?_
    refine .cons (.fieldAddr .none fd29_3 hfd29_3 (.s rfl)) rfl ?_
    refine .cons (.load .none ty3 (.s rfl)) rfl ?_
    obtain ⟨u1, hv4, h⟩ := bnd_some h
    refine .cons (.re hv4 (.assign .none (.s rfl))) rfl ?_
    obtain ⟨v1, hv5, h⟩ := bnd_some h
    refine .cons (.re hv5 (.assign .none (.s rfl))) rfl ?_
    refine .cons (.assign .none (.s rfl)) rfl ?_
    refine .cons (.assign .none (.s rfl)) rfl ?_
    refine .nil ?_
    refine .then ?_
    refine .seq ?_
    refine .region [] mixed (by kernel_rfl) ?_
    refine .cons (.assign .none (.int (by decide))) rfl ?_
    refine .nil ?_
    refine .then ?_
    refine .seq ?_
    refine .seq ?_
    refine .region [] mixed (by kernel_rfl) ?_
    refine .cons (.move .none (.s rfl)) rfl ?_
    refine .cons (.eqI .none (.s rfl) (.int (by decide))) rfl ?_
    refine .cons (.move .none (.s rfl)) rfl ?_
    refine .cons (.move (.at rfl rfl) (.s rfl)) rfl ?_
    refine .cons (.move (.at rfl rfl) (.s rfl)) rfl ?_
    refine .cons (.eqI (.at rfl rfl) (.tmp rfl id) (.tmp rfl id)) rfl ?_
    refine .cons (.pickOr .none (.s rfl) (.tmp rfl id)) rfl ?_
    refine .cons (.move .none (.s rfl)) rfl ?_
    refine .cons (.move (.at rfl rfl) (.s rfl)) rfl ?_
    refine .cons (.eqI (.at rfl rfl) (.tmp rfl id) (.int (by decide))) rfl ?_
    refine .cons (.pickOr .none (.s rfl) (.tmp rfl id)) rfl ?_
    refine .cons (.move .none (.s rfl)) rfl ?_
    refine .cons (.move (.at rfl rfl) (.s rfl)) rfl ?_
    refine .cons (.move (.at rfl rfl) (.s rfl)) rfl ?_
    refine .cons (.eqI (.at rfl rfl) (.tmp rfl id) (.tmp rfl id)) rfl ?_
    refine .cons (.pickOr .none (.s rfl) (.tmp rfl id)) rfl ?_
    refine .nil ?_
    refine .then ?_
    obtain ⟨j_6, h, hK6⟩ := bind_some h
    refine .thenJ (ι := Int) (fun j_6 => [(13, ⟨True, rep j_6⟩)]) (fun j_6 => []) (fun s => j_6 = s) (.cons (t := 0) rfl (.cons (t := 7) rfl (.cons (t := 8) rfl (.cons (t := 9) rfl (.cons (t := 10) rfl (.cons (t := 11) rfl (.cons (t := 12) rfl Sub.nil))))))) SubB.nil ?_ (fun j_6' hj6 => ?_)
    · skip
      refine .cond (t := 74) rfl trivial (fun hb7 => ?_) (fun hb7 => ?_)
      · replace h := bif_t h hb7
        refine .region [] mixed (by kernel_rfl) ?_
        refine .cons (.assign .none (.int (by decide))) rfl ?_
        refine .nil ?_
        exact Ends.join _ (some_eq h) (.cons (t := 13) rfl (.cons (t := 0) rfl (.cons (t := 7) rfl (.cons (t := 8) rfl (.cons (t := 9) rfl (.cons (t := 10) rfl (.cons (t := 11) rfl (.cons (t := 12) rfl Sub.nil)))))))) SubB.nil
      · replace h := bif_f h hb7
        refine .skip ?_
        exact Ends.join _ (some_eq h) (.cons (t := 13) rfl (.cons (t := 0) rfl (.cons (t := 7) rfl (.cons (t := 8) rfl (.cons (t := 9) rfl (.cons (t := 10) rfl (.cons (t := 11) rfl (.cons (t := 12) rfl Sub.nil)))))))) SubB.nil
    · subst hj6; have h := hK6; clear hK6
      refine .seq ?_
      refine .seq ?_
      refine .region [] mixed (by kernel_rfl) ?_
      refine .cons (.move .none (.s rfl)) rfl ?_
      refine .nil ?_
      refine .then ?_
      obtain ⟨o_8, h, hK8⟩ := bindR_some h
      refine .thenJ (ι := Unit) (fun j_8 => []) (fun j_8 => []) (fun s => o_8 = Res.nx s) (.cons (t := 13) rfl Sub.nil) SubB.nil ?_ (fun j_8 hj8 => ?_)
      · skip
        refine .block ?_
        refine .seq ?_
        refine .region [] mixed (by kernel_rfl) ?_
        refine .cons (.eqI .none (.s rfl) (.int (by decide))) rfl ?_
        refine .cons (.assign .none (.s rfl)) rfl ?_
        refine .nil ?_
        refine .then ?_
        refine .cond (t := 76) rfl trivial (fun hb9 => ?_) (fun hb9 => ?_)
        · replace h := bif_t h hb9
          refine .seq ?_
          refine .region [] mixed (by kernel_rfl) ?_
          refine .cons (.move .none (.s rfl)) rfl ?_
          refine .cons (.move .none (.s rfl)) rfl ?_
          refine .cons (.mulW .none (.s rfl) (.s rfl)) rfl ?_
          refine .cons (.move .none (.s rfl)) rfl ?_
          refine .cons (.mulW .none (.s rfl) (.s rfl)) rfl ?_
          refine .cons (.move .none (.s rfl)) rfl ?_
          refine .cons (.mulW .none (.s rfl) (.s rfl)) rfl ?_
          refine .cons (.move .none (.s rfl)) rfl ?_
          refine .cons (.move .none (.s rfl)) rfl ?_
          refine .cons (.mulW .none (.s rfl) (.s rfl)) rfl ?_
          refine .cons (.move .none (.s rfl)) rfl ?_
          refine .cons (.mulW .none (.s rfl) (.s rfl)) rfl ?_
          refine .cons (.move .none (.s rfl)) rfl ?_
          refine .cons (.mulW .none (.s rfl) (.s rfl)) rfl ?_
          refine .cons (.addW .none (.s rfl) (.s rfl)) rfl ?_
          refine .cons (.move .none (.s rfl)) rfl ?_
          refine .cons (.move .none (.s rfl)) rfl ?_
          refine .cons (.mulW .none (.s rfl) (.s rfl)) rfl ?_
          refine .cons (.move .none (.s rfl)) rfl ?_
          refine .cons (.mulW .none (.s rfl) (.s rfl)) rfl ?_
          refine .cons (.move .none (.s rfl)) rfl ?_
          refine .cons (.mulW .none (.s rfl) (.s rfl)) rfl ?_
          obtain ⟨r1, hv10, h⟩ := bind_some h
          refine .cons (.call .none (shape_than_ok hv10) (.cons (.s rfl) (.cons (.s rfl) .nil))) rfl ?_
          refine .cons (.assign .none (.s rfl)) rfl ?_
          refine .nil ?_
          refine .then ?_
          refine .ret ?_
          refine .blkRet ?_
          refine .thenRet ?_
          replace h := resb_ab hK8 (some_eq h)
          obtain rfl := some_eq h
          exact Ends.ret1 (.inl rfl) Tryz.results158 (ResOK.tmp rfl trivial Imp.refl)
        · replace h := bif_f h hb9
          refine .seq ?_
          refine .region [] mixed (by kernel_rfl) ?_
          refine .cons (.eqI .none (.s rfl) (.int (by decide))) rfl ?_
          refine .cons (.assign .none (.s rfl)) rfl ?_
          refine .nil ?_
          refine .then ?_
          refine .cond (t := 101) rfl trivial (fun hb11 => ?_) (fun hb11 => ?_)
          · replace h := bif_t h hb11
            refine .seq ?_
            refine .region [] mixed (by kernel_rfl) ?_
            refine .cons (.move .none (.s rfl)) rfl ?_
            obtain ⟨r2, hv12, h⟩ := bind_some h
            refine .cons (.call .none (shape_size_ok hv12) (.cons (.s rfl) .nil)) rfl ?_
            refine .cons (.move .none (.s rfl)) rfl ?_
            refine .cons (.mulW .none (.s rfl) (.s rfl)) rfl ?_
            refine .cons (.move .none (.s rfl)) rfl ?_
            obtain ⟨r3, hv13, h⟩ := bind_some h
            refine .cons (.call .none (shape_size_ok hv13) (.cons (.s rfl) .nil)) rfl ?_
            refine .cons (.move .none (.s rfl)) rfl ?_
            refine .cons (.mulW .none (.s rfl) (.s rfl)) rfl ?_
            refine .cons (.addW .none (.s rfl) (.s rfl)) rfl ?_
            refine .cons (.move .none (.s rfl)) rfl ?_
            refine .cons (.move .none (.s rfl)) rfl ?_
            refine .cons (.mulW .none (.s rfl) (.s rfl)) rfl ?_
            obtain ⟨r4, hv14, h⟩ := bind_some h
            refine .cons (.call .none (shape_than_ok hv14) (.cons (.s rfl) (.cons (.s rfl) .nil))) rfl ?_
            refine .cons (.assign .none (.s rfl)) rfl ?_
            refine .nil ?_
            refine .then ?_
            refine .ret ?_
            refine .blkRet ?_
            refine .thenRet ?_
            replace h := resb_ab hK8 (some_eq h)
            obtain rfl := some_eq h
            exact Ends.ret1 (.inl rfl) Tryz.results158 (ResOK.tmp rfl trivial Imp.refl)
          · replace h := bif_f h hb11
            refine .seq ?_
            refine .region [] mixed (by kernel_rfl) ?_
            refine .cons (.eqI .none (.s rfl) (.int (by decide))) rfl ?_
            refine .cons (.assign .none (.s rfl)) rfl ?_
            refine .nil ?_
            refine .then ?_
            refine .cond (t := 116) rfl trivial (fun hb15 => ?_) (fun hb15 => ?_)
            · replace h := bif_t h hb15
              refine .seq ?_
              refine .seq ?_
              refine .region [] mixed (by kernel_rfl) ?_
              refine .cons (.move .none (.s rfl)) rfl ?_
              refine .cons (.move .none (.s rfl)) rfl ?_
              refine .cons (.lt .none (.s rfl) (.s rfl)) rfl ?_
              refine .nil ?_
              refine .then ?_
              obtain ⟨j_16, h, hK16⟩ := bind_some h
              refine .thenJ (ι := (Int × Int × Int × Int)) (fun j_16 => [(9, ⟨True, rep j_16.1⟩), (10, ⟨True, rep j_16.2.1⟩), (11, ⟨True, rep j_16.2.2.1⟩), (12, ⟨True, rep j_16.2.2.2⟩)]) (fun j_16 => []) (fun s => j_16 = s) Sub.nil SubB.nil ?_ (fun j_16' hj16 => ?_)
              · skip
                refine .cond (t := 120) rfl trivial (fun hb17 => ?_) (fun hb17 => ?_)
                · replace h := bif_t h hb17
                  refine .region [] mixed (by kernel_rfl) ?_
                  refine .cons (.move .none (.s rfl)) rfl ?_
                  refine .cons (.move .none (.s rfl)) rfl ?_
                  refine .cons (.move .none (.s rfl)) rfl ?_
                  refine .cons (.move .none (.s rfl)) rfl ?_
                  refine .cons (.assign .none (.s rfl)) rfl ?_
                  refine .cons (.assign .none (.s rfl)) rfl ?_
                  refine .cons (.assign .none (.s rfl)) rfl ?_
                  refine .cons (.assign .none (.s rfl)) rfl ?_
                  refine .nil ?_
                  exact Ends.join _ (some_eq h) (.cons (t := 9) rfl (.cons (t := 10) rfl (.cons (t := 11) rfl (.cons (t := 12) rfl Sub.nil)))) SubB.nil
                · replace h := bif_f h hb17
                  refine .skip ?_
                  exact Ends.join _ (some_eq h) (.cons (t := 9) rfl (.cons (t := 10) rfl (.cons (t := 11) rfl (.cons (t := 12) rfl Sub.nil)))) SubB.nil
              · subst hj16; have h := hK16; clear hK16
                refine .seq ?_
                refine .region [] mixed (by kernel_rfl) ?_
                refine .cons (.move .none (.s rfl)) rfl ?_
                obtain ⟨r5, hv18, h⟩ := bind_some h
                refine .cons (.call .none (shape_size_ok hv18) (.cons (.s rfl) .nil)) rfl ?_
                refine .cons (.move .none (.s rfl)) rfl ?_
                refine .cons (.move .none (.s rfl)) rfl ?_
                refine .cons (.subW .none (.s rfl) (.s rfl)) rfl ?_
                refine .cons (.subW .none (.s rfl) (.s rfl)) rfl ?_
                refine .cons (.max2 .none (.s rfl) (.int (by decide))) rfl ?_
                obtain ⟨m1, hv19, h⟩ := bnd_some h
                refine .cons (.re hv19 (.assign .none (.s rfl))) rfl ?_
                refine .nil ?_
                refine .then ?_
                refine .seq ?_
                refine .region [] mixed (by kernel_rfl) ?_
                refine .cons (.move .none (.s rfl)) rfl ?_
                refine .cons (.move .none (.s rfl)) rfl ?_
                refine .cons (.mulW .none (.s rfl) (.s rfl)) rfl ?_
                refine .cons (.move .none (.s rfl)) rfl ?_
                refine .cons (.move .none (.s rfl)) rfl ?_
                refine .cons (.mulW .none (.s rfl) (.s rfl)) rfl ?_
                refine .cons (.addW .none (.s rfl) (.s rfl)) rfl ?_
                refine .cons (.move .none (.s rfl)) rfl ?_
                refine .cons (.move .none (.s rfl)) rfl ?_
                refine .cons (.mulW .none (.s rfl) (.s rfl)) rfl ?_
                obtain ⟨r6, hv20, h⟩ := bind_some h
                refine .cons (.call .none (shape_than_ok hv20) (.cons (.s rfl) (.cons (.s rfl) .nil))) rfl ?_
                refine .cons (.assign .none (.s rfl)) rfl ?_
                refine .nil ?_
                refine .then ?_
                refine .ret ?_
                refine .blkRet ?_
                refine .thenRet ?_
                replace h := resb_ab hK8 (some_eq h)
                obtain rfl := some_eq h
                exact Ends.ret1 (.inl rfl) Tryz.results158 (ResOK.tmp rfl trivial Imp.refl)
            · replace h := bif_f h hb15
              refine .seq ?_
              refine .region [] mixed (by kernel_rfl) ?_
              refine .cons (.eqI .none (.s rfl) (.int (by decide))) rfl ?_
              refine .cons (.assign .none (.s rfl)) rfl ?_
              refine .nil ?_
              refine .then ?_
              refine .cond (t := 143) rfl trivial (fun hb21 => ?_) (fun hb21 => ?_)
              · replace h := bif_t h hb21
                refine .seq ?_
                refine .region [] mixed (by kernel_rfl) ?_
                refine .cons (.move .none (.s rfl)) rfl ?_
                refine .cons (.move .none (.s rfl)) rfl ?_
                refine .cons (.min2 .none (.s rfl) (.s rfl)) rfl ?_
                refine .cons (.quo .none (.s rfl) (.int (by decide)) (fun _ => by decide)) rfl ?_
                obtain ⟨n1, hv22, h⟩ := bnd_some h
                refine .cons (.re hv22 (.assign .none (.s rfl))) rfl ?_
                refine .nil ?_
                refine .then ?_
                refine .seq ?_
                refine .seq ?_
                refine .region [] mixed (by kernel_rfl) ?_
                refine .cons (.move .none (.s rfl)) rfl ?_
                refine .cons (.eqI .none (.s rfl) (.int (by decide))) rfl ?_
                refine .nil ?_
                refine .then ?_
                refine .cond (t := 150) rfl trivial (fun hb23 => ?_) (fun hb23 => ?_)
                · replace h := bif_t h hb23
                  refine .seq ?_
                  refine .region [] mixed (by kernel_rfl) ?_
                  refine .cons (.move .none (.s rfl)) rfl ?_
                  refine .cons (.assign .none (.s rfl)) rfl ?_
                  refine .nil ?_
                  refine .then ?_
                  refine .ret ?_
                  refine .thenRet ?_
                  refine .blkRet ?_
                  refine .thenRet ?_
                  replace h := resb_ab hK8 (some_eq h)
                  obtain rfl := some_eq h
                  exact Ends.ret1 (.inl rfl) Tryz.results158 (ResOK.tmp rfl trivial Imp.refl)
                · replace h := bif_f h hb23
                  refine .skip ?_
                  refine .then ?_
                  refine .seq ?_
                  refine .region [] mixed (by kernel_rfl) ?_
                  refine .cons (.move .none (.s rfl)) rfl ?_
                  refine .cons (.move .none (.s rfl)) rfl ?_
                  refine .cons (.subW .none (.s rfl) (.s rfl)) rfl ?_
                  refine .cons (.move .none (.s rfl)) rfl ?_
                  refine .cons (.addW .none (.s rfl) (.s rfl)) rfl ?_
                  refine .cons (.move .none (.s rfl)) rfl ?_
                  refine .cons (.subW .none (.s rfl) (.s rfl)) rfl ?_
                  obtain ⟨k1, hv24, h⟩ := bnd_some h
                  refine .cons (.re hv24 (.assign .none (.s rfl))) rfl ?_
                  refine .nil ?_
                  refine .then ?_
                  refine .block ?_
                  refine .seq ?_
                  refine .region [] mixed (by kernel_rfl) ?_
                  refine .cons (.move .none (.s rfl)) rfl ?_
                  refine .cons (.gt .none (.s rfl) (.int (by decide))) rfl ?_
                  refine .cons (.assign .none (.s rfl)) rfl ?_
                  refine .nil ?_
                  refine .then ?_
                  refine .cond (t := 159) rfl trivial (fun hb25 => ?_) (fun hb25 => ?_)
                  · replace h := bif_t h hb25
                    refine .seq ?_
                    refine .region [] mixed (by kernel_rfl) ?_
                    refine .cons (.assign .none (.int (by decide))) rfl ?_
                    refine .nil ?_
                    refine .then ?_
                    refine .ret ?_
                    refine .blkRet ?_
                    refine .blkRet ?_
                    refine .thenRet ?_
                    replace h := resb_ab hK8 (some_eq h)
                    obtain rfl := some_eq h
                    exact Ends.ret1 (.inl rfl) Tryz.results158 (ResOK.tmp rfl trivial Imp.refl)
                  · replace h := bif_f h hb25
                    refine .seq ?_
                    refine .region [] mixed (by kernel_rfl) ?_
                    refine .cons (.move .none (.s rfl)) rfl ?_
                    refine .cons (.eqI .none (.s rfl) (.int (by decide))) rfl ?_
                    refine .cons (.assign .none (.s rfl)) rfl ?_
                    refine .nil ?_
                    refine .then ?_
                    refine .cond (t := 162) rfl trivial (fun hb26 => ?_) (fun hb26 => ?_)
                    · replace h := bif_t h hb26
                      refine .seq ?_
                      refine .region [] mixed (by kernel_rfl) ?_
                      refine .cons (.assign .none (.int (by decide))) rfl ?_
                      refine .nil ?_
                      refine .then ?_
                      refine .ret ?_
                      refine .blkRet ?_
                      refine .blkRet ?_
                      refine .thenRet ?_
                      replace h := resb_ab hK8 (some_eq h)
                      obtain rfl := some_eq h
                      exact Ends.ret1 (.inl rfl) Tryz.results158 (ResOK.tmp rfl trivial Imp.refl)
                    · replace h := bif_f h hb26
                      refine .skip ?_
                      refine .blkNormal ?_
                      refine .blkNormal ?_
                      exact Ends.join _ (some_eq h) (.cons (t := 13) rfl Sub.nil) SubB.nil
              · replace h := bif_f h hb21
                refine .skip ?_
                refine .blkNormal ?_
                exact Ends.join _ (some_eq h) (.cons (t := 13) rfl Sub.nil) SubB.nil
      · have h := resb_nx hK8 hj8
        refine .seq ?_
        refine .region [] mixed (by kernel_rfl) ?_
        refine .cons (.move .none (.s rfl)) rfl ?_
        refine .cons (.assign .none (.s rfl)) rfl ?_
        refine .nil ?_
        refine .then ?_
        refine .ret ?_
        obtain rfl := some_eq h
        exact Ends.ret1 (.inl rfl) Tryz.results158 (ResOK.tmp rfl trivial Imp.refl)

theorem shape_Has_ok {kind1 : Int} {b1 : Box} {p1 : Point} {r : (Int × Int)}  (h : shape_Has kind1 b1 p1 = some r) : FSpec Tryz.prog 84 [rep kind1, rep b1, rep p1] (tup [rep r.1, rep r.2]) := by
  unfold shape_Has at h
  refine FSpec.intro (n := 27) fnok84 Tryz.func84 rfl Tryz.ntmps84 rfl (fun F => ?_)
  refine .seq ?_
  refine .region [] mixed (by kernel_rfl) ?_
  refine .cons (.box .none (.s rfl)) rfl ?_
  refine .cons (.box .none (.s rfl)) rfl ?_
  refine .cons (.assign .none (.int (by decide))) rfl ?_
  refine .cons (.assign .none (.int (by decide))) rfl ?_
  refine .nil ?_
  refine .then ?_
  refine .seq ?_
  refine .seq ?_
  refine .region [] mixed (by kernel_rfl) ?_
  refine .cons (.move .none (.s rfl)) rfl ?_
  obtain ⟨r1, hv1, h⟩ := bind_some h
  refine .cons (.call .none (shape_isKind_ok hv1) (.cons (.s rfl) .nil)) rfl ?_
  refine .cons (.not .none (.s rfl)) rfl ?_
  refine .nil ?_
  refine .then ?_
  refine .cond (t := 12) rfl trivial (fun hb2 => ?_) (fun hb2 => ?_)
  · replace h := bif_t h hb2
    refine .seq ?_
    refine .region [] mixed (by kernel_rfl) ?_
    refine .cons (.assign .none (.int (by decide))) rfl ?_
    refine .cons (.assign .none (.int (by decide))) rfl ?_
    refine .nil ?_
    refine .then ?_
    refine .ret ?_
    refine .thenRet ?_
    obtain rfl := some_eq h
    exact Ends.ret2 (.inl rfl) Tryz.results84 (ResOK.tmp rfl trivial Imp.refl) (ResOK.tmp rfl trivial Imp.refl)
  · replace h := bif_f h hb2
    refine .skip ?_
    refine .then ?_
    refine .seq ?_
    refine .seq ?_
    refine .region [] mixed (by kernel_rfl) ?_
    refine .cons (.load .none ty29 (.s rfl)) rfl ?_
    obtain ⟨e1, hv3, h⟩ := bind_some h
    refine .cons (.call .none (geom_CheckBox_ok hv3) (.cons (.s rfl) .nil)) rfl ?_
    refine .cons (.assign .none (.s rfl)) rfl ?_
    refine .nil ?_
    refine .then ?_
    refine .seq ?_
    refine .region [] mixed (by kernel_rfl) ?_
    refine .cons (.move .none (.s rfl)) rfl ?_
    refine .cons (.neI .none (.s rfl) (.int (by decide))) rfl ?_
    refine .nil ?_
    refine .then ?_
    refine .cond (t := 16) rfl trivial (fun hb4 => ?_) (fun hb4 => ?_)
    · replace h := bif_t h hb4
      refine .seq ?_
      refine .region [] mixed (by kernel_rfl) ?_
      refine .cons (.move .none (.s rfl)) rfl ?_
      refine .cons (.assign .none (.int (by decide))) rfl ?_
      refine .cons (.assign .none (.s rfl)) rfl ?_
      refine .nil ?_
      refine .then ?_
      refine .ret ?_
      refine .thenRet ?_
      obtain rfl := some_eq h
      exact Ends.ret2 (.inl rfl) Tryz.results84 (ResOK.tmp rfl trivial Imp.refl) (ResOK.tmp rfl trivial Imp.refl)
    · replace h := bif_f h hb4
      refine .skip ?_
      refine .then ?_
      refine .seq ?_
      refine .seq ?_
      refine .region [] mixed (by kernel_rfl) ?_
      refine .cons (.load .none ty27 (.s rfl)) rfl ?_
      obtain ⟨e2, hv5, h⟩ := bind_some h
      refine .cons (.call .none (geom_CheckPoint_ok hv5) (.cons (.s rfl) .nil)) rfl ?_
      refine .cons (.assign .none (.s rfl)) rfl ?_
      refine .nil ?_
      refine .then ?_
      refine .seq ?_
      refine .region [] mixed (by kernel_rfl) ?_
      refine .cons (.move .none (.s rfl)) rfl ?_
      refine .cons (.neI .none (.s rfl) (.int (by decide))) rfl ?_
      refine .nil ?_
      refine .then ?_
      refine .cond (t := 21) rfl trivial (fun hb6 => ?_) (fun hb6 => ?_)
      · replace h := bif_t h hb6
        refine .seq ?_
        refine .region [] mixed (by kernel_rfl) ?_
        refine .cons (.move .none (.s rfl)) rfl ?_
        refine .cons (.assign .none (.int (by decide))) rfl ?_
        refine .cons (.assign .none (.s rfl)) rfl ?_
        refine .nil ?_
        refine .then ?_
        refine .ret ?_
        refine .thenRet ?_
        obtain rfl := some_eq h
        exact Ends.ret2 (.inl rfl) Tryz.results84 (ResOK.tmp rfl trivial Imp.refl) (ResOK.tmp rfl trivial Imp.refl)
      · replace h := bif_f h hb6
        refine .skip ?_
        refine .then ?_
        refine .seq ?_
        refine .region [] mixed (by kernel_rfl) ?_
        refine .cons (.move .none (.s rfl)) rfl ?_
        refine .cons (.load .none ty29 (.s rfl)) rfl ?_
        refine .cons (.load .none ty27 (.s rfl)) rfl ?_
        obtain ⟨r2, hv7, h⟩ := bind_some h
        refine .cons (.call .none (shape_has_ok hv7) (.cons (.s rfl) (.cons (.s rfl) (.cons (.s rfl) .nil)))) rfl ?_
        refine .cons (.assign .none (.s rfl)) rfl ?_
        refine .cons (.assign .none (.int (by decide))) rfl ?_
        refine .nil ?_
        refine .then ?_
        refine .ret ?_
        obtain rfl := some_eq h
        exact Ends.ret2 (.inl rfl) Tryz.results84 (ResOK.tmp rfl trivial Imp.refl) (ResOK.tmp rfl trivial Imp.refl)

theorem page_Hit_ok {d1 : Doc} {p1 : Point} {r : (Str × Int)}  (h : page_Hit d1 p1 = some r) : FSpec Tryz.prog 21 [rep d1, rep p1] (tup [rep r.1, rep r.2]) := by
  unfold page_Hit at h
  refine FSpec.intro (n := 76) fnok21 Tryz.func21 rfl Tryz.ntmps21 rfl (fun F => ?_)
  refine .seq ?_
  refine .region [] mixed (by kernel_rfl) ?_
  refine .cons (.box .none (.s rfl)) rfl ?_
  refine .cons (.box .none (.s rfl)) rfl ?_
  refine .cons (.assign .none (.str (l := []) (by decide))) rfl ?_
  refine .cons (.assign .none (.int (by decide))) rfl ?_
  refine .nil ?_
  refine .then ?_
  refine .seq ?_
  refine .region [] mixed (by kernel_rfl) ?_
  refine .cons (.load .none ty25 (.s rfl)) rfl ?_
  obtain ⟨r1, hv1, h⟩ := bind_some h
  refine .cons (.call .none (page_look_ok hv1) (.cons (.s rfl) .nil)) rfl ?_
  refine .cons (.move .none (.s rfl)) rfl ?_
  refine .cons (.extract .none (.s rfl) rfl) rfl ?_
  refine .cons (.extract .none (.s rfl) rfl) rfl ?_
  refine .cons (.assign .none (.s rfl)) rfl ?_
  refine .cons (.assign .none (.s rfl)) rfl ?_
  refine .nil ?_
  refine .then ?_
  refine .seq ?_
  refine .seq ?_
  refine .region [] mixed (by kernel_rfl) ?_
  refine .cons (.move .none (.s rfl)) rfl ?_
  refine .cons (.neI .none (.s rfl) (.int (by decide))) rfl ?_
  refine .nil ?_
  refine .then ?_
  refine .cond (t := 24) rfl trivial (fun hb2 => ?_) (fun hb2 => ?_)
  · replace h := bif_t h hb2
    refine .seq ?_
    refine .region [] mixed (by kernel_rfl) ?_
    refine .cons (.move .none (.s rfl)) rfl ?_
    refine .cons (.assign .none (.str (l := []) (by decide))) rfl ?_
    refine .cons (.assign .none (.s rfl)) rfl ?_
    refine .nil ?_
    refine .then ?_
    refine .ret ?_
    refine .thenRet ?_
    obtain rfl := some_eq h
    exact Ends.ret2 (.inl rfl) Tryz.results21 (ResOK.tmp rfl trivial Imp.refl) (ResOK.tmp rfl trivial Imp.refl)
  · replace h := bif_f h hb2
    refine .skip ?_
    refine .then ?_
    refine .seq ?_
    refine .seq ?_
    refine .region [] mixed (by kernel_rfl) ?_
    refine .cons (.load .none ty27 (.s rfl)) rfl ?_
    obtain ⟨e1, hv3, h⟩ := bind_some h
    refine .cons (.call .none (geom_CheckPoint_ok hv3) (.cons (.s rfl) .nil)) rfl ?_
    refine .cons (.assign .none (.s rfl)) rfl ?_
    refine .nil ?_
    refine .then ?_
    refine .seq ?_
    refine .region [] mixed (by kernel_rfl) ?_
    refine .cons (.move .none (.s rfl)) rfl ?_
    refine .cons (.neI .none (.s rfl) (.int (by decide))) rfl ?_
    refine .nil ?_
    refine .then ?_
    refine .cond (t := 29) rfl trivial (fun hb4 => ?_) (fun hb4 => ?_)
    · replace h := bif_t h hb4
      refine .seq ?_
      refine .region [] mixed (by kernel_rfl) ?_
      refine .cons (.move .none (.s rfl)) rfl ?_
      refine .cons (.assign .none (.str (l := []) (by decide))) rfl ?_
      refine .cons (.assign .none (.s rfl)) rfl ?_
      refine .nil ?_
      refine .then ?_
      refine .ret ?_
      refine .thenRet ?_
      obtain rfl := some_eq h
      exact Ends.ret2 (.inl rfl) Tryz.results21 (ResOK.tmp rfl trivial Imp.refl) (ResOK.tmp rfl trivial Imp.refl)
    · replace h := bif_f h hb4
      refine .skip ?_
      refine .then ?_
      refine .seq ?_
      refine .region [] mixed (by kernel_rfl) ?_
      refine .cons (.assign .none (.str (l := []) (by decide))) rfl ?_
      refine .cons (.assign .none (.str (l := []) (by decide))) rfl ?_
      refine .nil ?_
      refine .then ?_
      refine .seq ?_
      refine .seq ?_
      obtain ⟨v1, hv5, h⟩ := bind_some h
      refine .isRef (t := 6) hv5 rfl trivial ?_
      refine .region [] mixed (by kernel_rfl) ?_
      refine .cons (.move .none (.s rfl)) rfl ?_
      obtain ⟨r2, hv6, h⟩ := bind_some h
      refine .cons (.call .none (page_view_order_ok hv6) (.cons (.s rfl) .nil)) rfl ?_
      refine .cons (.len .none sl118 (.s rfl)) rfl ?_
      refine .cons (.move .none (.int (by decide))) rfl ?_
      refine .nil ?_
      refine .then ?_
      obtain ⟨j_7, h, hK7⟩ := bind_some h
      refine .thenJ (ι := (Str × Str)) (fun j_7 => [(9, ⟨True, rep j_7.1⟩), (10, ⟨True, rep j_7.2⟩)]) (fun j_7 => []) (fun s => j_7 = s) Sub.nil SubB.nil ?_ (fun j_7' hj7 => ?_)
      · skip
        refine .block ?_
        refine .rforL h (fun p8_ => [(34, ⟨True, rep p8_.1⟩), (9, ⟨True, rep p8_.2.1⟩), (10, ⟨True, rep p8_.2.2⟩)]) (fun p8_ => []) (.cons (t := 34) rfl (.cons (t := 9) rfl (.cons (t := 10) rfl Sub.nil))) SubB.nil (.cons (t := 2) rfl (.cons (t := 3) rfl (.cons (t := 6) rfl (.cons (t := 32) rfl (.cons (t := 33) rfl Sub.nil))))) SubB.nil (fun p8_ o_8 h hD8 => ?_)
        refine .seq ?_
        refine .region [] mixed (by kernel_rfl) ?_
        refine .cons (.lt .none (.s rfl) (.s rfl)) rfl ?_
        refine .nil ?_
        refine .then ?_
        refine .seq ?_
        refine .cond (t := 35) rfl trivial (fun hb9 => ?_) (fun hb9 => ?_)
        · replace h := bif_t h hb9
          refine .skip ?_
          refine .then ?_
          refine .seq ?_
          obtain ⟨j_10, h, hK10⟩ := bind_some h
          unfold page_Hit_L1 at h
          refine .thenJ (ι := (Str × Str)) (fun j_10 => [(9, ⟨True, rep j_10.1⟩), (10, ⟨True, rep j_10.2⟩)]) (fun j_10 => []) (fun s => j_10 = s) (.cons (t := 2) rfl (.cons (t := 3) rfl (.cons (t := 6) rfl (.cons (t := 32) rfl (.cons (t := 33) rfl (.cons (t := 34) rfl Sub.nil)))))) SubB.nil ?_ (fun j_10' hj10 => ?_)
          · skip
            refine .block ?_
            refine .seq ?_
            refine .region [] mixed (by kernel_rfl) ?_
            obtain ⟨hn11, h⟩ := need_some h
            refine .cons (.indexAddr .none sl118 ty3 (.s rfl) (.s rfl) (fun _ => hn11)) rfl ?_
            refine .cons (.load .none ty3 (.s rfl)) rfl ?_
            obtain ⟨k1, hv12, h⟩ := bnd_some h
            refine .cons (.re hv12 (.assign .none (.s rfl))) rfl ?_
            refine .nil ?_
            refine .then ?_
            refine .seq ?_
            refine .region [([], []), ([], []), ([], []), ([], []), ([], []), ([], [13]), ([13], [13])] mixed (by kernel_rfl) ?_
            refine .consA (.fieldAddr .none fd25_0 hfd25_0 (.s rfl)) rfl ?_
            refine .consA (.load .none ty22 (.s rfl)) rfl ?_
            refine .consA (.move .none (.s rfl)) rfl ?_
            obtain ⟨hn13, h⟩ := need_some h
            refine .consA (.indexAddr .none sl22 ty44 (.s rfl) (.s rfl) (fun _ => hn13)) rfl ?_
            obtain ⟨v2, hv14, h⟩ := bnd_some h
            refine .consA (.re hv14 (.load .none ty44 (.s rfl))) rfl ?_
            refine .consW (.alloc zo44 rfl) rfl rfl ?_
            refine .consN (.store ty44 rfl rfl (.s rfl)) rfl ?_
            refine .nil ?_
            refine .then ?_
            refine .freeze (t := 13) rfl rfl SubB.nil rfl ?_
            refine .seq ?_
            refine .region [] mixed (by kernel_rfl) ?_
            refine .cons (.fieldAddr .none fd44_1 hfd44_1 (.s rfl)) rfl ?_
            refine .cons (.load .none ty3 (.s rfl)) rfl ?_
            refine .cons (.neI .none (.s rfl) (.int (by decide))) rfl ?_
            refine .nil ?_
            refine .then ?_
            refine .cond (t := 45) rfl trivial (fun hb15 => ?_) (fun hb15 => ?_)
            · replace h := bif_t h hb15
              refine .seq ?_
              refine .region [] mixed (by kernel_rfl) ?_
              refine .cons (.fieldAddr .none fd44_1 hfd44_1 (.s rfl)) rfl ?_
              refine .cons (.load .none ty3 (.s rfl)) rfl ?_
              refine .cons (.fieldAddr .none fd44_2 hfd44_2 (.s rfl)) rfl ?_
              refine .cons (.load .none ty29 (.s rfl)) rfl ?_
              refine .cons (.load .none ty27 (.s rfl)) rfl ?_
              obtain ⟨r3, hv16, h⟩ := bind_some h
              refine .cons (.call .none (shape_Has_ok hv16) (.cons (.s rfl) (.cons (.s rfl) (.cons (.s rfl) .nil)))) rfl ?_
              refine .cons (.move .none (.s rfl)) rfl ?_
              refine .cons (.extract .none (.s rfl) rfl) rfl ?_
              refine .cons (.extract .none (.s rfl) rfl) rfl ?_
              refine .cons (.assign .none (.s rfl)) rfl ?_
              refine .cons (.assign .none (.s rfl)) rfl ?_
              refine .nil ?_
              refine .then ?_
              refine .seq ?_
              refine .region [] mixed (by kernel_rfl) ?_
              refine .cons (.move .none (.s rfl)) rfl ?_
              refine .cons (.ge .none (.s rfl) (.int (by decide))) rfl ?_
              refine .nil ?_
              refine .then ?_
              refine .cond (t := 56) rfl trivial (fun hb17 => ?_) (fun hb17 => ?_)
              · replace h := bif_t h hb17
                refine .region [] mixed (by kernel_rfl) ?_
                refine .cons (.fieldAddr .none fd44_0 hfd44_0 (.s rfl)) rfl ?_
                refine .cons (.load .none ty9 (.s rfl)) rfl ?_
                refine .cons (.assign .none (.s rfl)) rfl ?_
                refine .nil ?_
                refine .blkNormal ?_
                exact Ends.join _ (some_eq h) (.cons (t := 9) rfl (.cons (t := 10) rfl (.cons (t := 2) rfl (.cons (t := 3) rfl (.cons (t := 6) rfl (.cons (t := 32) rfl (.cons (t := 33) rfl (.cons (t := 34) rfl Sub.nil)))))))) SubB.nil
              · replace h := bif_f h hb17
                refine .skip ?_
                refine .blkNormal ?_
                exact Ends.join _ (some_eq h) (.cons (t := 9) rfl (.cons (t := 10) rfl (.cons (t := 2) rfl (.cons (t := 3) rfl (.cons (t := 6) rfl (.cons (t := 32) rfl (.cons (t := 33) rfl (.cons (t := 34) rfl Sub.nil)))))))) SubB.nil
            · replace h := bif_f h hb15
              refine .seq ?_
              refine .region [] mixed (by kernel_rfl) ?_
              refine .cons (.move .none (.s rfl)) rfl ?_
              refine .cons (.move .none (.s rfl)) rfl ?_
              obtain ⟨r4, hv18, h⟩ := bind_some h
              refine .cons (.call .none (page_view_box_ok hv18) (.cons (.s rfl) (.cons (.s rfl) .nil))) rfl ?_
              refine .cons (.load .none ty27 (.s rfl)) rfl ?_
              obtain ⟨r5, hv19, h⟩ := bind_some h
              refine .cons (.call .none (shape_Has_ok hv19) (.cons (.int (by decide)) (.cons (.s rfl) (.cons (.s rfl) .nil)))) rfl ?_
              refine .cons (.move .none (.s rfl)) rfl ?_
              refine .cons (.extract .none (.s rfl) rfl) rfl ?_
              refine .cons (.extract .none (.s rfl) rfl) rfl ?_
              refine .cons (.assign .none (.s rfl)) rfl ?_
              refine .cons (.assign .none (.s rfl)) rfl ?_
              refine .nil ?_
              refine .then ?_
              refine .seq ?_
              refine .region [] mixed (by kernel_rfl) ?_
              refine .cons (.move .none (.s rfl)) rfl ?_
              refine .cons (.ge .none (.s rfl) (.int (by decide))) rfl ?_
              refine .nil ?_
              refine .then ?_
              refine .cond (t := 68) rfl trivial (fun hb20 => ?_) (fun hb20 => ?_)
              · replace h := bif_t h hb20
                refine .region [] mixed (by kernel_rfl) ?_
                refine .cons (.fieldAddr .none fd44_0 hfd44_0 (.s rfl)) rfl ?_
                refine .cons (.load .none ty9 (.s rfl)) rfl ?_
                refine .cons (.assign .none (.s rfl)) rfl ?_
                refine .nil ?_
                refine .blkNormal ?_
                exact Ends.join _ (some_eq h) (.cons (t := 9) rfl (.cons (t := 10) rfl (.cons (t := 2) rfl (.cons (t := 3) rfl (.cons (t := 6) rfl (.cons (t := 32) rfl (.cons (t := 33) rfl (.cons (t := 34) rfl Sub.nil)))))))) SubB.nil
              · replace h := bif_f h hb20
                refine .skip ?_
                refine .blkNormal ?_
                exact Ends.join _ (some_eq h) (.cons (t := 9) rfl (.cons (t := 10) rfl (.cons (t := 2) rfl (.cons (t := 3) rfl (.cons (t := 6) rfl (.cons (t := 32) rfl (.cons (t := 33) rfl (.cons (t := 34) rfl Sub.nil)))))))) SubB.nil
          · subst hj10; have h := hK10; clear hK10
            refine .region [] mixed (by kernel_rfl) ?_
            refine .cons (.addW .none (.s rfl) (.int (by decide))) rfl ?_
            refine .cons (.move .none (.s rfl)) rfl ?_
            refine .nil ?_
            exact Ends.againL (some_eq h) (.cons (t := 34) rfl (.cons (t := 9) rfl (.cons (t := 10) rfl (.cons (t := 2) rfl (.cons (t := 3) rfl (.cons (t := 6) rfl (.cons (t := 32) rfl (.cons (t := 33) rfl Sub.nil)))))))) SubB.nil
        · replace h := bif_f h hb9
          refine .exit ?_
          refine .thenExit ?_
          refine .thenExit ?_
          refine .blkExit ?_
          replace h := hD8 _ (some_eq h)
          exact Ends.join _ (some_eq h) (.cons (t := 9) rfl (.cons (t := 10) rfl Sub.nil)) SubB.nil
      · subst hj7; have h := hK7; clear hK7
        refine .seq ?_
        refine .seq ?_
        refine .region [] mixed (by kernel_rfl) ?_
        refine .cons (.move .none (.s rfl)) rfl ?_
        refine .cons (.neS .none (eqAt_str Tryz.underlying9) (.s rfl) (.str (l := []) (by decide))) rfl ?_
        refine .nil ?_
        refine .then ?_
        refine .cond (t := 73) rfl trivial (fun hb21 => ?_) (fun hb21 => ?_)
        · replace h := bif_t h hb21
          refine .seq ?_
          refine .region [] mixed (by kernel_rfl) ?_
          refine .cons (.move .none (.s rfl)) rfl ?_
          refine .cons (.assign .none (.s rfl)) rfl ?_
          refine .cons (.assign .none (.int (by decide))) rfl ?_
          refine .nil ?_
          refine .then ?_
          refine .ret ?_
          refine .thenRet ?_
          obtain rfl := some_eq h
          exact Ends.ret2 (.inl rfl) Tryz.results21 (ResOK.tmp rfl trivial Imp.refl) (ResOK.tmp rfl trivial Imp.refl)
        · replace h := bif_f h hb21
          refine .skip ?_
          refine .then ?_
          refine .seq ?_
          refine .region [] mixed (by kernel_rfl) ?_
          refine .cons (.move .none (.s rfl)) rfl ?_
          refine .cons (.assign .none (.s rfl)) rfl ?_
          refine .cons (.assign .none (.int (by decide))) rfl ?_
          refine .nil ?_
          refine .then ?_
          refine .ret ?_
          obtain rfl := some_eq h
          exact Ends.ret2 (.inl rfl) Tryz.results21 (ResOK.tmp rfl trivial Imp.refl) (ResOK.tmp rfl trivial Imp.refl)

theorem geom_Common_ok {a1 : Box} {b1 : Box} {r : (Box × Bool × Int)}  (h : geom_Common a1 b1 = some r) : FSpec Tryz.prog 86 [rep a1, rep b1] (tup [rep r.1, rep r.2.1, rep r.2.2]) := by
  unfold geom_Common at h
  refine FSpec.intro (n := 68) fnok86 Tryz.func86 rfl Tryz.ntmps86 rfl (fun F => ?_)
  refine .seq ?_
  refine .region [([], []), ([], []), ([], [4]), ([], []), ([], [])] mixed (by kernel_rfl) ?_
  refine .consA (.box .none (.s rfl)) rfl ?_
  refine .consA (.box .none (.s rfl)) rfl ?_
  refine .consW (.alloc zo29 rfl) rfl rfl ?_
  refine .consA (.assign .none .bool) rfl ?_
  refine .consA (.assign .none (.int (by decide))) rfl ?_
  refine .nil ?_
  refine .then ?_
  obtain ⟨v1, hv1, h⟩ := bnd_some h
  refine .reB (t := 4) rfl (congrArg (cont 29) hv1) ?_
  refine .nameBox (t := 4) (g := 5001) rfl rfl (fun m5001 => ?_)
  refine .seq ?_
  refine .seq ?_
  refine .region [] mixed (by kernel_rfl) ?_
  refine .cons (.load .none ty29 (.s rfl)) rfl ?_
  refine .cons (.load .none ty29 (.s rfl)) rfl ?_
  refine .cons (.buildSlice (xs := [_, _]) .none sl109 ty29 hz29 (.cons (.s rfl) (.cons (.s rfl) .nil)) rfl (by decide)) rfl ?_
  obtain ⟨e1, hv2, h⟩ := bind_some h
  refine .cons (.call .none (geom_boxes_ok hv2) (.cons (.s rfl) .nil)) rfl ?_
  refine .cons (.assign .none (.s rfl)) rfl ?_
  refine .nil ?_
  refine .then ?_
  refine .seq ?_
  refine .region [] mixed (by kernel_rfl) ?_
  refine .cons (.move .none (.s rfl)) rfl ?_
  refine .cons (.neI .none (.s rfl) (.int (by decide))) rfl ?_
  refine .nil ?_
  refine .then ?_
  refine .cond (t := 16) rfl trivial (fun hb3 => ?_) (fun hb3 => ?_)
  · replace h := bif_t h hb3
    refine .seq ?_
    refine .region [([], []), ([], []), ([5001], [5001]), ([], []), ([], [])] mixed (by kernel_rfl) ?_
    obtain ⟨v2, hv4, h⟩ := bnd_some h
    refine .consA (.re hv4 (.buildF (y := (⟨(0 : Int), (0 : Int), (0 : Int), (0 : Int)⟩ : Box)) .none bu29 zc29 rfl .nil .nil)) rfl ?_
    refine .consA (.move .none (.s rfl)) rfl ?_
    refine .consN (.storeAt0 (g := 5001) ty29 rfl (.s rfl) (.s rfl)) rfl ?_
    refine .consA (.assign .none .bool) rfl ?_
    refine .consA (.assign .none (.s rfl)) rfl ?_
    refine .nil ?_
    refine .then ?_
    refine .freezeBox (g := 5001) (ts := [4]) rfl (.cons (t := 4) rfl trivial .nil) SubB.nil rfl ?_
    refine .ret ?_
    refine .thenRet ?_
    obtain rfl := some_eq h
    exact Ends.ret3 (.inl rfl) Tryz.results86 (ResOK.cellR ty29 rfl trivial Imp.refl) (ResOK.tmp rfl trivial Imp.refl) (ResOK.tmp rfl trivial Imp.refl)
  · replace h := bif_f h hb3
    refine .skip ?_
    refine .then ?_
    refine .seq ?_
    refine .region [] mixed (by kernel_rfl) ?_
    refine .cons (.fieldAddr .none fd29_0 hfd29_0 (.s rfl)) rfl ?_
    refine .cons (.load .none ty3 (.s rfl)) rfl ?_
    refine .cons (.fieldAddr .none fd29_0 hfd29_0 (.s rfl)) rfl ?_
    refine .cons (.load .none ty3 (.s rfl)) rfl ?_
    refine .cons (.max2 .none (.s rfl) (.s rfl)) rfl ?_
    refine .cons (.fieldAddr .none fd29_1 hfd29_1 (.s rfl)) rfl ?_
    refine .cons (.load .none ty3 (.s rfl)) rfl ?_
    refine .cons (.fieldAddr .none fd29_1 hfd29_1 (.s rfl)) rfl ?_
    refine .cons (.load .none ty3 (.s rfl)) rfl ?_
    refine .cons (.max2 .none (.s rfl) (.s rfl)) rfl ?_
    obtain ⟨x1, hv5, h⟩ := bnd_some h
    refine .cons (.re hv5 (.assign .none (.s rfl))) rfl ?_
    obtain ⟨y1, hv6, h⟩ := bnd_some h
    refine .cons (.re hv6 (.assign .none (.s rfl))) rfl ?_
    refine .nil ?_
    refine .then ?_
    refine .seq ?_
    refine .region [([], []), ([], []), ([], []), ([], []), ([], []), ([], []), ([], []), ([], []), ([], []), ([], []), ([], []), ([], []), ([], []), ([], []), ([], []), ([], []), ([], []), ([], []), ([], []), ([], []), ([], []), ([], []), ([], []), ([], []), ([], []), ([], []), ([], []), ([], []), ([], []), ([], [10]), ([10], [10])] mixed (by kernel_rfl) ?_
    refine .consA (.move .none (.s rfl)) rfl ?_
    refine .consA (.move .none (.s rfl)) rfl ?_
    refine .consA (.fieldAddr .none fd29_0 hfd29_0 (.s rfl)) rfl ?_
    refine .consA (.load .none ty3 (.s rfl)) rfl ?_
    refine .consA (.fieldAddr .none fd29_2 hfd29_2 (.s rfl)) rfl ?_
    refine .consA (.load .none ty3 (.s rfl)) rfl ?_
    refine .consA (.addW .none (.s rfl) (.s rfl)) rfl ?_
    refine .consA (.fieldAddr .none fd29_0 hfd29_0 (.s rfl)) rfl ?_
    refine .consA (.load .none ty3 (.s rfl)) rfl ?_
    refine .consA (.fieldAddr .none fd29_2 hfd29_2 (.s rfl)) rfl ?_
    refine .consA (.load .none ty3 (.s rfl)) rfl ?_
    refine .consA (.addW .none (.s rfl) (.s rfl)) rfl ?_
    refine .consA (.min2 .none (.s rfl) (.s rfl)) rfl ?_
    refine .consA (.move .none (.s rfl)) rfl ?_
    refine .consA (.subW .none (.s rfl) (.s rfl)) rfl ?_
    refine .consA (.fieldAddr .none fd29_1 hfd29_1 (.s rfl)) rfl ?_
    refine .consA (.load .none ty3 (.s rfl)) rfl ?_
    refine .consA (.fieldAddr .none fd29_3 hfd29_3 (.s rfl)) rfl ?_
    refine .consA (.load .none ty3 (.s rfl)) rfl ?_
    refine .consA (.addW .none (.s rfl) (.s rfl)) rfl ?_
    refine .consA (.fieldAddr .none fd29_1 hfd29_1 (.s rfl)) rfl ?_
    refine .consA (.load .none ty3 (.s rfl)) rfl ?_
    refine .consA (.fieldAddr .none fd29_3 hfd29_3 (.s rfl)) rfl ?_
    refine .consA (.load .none ty3 (.s rfl)) rfl ?_
    refine .consA (.addW .none (.s rfl) (.s rfl)) rfl ?_
    refine .consA (.min2 .none (.s rfl) (.s rfl)) rfl ?_
    refine .consA (.move .none (.s rfl)) rfl ?_
    refine .consA (.subW .none (.s rfl) (.s rfl)) rfl ?_
    obtain ⟨v3, hv7, h⟩ := bnd_some h
    refine .consA (.re hv7 (.buildF (y := (⟨x1, y1, W ((min (W (a1.X + a1.W_)) (W (b1.X + b1.W_))) - x1), W ((min (W (a1.Y + a1.H)) (W (b1.Y + b1.H))) - y1)⟩ : Box)) .none bu29 zc29 rfl (.cons (.s rfl) (.cons (.s rfl) (.cons (.s rfl) (.cons (.s rfl) .nil)))) (.cons rfl sf29_0 (.cons rfl sf29_1 (.cons rfl sf29_2 (.cons rfl sf29_3 .nil)))))) rfl ?_
    refine .consW (.alloc zo29 rfl) rfl rfl ?_
    refine .consN (.store ty29 rfl rfl (.s rfl)) rfl ?_
    refine .nil ?_
    refine .then ?_
    refine .freeze (t := 10) rfl rfl (.cons (t := 5001) rfl SubB.nil) rfl ?_
    refine .seq ?_
    refine .seq ?_
    refine .region [] mixed (by kernel_rfl) ?_
    refine .cons (.fieldAddr .none fd29_2 hfd29_2 (.s rfl)) rfl ?_
    refine .cons (.load .none ty3 (.s rfl)) rfl ?_
    refine .cons (.lt .none (.s rfl) (.int (by decide))) rfl ?_
    refine .cons (.move .none (.s rfl)) rfl ?_
    refine .cons (.fieldAddr (.at rfl rfl) fd29_3 hfd29_3 (.s rfl)) rfl ?_
    refine .cons (.load (.at rfl rfl) ty3 (.tmp rfl id)) rfl ?_
    refine .cons (.lt (.at rfl rfl) (.tmp rfl id) (.int (by decide))) rfl ?_
    refine .cons (.pickOr .none (.s rfl) (.tmp rfl id)) rfl ?_
    refine .nil ?_
    refine .then ?_
    refine .cond (t := 65) rfl trivial (fun hb8 => ?_) (fun hb8 => ?_)
    · replace h := bif_t h hb8
      refine .seq ?_
      refine .region [([], []), ([5001], [5001]), ([], []), ([], [])] mixed (by kernel_rfl) ?_
      obtain ⟨v4, hv9, h⟩ := bnd_some h
      refine .consA (.re hv9 (.buildF (y := (⟨(0 : Int), (0 : Int), (0 : Int), (0 : Int)⟩ : Box)) .none bu29 zc29 rfl .nil .nil)) rfl ?_
      refine .consN (.storeAt0 (g := 5001) ty29 rfl (.s rfl) (.s rfl)) rfl ?_
      refine .consA (.assign .none .bool) rfl ?_
      refine .consA (.assign .none (.int (by decide))) rfl ?_
      refine .nil ?_
      refine .then ?_
      refine .freezeBox (g := 5001) (ts := [4]) rfl (.cons (t := 4) rfl trivial .nil) SubB.nil rfl ?_
      refine .ret ?_
      refine .thenRet ?_
      obtain rfl := some_eq h
      exact Ends.ret3 (.inl rfl) Tryz.results86 (ResOK.cellR ty29 rfl trivial Imp.refl) (ResOK.tmp rfl trivial Imp.refl) (ResOK.tmp rfl trivial Imp.refl)
    · replace h := bif_f h hb8
      refine .skip ?_
      refine .then ?_
      refine .seq ?_
      refine .region [([], []), ([5001], [5001]), ([], []), ([], [])] mixed (by kernel_rfl) ?_
      refine .consA (.load .none ty29 (.s rfl)) rfl ?_
      refine .consN (.storeAt0 (g := 5001) ty29 rfl (.s rfl) (.s rfl)) rfl ?_
      refine .consA (.assign .none .bool) rfl ?_
      refine .consA (.assign .none (.int (by decide))) rfl ?_
      refine .nil ?_
      refine .then ?_
      refine .freezeBox (g := 5001) (ts := [4]) rfl (.cons (t := 4) rfl trivial .nil) SubB.nil rfl ?_
      refine .ret ?_
      obtain rfl := some_eq h
      exact Ends.ret3 (.inl rfl) Tryz.results86 (ResOK.cellR ty29 rfl trivial Imp.refl) (ResOK.tmp rfl trivial Imp.refl) (ResOK.tmp rfl trivial Imp.refl)

theorem page_In_ok {d1 : Doc} {b1 : Box} {whole1 : Bool} {r : ((List Str) × Int)}  (h : page_In d1 b1 whole1 = some r) : FSpec Tryz.prog 22 [rep d1, rep b1, rep whole1] (tup [rep r.1, rep r.2]) := by
  unfold page_In at h
  refine FSpec.intro (n := 69) fnok22 Tryz.func22 rfl Tryz.ntmps22 rfl (fun F => ?_)
  refine .seq ?_
  refine .region [] mixed (by kernel_rfl) ?_
  refine .cons (.box .none (.s rfl)) rfl ?_
  refine .cons (.box .none (.s rfl)) rfl ?_
  refine .cons (.assign .none (.const (x := ([] : (List Str))) (fun M w => ⟨_, ⟨none, 0, rfl, Nat.le_refl _, by decide, rfl⟩, rfl⟩))) rfl ?_
  refine .cons (.assign .none (.int (by decide))) rfl ?_
  refine .nil ?_
  refine .then ?_
  refine .seq ?_
  refine .region [] mixed (by kernel_rfl) ?_
  refine .cons (.load .none ty25 (.s rfl)) rfl ?_
  obtain ⟨r1, hv1, h⟩ := bind_some h
  refine .cons (.call .none (page_look_ok hv1) (.cons (.s rfl) .nil)) rfl ?_
  refine .cons (.move .none (.s rfl)) rfl ?_
  refine .cons (.extract .none (.s rfl) rfl) rfl ?_
  refine .cons (.extract .none (.s rfl) rfl) rfl ?_
  refine .cons (.assign .none (.s rfl)) rfl ?_
  refine .cons (.assign .none (.s rfl)) rfl ?_
  refine .nil ?_
  refine .then ?_
  refine .seq ?_
  refine .seq ?_
  refine .region [] mixed (by kernel_rfl) ?_
  refine .cons (.move .none (.s rfl)) rfl ?_
  refine .cons (.neI .none (.s rfl) (.int (by decide))) rfl ?_
  refine .nil ?_
  refine .then ?_
  refine .cond (t := 23) rfl trivial (fun hb2 => ?_) (fun hb2 => ?_)
  · replace h := bif_t h hb2
    refine .seq ?_
    refine .region [] mixed (by kernel_rfl) ?_
    refine .cons (.move .none (.s rfl)) rfl ?_
    refine .cons (.assign .none (.const (x := ([] : (List Str))) (fun M w => ⟨_, ⟨none, 0, rfl, Nat.le_refl _, by decide, rfl⟩, rfl⟩))) rfl ?_
    refine .cons (.assign .none (.s rfl)) rfl ?_
    refine .nil ?_
    refine .then ?_
    refine .ret ?_
    refine .thenRet ?_
    obtain rfl := some_eq h
    exact Ends.ret2 (.inl rfl) Tryz.results22 (ResOK.tmp rfl trivial Imp.refl) (ResOK.tmp rfl trivial Imp.refl)
  · replace h := bif_f h hb2
    refine .skip ?_
    refine .then ?_
    refine .seq ?_
    refine .seq ?_
    refine .region [] mixed (by kernel_rfl) ?_
    refine .cons (.load .none ty29 (.s rfl)) rfl ?_
    obtain ⟨e1, hv3, h⟩ := bind_some h
    refine .cons (.call .none (geom_CheckBox_ok hv3) (.cons (.s rfl) .nil)) rfl ?_
    refine .cons (.assign .none (.s rfl)) rfl ?_
    refine .nil ?_
    refine .then ?_
    refine .seq ?_
    refine .region [] mixed (by kernel_rfl) ?_
    refine .cons (.move .none (.s rfl)) rfl ?_
    refine .cons (.neI .none (.s rfl) (.int (by decide))) rfl ?_
    refine .nil ?_
    refine .then ?_
    refine .cond (t := 28) rfl trivial (fun hb4 => ?_) (fun hb4 => ?_)
    · replace h := bif_t h hb4
      refine .seq ?_
      refine .region [] mixed (by kernel_rfl) ?_
      refine .cons (.move .none (.s rfl)) rfl ?_
      refine .cons (.assign .none (.const (x := ([] : (List Str))) (fun M w => ⟨_, ⟨none, 0, rfl, Nat.le_refl _, by decide, rfl⟩, rfl⟩))) rfl ?_
      refine .cons (.assign .none (.s rfl)) rfl ?_
      refine .nil ?_
      refine .then ?_
      refine .ret ?_
      refine .thenRet ?_
      obtain rfl := some_eq h
      exact Ends.ret2 (.inl rfl) Tryz.results22 (ResOK.tmp rfl trivial Imp.refl) (ResOK.tmp rfl trivial Imp.refl)
    · replace h := bif_f h hb4
      refine .skip ?_
      refine .then ?_
      refine .seq ?_
      refine .region [([], [11])] mixed (by kernel_rfl) ?_
      refine .consW (.nilRow (T := 9) (α := Str) rfl) rfl rfl ?_
      refine .nil ?_
      refine .then ?_
      refine .nameRow (t := 11) (g := 5001) rfl rfl rfl (fun s5001 => ?_)
      refine .seq ?_
      refine .seq ?_
      obtain ⟨v1, hv5, h⟩ := bind_some h
      refine .isRef (t := 8) hv5 rfl trivial ?_
      refine .region [] mixed (by kernel_rfl) ?_
      refine .cons (.move .none (.s rfl)) rfl ?_
      obtain ⟨r2, hv6, h⟩ := bind_some h
      refine .cons (.call .none (page_view_order_ok hv6) (.cons (.s rfl) .nil)) rfl ?_
      refine .cons (.len .none sl118 (.s rfl)) rfl ?_
      refine .cons (.move .none (.int (by decide))) rfl ?_
      refine .nil ?_
      refine .then ?_
      obtain ⟨j_7, h, hK7⟩ := bind_some h
      refine .thenJ (ι := (List Str)) (fun j_7 => []) (fun j_7 => [(11, some (rowV 9 j_7))]) (fun s => j_7 = s) Sub.nil SubB.nil ?_ (fun j_7' hj7 => ?_)
      · skip
        refine .block ?_
        refine .anon (t := 11) (g := 5001) rfl rfl trivial rfl ?_
        refine .rforL h (fun p8_ => [(33, ⟨True, rep p8_.1⟩)]) (fun p8_ => [(11, some (rowV 9 p8_.2))]) (.cons (t := 33) rfl Sub.nil) (.cons (t := 11) rfl SubB.nil) (.cons (t := 2) rfl (.cons (t := 3) rfl (.cons (t := 4) rfl (.cons (t := 8) rfl (.cons (t := 31) rfl (.cons (t := 32) rfl Sub.nil)))))) SubB.nil (fun p8_ o_8 h hD8 => ?_)
        refine .nameRow (t := 11) (g := 5002) rfl rfl rfl (fun s5002 => ?_)
        refine .seq ?_
        refine .region [] mixed (by kernel_rfl) ?_
        refine .cons (.lt .none (.s rfl) (.s rfl)) rfl ?_
        refine .nil ?_
        refine .then ?_
        refine .seq ?_
        refine .cond (t := 34) rfl trivial (fun hb9 => ?_) (fun hb9 => ?_)
        · replace h := bif_t h hb9
          refine .skip ?_
          refine .then ?_
          refine .seq ?_
          obtain ⟨j_10, h, hK10⟩ := bind_some h
          unfold page_In_L1 at h
          refine .thenJ (ι := (List Str)) (fun j_10 => []) (fun j_10 => [(11, some (rowV 9 j_10))]) (fun s => j_10 = s) (.cons (t := 2) rfl (.cons (t := 3) rfl (.cons (t := 4) rfl (.cons (t := 8) rfl (.cons (t := 31) rfl (.cons (t := 32) rfl (.cons (t := 33) rfl Sub.nil))))))) SubB.nil ?_ (fun j_10' hj10 => ?_)
          · skip
            refine .block ?_
            refine .seq ?_
            refine .region [] mixed (by kernel_rfl) ?_
            obtain ⟨hn11, h⟩ := need_some h
            refine .cons (.indexAddr .none sl118 ty3 (.s rfl) (.s rfl) (fun _ => hn11)) rfl ?_
            refine .cons (.load .none ty3 (.s rfl)) rfl ?_
            obtain ⟨k1, hv12, h⟩ := bnd_some h
            refine .cons (.re hv12 (.assign .none (.s rfl))) rfl ?_
            refine .nil ?_
            refine .then ?_
            refine .seq ?_
            refine .region [([], []), ([], []), ([], []), ([], []), ([], []), ([], []), ([], []), ([], []), ([], []), ([], [14]), ([14], [14]), ([], []), ([], [])] mixed (by kernel_rfl) ?_
            refine .consA (.move .none (.s rfl)) rfl ?_
            refine .consA (.move .none (.s rfl)) rfl ?_
            obtain ⟨r3, hv13, h⟩ := bind_some h
            refine .consA (.call .none (page_view_box_ok hv13) (.cons (.s rfl) (.cons (.s rfl) .nil))) rfl ?_
            refine .consA (.load .none ty29 (.s rfl)) rfl ?_
            obtain ⟨r4, hv14, h⟩ := bind_some h
            refine .consA (.call .none (geom_Common_ok hv14) (.cons (.s rfl) (.cons (.s rfl) .nil))) rfl ?_
            refine .consA (.move .none (.s rfl)) rfl ?_
            refine .consA (.extract .none (.s rfl) rfl) rfl ?_
            refine .consA (.extract .none (.s rfl) rfl) rfl ?_
            refine .consA (.extract .none (.s rfl) rfl) rfl ?_
            refine .consW (.alloc zo29 rfl) rfl rfl ?_
            refine .consN (.store ty29 rfl rfl (.s rfl)) rfl ?_
            refine .consA (.assign .none (.s rfl)) rfl ?_
            refine .consA (.assign .none (.s rfl)) rfl ?_
            refine .nil ?_
            refine .then ?_
            refine .freeze (t := 14) rfl rfl (.cons (t := 5002) rfl SubB.nil) rfl ?_
            refine .seq ?_
            refine .region [] mixed (by kernel_rfl) ?_
            refine .cons (.move .none (.s rfl)) rfl ?_
            refine .cons (.move .none (.s rfl)) rfl ?_
            refine .cons (.move (.at rfl rfl) (.s rfl)) rfl ?_
            refine .cons (.not (.at rfl rfl) (.tmp rfl id)) rfl ?_
            refine .cons (.move (.at rfl rfl) (.tmp rfl id)) rfl ?_
            refine .cons (.load (.at rfl rfl) ty29 (.s rfl)) rfl ?_
            refine .cons (.move (.at rfl rfl) (.s rfl)) rfl ?_
            refine .cons (.move (.at rfl rfl) (.s rfl)) rfl ?_
            obtain ⟨r5, hv15, h⟩ := bind_some h
            refine .cons (.callIf (.at rfl rfl) fnok70 (fun hg => page_view_box_ok ((fun hg => gd_some hv15 ((andT hg.1.2 (notT hg.2)))) hg)) (.cons (.tmp rfl id) (.cons (.tmp rfl id) .nil)) (fun h => h)) rfl ?_
            refine .cons (.eqS (.at rfl rfl) eq29 (.tmp rfl id) (.tmp rfl id)) rfl ?_
            refine .cons (.pickOr (.at rfl rfl) (.tmp rfl id) (.tmp rfl id)) rfl ?_
            refine .cons (.pickAnd .none (.s rfl) (.tmp rfl id)) rfl ?_
            refine .nil ?_
            refine .then ?_
            refine .cond (t := 57) rfl trivial (fun hb16 => ?_) (fun hb16 => ?_)
            · replace h := bif_t h hb16
              refine .region [([], []), ([], []), ([], []), ([], []), ([], []), ([], []), ([], []), ([], []), ([5002], [66, 5002]), ([66], [11, 66])] mixed (by kernel_rfl) ?_
              refine .consA (.move .none (.s rfl)) rfl ?_
              refine .consA (.fieldAddr .none fd25_0 hfd25_0 (.s rfl)) rfl ?_
              refine .consA (.load .none ty22 (.s rfl)) rfl ?_
              refine .consA (.move .none (.s rfl)) rfl ?_
              obtain ⟨hn17, h⟩ := need_some h
              refine .consA (.indexAddr .none sl22 ty44 (.s rfl) (.s rfl) (fun _ => hn17)) rfl ?_
              refine .consA (.fieldAddr .none fd44_0 hfd44_0 (.s rfl)) rfl ?_
              refine .consA (.load .none ty9 (.s rfl)) rfl ?_
              refine .consA (.buildSlice (xs := [_]) .none sl39 ty9 hz9 (.cons (.s rfl) .nil) rfl (by decide)) rfl ?_
              obtain ⟨hn18, h⟩ := need_some h
              refine .consW (.append (k := 5002) rk39 rfl (.told (.s rfl) rfl) (.s rfl) hn18) rfl rfl ?_
              refine .consW (.passRow rfl (.tmp rfl)) rfl rfl ?_
              refine .nil ?_
              refine .blkNormal ?_
              exact Ends.join _ (some_eq h) (.cons (t := 2) rfl (.cons (t := 3) rfl (.cons (t := 4) rfl (.cons (t := 8) rfl (.cons (t := 31) rfl (.cons (t := 32) rfl (.cons (t := 33) rfl Sub.nil))))))) (.cons (t := 11) rfl SubB.nil)
            · replace h := bif_f h hb16
              refine .skip ?_
              refine .blkNormal ?_
              refine .anon (t := 11) (g := 5002) rfl rfl trivial rfl ?_
              exact Ends.join _ (some_eq h) (.cons (t := 2) rfl (.cons (t := 3) rfl (.cons (t := 4) rfl (.cons (t := 8) rfl (.cons (t := 31) rfl (.cons (t := 32) rfl (.cons (t := 33) rfl Sub.nil))))))) (.cons (t := 11) rfl SubB.nil)
          · subst hj10; have h := hK10; clear hK10
            refine .nameRow (t := 11) (g := 5003) rfl rfl rfl (fun s5003 => ?_)
            refine .region [] mixed (by kernel_rfl) ?_
            refine .cons (.addW .none (.s rfl) (.int (by decide))) rfl ?_
            refine .cons (.move .none (.s rfl)) rfl ?_
            refine .nil ?_
            refine .anon (t := 11) (g := 5003) rfl rfl trivial rfl ?_
            exact Ends.againL (some_eq h) (.cons (t := 33) rfl (.cons (t := 2) rfl (.cons (t := 3) rfl (.cons (t := 4) rfl (.cons (t := 8) rfl (.cons (t := 31) rfl (.cons (t := 32) rfl Sub.nil))))))) (.cons (t := 11) rfl SubB.nil)
        · replace h := bif_f h hb9
          refine .exit ?_
          refine .thenExit ?_
          refine .thenExit ?_
          refine .blkExit ?_
          refine .anon (t := 11) (g := 5002) rfl rfl trivial rfl ?_
          replace h := hD8 _ (some_eq h)
          exact Ends.join _ (some_eq h) Sub.nil (.cons (t := 11) rfl SubB.nil)
      · subst hj7; have h := hK7; clear hK7
        refine .freezeRowA (t := 11) rfl rfl SubB.nil rfl ?_
        refine .seq ?_
        refine .region [] mixed (by kernel_rfl) ?_
        refine .cons (.move .none (.s rfl)) rfl ?_
        refine .cons (.assign .none (.s rfl)) rfl ?_
        refine .cons (.assign .none (.int (by decide))) rfl ?_
        refine .nil ?_
        refine .then ?_
        refine .ret ?_
        obtain rfl := some_eq h
        exact Ends.ret2 (.inl rfl) Tryz.results22 (ResOK.tmp rfl trivial Imp.refl) (ResOK.tmp rfl trivial Imp.refl)

theorem ref_OrderOf_1_okS {self : (Str × Doc × (List Str)) → Option (List Str)} (hself : ∀ {m28 : Nat} {s29 : Value} {m30 : Nat} (x : (Str × Doc × (List Str))) (r : (List Str)), self x = some r → FSpecO Tryz.prog 87 [rep x.1, ref x.2.1, isV (ptr m28 0), isV (ptr m30 0)] [(ptr m28 0, cont 39 (⟨s29⟩ : Raw)), (s29, rowV 9 x.2.2), (ptr m30 0, contS 124 (cloV 87 [ref x.2.1, isV (ptr m28 0), isV (ptr m30 0)]))] (anyV) [some (deep (fun z0 => cont 39 (⟨z0⟩ : Raw)) (rowV 9 r)), none, some (contS 124 (cloV 87 [ref x.2.1, isV (ptr m28 0), isV (ptr m30 0)]))]) {m28 : Nat} {s29 : Value} {m30 : Nat} {x : (Str × Doc × (List Str))} {r : (List Str)} (h : ref_OrderOf_1_body self x = some r) : FSpecO Tryz.prog 87 [rep x.1, ref x.2.1, isV (ptr m28 0), isV (ptr m30 0)] [(ptr m28 0, cont 39 (⟨s29⟩ : Raw)), (s29, rowV 9 x.2.2), (ptr m30 0, contS 124 (cloV 87 [ref x.2.1, isV (ptr m28 0), isV (ptr m30 0)]))] (anyV) [some (deep (fun z0 => cont 39 (⟨z0⟩ : Raw)) (rowV 9 r)), none, some (contS 124 (cloV 87 [ref x.2.1, isV (ptr m28 0), isV (ptr m30 0)]))] := by
  unfold ref_OrderOf_1_body at h
  refine FSpecO.intro (n := 28) fnok87 Tryz.func87 rfl Tryz.ntmps87 rfl (fun F => ?_)
  refine .seq ?_
  refine .region [] mixed (by kernel_rfl) ?_
  refine .cons (.load .none ty25 (.s rfl)) rfl ?_
  refine .cons (.move .none (.s rfl)) rfl ?_
  obtain ⟨r1, hv1, h⟩ := bind_some h
  refine .cons (.call .none (ref_members_ok hv1) (.cons (.s rfl) (.cons (.s rfl) .nil))) rfl ?_
  refine .cons (.len .none sl22 (.s rfl)) rfl ?_
  refine .cons (.move .none (.int (by decide))) rfl ?_
  refine .nil ?_
  refine .then ?_
  obtain ⟨j_2, h, hK2⟩ := bind_some h
  refine .tailJ (ι := (List Str)) (fun j_2 => []) (fun j_2 => [(28, some (CPred.at (ptr m28 0) (deep (fun z0 => cont 39 (⟨z0⟩ : Raw)) (rowV 9 j_2))))]) (fun s => j_2 = s) (.cons (t := 2) rfl (.cons (t := 3) rfl Sub.nil)) (.cons (t := 30) rfl SubB.nil) ?_ (fun j_2' hj2 => ?_)
  · skip
    refine .block ?_
    refine .close (k := 28) (g := 29) (fun z => cont 39 (⟨z⟩ : Raw)) rfl rfl rfl ?_
    refine .rforL h (fun p3_ => [(11, ⟨True, rep p3_.1⟩)]) (fun p3_ => [(28, some (CPred.at (ptr m28 0) (deep (fun z0 => cont 39 (⟨z0⟩ : Raw)) (rowV 9 p3_.2))))]) (.cons (t := 11) rfl Sub.nil) (.cons (t := 28) rfl SubB.nil) (.cons (t := 1) rfl (.cons (t := 2) rfl (.cons (t := 3) rfl (.cons (t := 9) rfl (.cons (t := 10) rfl Sub.nil))))) (.cons (t := 30) rfl SubB.nil) (fun p3_ o_3 h hD3 => ?_)
    refine .open (k := 28) (g := 5001) rfl rfl (fun s5001 => ?_)
    refine .seq ?_
    refine .region [] mixed (by kernel_rfl) ?_
    refine .cons (.lt .none (.s rfl) (.s rfl)) rfl ?_
    refine .nil ?_
    refine .then ?_
    refine .seq ?_
    refine .cond (t := 12) rfl trivial (fun hb4 => ?_) (fun hb4 => ?_)
    · replace h := bif_t h hb4
      refine .skip ?_
      refine .then ?_
      refine .seq ?_
      obtain ⟨j_5, h, hK5⟩ := bind_some h
      unfold ref_OrderOf_1_L1 at h
      refine .thenJ (ι := (List Str)) (fun j_5 => []) (fun j_5 => [(28, some (CPred.at (ptr m28 0) (deep (fun z0 => cont 39 (⟨z0⟩ : Raw)) (rowV 9 j_5))))]) (fun s => j_5 = s) (.cons (t := 1) rfl (.cons (t := 2) rfl (.cons (t := 3) rfl (.cons (t := 9) rfl (.cons (t := 10) rfl (.cons (t := 11) rfl Sub.nil)))))) (.cons (t := 30) rfl SubB.nil) ?_ (fun j_5' hj5 => ?_)
      · skip
        refine .block ?_
        refine .seq ?_
        refine .region [([], []), ([], []), ([], [6]), ([6], [6])] mixed (by kernel_rfl) ?_
        obtain ⟨hn6, h⟩ := need_some h
        refine .consA (.indexAddr .none sl22 ty44 (.s rfl) (.s rfl) (fun _ => hn6)) rfl ?_
        obtain ⟨v1, hv7, h⟩ := bnd_some h
        refine .consA (.re hv7 (.load .none ty44 (.s rfl))) rfl ?_
        refine .consW (.alloc zo44 rfl) rfl rfl ?_
        refine .consN (.store ty44 rfl rfl (.s rfl)) rfl ?_
        refine .nil ?_
        refine .then ?_
        refine .freeze (t := 6) rfl rfl (.cons (t := 28) rfl (.cons (t := 30) rfl (.cons (t := 5001) rfl SubB.nil))) rfl ?_
        refine .seq ?_
        refine .region [([28], []), ([], []), ([], []), ([], []), ([5001], [19, 5001]), ([28, 19], [28, 19])] mixed (by kernel_rfl) ?_
        refine .consA (.loadAt0 (k := 28) .none tr39 rfl (.s rfl)) rfl ?_
        refine .consA (.fieldAddr .none fd44_0 hfd44_0 (.s rfl)) rfl ?_
        refine .consA (.load .none ty9 (.s rfl)) rfl ?_
        refine .consA (.buildSlice (xs := [_]) .none sl39 ty9 hz9 (.cons (.s rfl) .nil) rfl (by decide)) rfl ?_
        obtain ⟨hn8, h⟩ := need_some h
        refine .consW (.append (k := 5001) rk39 rfl (.told (.s rfl) rfl) (.s rfl) hn8) rfl rfl ?_
        refine .consN (.storeRow (k := 28) (t := 19) (set := fun _ z => z) ty39 rfl (.s rfl) .self rfl rfl) rfl ?_
        refine .nil ?_
        refine .then ?_
        refine .open (k := 28) (g := 5002) rfl rfl (fun s5002 => ?_)
        refine .seq ?_
        refine .region [] mixed (by kernel_rfl) ?_
        refine .cons (.fieldAddr .none fd44_1 hfd44_1 (.s rfl)) rfl ?_
        refine .cons (.load .none ty3 (.s rfl)) rfl ?_
        refine .cons (.eqI .none (.s rfl) (.int (by decide))) rfl ?_
        refine .nil ?_
        refine .then ?_
        obtain ⟨c1, hv9, h⟩ := bnd_some h
        refine .reB (t := 5002) rfl (congrArg (fun y => CPred.at s5002 (rowV 9 y)) hv9) ?_
        refine .cond (t := 22) rfl trivial (fun hb10 => ?_) (fun hb10 => ?_)
        · replace h := bif_t h hb10
          refine .region [([30], []), ([], []), ([], []), ([28, 5002, 30], [28, 5002, 30])] mixed (by kernel_rfl) ?_
          refine .consA (.loadS (k := 30) .none tr124 rfl (.s rfl) cloV_one) rfl ?_
          refine .consA (.fieldAddr .none fd44_0 hfd44_0 (.s rfl)) rfl ?_
          refine .consA (.load .none ty9 (.s rfl)) rfl ?_
          obtain ⟨r2, hv11, h⟩ := bind_some h
          refine .consW (.callClo [28, 5002, 30] (Ss := [rep v1.Id]) (Cs := [ref x.2.1, isV (ptr m28 0), isV (ptr m30 0)]) (.s rfl) (hself _ _ hv11) (.cons (.s rfl) .nil) (.cons (k := 28) rfl (.cons (k := 5002) rfl (.cons (k := 30) rfl .nil))) rfl (by decide) (by decide) (by intro d h; cases h; decide)) rfl rfl ?_
          refine .nil ?_
          refine .blkNormal ?_
          exact Ends.join _ (some_eq h) (.cons (t := 1) rfl (.cons (t := 2) rfl (.cons (t := 3) rfl (.cons (t := 9) rfl (.cons (t := 10) rfl (.cons (t := 11) rfl Sub.nil)))))) (.cons (t := 28) rfl (.cons (t := 30) rfl SubB.nil))
        · replace h := bif_f h hb10
          refine .skip ?_
          refine .blkNormal ?_
          refine .close (k := 28) (g := 5002) (fun z => cont 39 (⟨z⟩ : Raw)) rfl rfl rfl ?_
          exact Ends.join _ (some_eq h) (.cons (t := 1) rfl (.cons (t := 2) rfl (.cons (t := 3) rfl (.cons (t := 9) rfl (.cons (t := 10) rfl (.cons (t := 11) rfl Sub.nil)))))) (.cons (t := 28) rfl (.cons (t := 30) rfl SubB.nil))
      · subst hj5; have h := hK5; clear hK5
        refine .open (k := 28) (g := 5003) rfl rfl (fun s5003 => ?_)
        refine .region [] mixed (by kernel_rfl) ?_
        refine .cons (.addW .none (.s rfl) (.int (by decide))) rfl ?_
        refine .cons (.move .none (.s rfl)) rfl ?_
        refine .nil ?_
        refine .close (k := 28) (g := 5003) (fun z => cont 39 (⟨z⟩ : Raw)) rfl rfl rfl ?_
        exact Ends.againL (some_eq h) (.cons (t := 11) rfl (.cons (t := 1) rfl (.cons (t := 2) rfl (.cons (t := 3) rfl (.cons (t := 9) rfl (.cons (t := 10) rfl Sub.nil)))))) (.cons (t := 28) rfl (.cons (t := 30) rfl SubB.nil))
    · replace h := bif_f h hb4
      refine .exit ?_
      refine .thenExit ?_
      refine .thenExit ?_
      refine .blkExit ?_
      refine .close (k := 28) (g := 5001) (fun z => cont 39 (⟨z⟩ : Raw)) rfl rfl rfl ?_
      replace h := hD3 _ (some_eq h)
      exact Ends.join _ (some_eq h) (.cons (t := 2) rfl (.cons (t := 3) rfl Sub.nil)) (.cons (t := 28) rfl (.cons (t := 30) rfl SubB.nil))
  · subst hj2; have h := hK2; clear hK2
    obtain rfl := some_eq h
    exact Ends.ret0O (.inr rfl) [28, 29, 30] Tryz.results87 (by decide) (.held rfl (.skip (.held rfl .nil))) 
theorem ref_OrderOf_1_okN : ∀ (k : Nat) {m28 : Nat} {s29 : Value} {m30 : Nat} (x : (Str × Doc × (List Str))) (r : (List Str)) (h : fixN ref_OrderOf_1_body k x = some r), FSpecO Tryz.prog 87 [rep x.1, ref x.2.1, isV (ptr m28 0), isV (ptr m30 0)] [(ptr m28 0, cont 39 (⟨s29⟩ : Raw)), (s29, rowV 9 x.2.2), (ptr m30 0, contS 124 (cloV 87 [ref x.2.1, isV (ptr m28 0), isV (ptr m30 0)]))] (anyV) [some (deep (fun z0 => cont 39 (⟨z0⟩ : Raw)) (rowV 9 r)), none, some (contS 124 (cloV 87 [ref x.2.1, isV (ptr m28 0), isV (ptr m30 0)]))]
  | 0, _, _, _, x, r, h => by simp [fixN] at h
  | k + 1, _, _, _, x, r, h => ref_OrderOf_1_okS (ref_OrderOf_1_okN k) h
theorem ref_OrderOf_1_ok {parent1 : Str} {c0_1 : Doc} {c1_1 : (List Str)} {r : (List Str)} {m28 : Nat} {s29 : Value} {m30 : Nat} (h : ref_OrderOf_1 parent1 c0_1 c1_1 = some r) : FSpecO Tryz.prog 87 [rep parent1, ref c0_1, isV (ptr m28 0), isV (ptr m30 0)] [(ptr m28 0, cont 39 (⟨s29⟩ : Raw)), (s29, rowV 9 c1_1), (ptr m30 0, contS 124 (cloV 87 [ref c0_1, isV (ptr m28 0), isV (ptr m30 0)]))] (anyV) [some (deep (fun z0 => cont 39 (⟨z0⟩ : Raw)) (rowV 9 r)), none, some (contS 124 (cloV 87 [ref c0_1, isV (ptr m28 0), isV (ptr m30 0)]))] :=
  let ⟨k, hk⟩ := fixp_some h
  ref_OrderOf_1_okN k (parent1, c0_1, c1_1) r hk

theorem ref_OrderOf_ok {d1 : Doc} {r : (List Str)}  (h : ref_OrderOf d1 = some r) : FSpec Tryz.prog 24 [rep d1] (rep r) := by
  unfold ref_OrderOf at h
  refine FSpec.intro (n := 24) fnok24 Tryz.func24 rfl Tryz.ntmps24 rfl (fun F => ?_)
  refine .seq ?_
  refine .region [] mixed (by kernel_rfl) ?_
  refine .cons (.box .none (.s rfl)) rfl ?_
  refine .cons (.assign .none (.const (x := ([] : (List Str))) (fun M w => ⟨_, ⟨none, 0, rfl, Nat.le_refl _, by decide, rfl⟩, rfl⟩))) rfl ?_
  refine .nil ?_
  refine .then ?_
  refine .seq ?_
  refine .region [([], [3])] mixed (by kernel_rfl) ?_
  refine .consW (.alloc zr39 rfl) rfl rfl ?_
  refine .nil ?_
  refine .then ?_
  refine .nameAt (t := 3) (g := 5001) rfl rfl isBox_cont rfl (fun m5001 => ?_)
  refine .nilKey (g := 5002) (T := 9) (α := Str) rfl ?_
  refine .seq ?_
  refine .region [([], [4])] mixed (by kernel_rfl) ?_
  refine .consW (.alloc zr124 rfl) rfl rfl ?_
  refine .nil ?_
  refine .then ?_
  refine .nameAt (t := 4) (g := 5003) rfl rfl isBox_cont rfl (fun m5003 => ?_)
  refine .seq ?_
  refine .region [([], []), ([5003], [5003])] mixed (by kernel_rfl) ?_
  refine .consA (.makeFuncC (Cs := [ref d1, isV (ptr m5001 0), isV (ptr m5003 0)]) .none (.cons (.s rfl) (.cons (.s rfl) (.cons (.s rfl) .nil)))) rfl ?_
  refine .consN (.storeS (k := 5003) (S := cloV 87 [ref d1, isV (ptr m5001 0), isV (ptr m5003 0)]) tr124 rfl cont_cells (.s rfl) (.s rfl) cloV_one) rfl ?_
  refine .nil ?_
  refine .then ?_
  refine .seq ?_
  refine .region [([5003], []), ([5001, 5002, 5003], [5001, 5002, 5003])] mixed (by kernel_rfl) ?_
  refine .consA (.loadS (k := 5003) .none tr124 rfl (.s rfl) cloV_one) rfl ?_
  obtain ⟨r1, hv1, h⟩ := bind_some h
  refine .consW (.callClo [5001, 5002, 5003] (Ss := [rep Str.nil]) (Cs := [ref d1, isV (ptr m5001 0), isV (ptr m5003 0)]) (.s rfl) (ref_OrderOf_1_ok hv1) (.cons (.str (l := []) (by decide)) .nil) (.cons (k := 5001) rfl (.cons (k := 5002) rfl (.cons (k := 5003) rfl .nil))) rfl (by decide) (by decide) (by intro d h; cases h; decide)) rfl rfl ?_
  refine .nil ?_
  refine .then ?_
  refine .open (k := 5001) (g := 5004) rfl rfl (fun s5004 => ?_)
  refine .seq ?_
  refine .seq ?_
  refine .region [] mixed (by kernel_rfl) ?_
  refine .cons (.fieldAddr .none fd25_1 hfd25_1 (.s rfl)) rfl ?_
  refine .cons (.load .none ty23 (.s rfl)) rfl ?_
  refine .cons (.len .none sl23 (.s rfl)) rfl ?_
  refine .cons (.move .none (.int (by decide))) rfl ?_
  refine .nil ?_
  refine .then ?_
  obtain ⟨j_2, h, hK2⟩ := bind_some h
  refine .thenJ (ι := (List Str)) (fun j_2 => []) (fun j_2 => [(5001, some (CPred.at (ptr m5001 0) (deep (fun z0 => cont 39 (⟨z0⟩ : Raw)) (rowV 9 j_2))))]) (fun s => j_2 = s) (.cons (t := 3) rfl Sub.nil) SubB.nil ?_ (fun j_2' hj2 => ?_)
  · skip
    refine .block ?_
    refine .close (k := 5001) (g := 5004) (fun z => cont 39 (⟨z⟩ : Raw)) rfl rfl rfl ?_
    refine .rforL h (fun p3_ => [(13, ⟨True, rep p3_.1⟩)]) (fun p3_ => [(5001, some (CPred.at (ptr m5001 0) (deep (fun z0 => cont 39 (⟨z0⟩ : Raw)) (rowV 9 p3_.2))))]) (.cons (t := 13) rfl Sub.nil) (.cons (t := 5001) rfl SubB.nil) (.cons (t := 3) rfl (.cons (t := 11) rfl (.cons (t := 12) rfl Sub.nil))) SubB.nil (fun p3_ o_3 h hD3 => ?_)
    refine .open (k := 5001) (g := 5005) rfl rfl (fun s5005 => ?_)
    refine .seq ?_
    refine .region [] mixed (by kernel_rfl) ?_
    refine .cons (.lt .none (.s rfl) (.s rfl)) rfl ?_
    refine .nil ?_
    refine .then ?_
    refine .seq ?_
    refine .cond (t := 14) rfl trivial (fun hb4 => ?_) (fun hb4 => ?_)
    · replace h := bif_t h hb4
      refine .skip ?_
      refine .then ?_
      refine .seq ?_
      obtain ⟨j_5, h, hK5⟩ := bind_some h
      unfold ref_OrderOf_L1 at h
      refine .thenJ (ι := (List Str)) (fun j_5 => []) (fun j_5 => [(5001, some (CPred.at (ptr m5001 0) (deep (fun z0 => cont 39 (⟨z0⟩ : Raw)) (rowV 9 j_5))))]) (fun s => j_5 = s) (.cons (t := 3) rfl (.cons (t := 11) rfl (.cons (t := 12) rfl (.cons (t := 13) rfl Sub.nil)))) SubB.nil ?_ (fun j_5' hj5 => ?_)
      · skip
        refine .block ?_
        refine .seq ?_
        refine .region [([], []), ([], []), ([], [6]), ([6], [6])] mixed (by kernel_rfl) ?_
        obtain ⟨hn6, h⟩ := need_some h
        refine .consA (.indexAddr .none sl23 ty67 (.s rfl) (.s rfl) (fun _ => hn6)) rfl ?_
        obtain ⟨v1, hv7, h⟩ := bnd_some h
        refine .consA (.re hv7 (.load .none ty67 (.s rfl))) rfl ?_
        refine .consW (.alloc zo67 rfl) rfl rfl ?_
        refine .consN (.store ty67 rfl rfl (.s rfl)) rfl ?_
        refine .nil ?_
        refine .then ?_
        refine .freeze (t := 6) rfl rfl (.cons (t := 5001) rfl (.cons (t := 5005) rfl SubB.nil)) rfl ?_
        refine .region [([5001], []), ([], []), ([], []), ([], []), ([5005], [21, 5005]), ([5001, 21], [5001, 21])] mixed (by kernel_rfl) ?_
        refine .consA (.loadAt0 (k := 5001) .none tr39 rfl (.s rfl)) rfl ?_
        refine .consA (.fieldAddr .none fd67_0 hfd67_0 (.s rfl)) rfl ?_
        refine .consA (.load .none ty9 (.s rfl)) rfl ?_
        refine .consA (.buildSlice (xs := [_]) .none sl39 ty9 hz9 (.cons (.s rfl) .nil) rfl (by decide)) rfl ?_
        obtain ⟨hn8, h⟩ := need_some h
        refine .consW (.append (k := 5005) rk39 rfl (.told (.s rfl) rfl) (.s rfl) hn8) rfl rfl ?_
        refine .consN (.storeRow (k := 5001) (t := 21) (set := fun _ z => z) ty39 rfl (.s rfl) .self rfl rfl) rfl ?_
        refine .nil ?_
        refine .blkNormal ?_
        exact Ends.join _ (some_eq h) (.cons (t := 3) rfl (.cons (t := 11) rfl (.cons (t := 12) rfl (.cons (t := 13) rfl Sub.nil)))) (.cons (t := 5001) rfl SubB.nil)
      · subst hj5; have h := hK5; clear hK5
        refine .open (k := 5001) (g := 5006) rfl rfl (fun s5006 => ?_)
        refine .region [] mixed (by kernel_rfl) ?_
        refine .cons (.addW .none (.s rfl) (.int (by decide))) rfl ?_
        refine .cons (.move .none (.s rfl)) rfl ?_
        refine .nil ?_
        refine .close (k := 5001) (g := 5006) (fun z => cont 39 (⟨z⟩ : Raw)) rfl rfl rfl ?_
        exact Ends.againL (some_eq h) (.cons (t := 13) rfl (.cons (t := 3) rfl (.cons (t := 11) rfl (.cons (t := 12) rfl Sub.nil)))) (.cons (t := 5001) rfl SubB.nil)
    · replace h := bif_f h hb4
      refine .exit ?_
      refine .thenExit ?_
      refine .thenExit ?_
      refine .blkExit ?_
      refine .close (k := 5001) (g := 5005) (fun z => cont 39 (⟨z⟩ : Raw)) rfl rfl rfl ?_
      replace h := hD3 _ (some_eq h)
      exact Ends.join _ (some_eq h) (.cons (t := 3) rfl Sub.nil) (.cons (t := 5001) rfl SubB.nil)
  · subst hj2; have h := hK2; clear hK2
    refine .open (k := 5001) (g := 5007) rfl rfl (fun s5007 => ?_)
    refine .seq ?_
    refine .region [([5001], []), ([], [])] mixed (by kernel_rfl) ?_
    refine .consA (.loadAt0 (k := 5001) .none tr39 rfl (.s rfl)) rfl ?_
    refine .consA (.assign .none (.s rfl)) rfl ?_
    refine .nil ?_
    refine .then ?_
    refine .freezeRow (g := 5007) (ts := [2]) rfl (.cons (t := 2) rfl trivial .nil) SubB.nil rfl ?_
    refine .ret ?_
    obtain rfl := some_eq h
    exact Ends.ret1 (.inl rfl) Tryz.results24 (ResOK.tmp rfl trivial Imp.refl)

theorem law_LooksMatch_3_ok {c0_1 : Doc} {r : (List Str)}  (h : law_LooksMatch_3 c0_1 = some r) : FSpec Tryz.prog 23 [ref c0_1] (rep r) := by
  unfold law_LooksMatch_3 at h
  refine FSpec.intro (n := 4) fnok23 Tryz.func23 rfl Tryz.ntmps23 rfl (fun F => ?_)
  refine .seq ?_
  refine .region [] mixed (by kernel_rfl) ?_
  refine .cons (.assign .none (.const (x := ([] : (List Str))) (fun M w => ⟨_, ⟨none, 0, rfl, Nat.le_refl _, by decide, rfl⟩, rfl⟩))) rfl ?_
  refine .nil ?_
  refine .then ?_
  refine .seq ?_
  refine .region [] mixed (by kernel_rfl) ?_
  refine .cons (.load .none ty25 (.s rfl)) rfl ?_
  obtain ⟨r1, hv1, h⟩ := bind_some h
  refine .cons (.call .none (ref_OrderOf_ok hv1) (.cons (.s rfl) .nil)) rfl ?_
  refine .cons (.assign .none (.s rfl)) rfl ?_
  refine .nil ?_
  refine .then ?_
  refine .ret ?_
  obtain rfl := some_eq h
  exact Ends.ret1 (.inl rfl) Tryz.results23 (ResOK.tmp rfl trivial Imp.refl)

theorem ref_Sign_ok {n1 : Int} {r : Int}  (h : ref_Sign n1 = some r) : FSpec Tryz.prog 161 [rep n1] (rep r) := by
  unfold ref_Sign at h
  refine FSpec.intro (n := 6) fnok161 Tryz.func161 rfl Tryz.ntmps161 rfl (fun F => ?_)
  refine .seq ?_
  refine .region [] mixed (by kernel_rfl) ?_
  refine .cons (.assign .none (.int (by decide))) rfl ?_
  refine .nil ?_
  refine .then ?_
  refine .seq ?_
  refine .region [] mixed (by kernel_rfl) ?_
  refine .cons (.move .none (.s rfl)) rfl ?_
  refine .cons (.max2 .none (.s rfl) (.int (by decide))) rfl ?_
  refine .cons (.min2 .none (.s rfl) (.int (by decide))) rfl ?_
  refine .cons (.assign .none (.s rfl)) rfl ?_
  refine .nil ?_
  refine .then ?_
  refine .ret ?_
  obtain rfl := some_eq h
  exact Ends.ret1 (.inl rfl) Tryz.results161 (ResOK.tmp rfl trivial Imp.refl)

theorem ref_HasOf_1_ok {n1 : Int} {most1 : Int} {r : Int}  (h : ref_HasOf_1 n1 most1 = some r) : FSpec Tryz.prog 160 [rep n1, rep most1] (rep r) := by
  unfold ref_HasOf_1 at h
  refine FSpec.intro (n := 9) fnok160 Tryz.func160 rfl Tryz.ntmps160 rfl (fun F => ?_)
  refine .seq ?_
  refine .region [] mixed (by kernel_rfl) ?_
  refine .cons (.assign .none (.int (by decide))) rfl ?_
  refine .nil ?_
  refine .then ?_
  refine .seq ?_
  refine .region [] mixed (by kernel_rfl) ?_
  refine .cons (.move .none (.s rfl)) rfl ?_
  refine .cons (.move .none (.s rfl)) rfl ?_
  refine .cons (.subW .none (.s rfl) (.s rfl)) rfl ?_
  obtain ⟨r1, hv1, h⟩ := bind_some h
  refine .cons (.call .none (ref_Sign_ok hv1) (.cons (.s rfl) .nil)) rfl ?_
  refine .cons (.assign .none (.s rfl)) rfl ?_
  refine .nil ?_
  refine .then ?_
  refine .ret ?_
  obtain rfl := some_eq h
  exact Ends.ret1 (.inl rfl) Tryz.results160 (ResOK.tmp rfl trivial Imp.refl)

theorem ref_Abs_ok {n1 : Int} {r : Int}  (h : ref_Abs n1 = some r) : FSpec Tryz.prog 162 [rep n1] (rep r) := by
  unfold ref_Abs at h
  refine FSpec.intro (n := 7) fnok162 Tryz.func162 rfl Tryz.ntmps162 rfl (fun F => ?_)
  refine .seq ?_
  refine .region [] mixed (by kernel_rfl) ?_
  refine .cons (.assign .none (.int (by decide))) rfl ?_
  refine .nil ?_
  refine .then ?_
  refine .seq ?_
  refine .region [] mixed (by kernel_rfl) ?_
  refine .cons (.move .none (.s rfl)) rfl ?_
  refine .cons (.move .none (.s rfl)) rfl ?_
  refine .cons (.negW .none (.s rfl)) rfl ?_
  refine .cons (.max2 .none (.s rfl) (.s rfl)) rfl ?_
  refine .cons (.assign .none (.s rfl)) rfl ?_
  refine .nil ?_
  refine .then ?_
  refine .ret ?_
  obtain rfl := some_eq h
  exact Ends.ret1 (.inl rfl) Tryz.results162 (ResOK.tmp rfl trivial Imp.refl)

theorem ref_HasOf_ok {kind1 : Int} {b1 : Box} {p1 : Point} {r : Int}  (h : ref_HasOf kind1 b1 p1 = some r) : FSpec Tryz.prog 89 [rep kind1, rep b1, rep p1] (rep r) := by
  unfold ref_HasOf at h
  refine FSpec.intro (n := 182) fnok89 Tryz.func89 rfl Tryz.ntmps89 rfl (fun F => ?_)
  refine .seq ?_
  refine .region [] mixed (by kernel_rfl) ?_
  refine .cons (.box .none (.s rfl)) rfl ?_
  refine .cons (.box .none (.s rfl)) rfl ?_
  refine .cons (.assign .none (.int (by decide))) rfl ?_
  refine .nil ?_
  refine .then ?_
  refine .seq ?_
  refine .region [] mixed (by kernel_rfl) ?_
  refine .cons (.assign .none (Opd.func (ι := Int × Int × Int) (pre := fun i => ref_HasOf_1 i.1 i.2.1 = some i.2.2) (Ss := fun i => [rep i.1, rep i.2.1]) (S := fun i => rep i.2.2) fnok160 (fun i h => ref_HasOf_1_ok h))) rfl ?_
  refine .nil ?_
  refine .then ?_
  refine .seq ?_
  refine .region [] mixed (by kernel_rfl) ?_
  refine .cons (.fieldAddr .none fd27_0 hfd27_0 (.s rfl)) rfl ?_
  refine .cons (.load .none ty3 (.s rfl)) rfl ?_
  refine .cons (.fieldAddr .none fd29_0 hfd29_0 (.s rfl)) rfl ?_
  refine .cons (.load .none ty3 (.s rfl)) rfl ?_
  refine .cons (.subW .none (.s rfl) (.s rfl)) rfl ?_
  refine .cons (.mulW .none (.int (by decide)) (.s rfl)) rfl ?_
  refine .cons (.fieldAddr .none fd29_2 hfd29_2 (.s rfl)) rfl ?_
  refine .cons (.load .none ty3 (.s rfl)) rfl ?_
  refine .cons (.subW .none (.s rfl) (.s rfl)) rfl ?_
  refine .cons (.fieldAddr .none fd27_1 hfd27_1 (.s rfl)) rfl ?_
  refine .cons (.load .none ty3 (.s rfl)) rfl ?_
  refine .cons (.fieldAddr .none fd29_1 hfd29_1 (.s rfl)) rfl ?_
  refine .cons (.load .none ty3 (.s rfl)) rfl ?_
  refine .cons (.subW .none (.s rfl) (.s rfl)) rfl ?_
  refine .cons (.mulW .none (.int (by decide)) (.s rfl)) rfl ?_
  refine .cons (.fieldAddr .none fd29_3 hfd29_3 (.s rfl)) rfl ?_
  refine .cons (.load .none ty3 (.s rfl)) rfl ?_
  refine .cons (.subW .none (.s rfl) (.s rfl)) rfl ?_
  obtain ⟨u1, hv1, h⟩ := bnd_some h
  refine .cons (.re hv1 (.assign .none (.s rfl))) rfl ?_
  obtain ⟨v1, hv2, h⟩ := bnd_some h
  refine .cons (.re hv2 (.assign .none (.s rfl))) rfl ?_
  refine .nil ?_
  refine .then ?_
  refine .seq ?_
  refine .seq ?_
  refine .region [] mixed (by kernel_rfl) ?_
  refine .cons (.move .none (.s rfl)) rfl ?_
  obtain ⟨r1, hv3, h⟩ := bind_some h
  refine .cons (.call .none (ref_Abs_ok hv3) (.cons (.s rfl) .nil)) rfl ?_
  refine .cons (.fieldAddr .none fd29_2 hfd29_2 (.s rfl)) rfl ?_
  refine .cons (.load .none ty3 (.s rfl)) rfl ?_
  refine .cons (.gt .none (.s rfl) (.s rfl)) rfl ?_
  refine .cons (.move .none (.s rfl)) rfl ?_
  refine .cons (.move (.at rfl rfl) (.s rfl)) rfl ?_
  obtain ⟨r2, hv4, h⟩ := bind_some h
  refine .cons (.callIf (.at rfl rfl) fnok162 (fun hg => ref_Abs_ok ((fun hg => gd_some hv4 ((notT hg.2))) hg)) (.cons (.tmp rfl id) .nil) (fun h => h)) rfl ?_
  refine .cons (.fieldAddr (.at rfl rfl) fd29_3 hfd29_3 (.s rfl)) rfl ?_
  refine .cons (.load (.at rfl rfl) ty3 (.tmp rfl id)) rfl ?_
  refine .cons (.gt (.at rfl rfl) (.tmp rfl id) (.tmp rfl id)) rfl ?_
  refine .cons (.pickOr .none (.s rfl) (.tmp rfl id)) rfl ?_
  refine .nil ?_
  refine .then ?_
  refine .cond (t := 45) rfl trivial (fun hb5 => ?_) (fun hb5 => ?_)
  · replace h := bif_t h hb5
    refine .seq ?_
    refine .region [] mixed (by kernel_rfl) ?_
    refine .cons (.assign .none (.int (by decide))) rfl ?_
    refine .nil ?_
    refine .then ?_
    refine .ret ?_
    refine .thenRet ?_
    obtain rfl := some_eq h
    exact Ends.ret1 (.inl rfl) Tryz.results89 (ResOK.tmp rfl trivial Imp.refl)
  · replace h := bif_f h hb5
    refine .skip ?_
    refine .then ?_
    refine .seq ?_
    refine .region [] mixed (by kernel_rfl) ?_
    refine .cons (.assign .none (.int (by decide))) rfl ?_
    refine .nil ?_
    refine .then ?_
    refine .seq ?_
    refine .seq ?_
    refine .region [] mixed (by kernel_rfl) ?_
    refine .cons (.move .none (.s rfl)) rfl ?_
    obtain ⟨r3, hv6, h⟩ := bind_some h
    refine .cons (.call .none (ref_Abs_ok hv6) (.cons (.s rfl) .nil)) rfl ?_
    refine .cons (.fieldAddr .none fd29_2 hfd29_2 (.s rfl)) rfl ?_
    refine .cons (.load .none ty3 (.s rfl)) rfl ?_
    refine .cons (.eqI .none (.s rfl) (.s rfl)) rfl ?_
    refine .cons (.move .none (.s rfl)) rfl ?_
    refine .cons (.move (.at rfl rfl) (.s rfl)) rfl ?_
    obtain ⟨r4, hv7, h⟩ := bind_some h
    refine .cons (.callIf (.at rfl rfl) fnok162 (fun hg => ref_Abs_ok ((fun hg => gd_some hv7 ((notT hg.2))) hg)) (.cons (.tmp rfl id) .nil) (fun h => h)) rfl ?_
    refine .cons (.fieldAddr (.at rfl rfl) fd29_3 hfd29_3 (.s rfl)) rfl ?_
    refine .cons (.load (.at rfl rfl) ty3 (.tmp rfl id)) rfl ?_
    refine .cons (.eqI (.at rfl rfl) (.tmp rfl id) (.tmp rfl id)) rfl ?_
    refine .cons (.pickOr .none (.s rfl) (.tmp rfl id)) rfl ?_
    refine .nil ?_
    refine .then ?_
    obtain ⟨j_8, h, hK8⟩ := bind_some h
    refine .thenJ (ι := Int) (fun j_8 => [(10, ⟨True, rep j_8⟩)]) (fun j_8 => []) (fun s => j_8 = s) (.cons (t := 0) rfl (.cons (t := 4) rfl (.cons (t := 5) rfl (.cons (t := 7) rfl (.cons (t := 8) rfl (.cons (t := 9) rfl Sub.nil)))))) SubB.nil ?_ (fun j_8' hj8 => ?_)
    · skip
      refine .cond (t := 57) rfl trivial (fun hb9 => ?_) (fun hb9 => ?_)
      · replace h := bif_t h hb9
        refine .region [] mixed (by kernel_rfl) ?_
        refine .cons (.assign .none (.int (by decide))) rfl ?_
        refine .nil ?_
        exact Ends.join _ (some_eq h) (.cons (t := 10) rfl (.cons (t := 0) rfl (.cons (t := 4) rfl (.cons (t := 5) rfl (.cons (t := 7) rfl (.cons (t := 8) rfl (.cons (t := 9) rfl Sub.nil))))))) SubB.nil
      · replace h := bif_f h hb9
        refine .skip ?_
        exact Ends.join _ (some_eq h) (.cons (t := 10) rfl (.cons (t := 0) rfl (.cons (t := 4) rfl (.cons (t := 5) rfl (.cons (t := 7) rfl (.cons (t := 8) rfl (.cons (t := 9) rfl Sub.nil))))))) SubB.nil
    · subst hj8; have h := hK8; clear hK8
      refine .seq ?_
      refine .seq ?_
      refine .region [] mixed (by kernel_rfl) ?_
      refine .cons (.move .none (.s rfl)) rfl ?_
      refine .nil ?_
      refine .then ?_
      obtain ⟨o_10, h, hK10⟩ := bindR_some h
      refine .thenJ (ι := Unit) (fun j_10 => []) (fun j_10 => []) (fun s => o_10 = Res.nx s) (.cons (t := 10) rfl Sub.nil) SubB.nil ?_ (fun j_10 hj10 => ?_)
      · skip
        refine .block ?_
        refine .seq ?_
        refine .region [] mixed (by kernel_rfl) ?_
        refine .cons (.eqI .none (.s rfl) (.int (by decide))) rfl ?_
        refine .cons (.assign .none (.s rfl)) rfl ?_
        refine .nil ?_
        refine .then ?_
        refine .cond (t := 59) rfl trivial (fun hb11 => ?_) (fun hb11 => ?_)
        · replace h := bif_t h hb11
          refine .seq ?_
          refine .region [] mixed (by kernel_rfl) ?_
          refine .cons (.move .none (.s rfl)) rfl ?_
          refine .cons (.move .none (.s rfl)) rfl ?_
          refine .cons (.move .none (.s rfl)) rfl ?_
          refine .cons (.mulW .none (.s rfl) (.s rfl)) rfl ?_
          refine .cons (.fieldAddr .none fd29_3 hfd29_3 (.s rfl)) rfl ?_
          refine .cons (.load .none ty3 (.s rfl)) rfl ?_
          refine .cons (.mulW .none (.s rfl) (.s rfl)) rfl ?_
          refine .cons (.fieldAddr .none fd29_3 hfd29_3 (.s rfl)) rfl ?_
          refine .cons (.load .none ty3 (.s rfl)) rfl ?_
          refine .cons (.mulW .none (.s rfl) (.s rfl)) rfl ?_
          refine .cons (.move .none (.s rfl)) rfl ?_
          refine .cons (.move .none (.s rfl)) rfl ?_
          refine .cons (.mulW .none (.s rfl) (.s rfl)) rfl ?_
          refine .cons (.fieldAddr .none fd29_2 hfd29_2 (.s rfl)) rfl ?_
          refine .cons (.load .none ty3 (.s rfl)) rfl ?_
          refine .cons (.mulW .none (.s rfl) (.s rfl)) rfl ?_
          refine .cons (.fieldAddr .none fd29_2 hfd29_2 (.s rfl)) rfl ?_
          refine .cons (.load .none ty3 (.s rfl)) rfl ?_
          refine .cons (.mulW .none (.s rfl) (.s rfl)) rfl ?_
          refine .cons (.addW .none (.s rfl) (.s rfl)) rfl ?_
          refine .cons (.fieldAddr .none fd29_2 hfd29_2 (.s rfl)) rfl ?_
          refine .cons (.load .none ty3 (.s rfl)) rfl ?_
          refine .cons (.fieldAddr .none fd29_2 hfd29_2 (.s rfl)) rfl ?_
          refine .cons (.load .none ty3 (.s rfl)) rfl ?_
          refine .cons (.mulW .none (.s rfl) (.s rfl)) rfl ?_
          refine .cons (.fieldAddr .none fd29_3 hfd29_3 (.s rfl)) rfl ?_
          refine .cons (.load .none ty3 (.s rfl)) rfl ?_
          refine .cons (.mulW .none (.s rfl) (.s rfl)) rfl ?_
          refine .cons (.fieldAddr .none fd29_3 hfd29_3 (.s rfl)) rfl ?_
          refine .cons (.load .none ty3 (.s rfl)) rfl ?_
          refine .cons (.mulW .none (.s rfl) (.s rfl)) rfl ?_
          obtain ⟨r5, hv12, h⟩ := bind_some h
          refine .cons (.callV (W ((W ((W ((W (u1 * u1)) * b1.H)) * b1.H)) + (W ((W ((W (v1 * v1)) * b1.W_)) * b1.W_))), W ((W ((W (b1.W_ * b1.W_)) * b1.H)) * b1.H), r5) .none (.s rfl) (fun _ => hv12) (.cons (.s rfl) (.cons (.s rfl) .nil))) rfl ?_
          refine .cons (.assign .none (.s rfl)) rfl ?_
          refine .nil ?_
          refine .then ?_
          refine .ret ?_
          refine .blkRet ?_
          refine .thenRet ?_
          replace h := resb_ab hK10 (some_eq h)
          obtain rfl := some_eq h
          exact Ends.ret1 (.inl rfl) Tryz.results89 (ResOK.tmp rfl trivial Imp.refl)
        · replace h := bif_f h hb11
          refine .seq ?_
          refine .region [] mixed (by kernel_rfl) ?_
          refine .cons (.eqI .none (.s rfl) (.int (by decide))) rfl ?_
          refine .cons (.assign .none (.s rfl)) rfl ?_
          refine .nil ?_
          refine .then ?_
          refine .cond (t := 93) rfl trivial (fun hb13 => ?_) (fun hb13 => ?_)
          · replace h := bif_t h hb13
            refine .seq ?_
            refine .region [] mixed (by kernel_rfl) ?_
            refine .cons (.move .none (.s rfl)) rfl ?_
            refine .cons (.move .none (.s rfl)) rfl ?_
            obtain ⟨r6, hv14, h⟩ := bind_some h
            refine .cons (.call .none (ref_Abs_ok hv14) (.cons (.s rfl) .nil)) rfl ?_
            refine .cons (.fieldAddr .none fd29_3 hfd29_3 (.s rfl)) rfl ?_
            refine .cons (.load .none ty3 (.s rfl)) rfl ?_
            refine .cons (.mulW .none (.s rfl) (.s rfl)) rfl ?_
            refine .cons (.move .none (.s rfl)) rfl ?_
            obtain ⟨r7, hv15, h⟩ := bind_some h
            refine .cons (.call .none (ref_Abs_ok hv15) (.cons (.s rfl) .nil)) rfl ?_
            refine .cons (.fieldAddr .none fd29_2 hfd29_2 (.s rfl)) rfl ?_
            refine .cons (.load .none ty3 (.s rfl)) rfl ?_
            refine .cons (.mulW .none (.s rfl) (.s rfl)) rfl ?_
            refine .cons (.addW .none (.s rfl) (.s rfl)) rfl ?_
            refine .cons (.fieldAddr .none fd29_2 hfd29_2 (.s rfl)) rfl ?_
            refine .cons (.load .none ty3 (.s rfl)) rfl ?_
            refine .cons (.fieldAddr .none fd29_3 hfd29_3 (.s rfl)) rfl ?_
            refine .cons (.load .none ty3 (.s rfl)) rfl ?_
            refine .cons (.mulW .none (.s rfl) (.s rfl)) rfl ?_
            obtain ⟨r8, hv16, h⟩ := bind_some h
            refine .cons (.callV (W ((W (r6 * b1.H)) + (W (r7 * b1.W_))), W (b1.W_ * b1.H), r8) .none (.s rfl) (fun _ => hv16) (.cons (.s rfl) (.cons (.s rfl) .nil))) rfl ?_
            refine .cons (.assign .none (.s rfl)) rfl ?_
            refine .nil ?_
            refine .then ?_
            refine .ret ?_
            refine .blkRet ?_
            refine .thenRet ?_
            replace h := resb_ab hK10 (some_eq h)
            obtain rfl := some_eq h
            exact Ends.ret1 (.inl rfl) Tryz.results89 (ResOK.tmp rfl trivial Imp.refl)
          · replace h := bif_f h hb13
            refine .seq ?_
            refine .region [] mixed (by kernel_rfl) ?_
            refine .cons (.eqI .none (.s rfl) (.int (by decide))) rfl ?_
            refine .cons (.assign .none (.s rfl)) rfl ?_
            refine .nil ?_
            refine .then ?_
            refine .cond (t := 113) rfl trivial (fun hb17 => ?_) (fun hb17 => ?_)
            · replace h := bif_t h hb17
              refine .seq ?_
              refine .region [] mixed (by kernel_rfl) ?_
              refine .cons (.fieldAddr .none fd29_2 hfd29_2 (.s rfl)) rfl ?_
              refine .cons (.load .none ty3 (.s rfl)) rfl ?_
              refine .cons (.fieldAddr .none fd29_3 hfd29_3 (.s rfl)) rfl ?_
              refine .cons (.load .none ty3 (.s rfl)) rfl ?_
              refine .cons (.assign .none (.s rfl)) rfl ?_
              refine .cons (.assign .none (.s rfl)) rfl ?_
              refine .nil ?_
              refine .then ?_
              refine .seq ?_
              refine .seq ?_
              refine .region [] mixed (by kernel_rfl) ?_
              refine .cons (.move .none (.s rfl)) rfl ?_
              refine .cons (.move .none (.s rfl)) rfl ?_
              refine .cons (.lt .none (.s rfl) (.s rfl)) rfl ?_
              refine .nil ?_
              refine .then ?_
              obtain ⟨j_18, h, hK18⟩ := bind_some h
              refine .thenJ (ι := (Int × Int × Int × Int)) (fun j_18 => [(8, ⟨True, rep j_18.1⟩), (9, ⟨True, rep j_18.2.1⟩), (11, ⟨True, rep j_18.2.2.1⟩), (12, ⟨True, rep j_18.2.2.2⟩)]) (fun j_18 => []) (fun s => j_18 = s) (.cons (t := 7) rfl Sub.nil) SubB.nil ?_ (fun j_18' hj18 => ?_)
              · skip
                refine .cond (t := 121) rfl trivial (fun hb19 => ?_) (fun hb19 => ?_)
                · replace h := bif_t h hb19
                  refine .region [] mixed (by kernel_rfl) ?_
                  refine .cons (.move .none (.s rfl)) rfl ?_
                  refine .cons (.move .none (.s rfl)) rfl ?_
                  refine .cons (.move .none (.s rfl)) rfl ?_
                  refine .cons (.move .none (.s rfl)) rfl ?_
                  refine .cons (.assign .none (.s rfl)) rfl ?_
                  refine .cons (.assign .none (.s rfl)) rfl ?_
                  refine .cons (.assign .none (.s rfl)) rfl ?_
                  refine .cons (.assign .none (.s rfl)) rfl ?_
                  refine .nil ?_
                  exact Ends.join _ (some_eq h) (.cons (t := 8) rfl (.cons (t := 9) rfl (.cons (t := 11) rfl (.cons (t := 12) rfl (.cons (t := 7) rfl Sub.nil))))) SubB.nil
                · replace h := bif_f h hb19
                  refine .skip ?_
                  exact Ends.join _ (some_eq h) (.cons (t := 8) rfl (.cons (t := 9) rfl (.cons (t := 11) rfl (.cons (t := 12) rfl (.cons (t := 7) rfl Sub.nil))))) SubB.nil
              · subst hj18; have h := hK18; clear hK18
                refine .seq ?_
                refine .region [] mixed (by kernel_rfl) ?_
                refine .cons (.move .none (.s rfl)) rfl ?_
                obtain ⟨r9, hv20, h⟩ := bind_some h
                refine .cons (.call .none (ref_Abs_ok hv20) (.cons (.s rfl) .nil)) rfl ?_
                refine .cons (.move .none (.s rfl)) rfl ?_
                refine .cons (.move .none (.s rfl)) rfl ?_
                refine .cons (.subW .none (.s rfl) (.s rfl)) rfl ?_
                refine .cons (.subW .none (.s rfl) (.s rfl)) rfl ?_
                refine .cons (.max2 .none (.s rfl) (.int (by decide))) rfl ?_
                obtain ⟨s1, hv21, h⟩ := bnd_some h
                refine .cons (.re hv21 (.assign .none (.s rfl))) rfl ?_
                refine .nil ?_
                refine .then ?_
                refine .seq ?_
                refine .region [] mixed (by kernel_rfl) ?_
                refine .cons (.move .none (.s rfl)) rfl ?_
                refine .cons (.move .none (.s rfl)) rfl ?_
                refine .cons (.move .none (.s rfl)) rfl ?_
                refine .cons (.mulW .none (.s rfl) (.s rfl)) rfl ?_
                refine .cons (.move .none (.s rfl)) rfl ?_
                refine .cons (.move .none (.s rfl)) rfl ?_
                refine .cons (.mulW .none (.s rfl) (.s rfl)) rfl ?_
                refine .cons (.addW .none (.s rfl) (.s rfl)) rfl ?_
                refine .cons (.move .none (.s rfl)) rfl ?_
                refine .cons (.move .none (.s rfl)) rfl ?_
                refine .cons (.mulW .none (.s rfl) (.s rfl)) rfl ?_
                obtain ⟨r10, hv22, h⟩ := bind_some h
                refine .cons (.callV (W ((W (s1 * s1)) + (W (j_18.2.1 * j_18.2.1))), W (j_18.2.2.2 * j_18.2.2.2), r10) .none (.s rfl) (fun _ => hv22) (.cons (.s rfl) (.cons (.s rfl) .nil))) rfl ?_
                refine .cons (.assign .none (.s rfl)) rfl ?_
                refine .nil ?_
                refine .then ?_
                refine .ret ?_
                refine .blkRet ?_
                refine .thenRet ?_
                replace h := resb_ab hK10 (some_eq h)
                obtain rfl := some_eq h
                exact Ends.ret1 (.inl rfl) Tryz.results89 (ResOK.tmp rfl trivial Imp.refl)
            · replace h := bif_f h hb17
              refine .seq ?_
              refine .region [] mixed (by kernel_rfl) ?_
              refine .cons (.eqI .none (.s rfl) (.int (by decide))) rfl ?_
              refine .cons (.assign .none (.s rfl)) rfl ?_
              refine .nil ?_
              refine .then ?_
              refine .cond (t := 145) rfl trivial (fun hb23 => ?_) (fun hb23 => ?_)
              · replace h := bif_t h hb23
                refine .seq ?_
                refine .region [] mixed (by kernel_rfl) ?_
                refine .cons (.fieldAddr .none fd29_2 hfd29_2 (.s rfl)) rfl ?_
                refine .cons (.load .none ty3 (.s rfl)) rfl ?_
                refine .cons (.fieldAddr .none fd29_3 hfd29_3 (.s rfl)) rfl ?_
                refine .cons (.load .none ty3 (.s rfl)) rfl ?_
                refine .cons (.min2 .none (.s rfl) (.s rfl)) rfl ?_
                refine .cons (.quo .none (.s rfl) (.int (by decide)) (fun _ => by decide)) rfl ?_
                obtain ⟨n1, hv24, h⟩ := bnd_some h
                refine .cons (.re hv24 (.assign .none (.s rfl))) rfl ?_
                refine .nil ?_
                refine .then ?_
                refine .seq ?_
                refine .region [] mixed (by kernel_rfl) ?_
                refine .cons (.fieldAddr .none fd27_0 hfd27_0 (.s rfl)) rfl ?_
                refine .cons (.load .none ty3 (.s rfl)) rfl ?_
                refine .cons (.fieldAddr .none fd29_0 hfd29_0 (.s rfl)) rfl ?_
                refine .cons (.load .none ty3 (.s rfl)) rfl ?_
                refine .cons (.subW .none (.s rfl) (.s rfl)) rfl ?_
                refine .cons (.fieldAddr .none fd29_2 hfd29_2 (.s rfl)) rfl ?_
                refine .cons (.load .none ty3 (.s rfl)) rfl ?_
                refine .cons (.subW .none (.s rfl) (.s rfl)) rfl ?_
                refine .cons (.move .none (.s rfl)) rfl ?_
                refine .cons (.addW .none (.s rfl) (.s rfl)) rfl ?_
                refine .cons (.fieldAddr .none fd27_1 hfd27_1 (.s rfl)) rfl ?_
                refine .cons (.load .none ty3 (.s rfl)) rfl ?_
                refine .cons (.fieldAddr .none fd29_1 hfd29_1 (.s rfl)) rfl ?_
                refine .cons (.load .none ty3 (.s rfl)) rfl ?_
                refine .cons (.subW .none (.s rfl) (.s rfl)) rfl ?_
                refine .cons (.subW .none (.s rfl) (.s rfl)) rfl ?_
                obtain ⟨d1, hv25, h⟩ := bnd_some h
                refine .cons (.re hv25 (.assign .none (.s rfl))) rfl ?_
                refine .nil ?_
                refine .then ?_
                refine .seq ?_
                refine .seq ?_
                refine .region [] mixed (by kernel_rfl) ?_
                refine .cons (.move .none (.s rfl)) rfl ?_
                refine .cons (.gt .none (.s rfl) (.int (by decide))) rfl ?_
                refine .cons (.move .none (.s rfl)) rfl ?_
                refine .cons (.move (.at rfl rfl) (.s rfl)) rfl ?_
                refine .cons (.gt (.at rfl rfl) (.tmp rfl id) (.int (by decide))) rfl ?_
                refine .cons (.pickAnd .none (.s rfl) (.tmp rfl id)) rfl ?_
                refine .nil ?_
                refine .then ?_
                refine .cond (t := 174) rfl trivial (fun hb26 => ?_) (fun hb26 => ?_)
                · replace h := bif_t h hb26
                  refine .seq ?_
                  refine .region [] mixed (by kernel_rfl) ?_
                  refine .cons (.assign .none (.int (by decide))) rfl ?_
                  refine .nil ?_
                  refine .then ?_
                  refine .ret ?_
                  refine .thenRet ?_
                  refine .blkRet ?_
                  refine .thenRet ?_
                  replace h := resb_ab hK10 (some_eq h)
                  obtain rfl := some_eq h
                  exact Ends.ret1 (.inl rfl) Tryz.results89 (ResOK.tmp rfl trivial Imp.refl)
                · replace h := bif_f h hb26
                  refine .skip ?_
                  refine .then ?_
                  refine .seq ?_
                  refine .region [] mixed (by kernel_rfl) ?_
                  refine .cons (.move .none (.s rfl)) rfl ?_
                  refine .cons (.eqI .none (.s rfl) (.int (by decide))) rfl ?_
                  refine .cons (.move .none (.s rfl)) rfl ?_
                  refine .cons (.move (.at rfl rfl) (.s rfl)) rfl ?_
                  refine .cons (.gt (.at rfl rfl) (.tmp rfl id) (.int (by decide))) rfl ?_
                  refine .cons (.pickAnd .none (.s rfl) (.tmp rfl id)) rfl ?_
                  refine .nil ?_
                  refine .then ?_
                  refine .cond (t := 180) rfl trivial (fun hb27 => ?_) (fun hb27 => ?_)
                  · replace h := bif_t h hb27
                    refine .seq ?_
                    refine .region [] mixed (by kernel_rfl) ?_
                    refine .cons (.assign .none (.int (by decide))) rfl ?_
                    refine .nil ?_
                    refine .then ?_
                    refine .ret ?_
                    refine .blkRet ?_
                    refine .thenRet ?_
                    replace h := resb_ab hK10 (some_eq h)
                    obtain rfl := some_eq h
                    exact Ends.ret1 (.inl rfl) Tryz.results89 (ResOK.tmp rfl trivial Imp.refl)
                  · replace h := bif_f h hb27
                    refine .skip ?_
                    refine .blkNormal ?_
                    exact Ends.join _ (some_eq h) (.cons (t := 10) rfl Sub.nil) SubB.nil
              · replace h := bif_f h hb23
                refine .skip ?_
                refine .blkNormal ?_
                exact Ends.join _ (some_eq h) (.cons (t := 10) rfl Sub.nil) SubB.nil
      · have h := resb_nx hK10 hj10
        refine .seq ?_
        refine .region [] mixed (by kernel_rfl) ?_
        refine .cons (.move .none (.s rfl)) rfl ?_
        refine .cons (.assign .none (.s rfl)) rfl ?_
        refine .nil ?_
        refine .then ?_
        refine .ret ?_
        obtain rfl := some_eq h
        exact Ends.ret1 (.inl rfl) Tryz.results89 (ResOK.tmp rfl trivial Imp.refl)

theorem ref_HitOf_ok {d1 : Doc} {p1 : Point} {r : Str}  (h : ref_HitOf d1 p1 = some r) : FSpec Tryz.prog 29 [rep d1, rep p1] (rep r) := by
  unfold ref_HitOf at h
  refine FSpec.intro (n := 89) fnok29 Tryz.func29 rfl Tryz.ntmps29 rfl (fun F => ?_)
  refine .seq ?_
  refine .region [] mixed (by kernel_rfl) ?_
  refine .cons (.box .none (.s rfl)) rfl ?_
  refine .cons (.box .none (.s rfl)) rfl ?_
  refine .cons (.assign .none (.str (l := []) (by decide))) rfl ?_
  refine .nil ?_
  refine .then ?_
  refine .seq ?_
  refine .region [] mixed (by kernel_rfl) ?_
  refine .cons (.assign .none (.str (l := []) (by decide))) rfl ?_
  refine .cons (.assign .none (.str (l := []) (by decide))) rfl ?_
  refine .nil ?_
  refine .then ?_
  refine .seq ?_
  refine .seq ?_
  refine .region [] mixed (by kernel_rfl) ?_
  refine .cons (.load .none ty25 (.s rfl)) rfl ?_
  obtain ⟨r1, hv1, h⟩ := bind_some h
  refine .cons (.call .none (ref_OrderOf_ok hv1) (.cons (.s rfl) .nil)) rfl ?_
  refine .cons (.len .none sl39 (.s rfl)) rfl ?_
  refine .cons (.move .none (.int (by decide))) rfl ?_
  refine .nil ?_
  refine .then ?_
  obtain ⟨j_2, h, hK2⟩ := bind_some h
  refine .thenJ (ι := (Str × Str)) (fun j_2 => [(5, ⟨True, rep j_2.1⟩), (6, ⟨True, rep j_2.2⟩)]) (fun j_2 => []) (fun s => j_2 = s) Sub.nil SubB.nil ?_ (fun j_2' hj2 => ?_)
  · skip
    refine .block ?_
    refine .rforL h (fun p3_ => [(15, ⟨True, rep p3_.1⟩), (5, ⟨True, rep p3_.2.1⟩), (6, ⟨True, rep p3_.2.2⟩)]) (fun p3_ => []) (.cons (t := 15) rfl (.cons (t := 5) rfl (.cons (t := 6) rfl Sub.nil))) SubB.nil (.cons (t := 2) rfl (.cons (t := 3) rfl (.cons (t := 13) rfl (.cons (t := 14) rfl Sub.nil)))) SubB.nil (fun p3_ o_3 h hD3 => ?_)
    refine .seq ?_
    refine .region [] mixed (by kernel_rfl) ?_
    refine .cons (.lt .none (.s rfl) (.s rfl)) rfl ?_
    refine .nil ?_
    refine .then ?_
    refine .seq ?_
    refine .cond (t := 16) rfl trivial (fun hb4 => ?_) (fun hb4 => ?_)
    · replace h := bif_t h hb4
      refine .skip ?_
      refine .then ?_
      refine .seq ?_
      obtain ⟨j_5, h, hK5⟩ := bind_some h
      unfold ref_HitOf_L1 at h
      refine .thenJ (ι := (Str × Str)) (fun j_5 => [(5, ⟨True, rep j_5.1⟩), (6, ⟨True, rep j_5.2⟩)]) (fun j_5 => []) (fun s => j_5 = s) (.cons (t := 2) rfl (.cons (t := 3) rfl (.cons (t := 13) rfl (.cons (t := 14) rfl (.cons (t := 15) rfl Sub.nil))))) SubB.nil ?_ (fun j_5' hj5 => ?_)
      · skip
        refine .block ?_
        refine .seq ?_
        refine .region [] mixed (by kernel_rfl) ?_
        obtain ⟨hn6, h⟩ := need_some h
        refine .cons (.indexAddr .none sl39 ty9 (.s rfl) (.s rfl) (fun _ => hn6)) rfl ?_
        refine .cons (.load .none ty9 (.s rfl)) rfl ?_
        obtain ⟨id1, hv7, h⟩ := bnd_some h
        refine .cons (.re hv7 (.assign .none (.s rfl))) rfl ?_
        refine .nil ?_
        refine .then ?_
        refine .seq ?_
        refine .region [] mixed (by kernel_rfl) ?_
        refine .cons (.load .none ty25 (.s rfl)) rfl ?_
        refine .cons (.move .none (.s rfl)) rfl ?_
        obtain ⟨k1, hv8, h⟩ := bind_some h
        refine .cons (.call .none (ref_NodeAt_ok hv8) (.cons (.s rfl) (.cons (.s rfl) .nil))) rfl ?_
        refine .cons (.assign .none (.s rfl)) rfl ?_
        refine .nil ?_
        refine .then ?_
        refine .seq ?_
        refine .seq ?_
        refine .region [] mixed (by kernel_rfl) ?_
        refine .cons (.move .none (.s rfl)) rfl ?_
        refine .cons (.lt .none (.s rfl) (.int (by decide))) rfl ?_
        refine .nil ?_
        refine .then ?_
        refine .cond (t := 23) rfl trivial (fun hb9 => ?_) (fun hb9 => ?_)
        · replace h := bif_t h hb9
          refine .exit ?_
          refine .thenExit ?_
          refine .blkExit ?_
          exact Ends.join _ (some_eq h) (.cons (t := 5) rfl (.cons (t := 6) rfl (.cons (t := 2) rfl (.cons (t := 3) rfl (.cons (t := 13) rfl (.cons (t := 14) rfl (.cons (t := 15) rfl Sub.nil))))))) SubB.nil
        · replace h := bif_f h hb9
          refine .skip ?_
          refine .then ?_
          refine .seq ?_
          refine .region [([], []), ([], []), ([], []), ([], []), ([], []), ([], []), ([], [10]), ([10], [10]), ([], [])] mixed (by kernel_rfl) ?_
          refine .consA (.load .none ty25 (.s rfl)) rfl ?_
          refine .consA (.move .none (.s rfl)) rfl ?_
          obtain ⟨r2, hv10, h⟩ := bind_some h
          refine .consA (.call .none (ref_BoxOfNode_ok hv10) (.cons (.s rfl) (.cons (.s rfl) .nil))) rfl ?_
          refine .consA (.move .none (.s rfl)) rfl ?_
          refine .consA (.extract .none (.s rfl) rfl) rfl ?_
          refine .consA (.extract .none (.s rfl) rfl) rfl ?_
          refine .consW (.alloc zo29 rfl) rfl rfl ?_
          refine .consN (.store ty29 rfl rfl (.s rfl)) rfl ?_
          refine .consA (.assign .none (.s rfl)) rfl ?_
          refine .nil ?_
          refine .then ?_
          refine .freeze (t := 10) rfl rfl SubB.nil rfl ?_
          refine .block ?_
          refine .seq ?_
          refine .region [] mixed (by kernel_rfl) ?_
          refine .cons (.fieldAddr .none fd25_0 hfd25_0 (.s rfl)) rfl ?_
          refine .cons (.load .none ty22 (.s rfl)) rfl ?_
          refine .cons (.move .none (.s rfl)) rfl ?_
          obtain ⟨hn11, h⟩ := need_some h
          refine .cons (.indexAddr .none sl22 ty44 (.s rfl) (.s rfl) (fun _ => hn11)) rfl ?_
          refine .cons (.fieldAddr .none fd44_1 hfd44_1 (.s rfl)) rfl ?_
          refine .cons (.load .none ty3 (.s rfl)) rfl ?_
          refine .cons (.neI .none (.s rfl) (.int (by decide))) rfl ?_
          refine .cons (.move .none (.s rfl)) rfl ?_
          refine .cons (.fieldAddr (.at rfl rfl) fd25_0 hfd25_0 (.s rfl)) rfl ?_
          refine .cons (.load (.at rfl rfl) ty22 (.tmp rfl id)) rfl ?_
          refine .cons (.move (.at rfl rfl) (.s rfl)) rfl ?_
          obtain ⟨hn12, h⟩ := need_some h
          refine .cons (.indexAddr (.at rfl rfl) sl22 ty44 (.tmp rfl id) (.tmp rfl id) (fun hg => hn12 hg.2)) rfl ?_
          refine .cons (.fieldAddr (.at rfl rfl) fd44_1 hfd44_1 (.tmp rfl id)) rfl ?_
          refine .cons (.load (.at rfl rfl) ty3 (.tmp rfl id)) rfl ?_
          refine .cons (.load (.at rfl rfl) ty29 (.s rfl)) rfl ?_
          refine .cons (.load (.at rfl rfl) ty27 (.s rfl)) rfl ?_
          obtain ⟨r3, hv13, h⟩ := bind_some h
          refine .cons (.callIf (.at rfl rfl) fnok89 (fun hg => ref_HasOf_ok ((fun hg => gd_some hv13 (hg.2)) hg)) (.cons (.tmp rfl id) (.cons (.tmp rfl id) (.cons (.tmp rfl id) .nil))) (fun h => h)) rfl ?_
          refine .cons (.ge (.at rfl rfl) (.tmp rfl id) (.int (by decide))) rfl ?_
          refine .cons (.pickAnd .none (.s rfl) (.tmp rfl id)) rfl ?_
          refine .cons (.assign .none (.s rfl)) rfl ?_
          refine .nil ?_
          refine .then ?_
          refine .cond (t := 30) rfl trivial (fun hb14 => ?_) (fun hb14 => ?_)
          · replace h := bif_t h hb14
            refine .region [] mixed (by kernel_rfl) ?_
            refine .cons (.move .none (.s rfl)) rfl ?_
            refine .cons (.assign .none (.s rfl)) rfl ?_
            refine .nil ?_
            refine .blkNormal ?_
            refine .blkNormal ?_
            exact Ends.join _ (some_eq h) (.cons (t := 5) rfl (.cons (t := 6) rfl (.cons (t := 2) rfl (.cons (t := 3) rfl (.cons (t := 13) rfl (.cons (t := 14) rfl (.cons (t := 15) rfl Sub.nil))))))) SubB.nil
          · replace h := bif_f h hb14
            refine .seq ?_
            refine .region [] mixed (by kernel_rfl) ?_
            refine .cons (.fieldAddr .none fd25_0 hfd25_0 (.s rfl)) rfl ?_
            refine .cons (.load .none ty22 (.s rfl)) rfl ?_
            refine .cons (.move .none (.s rfl)) rfl ?_
            obtain ⟨hn15, h⟩ := need_some h
            refine .cons (.indexAddr .none sl22 ty44 (.s rfl) (.s rfl) (fun _ => hn15)) rfl ?_
            refine .cons (.fieldAddr .none fd44_1 hfd44_1 (.s rfl)) rfl ?_
            refine .cons (.load .none ty3 (.s rfl)) rfl ?_
            refine .cons (.eqI .none (.s rfl) (.int (by decide))) rfl ?_
            refine .cons (.move .none (.s rfl)) rfl ?_
            refine .cons (.fieldAddr (.at rfl rfl) fd27_0 hfd27_0 (.s rfl)) rfl ?_
            refine .cons (.load (.at rfl rfl) ty3 (.tmp rfl id)) rfl ?_
            refine .cons (.fieldAddr (.at rfl rfl) fd29_0 hfd29_0 (.s rfl)) rfl ?_
            refine .cons (.load (.at rfl rfl) ty3 (.tmp rfl id)) rfl ?_
            refine .cons (.fieldAddr (.at rfl rfl) fd29_0 hfd29_0 (.s rfl)) rfl ?_
            refine .cons (.load (.at rfl rfl) ty3 (.tmp rfl id)) rfl ?_
            refine .cons (.fieldAddr (.at rfl rfl) fd29_2 hfd29_2 (.s rfl)) rfl ?_
            refine .cons (.load (.at rfl rfl) ty3 (.tmp rfl id)) rfl ?_
            refine .cons (.addW (.at rfl rfl) (.tmp rfl id) (.tmp rfl id)) rfl ?_
            obtain ⟨r4, hv16, h⟩ := bind_some h
            refine .cons (.callIf (.at rfl rfl) fnok88 (fun hg => ref_In_ok ((fun hg => gd_some hv16 (hg.2)) hg)) (.cons (.tmp rfl id) (.cons (.tmp rfl id) (.cons (.tmp rfl id) .nil))) (fun h => h)) rfl ?_
            refine .cons (.pickAnd .none (.s rfl) (.tmp rfl id)) rfl ?_
            refine .cons (.move .none (.s rfl)) rfl ?_
            refine .cons (.fieldAddr (.at rfl rfl) fd27_1 hfd27_1 (.s rfl)) rfl ?_
            refine .cons (.load (.at rfl rfl) ty3 (.tmp rfl id)) rfl ?_
            refine .cons (.fieldAddr (.at rfl rfl) fd29_1 hfd29_1 (.s rfl)) rfl ?_
            refine .cons (.load (.at rfl rfl) ty3 (.tmp rfl id)) rfl ?_
            refine .cons (.fieldAddr (.at rfl rfl) fd29_1 hfd29_1 (.s rfl)) rfl ?_
            refine .cons (.load (.at rfl rfl) ty3 (.tmp rfl id)) rfl ?_
            refine .cons (.fieldAddr (.at rfl rfl) fd29_3 hfd29_3 (.s rfl)) rfl ?_
            refine .cons (.load (.at rfl rfl) ty3 (.tmp rfl id)) rfl ?_
            refine .cons (.addW (.at rfl rfl) (.tmp rfl id) (.tmp rfl id)) rfl ?_
            obtain ⟨r5, hv17, h⟩ := bind_some h
            refine .cons (.callIf (.at rfl rfl) fnok88 (fun hg => ref_In_ok ((fun hg => gd_some hv17 (hg.2)) hg)) (.cons (.tmp rfl id) (.cons (.tmp rfl id) (.cons (.tmp rfl id) .nil))) (fun h => h)) rfl ?_
            refine .cons (.pickAnd .none (.s rfl) (.tmp rfl id)) rfl ?_
            refine .cons (.assign .none (.s rfl)) rfl ?_
            refine .nil ?_
            refine .then ?_
            refine .cond (t := 51) rfl trivial (fun hb18 => ?_) (fun hb18 => ?_)
            · replace h := bif_t h hb18
              refine .region [] mixed (by kernel_rfl) ?_
              refine .cons (.move .none (.s rfl)) rfl ?_
              refine .cons (.assign .none (.s rfl)) rfl ?_
              refine .nil ?_
              refine .blkNormal ?_
              refine .blkNormal ?_
              exact Ends.join _ (some_eq h) (.cons (t := 5) rfl (.cons (t := 6) rfl (.cons (t := 2) rfl (.cons (t := 3) rfl (.cons (t := 13) rfl (.cons (t := 14) rfl (.cons (t := 15) rfl Sub.nil))))))) SubB.nil
            · replace h := bif_f h hb18
              refine .skip ?_
              refine .blkNormal ?_
              refine .blkNormal ?_
              exact Ends.join _ (some_eq h) (.cons (t := 5) rfl (.cons (t := 6) rfl (.cons (t := 2) rfl (.cons (t := 3) rfl (.cons (t := 13) rfl (.cons (t := 14) rfl (.cons (t := 15) rfl Sub.nil))))))) SubB.nil
      · subst hj5; have h := hK5; clear hK5
        refine .region [] mixed (by kernel_rfl) ?_
        refine .cons (.addW .none (.s rfl) (.int (by decide))) rfl ?_
        refine .cons (.move .none (.s rfl)) rfl ?_
        refine .nil ?_
        exact Ends.againL (some_eq h) (.cons (t := 15) rfl (.cons (t := 5) rfl (.cons (t := 6) rfl (.cons (t := 2) rfl (.cons (t := 3) rfl (.cons (t := 13) rfl (.cons (t := 14) rfl Sub.nil))))))) SubB.nil
    · replace h := bif_f h hb4
      refine .exit ?_
      refine .thenExit ?_
      refine .thenExit ?_
      refine .blkExit ?_
      replace h := hD3 _ (some_eq h)
      exact Ends.join _ (some_eq h) (.cons (t := 5) rfl (.cons (t := 6) rfl Sub.nil)) SubB.nil
  · subst hj2; have h := hK2; clear hK2
    refine .seq ?_
    refine .seq ?_
    refine .region [] mixed (by kernel_rfl) ?_
    refine .cons (.move .none (.s rfl)) rfl ?_
    refine .cons (.neS .none (eqAt_str Tryz.underlying9) (.s rfl) (.str (l := []) (by decide))) rfl ?_
    refine .nil ?_
    refine .then ?_
    refine .cond (t := 86) rfl trivial (fun hb19 => ?_) (fun hb19 => ?_)
    · replace h := bif_t h hb19
      refine .seq ?_
      refine .region [] mixed (by kernel_rfl) ?_
      refine .cons (.move .none (.s rfl)) rfl ?_
      refine .cons (.assign .none (.s rfl)) rfl ?_
      refine .nil ?_
      refine .then ?_
      refine .ret ?_
      refine .thenRet ?_
      obtain rfl := some_eq h
      exact Ends.ret1 (.inl rfl) Tryz.results29 (ResOK.tmp rfl trivial Imp.refl)
    · replace h := bif_f h hb19
      refine .skip ?_
      refine .then ?_
      refine .seq ?_
      refine .region [] mixed (by kernel_rfl) ?_
      refine .cons (.move .none (.s rfl)) rfl ?_
      refine .cons (.assign .none (.s rfl)) rfl ?_
      refine .nil ?_
      refine .then ?_
      refine .ret ?_
      obtain rfl := some_eq h
      exact Ends.ret1 (.inl rfl) Tryz.results29 (ResOK.tmp rfl trivial Imp.refl)

theorem law_LooksMatch_4_ok {c0_1 : Doc} {c1_1 : Point} {r : Str}  (h : law_LooksMatch_4 c0_1 c1_1 = some r) : FSpec Tryz.prog 28 [ref c0_1, ref c1_1] (rep r) := by
  unfold law_LooksMatch_4 at h
  refine FSpec.intro (n := 6) fnok28 Tryz.func28 rfl Tryz.ntmps28 rfl (fun F => ?_)
  refine .seq ?_
  refine .region [] mixed (by kernel_rfl) ?_
  refine .cons (.assign .none (.str (l := []) (by decide))) rfl ?_
  refine .nil ?_
  refine .then ?_
  refine .seq ?_
  refine .region [] mixed (by kernel_rfl) ?_
  refine .cons (.load .none ty25 (.s rfl)) rfl ?_
  refine .cons (.load .none ty27 (.s rfl)) rfl ?_
  obtain ⟨r1, hv1, h⟩ := bind_some h
  refine .cons (.call .none (ref_HitOf_ok hv1) (.cons (.s rfl) (.cons (.s rfl) .nil))) rfl ?_
  refine .cons (.assign .none (.s rfl)) rfl ?_
  refine .nil ?_
  refine .then ?_
  refine .ret ?_
  obtain rfl := some_eq h
  exact Ends.ret1 (.inl rfl) Tryz.results28 (ResOK.tmp rfl trivial Imp.refl)

theorem law_is_string_ok {got1 : Str} {e1 : Int} {want1 : Int} {right1 : (Option Str)} {r : Bool}  (h : law_is_string got1 e1 want1 right1 = some r) : FSpec Tryz.prog 25 [rep got1, rep e1, rep want1, fn0 Tryz.prog (rep (α := Str)) right1] (rep r) := by
  unfold law_is_string at h
  refine FSpec.intro (n := 28) fnok25 Tryz.func25 rfl Tryz.ntmps25 rfl (fun F => ?_)
  refine .seq ?_
  refine .region [] mixed (by kernel_rfl) ?_
  refine .cons (.assign .none .bool) rfl ?_
  refine .nil ?_
  refine .then ?_
  refine .seq ?_
  refine .region [] mixed (by kernel_rfl) ?_
  refine .cons (.assign .none (.str (l := []) (by decide))) rfl ?_
  refine .nil ?_
  refine .then ?_
  refine .seq ?_
  refine .seq ?_
  refine .region [] mixed (by kernel_rfl) ?_
  refine .cons (.move .none (.s rfl)) rfl ?_
  refine .cons (.neI .none (.s rfl) (.int (by decide))) rfl ?_
  refine .nil ?_
  refine .then ?_
  refine .cond (t := 11) rfl trivial (fun hb1 => ?_) (fun hb1 => ?_)
  · replace h := bif_t h hb1
    refine .seq ?_
    refine .region [] mixed (by kernel_rfl) ?_
    refine .cons (.move .none (.s rfl)) rfl ?_
    refine .cons (.move .none (.s rfl)) rfl ?_
    refine .cons (.eqS .none (eqAt_str Tryz.underlying9) (.s rfl) (.s rfl)) rfl ?_
    refine .cons (.move .none (.s rfl)) rfl ?_
    refine .cons (.move (.at rfl rfl) (.s rfl)) rfl ?_
    refine .cons (.move (.at rfl rfl) (.s rfl)) rfl ?_
    refine .cons (.eqI (.at rfl rfl) (.tmp rfl id) (.tmp rfl id)) rfl ?_
    refine .cons (.pickAnd .none (.s rfl) (.tmp rfl id)) rfl ?_
    refine .cons (.assign .none (.s rfl)) rfl ?_
    refine .nil ?_
    refine .then ?_
    refine .ret ?_
    refine .thenRet ?_
    obtain rfl := some_eq h
    exact Ends.ret1 (.inl rfl) Tryz.results25 (ResOK.tmp rfl trivial Imp.refl)
  · replace h := bif_f h hb1
    refine .skip ?_
    refine .then ?_
    refine .seq ?_
    refine .region [] mixed (by kernel_rfl) ?_
    refine .cons (.move .none (.s rfl)) rfl ?_
    refine .cons (.eqI .none (.s rfl) (.int (by decide))) rfl ?_
    refine .cons (.move .none (.s rfl)) rfl ?_
    refine .cons (.move (.at rfl rfl) (.s rfl)) rfl ?_
    refine .cons (.move (.at rfl rfl) (.s rfl)) rfl ?_
    obtain ⟨r1, hv2, h⟩ := bind_some h
    refine .cons (.callV _ (.at rfl rfl) (.tmp rfl id) (fun hg => gd_some hv2 (hg.2)) .nil) rfl ?_
    refine .cons (.eqS (.at rfl rfl) (eqAt_str Tryz.underlying9) (.tmp rfl id) (.tmp rfl id)) rfl ?_
    refine .cons (.pickAnd .none (.s rfl) (.tmp rfl id)) rfl ?_
    refine .cons (.assign .none (.s rfl)) rfl ?_
    refine .nil ?_
    refine .then ?_
    refine .ret ?_
    obtain rfl := some_eq h
    exact Ends.ret1 (.inl rfl) Tryz.results25 (ResOK.tmp rfl trivial Imp.refl)

theorem ref_CommonOf_ok {a1 : Box} {b1 : Box} {r : (Box × Bool)}  (h : ref_CommonOf a1 b1 = some r) : FSpec Tryz.prog 90 [rep a1, rep b1] (tup [rep r.1, rep r.2]) := by
  unfold ref_CommonOf at h
  refine FSpec.intro (n := 58) fnok90 Tryz.func90 rfl Tryz.ntmps90 rfl (fun F => ?_)
  refine .seq ?_
  refine .region [([], []), ([], []), ([], [4]), ([], [])] mixed (by kernel_rfl) ?_
  refine .consA (.box .none (.s rfl)) rfl ?_
  refine .consA (.box .none (.s rfl)) rfl ?_
  refine .consW (.alloc zo29 rfl) rfl rfl ?_
  refine .consA (.assign .none .bool) rfl ?_
  refine .nil ?_
  refine .then ?_
  obtain ⟨v1, hv1, h⟩ := bnd_some h
  refine .reB (t := 4) rfl (congrArg (cont 29) hv1) ?_
  refine .nameBox (t := 4) (g := 5001) rfl rfl (fun m5001 => ?_)
  refine .seq ?_
  refine .region [] mixed (by kernel_rfl) ?_
  refine .cons (.fieldAddr .none fd29_0 hfd29_0 (.s rfl)) rfl ?_
  refine .cons (.load .none ty3 (.s rfl)) rfl ?_
  refine .cons (.fieldAddr .none fd29_0 hfd29_0 (.s rfl)) rfl ?_
  refine .cons (.load .none ty3 (.s rfl)) rfl ?_
  refine .cons (.max2 .none (.s rfl) (.s rfl)) rfl ?_
  refine .cons (.fieldAddr .none fd29_1 hfd29_1 (.s rfl)) rfl ?_
  refine .cons (.load .none ty3 (.s rfl)) rfl ?_
  refine .cons (.fieldAddr .none fd29_1 hfd29_1 (.s rfl)) rfl ?_
  refine .cons (.load .none ty3 (.s rfl)) rfl ?_
  refine .cons (.max2 .none (.s rfl) (.s rfl)) rfl ?_
  obtain ⟨x1, hv2, h⟩ := bnd_some h
  refine .cons (.re hv2 (.assign .none (.s rfl))) rfl ?_
  obtain ⟨y1, hv3, h⟩ := bnd_some h
  refine .cons (.re hv3 (.assign .none (.s rfl))) rfl ?_
  refine .nil ?_
  refine .then ?_
  refine .seq ?_
  refine .region [([], []), ([], []), ([], []), ([], []), ([], []), ([], []), ([], []), ([], []), ([], []), ([], []), ([], []), ([], []), ([], []), ([], []), ([], []), ([], []), ([], []), ([], []), ([], []), ([], []), ([], []), ([], []), ([], []), ([], []), ([], []), ([], []), ([], []), ([], []), ([], []), ([], [8]), ([8], [8])] mixed (by kernel_rfl) ?_
  refine .consA (.move .none (.s rfl)) rfl ?_
  refine .consA (.move .none (.s rfl)) rfl ?_
  refine .consA (.fieldAddr .none fd29_0 hfd29_0 (.s rfl)) rfl ?_
  refine .consA (.load .none ty3 (.s rfl)) rfl ?_
  refine .consA (.fieldAddr .none fd29_2 hfd29_2 (.s rfl)) rfl ?_
  refine .consA (.load .none ty3 (.s rfl)) rfl ?_
  refine .consA (.addW .none (.s rfl) (.s rfl)) rfl ?_
  refine .consA (.fieldAddr .none fd29_0 hfd29_0 (.s rfl)) rfl ?_
  refine .consA (.load .none ty3 (.s rfl)) rfl ?_
  refine .consA (.fieldAddr .none fd29_2 hfd29_2 (.s rfl)) rfl ?_
  refine .consA (.load .none ty3 (.s rfl)) rfl ?_
  refine .consA (.addW .none (.s rfl) (.s rfl)) rfl ?_
  refine .consA (.min2 .none (.s rfl) (.s rfl)) rfl ?_
  refine .consA (.move .none (.s rfl)) rfl ?_
  refine .consA (.subW .none (.s rfl) (.s rfl)) rfl ?_
  refine .consA (.fieldAddr .none fd29_1 hfd29_1 (.s rfl)) rfl ?_
  refine .consA (.load .none ty3 (.s rfl)) rfl ?_
  refine .consA (.fieldAddr .none fd29_3 hfd29_3 (.s rfl)) rfl ?_
  refine .consA (.load .none ty3 (.s rfl)) rfl ?_
  refine .consA (.addW .none (.s rfl) (.s rfl)) rfl ?_
  refine .consA (.fieldAddr .none fd29_1 hfd29_1 (.s rfl)) rfl ?_
  refine .consA (.load .none ty3 (.s rfl)) rfl ?_
  refine .consA (.fieldAddr .none fd29_3 hfd29_3 (.s rfl)) rfl ?_
  refine .consA (.load .none ty3 (.s rfl)) rfl ?_
  refine .consA (.addW .none (.s rfl) (.s rfl)) rfl ?_
  refine .consA (.min2 .none (.s rfl) (.s rfl)) rfl ?_
  refine .consA (.move .none (.s rfl)) rfl ?_
  refine .consA (.subW .none (.s rfl) (.s rfl)) rfl ?_
  obtain ⟨v2, hv4, h⟩ := bnd_some h
  refine .consA (.re hv4 (.buildF (y := (⟨x1, y1, W ((min (W (a1.X + a1.W_)) (W (b1.X + b1.W_))) - x1), W ((min (W (a1.Y + a1.H)) (W (b1.Y + b1.H))) - y1)⟩ : Box)) .none bu29 zc29 rfl (.cons (.s rfl) (.cons (.s rfl) (.cons (.s rfl) (.cons (.s rfl) .nil)))) (.cons rfl sf29_0 (.cons rfl sf29_1 (.cons rfl sf29_2 (.cons rfl sf29_3 .nil)))))) rfl ?_
  refine .consW (.alloc zo29 rfl) rfl rfl ?_
  refine .consN (.store ty29 rfl rfl (.s rfl)) rfl ?_
  refine .nil ?_
  refine .then ?_
  refine .freeze (t := 8) rfl rfl (.cons (t := 5001) rfl SubB.nil) rfl ?_
  refine .seq ?_
  refine .seq ?_
  refine .region [] mixed (by kernel_rfl) ?_
  refine .cons (.fieldAddr .none fd29_2 hfd29_2 (.s rfl)) rfl ?_
  refine .cons (.load .none ty3 (.s rfl)) rfl ?_
  refine .cons (.lt .none (.s rfl) (.int (by decide))) rfl ?_
  refine .cons (.move .none (.s rfl)) rfl ?_
  refine .cons (.fieldAddr (.at rfl rfl) fd29_3 hfd29_3 (.s rfl)) rfl ?_
  refine .cons (.load (.at rfl rfl) ty3 (.tmp rfl id)) rfl ?_
  refine .cons (.lt (.at rfl rfl) (.tmp rfl id) (.int (by decide))) rfl ?_
  refine .cons (.pickOr .none (.s rfl) (.tmp rfl id)) rfl ?_
  refine .nil ?_
  refine .then ?_
  refine .cond (t := 55) rfl trivial (fun hb5 => ?_) (fun hb5 => ?_)
  · replace h := bif_t h hb5
    refine .seq ?_
    refine .region [([], []), ([5001], [5001]), ([], [])] mixed (by kernel_rfl) ?_
    obtain ⟨v3, hv6, h⟩ := bnd_some h
    refine .consA (.re hv6 (.buildF (y := (⟨(0 : Int), (0 : Int), (0 : Int), (0 : Int)⟩ : Box)) .none bu29 zc29 rfl .nil .nil)) rfl ?_
    refine .consN (.storeAt0 (g := 5001) ty29 rfl (.s rfl) (.s rfl)) rfl ?_
    refine .consA (.assign .none .bool) rfl ?_
    refine .nil ?_
    refine .then ?_
    refine .freezeBox (g := 5001) (ts := [4]) rfl (.cons (t := 4) rfl trivial .nil) SubB.nil rfl ?_
    refine .ret ?_
    refine .thenRet ?_
    obtain rfl := some_eq h
    exact Ends.ret2 (.inl rfl) Tryz.results90 (ResOK.cellR ty29 rfl trivial Imp.refl) (ResOK.tmp rfl trivial Imp.refl)
  · replace h := bif_f h hb5
    refine .skip ?_
    refine .then ?_
    refine .seq ?_
    refine .region [([], []), ([5001], [5001]), ([], [])] mixed (by kernel_rfl) ?_
    refine .consA (.load .none ty29 (.s rfl)) rfl ?_
    refine .consN (.storeAt0 (g := 5001) ty29 rfl (.s rfl) (.s rfl)) rfl ?_
    refine .consA (.assign .none .bool) rfl ?_
    refine .nil ?_
    refine .then ?_
    refine .freezeBox (g := 5001) (ts := [4]) rfl (.cons (t := 4) rfl trivial .nil) SubB.nil rfl ?_
    refine .ret ?_
    obtain rfl := some_eq h
    exact Ends.ret2 (.inl rfl) Tryz.results90 (ResOK.cellR ty29 rfl trivial Imp.refl) (ResOK.tmp rfl trivial Imp.refl)

theorem ref_InBox_ok {d1 : Doc} {b1 : Box} {whole1 : Bool} {r : (List Str)}  (h : ref_InBox d1 b1 whole1 = some r) : FSpec Tryz.prog 32 [rep d1, rep b1, rep whole1] (rep r) := by
  unfold ref_InBox at h
  refine FSpec.intro (n := 93) fnok32 Tryz.func32 rfl Tryz.ntmps32 rfl (fun F => ?_)
  refine .seq ?_
  refine .region [] mixed (by kernel_rfl) ?_
  refine .cons (.box .none (.s rfl)) rfl ?_
  refine .cons (.box .none (.s rfl)) rfl ?_
  refine .cons (.assign .none (.const (x := ([] : (List Str))) (fun M w => ⟨_, ⟨none, 0, rfl, Nat.le_refl _, by decide, rfl⟩, rfl⟩))) rfl ?_
  refine .nil ?_
  refine .then ?_
  refine .seq ?_
  refine .region [([], [7])] mixed (by kernel_rfl) ?_
  refine .consW (.nilRow (T := 9) (α := Str) rfl) rfl rfl ?_
  refine .nil ?_
  refine .then ?_
  refine .nameRow (t := 7) (g := 5001) rfl rfl rfl (fun s5001 => ?_)
  refine .seq ?_
  refine .seq ?_
  refine .region [] mixed (by kernel_rfl) ?_
  refine .cons (.load .none ty25 (.s rfl)) rfl ?_
  obtain ⟨r1, hv1, h⟩ := bind_some h
  refine .cons (.call .none (ref_OrderOf_ok hv1) (.cons (.s rfl) .nil)) rfl ?_
  refine .cons (.len .none sl39 (.s rfl)) rfl ?_
  refine .cons (.move .none (.int (by decide))) rfl ?_
  refine .nil ?_
  refine .then ?_
  obtain ⟨j_2, h, hK2⟩ := bind_some h
  refine .thenJ (ι := (List Str)) (fun j_2 => []) (fun j_2 => [(7, some (rowV 9 j_2))]) (fun s => j_2 = s) Sub.nil SubB.nil ?_ (fun j_2' hj2 => ?_)
  · skip
    refine .block ?_
    refine .anon (t := 7) (g := 5001) rfl rfl trivial rfl ?_
    refine .rforL h (fun p3_ => [(18, ⟨True, rep p3_.1⟩)]) (fun p3_ => [(7, some (rowV 9 p3_.2))]) (.cons (t := 18) rfl Sub.nil) (.cons (t := 7) rfl SubB.nil) (.cons (t := 2) rfl (.cons (t := 3) rfl (.cons (t := 4) rfl (.cons (t := 16) rfl (.cons (t := 17) rfl Sub.nil))))) SubB.nil (fun p3_ o_3 h hD3 => ?_)
    refine .nameRow (t := 7) (g := 5002) rfl rfl rfl (fun s5002 => ?_)
    refine .seq ?_
    refine .region [] mixed (by kernel_rfl) ?_
    refine .cons (.lt .none (.s rfl) (.s rfl)) rfl ?_
    refine .nil ?_
    refine .then ?_
    refine .seq ?_
    refine .cond (t := 19) rfl trivial (fun hb4 => ?_) (fun hb4 => ?_)
    · replace h := bif_t h hb4
      refine .skip ?_
      refine .then ?_
      refine .seq ?_
      obtain ⟨j_5, h, hK5⟩ := bind_some h
      unfold ref_InBox_L1 at h
      refine .thenJ (ι := (List Str)) (fun j_5 => []) (fun j_5 => [(7, some (rowV 9 j_5))]) (fun s => j_5 = s) (.cons (t := 2) rfl (.cons (t := 3) rfl (.cons (t := 4) rfl (.cons (t := 16) rfl (.cons (t := 17) rfl (.cons (t := 18) rfl Sub.nil)))))) SubB.nil ?_ (fun j_5' hj5 => ?_)
      · skip
        refine .block ?_
        refine .seq ?_
        refine .region [] mixed (by kernel_rfl) ?_
        obtain ⟨hn6, h⟩ := need_some h
        refine .cons (.indexAddr .none sl39 ty9 (.s rfl) (.s rfl) (fun _ => hn6)) rfl ?_
        refine .cons (.load .none ty9 (.s rfl)) rfl ?_
        obtain ⟨id1, hv7, h⟩ := bnd_some h
        refine .cons (.re hv7 (.assign .none (.s rfl))) rfl ?_
        refine .nil ?_
        refine .then ?_
        refine .seq ?_
        refine .seq ?_
        refine .region [] mixed (by kernel_rfl) ?_
        refine .cons (.load .none ty25 (.s rfl)) rfl ?_
        refine .cons (.move .none (.s rfl)) rfl ?_
        obtain ⟨r2, hv8, h⟩ := bind_some h
        refine .cons (.call .none (ref_NodeAt_ok hv8) (.cons (.s rfl) (.cons (.s rfl) .nil))) rfl ?_
        refine .cons (.lt .none (.s rfl) (.int (by decide))) rfl ?_
        refine .nil ?_
        refine .then ?_
        refine .cond (t := 25) rfl trivial (fun hb9 => ?_) (fun hb9 => ?_)
        · replace h := bif_t h hb9
          refine .exit ?_
          refine .thenExit ?_
          refine .blkExit ?_
          refine .anon (t := 7) (g := 5002) rfl rfl trivial rfl ?_
          exact Ends.join _ (some_eq h) (.cons (t := 2) rfl (.cons (t := 3) rfl (.cons (t := 4) rfl (.cons (t := 16) rfl (.cons (t := 17) rfl (.cons (t := 18) rfl Sub.nil)))))) (.cons (t := 7) rfl SubB.nil)
        · replace h := bif_f h hb9
          refine .skip ?_
          refine .then ?_
          refine .seq ?_
          refine .region [([], []), ([], []), ([], []), ([], []), ([], []), ([], []), ([], [10]), ([10], [10]), ([], [])] mixed (by kernel_rfl) ?_
          refine .consA (.load .none ty25 (.s rfl)) rfl ?_
          refine .consA (.move .none (.s rfl)) rfl ?_
          obtain ⟨r3, hv10, h⟩ := bind_some h
          refine .consA (.call .none (ref_BoxOfNode_ok hv10) (.cons (.s rfl) (.cons (.s rfl) .nil))) rfl ?_
          refine .consA (.move .none (.s rfl)) rfl ?_
          refine .consA (.extract .none (.s rfl) rfl) rfl ?_
          refine .consA (.extract .none (.s rfl) rfl) rfl ?_
          refine .consW (.alloc zo29 rfl) rfl rfl ?_
          refine .consN (.store ty29 rfl rfl (.s rfl)) rfl ?_
          refine .consA (.assign .none (.s rfl)) rfl ?_
          refine .nil ?_
          refine .then ?_
          refine .freeze (t := 10) rfl rfl (.cons (t := 5002) rfl SubB.nil) rfl ?_
          refine .seq ?_
          refine .region [([], []), ([], []), ([], []), ([], []), ([], []), ([], []), ([], [12]), ([12], [12]), ([], [])] mixed (by kernel_rfl) ?_
          refine .consA (.load .none ty29 (.s rfl)) rfl ?_
          refine .consA (.load .none ty29 (.s rfl)) rfl ?_
          obtain ⟨r4, hv11, h⟩ := bind_some h
          refine .consA (.call .none (ref_CommonOf_ok hv11) (.cons (.s rfl) (.cons (.s rfl) .nil))) rfl ?_
          refine .consA (.move .none (.s rfl)) rfl ?_
          refine .consA (.extract .none (.s rfl) rfl) rfl ?_
          refine .consA (.extract .none (.s rfl) rfl) rfl ?_
          refine .consW (.alloc zo29 rfl) rfl rfl ?_
          refine .consN (.store ty29 rfl rfl (.s rfl)) rfl ?_
          refine .consA (.assign .none (.s rfl)) rfl ?_
          refine .nil ?_
          refine .then ?_
          refine .seq ?_
          refine .region [] mixed (by kernel_rfl) ?_
          refine .cons (.fieldAddr .none fd29_0 hfd29_0 (.s rfl)) rfl ?_
          refine .cons (.load .none ty3 (.s rfl)) rfl ?_
          refine .cons (.fieldAddr .none fd29_0 hfd29_0 (.s rfl)) rfl ?_
          refine .cons (.load .none ty3 (.s rfl)) rfl ?_
          refine .cons (.ge .none (.s rfl) (.s rfl)) rfl ?_
          refine .cons (.move .none (.s rfl)) rfl ?_
          refine .cons (.fieldAddr (.at rfl rfl) fd29_1 hfd29_1 (.s rfl)) rfl ?_
          refine .cons (.load (.at rfl rfl) ty3 (.tmp rfl id)) rfl ?_
          refine .cons (.fieldAddr (.at rfl rfl) fd29_1 hfd29_1 (.s rfl)) rfl ?_
          refine .cons (.load (.at rfl rfl) ty3 (.tmp rfl id)) rfl ?_
          refine .cons (.ge (.at rfl rfl) (.tmp rfl id) (.tmp rfl id)) rfl ?_
          refine .cons (.pickAnd .none (.s rfl) (.tmp rfl id)) rfl ?_
          refine .cons (.move .none (.s rfl)) rfl ?_
          refine .cons (.fieldAddr (.at rfl rfl) fd29_0 hfd29_0 (.s rfl)) rfl ?_
          refine .cons (.load (.at rfl rfl) ty3 (.tmp rfl id)) rfl ?_
          refine .cons (.fieldAddr (.at rfl rfl) fd29_2 hfd29_2 (.s rfl)) rfl ?_
          refine .cons (.load (.at rfl rfl) ty3 (.tmp rfl id)) rfl ?_
          refine .cons (.addW (.at rfl rfl) (.tmp rfl id) (.tmp rfl id)) rfl ?_
          refine .cons (.fieldAddr (.at rfl rfl) fd29_0 hfd29_0 (.s rfl)) rfl ?_
          refine .cons (.load (.at rfl rfl) ty3 (.tmp rfl id)) rfl ?_
          refine .cons (.fieldAddr (.at rfl rfl) fd29_2 hfd29_2 (.s rfl)) rfl ?_
          refine .cons (.load (.at rfl rfl) ty3 (.tmp rfl id)) rfl ?_
          refine .cons (.addW (.at rfl rfl) (.tmp rfl id) (.tmp rfl id)) rfl ?_
          refine .cons (.le (.at rfl rfl) (.tmp rfl id) (.tmp rfl id)) rfl ?_
          refine .cons (.pickAnd .none (.s rfl) (.tmp rfl id)) rfl ?_
          refine .cons (.move .none (.s rfl)) rfl ?_
          refine .cons (.fieldAddr (.at rfl rfl) fd29_1 hfd29_1 (.s rfl)) rfl ?_
          refine .cons (.load (.at rfl rfl) ty3 (.tmp rfl id)) rfl ?_
          refine .cons (.fieldAddr (.at rfl rfl) fd29_3 hfd29_3 (.s rfl)) rfl ?_
          refine .cons (.load (.at rfl rfl) ty3 (.tmp rfl id)) rfl ?_
          refine .cons (.addW (.at rfl rfl) (.tmp rfl id) (.tmp rfl id)) rfl ?_
          refine .cons (.fieldAddr (.at rfl rfl) fd29_1 hfd29_1 (.s rfl)) rfl ?_
          refine .cons (.load (.at rfl rfl) ty3 (.tmp rfl id)) rfl ?_
          refine .cons (.fieldAddr (.at rfl rfl) fd29_3 hfd29_3 (.s rfl)) rfl ?_
          refine .cons (.load (.at rfl rfl) ty3 (.tmp rfl id)) rfl ?_
          refine .cons (.addW (.at rfl rfl) (.tmp rfl id) (.tmp rfl id)) rfl ?_
          refine .cons (.le (.at rfl rfl) (.tmp rfl id) (.tmp rfl id)) rfl ?_
          refine .cons (.pickAnd .none (.s rfl) (.tmp rfl id)) rfl ?_
          refine .cons (.assign .none (.s rfl)) rfl ?_
          refine .nil ?_
          refine .then ?_
          refine .seq ?_
          refine .region [] mixed (by kernel_rfl) ?_
          refine .cons (.move .none (.s rfl)) rfl ?_
          refine .cons (.move .none (.s rfl)) rfl ?_
          refine .cons (.move (.at rfl rfl) (.s rfl)) rfl ?_
          refine .cons (.pickAnd .none (.s rfl) (.tmp rfl id)) rfl ?_
          refine .cons (.move .none (.s rfl)) rfl ?_
          refine .cons (.move (.at rfl rfl) (.s rfl)) rfl ?_
          refine .cons (.not (.at rfl rfl) (.tmp rfl id)) rfl ?_
          refine .cons (.move (.at rfl rfl) (.tmp rfl id)) rfl ?_
          refine .cons (.move (.at rfl rfl) (.s rfl)) rfl ?_
          refine .cons (.pickAnd (.at rfl rfl) (.tmp rfl id) (.tmp rfl id)) rfl ?_
          refine .cons (.pickOr .none (.s rfl) (.tmp rfl id)) rfl ?_
          refine .nil ?_
          refine .then ?_
          refine .cond (t := 86) rfl trivial (fun hb12 => ?_) (fun hb12 => ?_)
          · replace h := bif_t h hb12
            refine .region [([], []), ([], []), ([], []), ([5002], [90, 5002]), ([90], [7, 90])] mixed (by kernel_rfl) ?_
            refine .consA (.move .none (.s rfl)) rfl ?_
            refine .consA (.move .none (.s rfl)) rfl ?_
            refine .consA (.buildSlice (xs := [_]) .none sl39 ty9 hz9 (.cons (.s rfl) .nil) rfl (by decide)) rfl ?_
            obtain ⟨hn13, h⟩ := need_some h
            refine .consW (.append (k := 5002) rk39 rfl (.told (.s rfl) rfl) (.s rfl) hn13) rfl rfl ?_
            refine .consW (.passRow rfl (.tmp rfl)) rfl rfl ?_
            refine .nil ?_
            refine .blkNormal ?_
            exact Ends.join _ (some_eq h) (.cons (t := 2) rfl (.cons (t := 3) rfl (.cons (t := 4) rfl (.cons (t := 16) rfl (.cons (t := 17) rfl (.cons (t := 18) rfl Sub.nil)))))) (.cons (t := 7) rfl SubB.nil)
          · replace h := bif_f h hb12
            refine .skip ?_
            refine .blkNormal ?_
            refine .anon (t := 7) (g := 5002) rfl rfl trivial rfl ?_
            exact Ends.join _ (some_eq h) (.cons (t := 2) rfl (.cons (t := 3) rfl (.cons (t := 4) rfl (.cons (t := 16) rfl (.cons (t := 17) rfl (.cons (t := 18) rfl Sub.nil)))))) (.cons (t := 7) rfl SubB.nil)
      · subst hj5; have h := hK5; clear hK5
        refine .nameRow (t := 7) (g := 5003) rfl rfl rfl (fun s5003 => ?_)
        refine .region [] mixed (by kernel_rfl) ?_
        refine .cons (.addW .none (.s rfl) (.int (by decide))) rfl ?_
        refine .cons (.move .none (.s rfl)) rfl ?_
        refine .nil ?_
        refine .anon (t := 7) (g := 5003) rfl rfl trivial rfl ?_
        exact Ends.againL (some_eq h) (.cons (t := 18) rfl (.cons (t := 2) rfl (.cons (t := 3) rfl (.cons (t := 4) rfl (.cons (t := 16) rfl (.cons (t := 17) rfl Sub.nil)))))) (.cons (t := 7) rfl SubB.nil)
    · replace h := bif_f h hb4
      refine .exit ?_
      refine .thenExit ?_
      refine .thenExit ?_
      refine .blkExit ?_
      refine .anon (t := 7) (g := 5002) rfl rfl trivial rfl ?_
      replace h := hD3 _ (some_eq h)
      exact Ends.join _ (some_eq h) Sub.nil (.cons (t := 7) rfl SubB.nil)
  · subst hj2; have h := hK2; clear hK2
    refine .freezeRowA (t := 7) rfl rfl SubB.nil rfl ?_
    refine .seq ?_
    refine .region [] mixed (by kernel_rfl) ?_
    refine .cons (.move .none (.s rfl)) rfl ?_
    refine .cons (.assign .none (.s rfl)) rfl ?_
    refine .nil ?_
    refine .then ?_
    refine .ret ?_
    obtain rfl := some_eq h
    exact Ends.ret1 (.inl rfl) Tryz.results32 (ResOK.tmp rfl trivial Imp.refl)


end Go.Proofs.YtclcheggnlhamaaGreatDoor
